/- The walk through laws.FnExactCountChains, out of contracts of spec.CountChains and impl.CountChains. -/
import Derived.Test.YtghfhkbncjgaeaaNum
namespace Go.Proofs.Ytghfhkbncjgaeaa
open Go.RowKit

set_option maxHeartbeats 1000000 in
theorem core_FnExactCountChains (a0 : Int) (a1 : Int) (r0 : Int) (w : World) 
    (hs : ∀ (W : World), Calls Try.prog 13 #[.int .i64 a0, .int .i64 a1] W fun e w' => e = .returned (.int .i64 r0) ∧ Below W.heap.size W w')
    (hi : ∀ (W : World), Calls Try.prog 14 #[.int .i64 a0, .int .i64 a1] W fun e w' => e = .returned (.int .i64 r0) ∧ Below W.heap.size W w') :
    Calls Try.prog 4 #[.int .i64 a0, .int .i64 a1] w fun e w' => e = .returned (.bool true) ∧ Below w.heap.size w w' := by
  have HS := Lib.hid hs
  have HI := Lib.hid hi
  clear hs hi
  have HB := Lib.hid (Below.refl w.heap.size w)
  go_enter Try.func4, Try.ntmps4
  go_wp2_with fail
  refine (HS.out _).mono ?_
  rintro e w1 ⟨rfl, hb⟩
  have hsz := hb.size
  replace HB := Lib.hid (HB.out.trans (hb.mono (by omega)))
  clear hb
  have hzw1 : w.heap.size ≤ w1.heap.size := hsz
  clear hsz
  go_wp2_with fail
  refine (HI.out _).mono ?_
  rintro e w2 ⟨rfl, hb⟩
  have hsz := hb.size
  replace HB := Lib.hid (HB.out.trans (hb.mono (by omega)))
  clear hb
  have hzw2 : w1.heap.size ≤ w2.heap.size := hsz
  clear hsz
  go_wp2_with fail
  go_ret
  exact ⟨rfl, HB.out⟩

end Go.Proofs.Ytghfhkbncjgaeaa
