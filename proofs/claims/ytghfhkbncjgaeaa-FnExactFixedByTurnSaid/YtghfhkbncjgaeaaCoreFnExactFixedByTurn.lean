/- The walk through laws.FnExactFixedByTurn, out of contracts of spec.FixedByTurn and impl.FixedByTurn. -/
import Derived.Test.YtghfhkbncjgaeaaMg3
namespace Go.Proofs.Ytghfhkbncjgaeaa
open Go.RowKit

set_option maxHeartbeats 1000000 in
theorem core_FnExactFixedByTurn (l0 : List UInt8) (a1 : Int) (a2 : Int) (r0 : Int) (w : World) (q0 : l0.length ≤ 1048576)
    (hs : ∀ (W : World), Calls Try.prog 17 #[.string (bs l0), .int .i64 a1, .int .i64 a2] W fun e w' => e = .returned (.int .i64 r0) ∧ Below W.heap.size W w')
    (hi : ∀ (W : World), Calls Try.prog 18 #[.string (bs l0), .int .i64 a1, .int .i64 a2] W fun e w' => e = .returned (.int .i64 r0) ∧ Below W.heap.size W w') :
    Calls Try.prog 6 #[.string (bs l0), .int .i64 a1, .int .i64 a2] w fun e w' => e = .returned (.bool true) ∧ Below w.heap.size w w' := by
  have HS := Lib.hid hs
  have HI := Lib.hid hi
  clear hs hi
  have HB := Lib.hid (Below.refl w.heap.size w)
  go_enter Try.func6, Try.ntmps6
  go_wp2_with fail
  refine (HS.out _).mono ?_
  rintro e w1 ⟨rfl, hb⟩
  have hsz := hb.size
  replace HB := Lib.hid (HB.out.trans (hb.mono (by omega)))
  clear hb
  have hzw1 : w.heap.size ≤ w1.heap.size := hsz
  clear hsz
  go_wp2_with fail
  refine (HI.out _).mono ?_
  rintro e w2 ⟨rfl, hb⟩
  have hsz := hb.size
  replace HB := Lib.hid (HB.out.trans (hb.mono (by omega)))
  clear hb
  have hzw2 : w1.heap.size ≤ w2.heap.size := hsz
  clear hsz
  go_wp2_with fail
  go_ret
  exact ⟨rfl, HB.out⟩

end Go.Proofs.Ytghfhkbncjgaeaa
