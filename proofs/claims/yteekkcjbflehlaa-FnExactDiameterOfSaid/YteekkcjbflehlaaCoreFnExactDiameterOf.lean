/- The walk through laws.FnExactDiameterOf, out of contracts of spec.DiameterOf and impl.DiameterOf. -/
import Derived.Test.YteekkcjbflehlaaNum
namespace Go.Proofs.Yteekkcjbflehlaa
open Go.RowKit

set_option maxHeartbeats 1000000 in
theorem core_FnExactDiameterOf (a0 : Int) (r0 : Int) (w : World) 
    (hs : ∀ (W : World), Calls Try.prog 52 #[.int .i64 a0] W fun e w' => e = .returned (.int .i64 r0) ∧ Below W.heap.size W w')
    (hi : ∀ (W : World), Calls Try.prog 53 #[.int .i64 a0] W fun e w' => e = .returned (.int .i64 r0) ∧ Below W.heap.size W w') :
    Calls Try.prog 11 #[.int .i64 a0] w fun e w' => e = .returned (.bool true) ∧ Below w.heap.size w w' := by
  have HS := Lib.hid hs
  have HI := Lib.hid hi
  clear hs hi
  have HB := Lib.hid (Below.refl w.heap.size w)
  go_enter Try.func11, Try.ntmps11
  go_wp2_with fail
  refine (HS.out _).mono ?_
  rintro e w1 ⟨rfl, hb⟩
  have hsz := hb.size
  replace HB := Lib.hid (HB.out.trans (hb.mono (by omega)))
  clear hb
  have hzw1 : w.heap.size ≤ w1.heap.size := hsz
  clear hsz
  go_wp2_with fail
  refine (HI.out _).mono ?_
  rintro e w2 ⟨rfl, hb⟩
  have hsz := hb.size
  replace HB := Lib.hid (HB.out.trans (hb.mono (by omega)))
  clear hb
  have hzw2 : w1.heap.size ≤ w2.heap.size := hsz
  clear hsz
  go_wp2_with fail
  go_ret
  exact ⟨rfl, HB.out⟩

end Go.Proofs.Yteekkcjbflehlaa
