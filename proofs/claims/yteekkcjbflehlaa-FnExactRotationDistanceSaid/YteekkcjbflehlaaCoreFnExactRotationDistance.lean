/- The walk through laws.FnExactRotationDistance, out of contracts of spec.RotationDistance and impl.RotationDistance. -/
import Derived.Test.YteekkcjbflehlaaNum
namespace Go.Proofs.Yteekkcjbflehlaa
open Go.RowKit

set_option maxHeartbeats 1000000 in
theorem core_FnExactRotationDistance (l0 : List UInt8) (l1 : List UInt8) (r0 : Int) (w : World) (q0 : l0.length ≤ 1048576) (q1 : l1.length ≤ 1048576)
    (hs : ∀ (W : World), Calls Try.prog 46 #[.string (bs l0), .string (bs l1)] W fun e w' => e = .returned (.int .i64 r0) ∧ Below W.heap.size W w')
    (hi : ∀ (W : World), Calls Try.prog 47 #[.string (bs l0), .string (bs l1)] W fun e w' => e = .returned (.int .i64 r0) ∧ Below W.heap.size W w') :
    Calls Try.prog 7 #[.string (bs l0), .string (bs l1)] w fun e w' => e = .returned (.bool true) ∧ Below w.heap.size w w' := by
  have HS := Lib.hid hs
  have HI := Lib.hid hi
  clear hs hi
  have HB := Lib.hid (Below.refl w.heap.size w)
  go_enter Try.func7, Try.ntmps7
  go_wp2_with fail
  refine (HS.out _).mono ?_
  rintro e w1 ⟨rfl, hb⟩
  have hsz := hb.size
  replace HB := Lib.hid (HB.out.trans (hb.mono (by omega)))
  clear hb
  have hzw1 : w.heap.size ≤ w1.heap.size := hsz
  clear hsz
  go_wp2_with fail
  refine (HI.out _).mono ?_
  rintro e w2 ⟨rfl, hb⟩
  have hsz := hb.size
  replace HB := Lib.hid (HB.out.trans (hb.mono (by omega)))
  clear hb
  have hzw2 : w1.heap.size ≤ w2.heap.size := hsz
  clear hsz
  go_wp2_with fail
  go_ret
  exact ⟨rfl, HB.out⟩

end Go.Proofs.Yteekkcjbflehlaa
