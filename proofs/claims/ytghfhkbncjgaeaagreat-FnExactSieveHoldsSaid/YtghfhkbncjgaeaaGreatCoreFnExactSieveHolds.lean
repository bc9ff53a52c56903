/- The walk through laws.FnExactSieveHolds, out of contracts of spec.SieveHolds and impl.SieveHolds. -/
import Derived.Test.YtghfhkbncjgaeaaGreatMg3
namespace Go.Proofs.YtghfhkbncjgaeaaGreat
open Go.RowKit

set_option maxHeartbeats 1000000 in
theorem core_FnExactSieveHolds (l0 : List UInt8) (a1 : Int) (r0 : Bool) (w : World) (q0 : l0.length ≤ 1048576)
    (hs : ∀ (W : World), Calls Tryz.prog 11 #[.string (bs l0), .int .i64 a1] W fun e w' => e = .returned (.bool r0) ∧ Below W.heap.size W w')
    (hi : ∀ (W : World), Calls Tryz.prog 10 #[.string (bs l0), .int .i64 a1] W fun e w' => e = .returned (.bool r0) ∧ Below W.heap.size W w') :
    Calls Tryz.prog 5 #[.string (bs l0), .int .i64 a1] w fun e w' => e = .returned (.bool true) ∧ Below w.heap.size w w' := by
  have HS := Lib.hid hs
  have HI := Lib.hid hi
  clear hs hi
  have HB := Lib.hid (Below.refl w.heap.size w)
  go_enter Tryz.func5, Tryz.ntmps5
  go_wp2_with fail
  refine (HS.out _).mono ?_
  rintro e w1 ⟨rfl, hb⟩
  have hsz := hb.size
  replace HB := Lib.hid (HB.out.trans (hb.mono (by omega)))
  clear hb
  have hzw1 : w.heap.size ≤ w1.heap.size := hsz
  clear hsz
  go_wp2_with fail
  refine (HI.out _).mono ?_
  rintro e w2 ⟨rfl, hb⟩
  have hsz := hb.size
  replace HB := Lib.hid (HB.out.trans (hb.mono (by omega)))
  clear hb
  have hzw2 : w1.heap.size ≤ w2.heap.size := hsz
  clear hsz
  go_wp2_with fail
  go_ret
  exact ⟨rfl, HB.out⟩

end Go.Proofs.YtghfhkbncjgaeaaGreat
