/- The walk through laws.FnExactOrbitSizes, out of contracts of spec.OrbitSizes and impl.OrbitSizes. -/
import Derived.Test.YtghfhkbncjgaeaaGreatMg3
import Derived.Test.YtghfhkbncjgaeaaGreatLawInts
namespace Go.Proofs.YtghfhkbncjgaeaaGreat
open Go.RowKit

set_option maxHeartbeats 1000000 in
theorem core_FnExactOrbitSizes (l0 : List UInt8) (a1 : Int) (r0 : List Int) (r1 : Bool) (w : World) (q0 : l0.length ≤ 1048576) (z0 : r0.length ≤ 1048576)
    (hs : ∀ (W : World), Calls Tryz.prog 13 #[.string (bs l0), .int .i64 a1] W fun e w' => ∃ R0 m0 d0, m0 = r0.length ∧ e = .returned (.tuple #[.slice R0 m0 d0, .bool r1]) ∧ OSeg w' 3 W.heap.size w'.heap.size R0 m0 d0 (iv r0) ∧ Below W.heap.size W w')
    (hi : ∀ (W : World), Calls Tryz.prog 12 #[.string (bs l0), .int .i64 a1] W fun e w' => ∃ R0 m0 d0, m0 = r0.length ∧ e = .returned (.tuple #[.slice R0 m0 d0, .bool r1]) ∧ OSeg w' 3 W.heap.size w'.heap.size R0 m0 d0 (iv r0) ∧ Below W.heap.size W w') :
    Calls Tryz.prog 4 #[.string (bs l0), .int .i64 a1] w fun e w' => e = .returned (.bool true) ∧ Below w.heap.size w w' := by
  have HS := Lib.hid hs
  have HI := Lib.hid hi
  clear hs hi
  have HB := Lib.hid (Below.refl w.heap.size w)
  go_enter Tryz.func4, Tryz.ntmps4
  go_wp2_with fail
  refine (HS.out _).mono ?_
  rintro e w1 ⟨sA0, sm0, sc0, hlen0, rfl, ho0, hb⟩
  have N0 := Lib.hid hlen0
  have nb0 : sm0 ≤ 1048576 := by omega
  clear hlen0
  have sO0 := Lib.hid ho0
  clear ho0
  have hsz := hb.size
  replace HB := Lib.hid (HB.out.trans (hb.mono (by omega)))
  clear hb
  have hzw1 : w.heap.size ≤ w1.heap.size := hsz
  clear hsz
  go_wp2_with fail
  refine (HI.out _).mono ?_
  rintro e w2 ⟨gA0, gm0, gc0, hlen0, rfl, ho0, hb⟩
  obtain rfl : sm0 = gm0 := N0.out.trans hlen0.symm
  clear hlen0
  have gO0 := Lib.hid ho0
  clear ho0
  replace sO0 := Lib.hid (sO0.out.below hb)
  have hsz := hb.size
  replace HB := Lib.hid (HB.out.trans (hb.mono (by omega)))
  clear hb
  have hzw2 : w1.heap.size ≤ w2.heap.size := hsz
  clear hsz
  go_wp2_with fail
  refine (eqIntS_w _ _ _ _ _ r0 _ gO0.out.rd sO0.out.rd nb0).mono ?_
  rintro e w3 ⟨rfl, hb⟩
  replace sO0 := Lib.hid (sO0.out.below hb)
  replace gO0 := Lib.hid (gO0.out.below hb)
  have hsz := hb.size
  replace HB := Lib.hid (HB.out.trans (hb.mono (by omega)))
  clear hb
  have hzw3 : w2.heap.size ≤ w3.heap.size := hsz
  clear hsz
  go_wp2_with fail
  refine (markIntS_w _ _ _ _ _ (1) r0 _ gO0.out (by omega) (by omega) (by omega)).mono ?_
  rintro e w4 ⟨rfl, ho, hon⟩
  replace sO0 := Lib.hid (sO0.out.only hon (by omega))
  have hsz := hon.size
  replace HB := Lib.hid (HB.out.trans (hon.below (by omega) (by omega)))
  replace gO0 := Lib.hid ho
  clear ho hon
  have hzw4 : w3.heap.size ≤ w4.heap.size := hsz
  clear hsz
  go_wp2_with fail
  refine (heldIntS_w _ _ _ (1) _ gO0.out.rd (by omega) (by omega) (by omega)).mono ?_
  rintro e w5 ⟨rfl, hb⟩
  replace sO0 := Lib.hid (sO0.out.below hb)
  replace gO0 := Lib.hid (gO0.out.below hb)
  have hsz := hb.size
  replace HB := Lib.hid (HB.out.trans (hb.mono (by omega)))
  clear hb
  have hzw5 : w4.heap.size ≤ w5.heap.size := hsz
  clear hsz
  go_wp2_with fail
  refine (HI.out _).mono ?_
  rintro e w6 ⟨hA0, hm0, hc0, hlen0, rfl, ho0, hb⟩
  obtain rfl : sm0 = hm0 := N0.out.trans hlen0.symm
  clear hlen0
  have hO0 := Lib.hid ho0
  clear ho0
  replace sO0 := Lib.hid (sO0.out.below hb)
  replace gO0 := Lib.hid (gO0.out.below hb)
  have hsz := hb.size
  replace HB := Lib.hid (HB.out.trans (hb.mono (by omega)))
  clear hb
  have hzw6 : w5.heap.size ≤ w6.heap.size := hsz
  clear hsz
  go_wp2_with fail
  refine (eqIntS_w _ _ _ _ _ r0 _ hO0.out.rd sO0.out.rd nb0).mono ?_
  rintro e w7 ⟨rfl, hb⟩
  replace sO0 := Lib.hid (sO0.out.below hb)
  replace gO0 := Lib.hid (gO0.out.below hb)
  replace hO0 := Lib.hid (hO0.out.below hb)
  have hsz := hb.size
  replace HB := Lib.hid (HB.out.trans (hb.mono (by omega)))
  clear hb
  have hzw7 : w6.heap.size ≤ w7.heap.size := hsz
  clear hsz
  go_wp2_with fail
  refine (heldIntS_w _ _ _ (1) _ gO0.out.rd (by omega) (by omega) (by omega)).mono ?_
  rintro e w8 ⟨rfl, hb⟩
  replace sO0 := Lib.hid (sO0.out.below hb)
  replace gO0 := Lib.hid (gO0.out.below hb)
  replace hO0 := Lib.hid (hO0.out.below hb)
  have hsz := hb.size
  replace HB := Lib.hid (HB.out.trans (hb.mono (by omega)))
  clear hb
  have hzw8 : w7.heap.size ≤ w8.heap.size := hsz
  clear hsz
  go_wp2_with fail
  go_ret
  exact ⟨rfl, HB.out⟩

end Go.Proofs.YtghfhkbncjgaeaaGreat
