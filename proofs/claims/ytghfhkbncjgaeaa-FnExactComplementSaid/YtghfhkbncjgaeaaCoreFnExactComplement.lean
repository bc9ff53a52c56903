/- The walk through laws.FnExactComplement, out of contracts of spec.Complement and impl.Complement. -/
import Derived.Test.YtghfhkbncjgaeaaNum
import Derived.Test.YtghfhkbncjgaeaaLawInts
namespace Go.Proofs.Ytghfhkbncjgaeaa
open Go.RowKit

set_option maxHeartbeats 1000000 in
theorem core_FnExactComplement (A0 : Option Addr) (n0 c0 : Nat) (x0 : List Int) (r0 : List Int) (r1 : Bool) (w : World) (q0 : n0 ≤ 1048576) (ra0 : Rd w A0 n0 (iv x0)) (z0 : r0.length ≤ 1048576)
    (hs : ∀ (W : World) (B0 : Option Addr) (e0 : Nat), Rd W B0 n0 (iv x0) → Calls Try.prog 7 #[.slice B0 n0 e0] W fun e w' => ∃ R0 m0 d0, m0 = r0.length ∧ e = .returned (.tuple #[.slice R0 m0 d0, .bool r1]) ∧ OSeg w' 3 W.heap.size w'.heap.size R0 m0 d0 (iv r0) ∧ Below W.heap.size W w')
    (hi : ∀ (W : World) (B0 : Option Addr) (e0 : Nat), Rd W B0 n0 (iv x0) → Calls Try.prog 9 #[.slice B0 n0 e0] W fun e w' => ∃ R0 m0 d0, m0 = r0.length ∧ e = .returned (.tuple #[.slice R0 m0 d0, .bool r1]) ∧ OSeg w' 3 W.heap.size w'.heap.size R0 m0 d0 (iv r0) ∧ Below W.heap.size W w') :
    Calls Try.prog 3 #[.slice A0 n0 c0] w fun e w' => e = .returned (.bool true) ∧ Below w.heap.size w w' := by
  have HS := Lib.hid hs
  have HI := Lib.hid hi
  clear hs hi
  have RA0 := Lib.hid ra0
  have RL0 := Lib.hid ra0.lt
  clear ra0
  have HB := Lib.hid (Below.refl w.heap.size w)
  go_enter Try.func3, Try.ntmps3
  go_wp2_with fail
  refine (toIntS_w _ _ _ _ _ RA0.out (by omega)).mono ?_
  rintro e w1 ⟨S0A, S0c, rfl, hoS0, hb⟩
  have S0 := Lib.hid hoS0
  clear hoS0
  replace RA0 := Lib.hid (RA0.out.below hb)
  have hsz := hb.size
  replace HB := Lib.hid (HB.out.trans (hb.mono (by omega)))
  clear hb
  have hzw1 : w.heap.size ≤ w1.heap.size := hsz
  clear hsz
  go_wp2_with fail
  refine (HS.out _ _ _ S0.out.rd).mono ?_
  rintro e w2 ⟨sA0, sm0, sc0, hlen0, rfl, ho0, hb⟩
  have N0 := Lib.hid hlen0
  have nb0 : sm0 ≤ 1048576 := by omega
  clear hlen0
  have sO0 := Lib.hid ho0
  clear ho0
  replace S0 := Lib.hid (S0.out.below hb)
  replace RA0 := Lib.hid (RA0.out.below hb)
  have hsz := hb.size
  replace HB := Lib.hid (HB.out.trans (hb.mono (by omega)))
  clear hb
  have hzw2 : w1.heap.size ≤ w2.heap.size := hsz
  clear hsz
  go_wp2_with fail
  refine (toIntS_w _ _ _ _ _ RA0.out (by omega)).mono ?_
  rintro e w3 ⟨X0A, X0c, rfl, hoX0, hb⟩
  have X0 := Lib.hid hoX0
  clear hoX0
  replace sO0 := Lib.hid (sO0.out.below hb)
  replace RA0 := Lib.hid (RA0.out.below hb)
  have hsz := hb.size
  replace HB := Lib.hid (HB.out.trans (hb.mono (by omega)))
  clear hb
  have hzw3 : w2.heap.size ≤ w3.heap.size := hsz
  clear hsz
  go_wp2_with fail
  refine (HI.out _ _ _ X0.out.rd).mono ?_
  rintro e w4 ⟨gA0, gm0, gc0, hlen0, rfl, ho0, hb⟩
  obtain rfl : sm0 = gm0 := N0.out.trans hlen0.symm
  clear hlen0
  have gO0 := Lib.hid ho0
  clear ho0
  replace sO0 := Lib.hid (sO0.out.below hb)
  replace X0 := Lib.hid (X0.out.below hb)
  replace RA0 := Lib.hid (RA0.out.below hb)
  have hsz := hb.size
  replace HB := Lib.hid (HB.out.trans (hb.mono (by omega)))
  clear hb
  have hzw4 : w3.heap.size ≤ w4.heap.size := hsz
  clear hsz
  go_wp2_with fail
  refine (eqIntS_w _ _ _ _ _ r0 _ gO0.out.rd sO0.out.rd nb0).mono ?_
  rintro e w5 ⟨rfl, hb⟩
  replace sO0 := Lib.hid (sO0.out.below hb)
  replace X0 := Lib.hid (X0.out.below hb)
  replace gO0 := Lib.hid (gO0.out.below hb)
  replace RA0 := Lib.hid (RA0.out.below hb)
  have hsz := hb.size
  replace HB := Lib.hid (HB.out.trans (hb.mono (by omega)))
  clear hb
  have hzw5 : w4.heap.size ≤ w5.heap.size := hsz
  clear hsz
  go_wp2_with fail
  refine (toIntS_w _ _ _ _ _ RA0.out (by omega)).mono ?_
  rintro e w6 ⟨Y0A, Y0c, rfl, hoY0, hb⟩
  have Y0 := Lib.hid hoY0
  clear hoY0
  replace sO0 := Lib.hid (sO0.out.below hb)
  replace X0 := Lib.hid (X0.out.below hb)
  replace gO0 := Lib.hid (gO0.out.below hb)
  replace RA0 := Lib.hid (RA0.out.below hb)
  have hsz := hb.size
  replace HB := Lib.hid (HB.out.trans (hb.mono (by omega)))
  clear hb
  have hzw6 : w5.heap.size ≤ w6.heap.size := hsz
  clear hsz
  go_wp2_with fail
  refine (eqIntS_w _ _ _ _ _ x0 _ X0.out.rd Y0.out.rd (by omega)).mono ?_
  rintro e w7 ⟨rfl, hb⟩
  replace sO0 := Lib.hid (sO0.out.below hb)
  replace X0 := Lib.hid (X0.out.below hb)
  replace gO0 := Lib.hid (gO0.out.below hb)
  replace RA0 := Lib.hid (RA0.out.below hb)
  have hsz := hb.size
  replace HB := Lib.hid (HB.out.trans (hb.mono (by omega)))
  clear hb
  have hzw7 : w6.heap.size ≤ w7.heap.size := hsz
  clear hsz
  go_wp2_with fail
  refine (markIntS_w _ _ _ _ _ (1) x0 _ X0.out (by omega) (by omega) (by omega)).mono ?_
  rintro e w8 ⟨rfl, ho, hon⟩
  replace sO0 := Lib.hid (sO0.out.only hon (by omega))
  replace gO0 := Lib.hid (gO0.out.only hon (by omega))
  replace RA0 := Lib.hid (RA0.out.only hon (fun hn ad h => by have := RL0.out hn ad h; omega))
  have hsz := hon.size
  replace HB := Lib.hid (HB.out.trans (hon.below (by omega) (by omega)))
  replace X0 := Lib.hid ho
  clear ho hon
  have hzw8 : w7.heap.size ≤ w8.heap.size := hsz
  clear hsz
  go_wp2_with fail
  refine (eqIntS_w _ _ _ _ _ r0 _ gO0.out.rd sO0.out.rd nb0).mono ?_
  rintro e w9 ⟨rfl, hb⟩
  replace sO0 := Lib.hid (sO0.out.below hb)
  replace gO0 := Lib.hid (gO0.out.below hb)
  replace RA0 := Lib.hid (RA0.out.below hb)
  have hsz := hb.size
  replace HB := Lib.hid (HB.out.trans (hb.mono (by omega)))
  clear hb
  have hzw9 : w8.heap.size ≤ w9.heap.size := hsz
  clear hsz
  go_wp2_with fail
  refine (markIntS_w _ _ _ _ _ (1) r0 _ gO0.out (by omega) (by omega) (by omega)).mono ?_
  rintro e w10 ⟨rfl, ho, hon⟩
  replace sO0 := Lib.hid (sO0.out.only hon (by omega))
  replace RA0 := Lib.hid (RA0.out.only hon (fun hn ad h => by have := RL0.out hn ad h; omega))
  have hsz := hon.size
  replace HB := Lib.hid (HB.out.trans (hon.below (by omega) (by omega)))
  replace gO0 := Lib.hid ho
  clear ho hon
  have hzw10 : w9.heap.size ≤ w10.heap.size := hsz
  clear hsz
  go_wp2_with fail
  refine (heldIntS_w _ _ _ (1) _ gO0.out.rd (by omega) (by omega) (by omega)).mono ?_
  rintro e w11 ⟨rfl, hb⟩
  replace sO0 := Lib.hid (sO0.out.below hb)
  replace gO0 := Lib.hid (gO0.out.below hb)
  replace RA0 := Lib.hid (RA0.out.below hb)
  have hsz := hb.size
  replace HB := Lib.hid (HB.out.trans (hb.mono (by omega)))
  clear hb
  have hzw11 : w10.heap.size ≤ w11.heap.size := hsz
  clear hsz
  go_wp2_with fail
  refine (toIntS_w _ _ _ _ _ RA0.out (by omega)).mono ?_
  rintro e w12 ⟨H0A, H0c, rfl, hoH0, hb⟩
  have H0 := Lib.hid hoH0
  clear hoH0
  replace sO0 := Lib.hid (sO0.out.below hb)
  replace gO0 := Lib.hid (gO0.out.below hb)
  replace RA0 := Lib.hid (RA0.out.below hb)
  have hsz := hb.size
  replace HB := Lib.hid (HB.out.trans (hb.mono (by omega)))
  clear hb
  have hzw12 : w11.heap.size ≤ w12.heap.size := hsz
  clear hsz
  go_wp2_with fail
  refine (HI.out _ _ _ H0.out.rd).mono ?_
  rintro e w13 ⟨hA0, hm0, hc0, hlen0, rfl, ho0, hb⟩
  obtain rfl : sm0 = hm0 := N0.out.trans hlen0.symm
  clear hlen0
  have hO0 := Lib.hid ho0
  clear ho0
  replace sO0 := Lib.hid (sO0.out.below hb)
  replace gO0 := Lib.hid (gO0.out.below hb)
  replace H0 := Lib.hid (H0.out.below hb)
  replace RA0 := Lib.hid (RA0.out.below hb)
  have hsz := hb.size
  replace HB := Lib.hid (HB.out.trans (hb.mono (by omega)))
  clear hb
  have hzw13 : w12.heap.size ≤ w13.heap.size := hsz
  clear hsz
  go_wp2_with fail
  refine (eqIntS_w _ _ _ _ _ r0 _ hO0.out.rd sO0.out.rd nb0).mono ?_
  rintro e w14 ⟨rfl, hb⟩
  replace sO0 := Lib.hid (sO0.out.below hb)
  replace gO0 := Lib.hid (gO0.out.below hb)
  replace hO0 := Lib.hid (hO0.out.below hb)
  replace RA0 := Lib.hid (RA0.out.below hb)
  have hsz := hb.size
  replace HB := Lib.hid (HB.out.trans (hb.mono (by omega)))
  clear hb
  have hzw14 : w13.heap.size ≤ w14.heap.size := hsz
  clear hsz
  go_wp2_with fail
  refine (heldIntS_w _ _ _ (1) _ gO0.out.rd (by omega) (by omega) (by omega)).mono ?_
  rintro e w15 ⟨rfl, hb⟩
  replace sO0 := Lib.hid (sO0.out.below hb)
  replace gO0 := Lib.hid (gO0.out.below hb)
  replace hO0 := Lib.hid (hO0.out.below hb)
  replace RA0 := Lib.hid (RA0.out.below hb)
  have hsz := hb.size
  replace HB := Lib.hid (HB.out.trans (hb.mono (by omega)))
  clear hb
  have hzw15 : w14.heap.size ≤ w15.heap.size := hsz
  clear hsz
  go_wp2_with fail
  go_ret
  exact ⟨rfl, HB.out⟩

end Go.Proofs.Ytghfhkbncjgaeaa
