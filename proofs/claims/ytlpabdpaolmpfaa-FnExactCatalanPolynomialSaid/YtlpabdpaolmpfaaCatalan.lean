/- CatalanPolynomial of both sides. -/
import Derived.Test.YtlpabdpaolmpfaaCatL
namespace Go.Proofs.Ytlpabdpaolmpfaa
open Go.RowKit

set_option maxHeartbeats 1000000 in
theorem specCatalanPolynomial_any (n : Int) (w : World) : Calls Try.prog 35 #[.int .i64 n] w (RetIB w (catP n).1 (catP n).2) := by
  unfold RetIB
  rcases h1 : inB n 0 7 with _ | _
  · have HF := Lib.hid (show catP n = ([], false) by simp [catP, h1])
    have H1 := Lib.hid h1
    clear h1
    go_enter Try.func35, Try.ntmps35
    go_wp2_with fail
    refine (l1In_any _ _ _ _).mono ?_
    rintro e w' ⟨rfl, rfl⟩
    rw [H1.out]
    go_wp2_with fail
    go_ret2
    rw [HF.out]
    exact ⟨_, 0, 0, rfl, rfl, own_empty w, (Below.refl _ _).alloc (Nat.le_refl _) _⟩
  have g1 := inB_iff.1 h1
  obtain ⟨N, rfl⟩ := Int.eq_ofNat_of_zero_le g1.1
  have hN : N < 8 := by omega
  obtain ⟨hfa, hdv, q, r, hdq, hdp⟩ := cat_div hN
  have HF := Lib.hid (show catP N = (trimL q, true) by simp [catP, h1, hdp])
  have H1 := Lib.hid h1
  have HB := Lib.hid (fun W => l14Binomial_any (2 * N) N W (by omega) (by omega))
  rw [show ((2 * N : Nat) : Int) = 2 * (N : Int) by omega] at HB
  have HM := Lib.hid (fun W => l14Number_any (N + 1) (by omega) W)
  rw [show ((N + 1 : Nat) : Int) = (N : Int) + 1 by omega] at HM
  have HA := Lib.hid hfa
  have HV := Lib.hid hdv
  have HQ := Lib.hid hdq
  clear h1 hfa hdv hdq hdp
  go_enter Try.func35, Try.ntmps35
  go_wp2_with fail
  refine (l1In_any _ _ _ _).mono ?_
  rintro e w' ⟨rfl, rfl⟩
  rw [H1.out]
  go_wp2_with fail
  refine (HB.out _).mono ?_
  rintro e w1 ⟨A1, n1, c1, hn1, rfl, ho1, hb1⟩
  have HO1 := Lib.hid ho1
  have hs1 := hb1.size
  clear ho1 hn1
  go_wp2_with fail
  refine (HM.out _).mono ?_
  rintro e w2 ⟨A2, c2, rfl, ho2, hb2⟩
  have HO2 := Lib.hid ho2
  have HO1' := Lib.hid (HO1.out.below hb2)
  have hs2 := hb2.size
  clear ho2
  go_wp2_with fail
  refine (l14Divide_any _ _ _ (catA N) _ _ _ (catB N) q r _ HO1'.out.rd HO2.out.rd HA.out HV.out HQ.out).mono ?_
  rintro e w3 ⟨R0, m0, d0, R1, m1, d1, hm0, hm1, rfl, ho3, _, hb3⟩
  have HM0 := Lib.hid hm0
  have HO3 := Lib.hid ho3
  clear hm0 hm1 ho3
  go_wp2_with fail
  go_ret2
  rw [HF.out]
  exact ⟨R0, m0, d0, HM0.out, rfl, HO3.out.mono (by omega), hb1.trans ((hb2.mono hs1).trans (hb3.mono (by omega)))⟩

set_option maxHeartbeats 1000000 in
theorem implCatalanPolynomial_any (n : Int) (w : World) : Calls Try.prog 36 #[.int .i64 n] w (RetIB w (catP n).1 (catP n).2) := by
  unfold RetIB
  rcases h1 : inB n 0 7 with _ | _
  · have HF := Lib.hid (show catP n = ([], false) by simp [catP, h1])
    have H1 := Lib.hid h1
    clear h1
    go_enter Try.func36, Try.ntmps36
    go_wp2_with fail
    refine (within_any _ _ _ _).mono ?_
    rintro e w' ⟨rfl, rfl⟩
    rw [H1.out]
    go_wp2_with fail
    go_ret2
    rw [HF.out]
    exact ⟨_, 0, 0, rfl, rfl, own_empty w, (Below.refl _ _).alloc (Nat.le_refl _) _⟩
  have g1 := inB_iff.1 h1
  obtain ⟨N, rfl⟩ := Int.eq_ofNat_of_zero_le g1.1
  have hN : N < 8 := by omega
  obtain ⟨hfa, hdv, q, r, hdq, hdp⟩ := cat_div hN
  have HF := Lib.hid (show catP N = (trimL q, true) by simp [catP, h1, hdp])
  have H1 := Lib.hid h1
  have eb : binP (2 * (N : Int)) N = (catA N, true) := by
    unfold binP
    rw [if_pos (by simp only [Bool.and_eq_true]; exact ⟨inB_iff.2 (by omega), inB_iff.2 (by omega)⟩)]
    rw [show (2 * (N : Int)).toNat = 2 * N by omega]; rfl
  have en : numP ((N : Int) + 1) = (catB N, true) := by
    unfold numP
    rw [if_pos (inB_iff.2 (by omega)), show ((N : Int) + 1).toNat = N + 1 by omega]; rfl
  have HB := Lib.hid (fun W => implBinomialPolynomial_any (2 * (N : Int)) N W)
  rw [eb] at HB
  have HM := Lib.hid (fun W => implNumberPolynomial_any ((N : Int) + 1) W)
  rw [en] at HM
  have HDP := Lib.hid hdp
  have ha : (catA N).length ≤ 61 := (isFac_iff hfa).1
  have hbl : (catB N).length ≤ 61 := by simp [catB]; omega
  have HAL := Lib.hid ha
  have HBL := Lib.hid hbl
  clear h1 hfa hdv hdq hdp eb en ha hbl
  go_enter Try.func36, Try.ntmps36
  go_wp2_with fail
  refine (within_any _ _ _ _).mono ?_
  rintro e w' ⟨rfl, rfl⟩
  rw [H1.out]
  go_wp2_with fail
  refine (HB.out _).mono ?_
  rintro e w1 ⟨A1, n1, c1, hn1, rfl, ho1, hb1⟩
  have HO1 := Lib.hid ho1
  have l1 : n1 ≤ 61 := by rw [hn1]; exact HAL.out
  have hs1 := hb1.size
  clear ho1 hn1
  go_wp2_with fail
  refine (HM.out _).mono ?_
  rintro e w2 ⟨A2, n2, c2, hn2, rfl, ho2, hb2⟩
  have HO2 := Lib.hid ho2
  have l2 : n2 ≤ 61 := by rw [hn2]; exact HBL.out
  have HO1' := Lib.hid (HO1.out.below hb2)
  have hs2 := hb2.size
  clear ho2 hn2
  go_wp2_with fail
  refine (implDividePolynomials_any _ _ _ (catA N) _ _ _ (catB N) _ HO1'.out.rd HO2.out.rd (by omega) (by omega)).mono ?_
  rw [HDP.out]
  rintro e w3 ⟨R0, m0, d0, R1, m1, d1, p0, q0, p1, q1, hm0, hm1, rfl, ho3, _, ⟨t1, _, _, _, _⟩, hb3⟩
  have HM0 := Lib.hid hm0
  have HO3 := Lib.hid ho3.1
  clear hm0 hm1 ho3
  go_wp2_with fail
  go_ret2
  rw [HF.out]
  exact ⟨R0, m0, d0, HM0.out, rfl, HO3.out.mono (by omega), hb1.trans ((hb2.mono hs1).trans (hb3.mono (by omega)))⟩

end Go.Proofs.Ytlpabdpaolmpfaa
