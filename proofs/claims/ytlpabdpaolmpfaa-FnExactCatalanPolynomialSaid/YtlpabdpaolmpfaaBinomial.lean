/- BinomialPolynomial of both sides. -/
import Derived.Test.YtlpabdpaolmpfaaBinomSpec
import Derived.Test.YtlpabdpaolmpfaaNum
namespace Go.Proofs.Ytlpabdpaolmpfaa
open Go.RowKit

def binP (n k : Int) : List Int × Bool := if inB n 0 14 && inB k 0 n then (gau n.toNat k.toNat, true) else ([], false)
theorem binP_len (n k : Int) : (binP n k).1.length ≤ 1048576 := by
  unfold binP
  split
  · next h =>
    simp only [Bool.and_eq_true] at h
    have g1 := inB_iff.1 h.1
    have g2 := inB_iff.1 h.2
    have := gau_len14 (n := n.toNat) (k := k.toNat) (by omega) (by omega)
    show (gau n.toNat k.toNat).length ≤ _
    omega
  · simp

set_option maxHeartbeats 800000 in
theorem specBinomialPolynomial_any (n k : Int) (w : World) : Calls Try.prog 17 #[.int .i64 n, .int .i64 k] w (RetIB w (binP n k).1 (binP n k).2) := by
  unfold RetIB
  rcases h1 : inB n 0 14 with _ | _
  · have HF := Lib.hid (show binP n k = ([], false) by simp [binP, h1])
    have H1 := Lib.hid h1
    clear h1
    go_enter Try.func17, Try.ntmps17
    go_wp2_with fail
    refine (l1In_any _ _ _ _).mono ?_
    rintro e w' ⟨rfl, rfl⟩
    rw [H1.out]
    go_wp2_with fail
    go_ret2
    rw [HF.out]
    exact ⟨_, 0, 0, rfl, rfl, own_empty w, (Below.refl _ _).alloc (Nat.le_refl _) _⟩
  rcases h2 : inB k 0 n with _ | _
  · have HF := Lib.hid (show binP n k = ([], false) by simp [binP, h2])
    have H1 := Lib.hid h1
    have H2 := Lib.hid h2
    clear h1 h2
    go_enter Try.func17, Try.ntmps17
    go_wp2_with fail
    refine (l1In_any _ _ _ _).mono ?_
    rintro e w' ⟨rfl, rfl⟩
    rw [H1.out]
    go_wp2_with fail
    refine (l1In_any _ _ _ _).mono ?_
    rintro e w' ⟨rfl, rfl⟩
    rw [H2.out]
    go_wp2_with fail
    go_ret2
    rw [HF.out]
    exact ⟨_, 0, 0, rfl, rfl, own_empty w, (Below.refl _ _).alloc (Nat.le_refl _) _⟩
  have g1 := inB_iff.1 h1
  have g2 := inB_iff.1 h2
  obtain ⟨N, rfl⟩ := Int.eq_ofNat_of_zero_le g1.1
  obtain ⟨K, rfl⟩ := Int.eq_ofNat_of_zero_le g2.1
  have HF := Lib.hid (show binP N K = (gau N K, true) by simp [binP, h1, h2])
  have H1 := Lib.hid h1
  have H2 := Lib.hid h2
  clear h1 h2
  go_enter Try.func17, Try.ntmps17
  go_wp2_with fail
  refine (l1In_any _ _ _ _).mono ?_
  rintro e w' ⟨rfl, rfl⟩
  rw [H1.out]
  go_wp2_with fail
  refine (l1In_any _ _ _ _).mono ?_
  rintro e w' ⟨rfl, rfl⟩
  rw [H2.out]
  go_wp2_with fail
  refine (l14Binomial_any N K _ (by omega) (by omega)).mono ?_
  rintro e w1 ⟨A, m, c, hm, rfl, ho, hb⟩
  have HM := Lib.hid hm
  have HO := Lib.hid ho
  clear hm ho
  go_wp2_with fail
  go_ret2
  rw [HF.out]
  exact ⟨A, m, c, HM.out, rfl, HO.out, hb⟩

set_option maxHeartbeats 800000 in
theorem implBinomialPolynomial_any (n k : Int) (w : World) : Calls Try.prog 18 #[.int .i64 n, .int .i64 k] w (RetIB w (binP n k).1 (binP n k).2) := by
  unfold RetIB
  rcases h1 : inB n 0 14 with _ | _
  · have HF := Lib.hid (show binP n k = ([], false) by simp [binP, h1])
    have H1 := Lib.hid h1
    clear h1
    go_enter Try.func18, Try.ntmps18
    go_wp2_with fail
    refine (within_any _ _ _ _).mono ?_
    rintro e w' ⟨rfl, rfl⟩
    rw [H1.out]
    go_wp2_with fail
    go_ret2
    rw [HF.out]
    exact ⟨_, 0, 0, rfl, rfl, own_empty w, (Below.refl _ _).alloc (Nat.le_refl _) _⟩
  rcases h2 : inB k 0 n with _ | _
  · have HF := Lib.hid (show binP n k = ([], false) by simp [binP, h2])
    have H1 := Lib.hid h1
    have H2 := Lib.hid h2
    clear h1 h2
    go_enter Try.func18, Try.ntmps18
    go_wp2_with fail
    refine (within_any _ _ _ _).mono ?_
    rintro e w' ⟨rfl, rfl⟩
    rw [H1.out]
    go_wp2_with fail
    refine (within_any _ _ _ _).mono ?_
    rintro e w' ⟨rfl, rfl⟩
    rw [H2.out]
    go_wp2_with fail
    go_ret2
    rw [HF.out]
    exact ⟨_, 0, 0, rfl, rfl, own_empty w, (Below.refl _ _).alloc (Nat.le_refl _) _⟩
  have g1 := inB_iff.1 h1
  have g2 := inB_iff.1 h2
  obtain ⟨N, rfl⟩ := Int.eq_ofNat_of_zero_le g1.1
  obtain ⟨K, rfl⟩ := Int.eq_ofNat_of_zero_le g2.1
  have HF := Lib.hid (show binP N K = (gau N K, true) by simp [binP, h1, h2])
  have H1 := Lib.hid h1
  have H2 := Lib.hid h2
  clear h1 h2
  go_enter Try.func18, Try.ntmps18
  go_wp2_with fail
  refine (within_any _ _ _ _).mono ?_
  rintro e w' ⟨rfl, rfl⟩
  rw [H1.out]
  go_wp2_with fail
  refine (within_any _ _ _ _).mono ?_
  rintro e w' ⟨rfl, rfl⟩
  rw [H2.out]
  go_wp2_with fail
  refine (gauss_any N K _ _ _ rfl rfl (by omega) (by omega)).mono ?_
  rintro e w1 ⟨A, m, c, hm, rfl, ho, hb⟩
  have HM := Lib.hid hm
  have HO := Lib.hid ho
  clear hm ho
  go_wp2_with fail
  go_ret2
  rw [HF.out]
  exact ⟨A, m, c, HM.out, rfl, HO.out, hb⟩

end Go.Proofs.Ytlpabdpaolmpfaa
