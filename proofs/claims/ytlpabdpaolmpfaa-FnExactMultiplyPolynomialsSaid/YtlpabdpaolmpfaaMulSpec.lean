/- MultiplyPolynomials of the spec side. -/
import Derived.Test.YtlpabdpaolmpfaaTimesSpec
namespace Go.Proofs.Ytlpabdpaolmpfaa
open Go.RowKit

set_option maxHeartbeats 2000000 in
theorem specMultiplyPolynomials_any (A1 : Option Addr) (n1 c1 : Nat) (xs : List Int) (A2 : Option Addr) (n2 c2 : Nat) (ys : List Int) (w : World) (h1 : Rd w A1 n1 (iv xs)) (h2 : Rd w A2 n2 (iv ys)) (hn1 : n1 ≤ 1000000000) (hn2 : n2 ≤ 1000000000) :
    Calls Try.prog 27 #[.slice A1 n1 c1, .slice A2 n2 c2] w (RetIB w (mulP xs ys).1 (mulP xs ys).2) := by
  unfold RetIB
  have HR1 := Lib.hid h1
  have HR2 := Lib.hid h2
  have HL1 := Lib.hid (show xs.length = n1 by have := h1.len; rw [iv_len] at this; exact this)
  have HL2 := Lib.hid (show ys.length = n2 by have := h2.len; rw [iv_len] at this; exact this)
  clear h1 h2
  rcases hp : isFac xs with _ | _
  · have hf : mulP xs ys = ([], false) := by simp [mulP, hp]
    rw [hf]
    have HP := Lib.hid hp
    clear hp hf
    go_enter Try.func27, Try.ntmps27
    go_wp2_with fail
    refine (l14Small_any _ _ _ _ _ HR1.out hn1).mono ?_
    rintro e w' ⟨rfl, rfl⟩
    rw [HP.out]
    go_wp2_with fail
    go_ret2
    exact ⟨_, 0, 0, rfl, rfl, own_empty w, (Below.refl _ _).alloc (Nat.le_refl _) _⟩
  rcases hq : isFac ys with _ | _
  · have hf : mulP xs ys = ([], false) := by simp [mulP, hq]
    rw [hf]
    have HP := Lib.hid hp
    have HQ := Lib.hid hq
    clear hp hf hq
    go_enter Try.func27, Try.ntmps27
    go_wp2_with fail
    refine (l14Small_any _ _ _ _ _ HR1.out hn1).mono ?_
    rintro e w' ⟨rfl, rfl⟩
    rw [HP.out]
    go_wp2_with fail
    refine (l14Small_any _ _ _ _ _ HR2.out hn2).mono ?_
    rintro e w' ⟨rfl, rfl⟩
    rw [HQ.out]
    go_wp2_with fail
    go_ret2
    exact ⟨_, 0, 0, rfl, rfl, own_empty w, (Below.refl _ _).alloc (Nat.le_refl _) _⟩
  obtain ⟨b1, bx⟩ := isFac_iff hp
  obtain ⟨b2, by'⟩ := isFac_iff hq
  rw [HL1.out] at b1
  rw [HL2.out] at b2
  have BX := Lib.hid bx
  have BY := Lib.hid by'
  clear bx by'
  have HP := Lib.hid hp
  have HQ := Lib.hid hq
  by_cases h62 : n1 + n2 ≤ 62
  case neg =>
    have hf : mulP xs ys = ([], false) := by unfold mulP; rw [HL1.out, HL2.out]; simp [h62]
    rw [hf]
    have g62 : (62 : Int) < (n1 : Int) + (n2 : Int) := by omega
    clear hp hq hf
    go_enter Try.func27, Try.ntmps27
    go_wp2_with fail
    refine (l14Small_any _ _ _ _ _ HR1.out hn1).mono ?_
    rintro e w' ⟨rfl, rfl⟩
    rw [HP.out]
    go_wp2_with fail
    refine (l14Small_any _ _ _ _ _ HR2.out hn2).mono ?_
    rintro e w' ⟨rfl, rfl⟩
    rw [HQ.out]
    go_wp2_with fail
    go_ret2
    exact ⟨_, 0, 0, rfl, rfl, own_empty w, (Below.refl _ _).alloc (Nat.le_refl _) _⟩
  have HF := Lib.hid (show mulP xs ys = if isPol (timesL xs ys) then (timesL xs ys, true) else ([], false) by unfold mulP; rw [HL1.out, HL2.out]; simp [hp, hq, h62])
  clear hp hq
  have htl : (timesL xs ys).length ≤ 62 := by
    rw [← timesL_eq, trimL_len]
    have := tz_le (mulK (List.replicate (xs.length + ys.length) 0) xs ys xs.length) (mulK (List.replicate (xs.length + ys.length) 0) xs ys xs.length).length
    rw [mulK_len] at this
    have h3 := HL1.out
    have h4 := HL2.out
    rw [mulK_len]
    simp at this ⊢
    omega
  have HT := Lib.hid htl
  clear htl
  rcases hr : isPol (timesL xs ys) with _ | _
  all_goals
    have HR := Lib.hid hr
    rw [hr] at HF
    clear hr
    go_enter Try.func27, Try.ntmps27
    go_wp2_with fail
    refine (l14Small_any _ _ _ _ _ HR1.out hn1).mono ?_
    rintro e w' ⟨rfl, rfl⟩
    rw [HP.out]
    go_wp2_with fail
    refine (l14Small_any _ _ _ _ _ HR2.out hn2).mono ?_
    rintro e w' ⟨rfl, rfl⟩
    rw [HQ.out]
    go_wp2_with fail
    refine (l14Times_any _ _ _ _ _ _ _ _ _ HR1.out HR2.out BX.out BY.out (by omega)).mono ?_
    rintro e w3 ⟨A3, n3, c3, hn3, rfl, ho4, hb4⟩
    have HO4 := Lib.hid ho4
    have HN3 := Lib.hid hn3
    have h3 : n3 ≤ 62 := by have := HT.out; omega
    have hsz4 := hb4.size
    clear ho4 hn3
    go_wp2_with fail
    refine (specIsPolynomial_any _ _ _ _ _ HO4.out.rd (by omega)).mono ?_
    rintro e w' ⟨rfl, rfl⟩
    rw [HR.out]
    go_wp2_with fail
    go_ret2
    rw [HF.out]
    first
      | exact ⟨_, _, _, HN3.out, rfl, HO4.out, hb4⟩
      | exact ⟨_, 0, 0, rfl, rfl, (own_empty _).mono (by omega), hb4.alloc (by omega) _⟩

end Go.Proofs.Ytlpabdpaolmpfaa
