/- MultiplyPolynomials of the impl side. -/
import Derived.Test.YtlpabdpaolmpfaaTimes
namespace Go.Proofs.Ytlpabdpaolmpfaa
open Go.RowKit

set_option maxHeartbeats 2000000 in
theorem implMultiplyPolynomials_any (A1 : Option Addr) (n1 c1 : Nat) (xs : List Int) (A2 : Option Addr) (n2 c2 : Nat) (ys : List Int) (w : World) (h1 : Rd w A1 n1 (iv xs)) (h2 : Rd w A2 n2 (iv ys)) (hn1 : n1 ≤ 1000000000) (hn2 : n2 ≤ 1000000000) :
    Calls Try.prog 28 #[.slice A1 n1 c1, .slice A2 n2 c2] w (RetIB w (mulP xs ys).1 (mulP xs ys).2) := by
  unfold RetIB
  have HR1 := Lib.hid h1
  have HR2 := Lib.hid h2
  have HL1 := Lib.hid (show xs.length = n1 by have := h1.len; rw [iv_len] at this; exact this)
  have HL2 := Lib.hid (show ys.length = n2 by have := h2.len; rw [iv_len] at this; exact this)
  clear h1 h2
  rcases hp : isFac xs with _ | _
  · have hf : mulP xs ys = ([], false) := by simp [mulP, hp]
    rw [hf]
    have HP := Lib.hid hp
    clear hp hf
    go_enter Try.func28, Try.ntmps28
    go_wp2_with fail
    refine (isFactor_any _ _ _ _ _ HR1.out hn1).mono ?_
    rintro e w' ⟨rfl, rfl⟩
    rw [HP.out]
    go_wp2_with fail
    go_ret2
    exact ⟨_, 0, 0, rfl, rfl, own_empty w, (Below.refl _ _).alloc (Nat.le_refl _) _⟩
  rcases hq : isFac ys with _ | _
  · have hf : mulP xs ys = ([], false) := by simp [mulP, hq]
    rw [hf]
    have HP := Lib.hid hp
    have HQ := Lib.hid hq
    clear hp hf hq
    go_enter Try.func28, Try.ntmps28
    go_wp2_with fail
    refine (isFactor_any _ _ _ _ _ HR1.out hn1).mono ?_
    rintro e w' ⟨rfl, rfl⟩
    rw [HP.out]
    go_wp2_with fail
    refine (isFactor_any _ _ _ _ _ HR2.out hn2).mono ?_
    rintro e w' ⟨rfl, rfl⟩
    rw [HQ.out]
    go_wp2_with fail
    go_ret2
    exact ⟨_, 0, 0, rfl, rfl, own_empty w, (Below.refl _ _).alloc (Nat.le_refl _) _⟩
  obtain ⟨b1, bx⟩ := isFac_iff hp
  obtain ⟨b2, by'⟩ := isFac_iff hq
  rw [HL1.out] at b1
  rw [HL2.out] at b2
  have BX := Lib.hid bx
  have BY := Lib.hid by'
  clear bx by'
  have HP := Lib.hid hp
  have HQ := Lib.hid hq
  by_cases h62 : n1 + n2 ≤ 62
  case neg =>
    have hf : mulP xs ys = ([], false) := by unfold mulP; rw [HL1.out, HL2.out]; simp [h62]
    rw [hf]
    have g62 : (62 : Int) < (n1 : Int) + (n2 : Int) := by omega
    clear hp hq hf
    go_enter Try.func28, Try.ntmps28
    go_wp2_with fail
    refine (isFactor_any _ _ _ _ _ HR1.out hn1).mono ?_
    rintro e w' ⟨rfl, rfl⟩
    rw [HP.out]
    go_wp2_with fail
    refine (isFactor_any _ _ _ _ _ HR2.out hn2).mono ?_
    rintro e w' ⟨rfl, rfl⟩
    rw [HQ.out]
    go_wp2_with fail
    go_ret2
    exact ⟨_, 0, 0, rfl, rfl, own_empty w, (Below.refl _ _).alloc (Nat.le_refl _) _⟩
  have HF := Lib.hid (show mulP xs ys = if isPol (timesL xs ys) then (timesL xs ys, true) else ([], false) by unfold mulP; rw [HL1.out, HL2.out]; simp [hp, hq, h62])
  clear hp hq
  obtain ⟨m, hm, m1, m2, m3⟩ : ∃ m, m = n1 + n2 ∧ n1 + n2 ≤ m ∧ m ≤ n1 + n2 ∧ m ≤ 62 := ⟨n1 + n2, rfl, by omega, by omega, by omega⟩
  have HT := Lib.hid (show trimL (mulK (List.replicate m 0) xs ys xs.length) = timesL xs ys by rw [← timesL_eq, HL1.out, HL2.out, hm])
  have hmk := mkI m (by omega)
  rw [show ((m : Nat) : Int) = (n1 : Int) + (n2 : Int) by omega] at hmk
  clear hm
  have hown0 := Own.made w 3 (.int .i64 0) m (by unfold maxLen; omega)
  rw [iv_rep] at hown0
  have HO0 := Lib.hid hown0
  clear hown0
  go_enter Try.func28, Try.ntmps28
  go_wp2_with fail
  refine (isFactor_any _ _ _ _ _ HR1.out hn1).mono ?_
  rintro e w' ⟨rfl, rfl⟩
  rw [HP.out]
  go_wp2_with fail
  refine (isFactor_any _ _ _ _ _ HR2.out hn2).mono ?_
  rintro e w' ⟨rfl, rfl⟩
  rw [HQ.out]
  go_wp2_with fail
  go_loopw [7, 8, 36, 9, 10] (fun _ _ i _ _ wr => ∃ k : Nat, k ≤ n1 ∧ i = .int .i64 k ∧ Own wr 3 w.heap.size (some ⟨w.heap.size, 0, none⟩) m m (iv (mulK (List.replicate m 0) xs ys k)) ∧ Below w.heap.size w wr) (fun _ _ i _ _ _ => n1 - (intOf i).toNat)
  case atStart => exact ⟨0, Nat.zero_le _, rfl, HO0.out, (Below.refl _ _).alloc (Nat.le_refl _) _⟩
  case round =>
    obtain ⟨k, hk, rfl, ho, hb⟩ := hrel
    by_cases hlt : k < n1
    · have HO := Lib.hid ho
      obtain ⟨b1, o1, x1, rfl, hx1, hc1⟩ := (HR1.out.below hb).ati hlt
      have HX1 := Lib.hid (getD_of hx1)
      clear ho hx1
      go_wp2_with fail
      go_loopw [9, 10, 43] (fun _ _ i wr => ∃ j : Nat, j ≤ n2 ∧ i = .int .i64 j ∧ Own wr 3 w.heap.size (some ⟨w.heap.size, 0, none⟩) m m (iv (upd (mulK (List.replicate m 0) xs ys k) (fun j => xs.getD k 0 * ys.getD j 0) k j)) ∧ Below w.heap.size w wr) (fun _ _ i _ => n2 - (intOf i).toNat)
      case atStart => exact ⟨0, Nat.zero_le _, rfl, HO.out, hb⟩
      case round =>
        obtain ⟨j, hj, rfl, ho2, hb2⟩ := hrel
        by_cases hlt2 : j < n2
        · obtain ⟨b2, o2, x2, rfl, hx2, hc2⟩ := (HR2.out.below hb2).ati hlt2
          obtain ⟨b1', o1', x1', hA, hx1', hc1'⟩ := (HR1.out.below hb2).ati hlt
          cases hA
          obtain rfl : x1' = x1 := by rw [← getD_of hx1', HX1.out]
          obtain ⟨g, y, hg, _, hgs, hy, hcy, hfy⟩ := ho2.ati (show k + j < m by omega)
          cases hg
          have HO2 := Lib.hid ho2
          have yb : -(((k : Int) + 1) * 10000000000) ≤ y ∧ y ≤ ((k : Int) + 1) * 10000000000 := by
            have h0 := upd_get (mulK (List.replicate m 0) xs ys k) (fun j => xs.getD k 0 * ys.getD j 0) k j (k + j) (by rw [mulK_len]; simp; omega)
            rw [getD_of hy, if_neg (by omega)] at h0
            have h1 := mulK_bd (base := List.replicate m 0) (fun j => getD_rep m j) BX.out BY.out k (k + j) (by simp; have := HL2.out; omega)
            omega
          have pb := mul_le (getD_bd BX.out k) (getD_bd BY.out j)
          rw [HX1.out, getD_of hx2] at pb
          have HN := Lib.hid (show (upd (mulK (List.replicate m 0) xs ys k) (fun j => xs.getD k 0 * ys.getD j 0) k j).set (k + j) (y + x1' * x2) = upd (mulK (List.replicate m 0) xs ys k) (fun j => xs.getD k 0 * ys.getD j 0) k (j + 1) by
            show _ = List.set _ _ _
            rw [getD_of hy]; show _ = List.set _ (k + j) (y + xs.getD k 0 * ys.getD j 0); rw [getD_of hx2, HX1.out])
          have kk0 : (0 : Int) ≤ (k : Int) + (j : Int) := by omega
          have kk : (k : Int) + (j : Int) < (m : Int) := by omega
          have ke : ((k : Int) + (j : Int)).toNat = k + j := by omega
          have w1 : IntKind.i64.wrap (x1' * x2) = x1' * x2 := IntWalk.i64_in _ (by omega)
          have w2 : IntKind.i64.wrap (y + x1' * x2) = y + x1' * x2 := IntWalk.i64_in _ (by omega)
          have w3 : IntKind.i64.wrap ((k : Int) + (j : Int)) = (k : Int) + (j : Int) := IntWalk.i64_in _ (by omega)
          clear hx2 hx1' hy ho2 yb pb
          go_wp2_with fail
          go_roundw
          case rel => exact ⟨j + 1, by omega, by go_num, by rw [← HN.out]; exact HO2.out.puti (k + j) (y + x1' * x2), (hb2.setCell (p := ⟨w.heap.size, k + j, none⟩) (Nat.le_refl _) _)⟩
          case measure => simp [intOf]; omega
        · have HO3 := Lib.hid (show Own wr 3 w.heap.size (some ⟨w.heap.size, 0, none⟩) m m (iv (mulK (List.replicate m 0) xs ys (k + 1))) by
            rw [mulK, HL2.out, show n2 = j by omega]; exact ho2)
          clear ho2
          go_wp2_with fail
          go_roundw
          case rel => exact ⟨k + 1, by omega, by go_num, HO3.out, hb2⟩
          case measure => simp [intOf]; omega
    · have HO3 := Lib.hid (show Own wr 3 w.heap.size (some ⟨w.heap.size, 0, none⟩) m m (iv (mulK (List.replicate m 0) xs ys xs.length)) by rw [HL1.out, show n1 = k by omega]; exact ho)
      have hsz := hb.size
      clear ho
      obtain ⟨P, hP⟩ : ∃ P, P = mulK (List.replicate m 0) xs ys xs.length := ⟨_, rfl⟩
      have hPl : P.length = m := by rw [hP, mulK_len]; simp
      rw [← hP] at HO3 HT
      have HPL := Lib.hid hPl
      clear hP hPl
      have htz := tz_le P m
      have HRT := Lib.hid (show Own wr 3 w.heap.size (some ⟨w.heap.size, 0, none⟩) (tz P m) m (iv (timesL xs ys)) by rw [← HT.out, trimL, HPL.out, ← iv_take]; exact HO3.out.front (tz_le _ _))
      have HRL := Lib.hid (show tz P m = (timesL xs ys).length by rw [← HT.out, trimL_len, HPL.out])
      rcases hr : isPol (timesL xs ys) with _ | _
      all_goals
        have HR := Lib.hid hr
        rw [hr] at HF
        clear hr
        go_wp2_with fail
        refine (trimmed_any _ _ _ _ _ HO3.out.rd (by omega) (Nat.le_refl _) (by unfold maxLen; omega) (by simp)).mono ?_
        rintro e w' ⟨rfl, rfl⟩
        go_wp2_with fail
        refine (implIsPolynomial_any _ _ _ _ _ HRT.out.rd (by omega)).mono ?_
        rintro e w' ⟨rfl, rfl⟩
        rw [HR.out]
        go_wp2_with fail
        go_ret2
        rw [HF.out]
        first
          | exact ⟨_, _, _, HRL.out, rfl, HRT.out, hb⟩
          | exact ⟨_, 0, 0, rfl, rfl, (own_empty _).mono hsz, hb.alloc hsz _⟩

end Go.Proofs.Ytlpabdpaolmpfaa
