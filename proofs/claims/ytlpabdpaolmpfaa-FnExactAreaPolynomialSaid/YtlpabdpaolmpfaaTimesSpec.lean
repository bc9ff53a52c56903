/- l14Times. -/
import Derived.Test.YtlpabdpaolmpfaaTimes
import Derived.StillTailTactics
namespace Go.Proofs.Ytlpabdpaolmpfaa
open Go.RowKit

set_option maxHeartbeats 2000000 in
theorem l14Times_any (A1 : Option Addr) (n1 c1 : Nat) (xs : List Int) (A2 : Option Addr) (n2 c2 : Nat) (ys : List Int) (w : World) (h1 : Rd w A1 n1 (iv xs)) (h2 : Rd w A2 n2 (iv ys))
    (hx : ∀ x ∈ xs, -100000 ≤ x ∧ x ≤ 100000) (hy : ∀ x ∈ ys, -100000 ≤ x ∧ x ≤ 100000) (hn : n1 + n2 ≤ 1000) :
    Calls Try.prog 51 #[.slice A1 n1 c1, .slice A2 n2 c2] w (RetI w (timesL xs ys)) := by
  unfold RetI
  have HR1 := Lib.hid h1
  have HR2 := Lib.hid h2
  have HL1 := Lib.hid (show xs.length = n1 by have := h1.len; rw [iv_len] at this; exact this)
  have HL2 := Lib.hid (show ys.length = n2 by have := h2.len; rw [iv_len] at this; exact this)
  have BX := Lib.hid hx
  have BY := Lib.hid hy
  clear h1 h2 hx hy
  by_cases z1 : n1 = 0
  · have HF := Lib.hid (show timesL xs ys = [] by unfold timesL; rw [if_pos (Or.inl (List.eq_nil_of_length_eq_zero (by rw [HL1.out, z1])))])
    have e1 : ((n1 : Int) == 0) = true := by simp; exact z1
    clear z1
    go_enter Try.func51, Try.ntmps51
    go_wp2_with fail
    go_ret
    rw [HF.out]
    exact ⟨_, 0, 0, rfl, rfl, own_empty w, (Below.refl _ _).alloc (Nat.le_refl _) _⟩
  have e1 : ((n1 : Int) == 0) = false := by simp; exact z1
  by_cases z2 : n2 = 0
  · have HF := Lib.hid (show timesL xs ys = [] by unfold timesL; rw [if_pos (Or.inr (List.eq_nil_of_length_eq_zero (by rw [HL2.out, z2])))])
    have e2 : ((n2 : Int) == 0) = true := by simp; exact z2
    clear z2
    go_enter Try.func51, Try.ntmps51
    go_wp2_with fail
    go_ret
    rw [HF.out]
    exact ⟨_, 0, 0, rfl, rfl, own_empty w, (Below.refl _ _).alloc (Nat.le_refl _) _⟩
  have e2 : ((n2 : Int) == 0) = false := by simp; exact z2
  obtain ⟨m, hm, m1, m2⟩ : ∃ m, m = n1 + n2 - 1 ∧ n1 + n2 ≤ m + 1 ∧ m ≤ 1000 := ⟨n1 + n2 - 1, rfl, by omega, by omega⟩
  have HF := Lib.hid (show timesL xs ys = trimL (mulK (List.replicate m 0) xs ys xs.length) by
    unfold timesL
    rw [if_neg (by
      rintro (h | h)
      · have := HL1.out; rw [h] at this; exact z1 this.symm
      · have := HL2.out; rw [h] at this; exact z2 this.symm), HL1.out, HL2.out, hm])
  have hmk := mkI m (by omega)
  rw [show ((m : Nat) : Int) = (n1 : Int) + (n2 : Int) - 1 by omega] at hmk
  clear hm
  have hown0 := Own.made w 3 (.int .i64 0) m (by unfold maxLen; omega)
  rw [iv_rep] at hown0
  have HO0 := Lib.hid hown0
  clear hown0
  go_enter Try.func51, Try.ntmps51
  go_wp2_with fail
  go_loopw [6, 7] (fun i _ wr => ∃ k : Nat, k ≤ n1 ∧ i = .int .i64 k ∧ Own wr 3 w.heap.size (some ⟨w.heap.size, 0, none⟩) m m (iv (mulK (List.replicate m 0) xs ys k)) ∧ Below w.heap.size w wr) (fun i _ _ => n1 - (intOf i).toNat)
  case atStart => exact ⟨0, Nat.zero_le _, rfl, HO0.out, (Below.refl _ _).alloc (Nat.le_refl _) _⟩
  case round =>
    obtain ⟨k, hk, rfl, ho, hb⟩ := hrel
    by_cases hlt : k < n1
    · have HO := Lib.hid ho
      obtain ⟨b1, o1, x1, rfl, hx1, hc1⟩ := (HR1.out.below hb).ati hlt
      have HX1 := Lib.hid (getD_of hx1)
      clear ho hx1
      go_wp2_with fail
      go_loopw [7] (fun i wr => ∃ j : Nat, j ≤ n2 ∧ i = .int .i64 j ∧ Own wr 3 w.heap.size (some ⟨w.heap.size, 0, none⟩) m m (iv (upd (mulK (List.replicate m 0) xs ys k) (fun j => xs.getD k 0 * ys.getD j 0) k j)) ∧ Below w.heap.size w wr) (fun i _ => n2 - (intOf i).toNat)
      case atStart => exact ⟨0, Nat.zero_le _, rfl, HO.out, hb⟩
      case round =>
        obtain ⟨j, hj, rfl, ho2, hb2⟩ := hrel
        by_cases hlt2 : j < n2
        · obtain ⟨b2, o2, x2, rfl, hx2, hc2⟩ := (HR2.out.below hb2).ati hlt2
          obtain ⟨b1', o1', x1', hA, hx1', hc1'⟩ := (HR1.out.below hb2).ati hlt
          cases hA
          obtain rfl : x1' = x1 := by rw [← getD_of hx1', HX1.out]
          obtain ⟨g, y, hg, _, hgs, hy, hcy, hfy⟩ := ho2.ati (show k + j < m by omega)
          cases hg
          have HO2 := Lib.hid ho2
          have yb : -(((k : Int) + 1) * 10000000000) ≤ y ∧ y ≤ ((k : Int) + 1) * 10000000000 := by
            have h0 := upd_get (mulK (List.replicate m 0) xs ys k) (fun j => xs.getD k 0 * ys.getD j 0) k j (k + j) (by rw [mulK_len]; simp; omega)
            rw [getD_of hy, if_neg (by omega)] at h0
            have h1 := mulK_bd (base := List.replicate m 0) (fun j => getD_rep m j) BX.out BY.out k (k + j) (by simp; have := HL2.out; omega)
            omega
          have pb := mul_le (getD_bd BX.out k) (getD_bd BY.out j)
          rw [HX1.out, getD_of hx2] at pb
          have HN := Lib.hid (show (upd (mulK (List.replicate m 0) xs ys k) (fun j => xs.getD k 0 * ys.getD j 0) k j).set (k + j) (y + x1' * x2) = upd (mulK (List.replicate m 0) xs ys k) (fun j => xs.getD k 0 * ys.getD j 0) k (j + 1) by
            show _ = List.set _ _ _
            rw [getD_of hy]; show _ = List.set _ (k + j) (y + xs.getD k 0 * ys.getD j 0); rw [getD_of hx2, HX1.out])
          have kk0 : (0 : Int) ≤ (k : Int) + (j : Int) := by omega
          have kk : (k : Int) + (j : Int) < (m : Int) := by omega
          have ke : ((k : Int) + (j : Int)).toNat = k + j := by omega
          have w1 : IntKind.i64.wrap (x1' * x2) = x1' * x2 := IntWalk.i64_in _ (by omega)
          have w2 : IntKind.i64.wrap (y + x1' * x2) = y + x1' * x2 := IntWalk.i64_in _ (by omega)
          have w3 : IntKind.i64.wrap ((k : Int) + (j : Int)) = (k : Int) + (j : Int) := IntWalk.i64_in _ (by omega)
          clear hx2 hx1' hy ho2 yb pb
          go_wp2_with fail
          go_still_tail 21, (by kernel_rfl)
          change wpList _ _ _ _ _ wr.drew
          go_wp2_with fail
          go_roundw
          case rel => exact ⟨j + 1, by omega, by go_num, by rw [← HN.out]; exact HO2.out.puti (k + j) (y + x1' * x2), (hb2.setCell (p := ⟨w.heap.size, k + j, none⟩) (Nat.le_refl _) _).drew⟩
          case measure => simp [intOf]; omega
        · have HO3 := Lib.hid (show Own wr 3 w.heap.size (some ⟨w.heap.size, 0, none⟩) m m (iv (mulK (List.replicate m 0) xs ys (k + 1))) by
            rw [mulK, HL2.out, show n2 = j by omega]; exact ho2)
          clear ho2
          go_wp2_with fail
          go_roundw
          case rel => exact ⟨k + 1, by omega, by go_num, HO3.out, hb2⟩
          case measure => simp [intOf]; omega
    · have HO3 := Lib.hid (show Own wr 3 w.heap.size (some ⟨w.heap.size, 0, none⟩) m m (iv (mulK (List.replicate m 0) xs ys xs.length)) by rw [HL1.out, show n1 = k by omega]; exact ho)
      have hsz := hb.size
      clear ho
      go_wp2_with fail
      refine (l14Trim_any _ _ _ _ _ HO3.out.rd (by omega) (Nat.le_refl _) (by unfold maxLen; omega) (by simp)).mono ?_
      rintro e w3 ⟨A3, n3, c3, hn3, rfl, ho4, hb4⟩
      have HO4 := Lib.hid ho4
      have HN3 := Lib.hid hn3
      clear ho4 hn3
      go_wp2_with fail
      go_ret
      rw [HF.out]
      exact ⟨_, _, _, HN3.out, rfl, HO4.out.mono hsz, hb.trans (hb4.mono hsz)⟩

end Go.Proofs.Ytlpabdpaolmpfaa
