/- Statistics of the program: peaks, returns, area, major index. -/
import Derived.Test.YteiffomekjadgaaStaS
import Derived.Test.YteiffomekjadgaaTwo
namespace Go.Proofs.Yteiffomekjadgaa
set_option linter.unusedVariables false
open Go.RowKit

set_option maxHeartbeats 1000000 in
theorem implPeaksOf_any (l : List UInt8) (w : World) (hd : dyck l = true) :
    Calls Try.prog 51 #[.string (bs l)] w fun e w' => e = .returned (.int .i64 (pk l (l.length - 1))) ∧ Below w.heap.size w w' := by
  obtain ⟨h16, _, _⟩ := dyck_pathB hd
  have HD := Lib.hid hd
  have hl9 : l.length ≤ 1000000000 := by omega
  clear hd
  go_enter Try.func51, Try.ntmps51
  go_wp2_with fail
  refine (implIsDyck_any l _ hl9).mono ?_
  rintro e w1 ⟨rfl, hb⟩
  rw [HD.out]
  go_wp2_with fail
  go_loop [3, 4] (fun t i => ∃ k : Nat, 1 ≤ k ∧ (k ≤ l.length ∨ k = 1) ∧ i = .int .i64 k ∧ t = .int .i64 (pk l (k - 1))) (fun _ i => l.length - (intOf i).toNat)
  case atStart => exact ⟨1, Nat.le_refl _, Or.inr rfl, rfl, rfl⟩
  case round =>
    obtain ⟨k, hk1, hk, rfl, rfl⟩ := hrel
    have hpk := pk_le l (k - 1)
    obtain ⟨P, hP⟩ : ∃ P, P = pk l (k - 1) := ⟨_, rfl⟩
    rw [← hP] at hpk ⊢
    have HP := Lib.hid hP
    clear hP
    by_cases hlt : k < l.length
    · have i1 : (0 : Int) ≤ (k : Int) - 1 := by omega
      have i3 : (k : Int) - 1 < (l.length : Int) := by omega
      have i5 : ((k : Int) - 1).toNat = k - 1 := by omega
      have hlt' : k - 1 < l.length := by omega
      obtain ⟨x, hx⟩ : ∃ x, l[k - 1]'hlt' = x := ⟨_, rfl⟩
      obtain ⟨y, hy⟩ : ∃ y, l[k] = y := ⟨_, rfl⟩
      have HS := Lib.hid (show pk l k = if x = 117 ∧ y = 100 then P + 1 else P by
        obtain ⟨j, rfl⟩ : ∃ j, k = j + 1 := ⟨k - 1, by omega⟩
        simp only [Nat.add_sub_cancel] at hx HP
        rw [pk, List.getElem?_eq_getElem hlt, List.getElem?_eq_getElem (show j < l.length by omega), hx, hy, HP.out]; simp)
      by_cases hx1 : x = 117
      · have e1 : (((l[k - 1]'hlt').toNat : Int) == 117) = true := by rw [hx, hx1]; rfl
        have p1 : ((l[k - 1]'hlt').toNat : Int) = 117 := by rw [hx, hx1]; rfl
        by_cases hy1 : y = 100
        · have e2 : (((l[k]'hlt).toNat : Int) == 100) = true := by rw [hy, hy1]; rfl
          have HX := Lib.hid (And.intro hx1 hy1)
          clear hx hy hx1 hy1
          go_wp2_with fail
          go_round
          case rel => exact ⟨k + 1, by omega, by omega, by go_num, by rw [Nat.add_sub_cancel, HS.out, if_pos HX.out]; go_num⟩
          case measure => simp [intOf]; omega
        · have e2 : (((l[k]'hlt).toNat : Int) == 100) = false := by rw [hy]; exact u8_ne hy1
          have HX := Lib.hid (show ¬ (x = 117 ∧ y = 100) from fun h => hy1 h.2)
          clear hx hy hx1 hy1
          go_wp2_with fail
          go_round
          case rel => exact ⟨k + 1, by omega, by omega, by go_num, by rw [Nat.add_sub_cancel, HS.out, if_neg HX.out]⟩
          case measure => simp [intOf]; omega
      · have e1 : (((l[k - 1]'hlt').toNat : Int) == 117) = false := by rw [hx]; exact u8_ne hx1
        have HX := Lib.hid (show ¬ (x = 117 ∧ y = 100) from fun h => hx1 h.1)
        clear hx hy hx1
        go_wp2_with fail
        go_round
        case rel => exact ⟨k + 1, by omega, by omega, by go_num, by rw [Nat.add_sub_cancel, HS.out, if_neg HX.out]⟩
        case measure => simp [intOf]; omega
    · have HF := Lib.hid (show pk l (l.length - 1) = P by
        rcases hk with h | h
        · rw [HP.out, show k = l.length by omega]
        · rw [HP.out, h]; congr 1; omega)
      go_wp2_with fail
      go_ret
      exact ⟨ret_int (by rw [HF.out]), hb⟩
set_option maxHeartbeats 1000000 in
theorem implMajorOf_any (l : List UInt8) (w : World) (hd : dyck l = true) :
    Calls Try.prog 60 #[.string (bs l)] w fun e w' => e = .returned (.int .i64 (mjr l (l.length - 1))) ∧ Below w.heap.size w w' := by
  obtain ⟨h16, _, _⟩ := dyck_pathB hd
  have HD := Lib.hid hd
  have hl9 : l.length ≤ 1000000000 := by omega
  clear hd
  go_enter Try.func60, Try.ntmps60
  go_wp2_with fail
  refine (implIsDyck_any l _ hl9).mono ?_
  rintro e w1 ⟨rfl, hb⟩
  rw [HD.out]
  go_wp2_with fail
  go_loop [3, 4] (fun t i => ∃ k : Nat, 1 ≤ k ∧ (k ≤ l.length ∨ k = 1) ∧ i = .int .i64 k ∧ t = .int .i64 (mjr l (k - 1))) (fun _ i => l.length - (intOf i).toNat)
  case atStart => exact ⟨1, Nat.le_refl _, Or.inr rfl, rfl, rfl⟩
  case round =>
    obtain ⟨k, hk1, hk, rfl, rfl⟩ := hrel
    have hpk : mjr l (k - 1) ≤ 256 := Nat.le_trans (mjr_le l (k - 1)) (Nat.mul_le_mul (show k - 1 ≤ 16 by omega) (show k - 1 ≤ 16 by omega))
    obtain ⟨P, hP⟩ : ∃ P, P = mjr l (k - 1) := ⟨_, rfl⟩
    rw [← hP] at hpk ⊢
    have HP := Lib.hid hP
    clear hP
    by_cases hlt : k < l.length
    · have i1 : (0 : Int) ≤ (k : Int) - 1 := by omega
      have i3 : (k : Int) - 1 < (l.length : Int) := by omega
      have i5 : ((k : Int) - 1).toNat = k - 1 := by omega
      have hlt' : k - 1 < l.length := by omega
      obtain ⟨x, hx⟩ : ∃ x, l[k - 1]'hlt' = x := ⟨_, rfl⟩
      obtain ⟨y, hy⟩ : ∃ y, l[k] = y := ⟨_, rfl⟩
      have HS := Lib.hid (show mjr l k = if x = 100 ∧ y = 117 then P + k else P by
        obtain ⟨j, rfl⟩ : ∃ j, k = j + 1 := ⟨k - 1, by omega⟩
        simp only [Nat.add_sub_cancel] at hx HP
        rw [mjr, List.getElem?_eq_getElem hlt, List.getElem?_eq_getElem (show j < l.length by omega), hx, hy, HP.out]; simp)
      by_cases hx1 : x = 100
      · have e1 : (((l[k - 1]'hlt').toNat : Int) == 100) = true := by rw [hx, hx1]; rfl
        have p1 : ((l[k - 1]'hlt').toNat : Int) = 100 := by rw [hx, hx1]; rfl
        by_cases hy1 : y = 117
        · have e2 : (((l[k]'hlt).toNat : Int) == 117) = true := by rw [hy, hy1]; rfl
          have HX := Lib.hid (And.intro hx1 hy1)
          clear hx hy hx1 hy1
          go_wp2_with fail
          go_round
          case rel => exact ⟨k + 1, by omega, by omega, by go_num, by rw [Nat.add_sub_cancel, HS.out, if_pos HX.out]; go_num⟩
          case measure => simp [intOf]; omega
        · have e2 : (((l[k]'hlt).toNat : Int) == 117) = false := by rw [hy]; exact u8_ne hy1
          have HX := Lib.hid (show ¬ (x = 100 ∧ y = 117) from fun h => hy1 h.2)
          clear hx hy hx1 hy1
          go_wp2_with fail
          go_round
          case rel => exact ⟨k + 1, by omega, by omega, by go_num, by rw [Nat.add_sub_cancel, HS.out, if_neg HX.out]⟩
          case measure => simp [intOf]; omega
      · have e1 : (((l[k - 1]'hlt').toNat : Int) == 100) = false := by rw [hx]; exact u8_ne hx1
        have HX := Lib.hid (show ¬ (x = 100 ∧ y = 117) from fun h => hx1 h.1)
        clear hx hy hx1
        go_wp2_with fail
        go_round
        case rel => exact ⟨k + 1, by omega, by omega, by go_num, by rw [Nat.add_sub_cancel, HS.out, if_neg HX.out]⟩
        case measure => simp [intOf]; omega
    · have HF := Lib.hid (show mjr l (l.length - 1) = P by
        rcases hk with h | h
        · rw [HP.out, show k = l.length by omega]
        · rw [HP.out, h]; congr 1; omega)
      go_wp2_with fail
      go_ret
      exact ⟨ret_int (by rw [HF.out]), hb⟩
set_option maxHeartbeats 1000000 in
theorem implAreaOf_any (l : List UInt8) (w : World) (hd : dyck l = true) :
    Calls Try.prog 53 #[.string (bs l)] w fun e w' => e = .returned (.int .i64 (ars l l.length)) ∧ Below w.heap.size w w' := by
  obtain ⟨h16, hok, _⟩ := dyck_pathB hd
  have HO := Lib.hid hok
  have HF := Lib.hid (show htsD l = hts l by unfold htsD; rw [if_pos hd])
  have hl9 : l.length ≤ 1000000000 := by omega
  have HD := Lib.hid hd
  clear hd hok
  go_enter Try.func53, Try.ntmps53
  go_wp2_with fail
  refine (implIsDyck_any l _ hl9).mono ?_
  rintro e w1 ⟨rfl, hb1⟩
  rw [HD.out]
  go_wp2_with fail
  refine (implHeightsOf_any l _ hl9).mono ?_
  rintro e w2 ⟨A, m, c, hm, rfl, ho, hb2⟩
  have hb := hb1.trans (hb2.mono hb1.size)
  clear hb1 hb2
  rw [HF.out] at hm ho
  rw [hts_len] at hm
  have HR := Lib.hid ho.rd
  clear ho
  go_wp2_with fail
  go_loop [3, 5] (fun t i => ∃ k : Nat, k ≤ l.length ∧ i = .int .i64 k ∧ t = .int .i64 (ars l k)) (fun _ i => l.length - (intOf i).toNat)
  case atStart => exact ⟨0, Nat.zero_le _, rfl, rfl⟩
  case round =>
    obtain ⟨k, hk, rfl, rfl⟩ := hrel
    have hab := ars_bd HO.out h16 k hk
    obtain ⟨V, hV⟩ : ∃ V, V = ars l k := ⟨_, rfl⟩
    rw [← hV] at hab ⊢
    have HV := Lib.hid hV
    clear hV
    by_cases hlt : k < l.length
    · obtain ⟨ch, hc⟩ : ∃ c, l[k] = c := ⟨_, rfl⟩
      obtain ⟨bl, off, y, hA, hy, hcy⟩ := HR.out.ati (show k < m by omega)
      subst hA
      rw [hts_atS (by omega)] at hy
      injection hy with hy
      have hyb := hat_bd l k
      rw [hy] at hyb
      have HS := Lib.hid (show ars l (k + 1) = if ch = 117 then V + y else V by
        rw [ars, List.getElem?_eq_getElem hlt, hc, HV.out, hy]; simp)
      have k0 : (0 : Int) ≤ (k : Int) := by omega
      have k1 : (k : Int) < (m : Int) := by omega
      clear hy
      by_cases hu : ch = 117
      · have e1 : (((l[k]'hlt).toNat : Int) == 117) = true := by rw [hc, hu]; rfl
        have HU := Lib.hid hu
        clear hc hu
        go_wp2_with fail
        go_round
        case rel => exact ⟨k + 1, by omega, by go_num, by rw [HS.out, if_pos HU.out]⟩
        case measure => simp [intOf]; omega
      · have e1 : (((l[k]'hlt).toNat : Int) == 117) = false := by rw [hc]; exact u8_ne hu
        have HU := Lib.hid hu
        clear hc hu
        go_wp2_with fail
        go_round
        case rel => exact ⟨k + 1, by omega, by go_num, by rw [HS.out, if_neg HU.out]⟩
        case measure => simp [intOf]; omega
    · have hkl : k = l.length := by omega
      have HE := Lib.hid (show ars l l.length = V by rw [← hkl]; exact HV.out.symm)
      clear hkl
      go_wp2_with fail
      go_ret
      exact ⟨ret_int (by rw [HE.out]), hb⟩
set_option maxHeartbeats 1000000 in
theorem implReturnsOf_any (l : List UInt8) (w : World) (hd : dyck l = true) :
    Calls Try.prog 52 #[.string (bs l)] w fun e w' => e = .returned (.int .i64 (rtn l l.length)) ∧ Below w.heap.size w w' := by
  obtain ⟨h16, _, _⟩ := dyck_pathB hd
  have HF := Lib.hid (show htsD l = hts l by unfold htsD; rw [if_pos hd])
  have HD := Lib.hid hd
  have hl9 : l.length ≤ 1000000000 := by omega
  clear hd
  go_enter Try.func52, Try.ntmps52
  go_wp2_with fail
  refine (implIsDyck_any l _ hl9).mono ?_
  rintro e w1 ⟨rfl, hb1⟩
  rw [HD.out]
  go_wp2_with fail
  refine (implHeightsOf_any l _ hl9).mono ?_
  rintro e w2 ⟨A, m, c, hm, rfl, ho, hb2⟩
  have hb := hb1.trans (hb2.mono hb1.size)
  rw [HF.out] at hm ho
  rw [hts_len] at hm
  have HR := Lib.hid ho.rd
  obtain ⟨hmc, hcm⟩ := own_capT2 ho.1
  unfold maxLen at hcm
  obtain ⟨L, hL⟩ : ∃ L, L = l.length := ⟨_, rfl⟩
  obtain rfl : m = L + 1 := by omega
  obtain ⟨bl, off, y0, hA, _, _⟩ := HR.out.ati (show 0 < L + 1 by omega)
  subst hA
  have HLL := Lib.hid hL
  have hL16 : L ≤ 16 := by omega
  have c1 : (1 : Int) ≤ ((L + 1 : Nat) : Int) := by omega
  have c2 : ((L + 1 : Nat) : Int) ≤ (c : Int) := by omega
  clear ho hb1 hb2 hm hL
  by_cases hc1 : c = 1
  · have i2 : ¬ (0 : Int) < (L : Int) := by omega
    have HE0 := Lib.hid (show rtn l l.length = 0 by rw [← HLL.out, show L = 0 by omega]; rfl)
    subst hc1
    go_wp2_with fail
    go_loop [3, 5, 13] (fun t _ i => i = .int .i64 0 ∧ t = .int .i64 0) (fun _ _ _ => 0)
    case atStart => exact ⟨rfl, rfl⟩
    case round =>
      obtain ⟨rfl, rfl⟩ := hrel
      go_wp2_with fail
      go_ret
      exact ⟨ret_int (by rw [HE0.out]; rfl), hb⟩
  go_wp2_with fail
  go_loop [3, 5, 13] (fun t _ i => ∃ k : Nat, k ≤ L ∧ i = .int .i64 k ∧ t = .int .i64 (rtn l k : Nat)) (fun _ _ i => L - (intOf i).toNat)
  case atStart => exact ⟨0, Nat.zero_le _, rfl, rfl⟩
  case round =>
    obtain ⟨k, hk, rfl, rfl⟩ := hrel
    have hrt := rtn_le l k
    obtain ⟨V, hV⟩ : ∃ V, V = rtn l k := ⟨_, rfl⟩
    rw [← hV] at hrt ⊢
    have HV := Lib.hid hV
    clear hV
    by_cases hlt : k < L
    · obtain ⟨bl', off', y, hA, hy, hcy⟩ := HR.out.ati (show k + 1 < L + 1 by omega)
      cases hA
      rw [hts_atS (by have := HLL.out; omega)] at hy
      injection hy with hy
      have hcy' : w2.cell? ⟨bl, off + 1 + k, none⟩ = some (.int .i64 y) := by rw [show off + 1 + k = off + (k + 1) by omega]; exact hcy
      have HS := Lib.hid (show rtn l (k + 1) = if y = 0 then V + 1 else V by rw [rtn, hy, HV.out])
      have i1 : (0 : Int) ≤ (k : Int) := by omega
      have i2 : (k : Int) < (L : Int) := by omega
      clear hy hcy
      by_cases h0 : y = 0
      · have e1 : (y == 0) = true := by rw [h0]; rfl
        have HY := Lib.hid h0
        clear h0
        go_wp2_with fail
        go_round
        case rel => exact ⟨k + 1, by omega, by go_num, by rw [HS.out, if_pos HY.out]; go_num⟩
        case measure => simp [intOf]; omega
      · have e1 : (y == 0) = false := by rw [beq_eq_false_iff_ne]; exact h0
        have HY := Lib.hid h0
        clear h0
        go_wp2_with fail
        go_round
        case rel => exact ⟨k + 1, by omega, by go_num, by rw [HS.out, if_neg HY.out]⟩
        case measure => simp [intOf]; omega
    · have HE := Lib.hid (show rtn l l.length = V by rw [HV.out, ← HLL.out]; congr 1; omega)
      go_wp2_with fail
      go_ret
      exact ⟨ret_int (by rw [HE.out]), hb⟩

end Go.Proofs.Yteiffomekjadgaa
