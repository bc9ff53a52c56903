/- Statistics of the reference: peaks, returns, area, major index, runs. -/
import Derived.Test.YteiffomekjadgaaStatL
import Derived.Test.YteiffomekjadgaaDyck
import Derived.StillTailTactics
namespace Go.Proofs.Yteiffomekjadgaa
set_option linter.unusedVariables false
open Go.RowKit

theorem hts_atS {l : List UInt8} {k : Nat} (h : k ≤ l.length) : (hts l)[k]? = some (hat l k) := by
  unfold hts htsTo
  rw [List.getElem?_map, List.getElem?_range (by omega)]; rfl
theorem dk_let {l : List UInt8} (h : dyck l = true) {k : Nat} (hk : k < l.length) : l[k]? = some 117 ∨ l[k]? = some 100 := by
  have h1 := okB_mono (dyck_pathB h).2.1 (show k + 1 ≤ l.length by omega)
  simp only [okB, Bool.and_eq_true, Bool.or_eq_true, beq_iff_eq] at h1
  exact h1.1.2
theorem two_at {l : List UInt8} {i : Nat} {x y : UInt8} (hx : l[i]? = some x) (hy : l[i + 1]? = some y) : List.take 2 (List.drop i l) = [x, y] := by
  obtain ⟨h1, h2⟩ := List.getElem?_eq_some_iff.1 hx
  obtain ⟨h3, h4⟩ := List.getElem?_eq_some_iff.1 hy
  rw [List.drop_eq_getElem_cons h1, List.drop_eq_getElem_cons h3, h2, h4]; rfl
set_option maxHeartbeats 1000000 in
theorem specPeaksOf_any (l : List UInt8) (w : World) (hd : dyck l = true) :
    Calls Try.prog 62 #[.string (bs l)] w fun e w' => e = .returned (.int .i64 (pk l (l.length - 1))) ∧ w = w' := by
  obtain ⟨h16, _, _⟩ := dyck_pathB hd
  have HD := Lib.hid hd
  have hl9 : l.length ≤ 1000000000 := by omega
  clear hd
  go_enter Try.func62, Try.ntmps62
  go_wp2_with fail
  refine (specIsDyck_any l _ hl9).mono ?_
  rintro e w1 ⟨rfl, rfl⟩
  rw [HD.out]
  go_wp2_with fail
  go_loop [3, 4] (fun t i => ∃ k : Nat, 1 ≤ k ∧ (k ≤ l.length ∨ k = 1) ∧ i = .int .i64 k ∧ t = .int .i64 (pk l (k - 1))) (fun _ i => l.length - (intOf i).toNat)
  case atStart => exact ⟨1, Nat.le_refl _, Or.inr rfl, rfl, rfl⟩
  case round =>
    obtain ⟨k, hk1, hk, rfl, rfl⟩ := hrel
    have hpk := pk_le l (k - 1)
    obtain ⟨P, hP⟩ : ∃ P, P = pk l (k - 1) := ⟨_, rfl⟩
    rw [← hP] at hpk ⊢
    have HP := Lib.hid hP
    clear hP
    by_cases hlt : k < l.length
    · have i1 : (0 : Int) ≤ (k : Int) - 1 := by omega
      have i2 : (k : Int) - 1 ≤ (k : Int) + 1 := by omega
      have i3 : (k : Int) + 1 ≤ (l.length : Int) := by omega
      have i4 : ((k : Int) + 1).toNat = k + 1 := by omega
      have i5 : ((k : Int) - 1).toNat = k - 1 := by omega
      have i6 : (0 : Int) ≤ (k : Int) + 1 := by omega
      have i7 : k + 1 - (k - 1) = 2 := by omega
      obtain ⟨x, hx⟩ : ∃ x, l[k - 1]? = some x := ⟨_, List.getElem?_eq_getElem (by omega)⟩
      obtain ⟨y, hy⟩ : ∃ y, l[k]? = some y := ⟨_, List.getElem?_eq_getElem (by omega)⟩
      have HT := two_at hx (show l[k - 1 + 1]? = some y by rw [show k - 1 + 1 = k by omega]; exact hy)
      have HS := Lib.hid (show pk l k = if x = 117 ∧ y = 100 then P + 1 else P by
        obtain ⟨j, rfl⟩ : ∃ j, k = j + 1 := ⟨k - 1, by omega⟩
        simp only [Nat.add_sub_cancel] at hx HP
        rw [pk, hx, hy, HP.out]; simp)
      clear hx hy
      by_cases hxy : x = 117 ∧ y = 100
      · have e1 : (List.take 2 (List.drop (k - 1) l) == [117, 100]) = true := by rw [HT, hxy.1, hxy.2]; rfl
        have HX := Lib.hid hxy
        clear HT hxy
        go_wp2_with fail
        go_round
        case rel => exact ⟨k + 1, by omega, by omega, by go_num, by rw [Nat.add_sub_cancel, HS.out, if_pos HX.out]; go_num⟩
        case measure => simp [intOf]; omega
      · have e1 : (List.take 2 (List.drop (k - 1) l) == [117, 100]) = false := by rw [HT, beq_eq_false_iff_ne]; intro h; injection h with h1 h2; injection h2 with h2; exact hxy ⟨h1, h2⟩
        have HX := Lib.hid hxy
        clear HT hxy
        go_wp2_with fail
        go_round
        case rel => exact ⟨k + 1, by omega, by omega, by go_num, by rw [Nat.add_sub_cancel, HS.out, if_neg HX.out]⟩
        case measure => simp [intOf]; omega
    · have HF := Lib.hid (show pk l (l.length - 1) = P by
        rcases hk with h | h
        · rw [HP.out, show k = l.length by omega]
        · rw [HP.out, h]; congr 1; omega)
      go_wp2_with fail
      go_ret
      exact ⟨ret_int (by rw [HF.out]), rfl⟩
set_option maxHeartbeats 1000000 in
theorem specMajorOf_any (l : List UInt8) (w : World) (hd : dyck l = true) :
    Calls Try.prog 72 #[.string (bs l)] w fun e w' => e = .returned (.int .i64 (mjr l (l.length - 1))) ∧ w = w' := by
  obtain ⟨h16, _, _⟩ := dyck_pathB hd
  have HD := Lib.hid hd
  have hl9 : l.length ≤ 1000000000 := by omega
  clear hd
  go_enter Try.func72, Try.ntmps72
  go_wp2_with fail
  refine (specIsDyck_any l _ hl9).mono ?_
  rintro e w1 ⟨rfl, rfl⟩
  rw [HD.out]
  go_wp2_with fail
  go_loop [3, 4] (fun t i => ∃ k : Nat, 1 ≤ k ∧ (k ≤ l.length ∨ k = 1) ∧ i = .int .i64 k ∧ t = .int .i64 (mjr l (k - 1))) (fun _ i => l.length - (intOf i).toNat)
  case atStart => exact ⟨1, Nat.le_refl _, Or.inr rfl, rfl, rfl⟩
  case round =>
    obtain ⟨k, hk1, hk, rfl, rfl⟩ := hrel
    have hpk : mjr l (k - 1) ≤ 256 := Nat.le_trans (mjr_le l (k - 1)) (Nat.mul_le_mul (show k - 1 ≤ 16 by omega) (show k - 1 ≤ 16 by omega))
    obtain ⟨P, hP⟩ : ∃ P, P = mjr l (k - 1) := ⟨_, rfl⟩
    rw [← hP] at hpk ⊢
    have HP := Lib.hid hP
    clear hP
    by_cases hlt : k < l.length
    · have i1 : (0 : Int) ≤ (k : Int) - 1 := by omega
      have i3 : (k : Int) - 1 < (l.length : Int) := by omega
      have i5 : ((k : Int) - 1).toNat = k - 1 := by omega
      have hlt' : k - 1 < l.length := by omega
      obtain ⟨x, hx⟩ : ∃ x, l[k - 1]'hlt' = x := ⟨_, rfl⟩
      obtain ⟨y, hy⟩ : ∃ y, l[k] = y := ⟨_, rfl⟩
      have HS := Lib.hid (show mjr l k = if x = 100 ∧ y = 117 then P + k else P by
        obtain ⟨j, rfl⟩ : ∃ j, k = j + 1 := ⟨k - 1, by omega⟩
        simp only [Nat.add_sub_cancel] at hx HP
        rw [mjr, List.getElem?_eq_getElem hlt, List.getElem?_eq_getElem (show j < l.length by omega), hx, hy, HP.out]; simp)
      by_cases hx1 : x = 100
      · have e1 : (((l[k - 1]'hlt').toNat : Int) == 100) = true := by rw [hx, hx1]; rfl
        have p1 : ((l[k - 1]'hlt').toNat : Int) = 100 := by rw [hx, hx1]; rfl
        by_cases hy1 : y = 117
        · have e2 : (((l[k]'hlt).toNat : Int) == 117) = true := by rw [hy, hy1]; rfl
          have HX := Lib.hid (And.intro hx1 hy1)
          clear hx hy hx1 hy1
          go_wp2_with fail
          go_round
          case rel => exact ⟨k + 1, by omega, by omega, by go_num, by rw [Nat.add_sub_cancel, HS.out, if_pos HX.out]; go_num⟩
          case measure => simp [intOf]; omega
        · have e2 : (((l[k]'hlt).toNat : Int) == 117) = false := by rw [hy]; exact u8_ne hy1
          have HX := Lib.hid (show ¬ (x = 100 ∧ y = 117) from fun h => hy1 h.2)
          clear hx hy hx1 hy1
          go_wp2_with fail
          go_round
          case rel => exact ⟨k + 1, by omega, by omega, by go_num, by rw [Nat.add_sub_cancel, HS.out, if_neg HX.out]⟩
          case measure => simp [intOf]; omega
      · have e1 : (((l[k - 1]'hlt').toNat : Int) == 100) = false := by rw [hx]; exact u8_ne hx1
        have HX := Lib.hid (show ¬ (x = 100 ∧ y = 117) from fun h => hx1 h.1)
        clear hx hy hx1
        go_wp2_with fail
        go_round
        case rel => exact ⟨k + 1, by omega, by omega, by go_num, by rw [Nat.add_sub_cancel, HS.out, if_neg HX.out]⟩
        case measure => simp [intOf]; omega
    · have HF := Lib.hid (show mjr l (l.length - 1) = P by
        rcases hk with h | h
        · rw [HP.out, show k = l.length by omega]
        · rw [HP.out, h]; congr 1; omega)
      go_wp2_with fail
      go_ret
      exact ⟨ret_int (by rw [HF.out]), rfl⟩
set_option maxHeartbeats 1000000 in
theorem specReturnsOf_any (l : List UInt8) (w : World) (hd : dyck l = true) :
    Calls Try.prog 63 #[.string (bs l)] w fun e w' => e = .returned (.int .i64 (rtn l l.length)) ∧ Below w.heap.size w w' := by
  obtain ⟨h16, _, _⟩ := dyck_pathB hd
  have HF := Lib.hid (show htsD l = hts l by unfold htsD; rw [if_pos hd])
  have hl9 : l.length ≤ 1000000000 := by omega
  clear hd
  go_enter Try.func63, Try.ntmps63
  go_wp2_with fail
  refine (specHeightsOf_any l _ hl9).mono ?_
  rintro e w2 ⟨A, m, c, hm, rfl, ho, hb⟩
  rw [HF.out] at hm ho
  rw [hts_len] at hm
  have HR := Lib.hid ho.rd
  clear ho
  go_wp2_with fail
  go_loop [4, 5] (fun t i => ∃ k : Nat, k ≤ m ∧ i = .int .i64 k ∧ t = .int .i64 (if k = 0 then -1 else (rtn l (k - 1) : Int))) (fun _ i => m - (intOf i).toNat)
  case atStart => exact ⟨0, Nat.zero_le _, rfl, rfl⟩
  case round =>
    obtain ⟨k, hk, rfl, rfl⟩ := hrel
    have hrt := rtn_le l (k - 1)
    obtain ⟨V, hV⟩ : ∃ V : Int, V = if k = 0 then -1 else (rtn l (k - 1) : Int) := ⟨_, rfl⟩
    have hVb : -1 ≤ V ∧ V ≤ 100 := by rw [hV]; split <;> omega
    rw [← hV]
    have HV := Lib.hid hV
    clear hV
    by_cases hlt : k < m
    · obtain ⟨bl, off, y, hA, hy, hcy⟩ := HR.out.ati hlt
      subst hA
      rw [hts_atS (by omega)] at hy
      injection hy with hy
      have i1 : (0 : Int) ≤ (k : Int) := by omega
      have i2 : (k : Int) < (m : Int) := by omega
      have HS := Lib.hid (show (rtn l k : Int) = if hat l k = 0 then V + 1 else V by
        cases k with
        | zero => rw [HV.out]; simp [rtn, hat]
        | succ j =>
          have h1 : V = (rtn l j : Int) := by rw [HV.out, if_neg (by omega), Nat.add_sub_cancel]
          rw [h1, rtn]
          split <;> simp)
      by_cases h0 : y = 0
      · have e1 : (y == 0) = true := by rw [h0]; rfl
        have HY := Lib.hid (show hat l k = 0 by rw [hy, h0])
        clear hy h0
        go_wp2_with fail
        go_round
        case rel => exact ⟨k + 1, by omega, by go_num, by rw [if_neg (by omega), Nat.add_sub_cancel, HS.out, if_pos HY.out]⟩
        case measure => simp [intOf]; omega
      · have e1 : (y == 0) = false := by rw [beq_eq_false_iff_ne]; exact h0
        have HY := Lib.hid (show ¬ hat l k = 0 by rw [hy]; exact h0)
        clear hy h0
        go_wp2_with fail
        go_round
        case rel => exact ⟨k + 1, by omega, by go_num, by rw [if_neg (by omega), Nat.add_sub_cancel, HS.out, if_neg HY.out]⟩
        case measure => simp [intOf]; omega
    · have HE := Lib.hid (show (rtn l l.length : Int) = V by rw [HV.out, if_neg (by omega)]; congr 2; omega)
      go_wp2_with fail
      go_ret
      exact ⟨ret_int (by rw [HE.out]), hb⟩
set_option maxHeartbeats 1000000 in
theorem specAreaOf_any (l : List UInt8) (w : World) (hd : dyck l = true) :
    Calls Try.prog 65 #[.string (bs l)] w fun e w' => e = .returned (.int .i64 (ars l l.length)) ∧ Below w.heap.size w w' := by
  obtain ⟨h16, hok, _⟩ := dyck_pathB hd
  have HO := Lib.hid hok
  have HF := Lib.hid (show htsD l = hts l by unfold htsD; rw [if_pos hd])
  have hl9 : l.length ≤ 1000000000 := by omega
  clear hd hok
  go_enter Try.func65, Try.ntmps65
  go_wp2_with fail
  refine (specHeightsOf_any l _ hl9).mono ?_
  rintro e w2 ⟨A, m, c, hm, rfl, ho, hb⟩
  rw [HF.out] at hm ho
  rw [hts_len] at hm
  have HR := Lib.hid ho.rd
  have m0 : (0 : Int) < (m : Int) := by omega
  have m1 : ((m : Int) == 0) = false := by rw [beq_eq_false_iff_ne]; omega
  clear ho
  go_wp2_with fail
  go_loop [4, 5] (fun t i => ∃ k : Nat, k ≤ l.length ∧ i = .int .i64 k ∧ t = .int .i64 (ars l k)) (fun _ i => l.length - (intOf i).toNat)
  case atStart => exact ⟨0, Nat.zero_le _, rfl, rfl⟩
  case round =>
    obtain ⟨k, hk, rfl, rfl⟩ := hrel
    have hab := ars_bd HO.out h16 k hk
    obtain ⟨V, hV⟩ : ∃ V, V = ars l k := ⟨_, rfl⟩
    rw [← hV] at hab ⊢
    have HV := Lib.hid hV
    clear hV
    by_cases hlt : k < l.length
    · obtain ⟨ch, hc⟩ : ∃ c, l[k] = c := ⟨_, rfl⟩
      obtain ⟨bl, off, y, hA, hy, hcy⟩ := HR.out.ati (show k < m by omega)
      subst hA
      rw [hts_atS (by omega)] at hy
      injection hy with hy
      have hyb := hat_bd l k
      rw [hy] at hyb
      have HS := Lib.hid (show ars l (k + 1) = if ch = 117 then V + y else V by
        rw [ars, List.getElem?_eq_getElem hlt, hc, HV.out, hy]; simp)
      have k0 : (0 : Int) ≤ (k : Int) := by omega
      have k1 : (k : Int) < (m : Int) := by omega
      clear hy
      by_cases hu : ch = 117
      · have e1 : (((l[k]'hlt).toNat : Int) == 117) = true := by rw [hc, hu]; rfl
        have HU := Lib.hid hu
        clear hc hu
        go_wp2_with fail
        go_round
        case rel => exact ⟨k + 1, by omega, by go_num, by rw [HS.out, if_pos HU.out]⟩
        case measure => simp [intOf]; omega
      · have e1 : (((l[k]'hlt).toNat : Int) == 117) = false := by rw [hc]; exact u8_ne hu
        have HU := Lib.hid hu
        clear hc hu
        go_wp2_with fail
        go_round
        case rel => exact ⟨k + 1, by omega, by go_num, by rw [HS.out, if_neg HU.out]⟩
        case measure => simp [intOf]; omega
    · have hkl : k = l.length := by omega
      have HE := Lib.hid (show ars l l.length = V by rw [← hkl]; exact HV.out.symm)
      clear hkl
      go_wp2_with fail
      go_ret
      exact ⟨ret_int (by rw [HE.out]), hb⟩

end Go.Proofs.Yteiffomekjadgaa
