/- Brackets and depth, both sides. -/
import Derived.Test.YteiffomekjadgaaStaI
import Derived.Test.YteiffomekjadgaaAppB
namespace Go.Proofs.Yteiffomekjadgaa
set_option linter.unusedVariables false
open Go.RowKit

def exF (p x y : UInt8) (c : UInt8) : UInt8 := if c = p then x else y
def brk (l : List UInt8) : List UInt8 := l.map (exF 117 40 41)
theorem brk_len (l : List UInt8) : (brk l).length = l.length := by simp [brk]
theorem brk_at {l : List UInt8} {k : Nat} {c : UInt8} (h : l[k]? = some c) : (brk l)[k]? = some (exF 117 40 41 c) := by unfold brk; rw [List.getElem?_map, h]; rfl
theorem map_take_succ {l : List UInt8} {k : Nat} {c : UInt8} (F : UInt8 → UInt8) (h : l[k]? = some c) : (l.map F).take (k + 1) = (l.map F).take k ++ [F c] := by
  rw [List.take_add_one, List.getElem?_map, h]; rfl
theorem brk_back {l : List UInt8} (hd : dyck l = true) : (brk l).map (exF 40 117 100) = l := by
  unfold brk
  rw [List.map_map]
  apply List.ext_getElem?
  intro k
  rw [List.getElem?_map]
  rcases Nat.lt_or_ge k l.length with hk | hk
  · rcases dk_let hd hk with h | h <;> rw [h] <;> rfl
  · rw [List.getElem?_eq_none hk]; rfl
set_option maxRecDepth 20000 in
set_option maxHeartbeats 2000000 in
theorem exchB (l : List UInt8) (w : World) (hl : l.length ≤ 16) (hm : ∀ (k : Nat) (c : UInt8), l[k]? = some c → c = 117 ∨ c = 100) :
    Calls Try.prog 97 #[.string (bs l), .string (bs [117, 100]), .string (bs [40, 41])] w fun e w' => e = .returned (.tuple #[.string (bs (l.map (exF 117 40 41))), .bool true]) ∧ Below w.heap.size w w' := by
  have HM := Lib.hid hm
  clear hm
  go_enter Try.func97, Try.ntmps97
  go_wp2_with fail
  go_loopw [8, 9] (fun s i wr => ∃ (k : Nat) (A1 : Option Addr) (c1 : Nat), k ≤ l.length ∧ i = .int .i64 k ∧ s = .slice A1 k c1 ∧ Own wr 5 w.heap.size A1 k c1 (bv ((l.map (exF 117 40 41)).take k)) ∧ Below w.heap.size w wr) (fun _ i _ => l.length - (intOf i).toNat)
  case atStart => exact ⟨0, _, _, Nat.zero_le _, rfl, rfl, own_emptyB w, (Below.refl _ _).alloc (Nat.le_refl _) _⟩
  case round =>
    obtain ⟨k, A1, c1, hk, rfl, rfl, hown, hb⟩ := hrel
    have OW := Lib.hid hown
    have hs := hb.size
    clear hown
    by_cases hlt : k < l.length
    · obtain ⟨ch, hc⟩ : ∃ c, l[k] = c := ⟨_, rfl⟩
      have HC := Lib.hid (show l[k]? = some ch by rw [List.getElem?_eq_getElem hlt, hc])
      by_cases hp : ch = 117
      · have e1 : (((l[k]'hlt).toNat : Int) == (([117, 100] : List UInt8)[0].toNat : Int)) = true := by rw [hc, hp]; rfl
        have HN := Lib.hid (show (l.map (exF 117 40 41)).take (k + 1) = (l.map (exF 117 40 41)).take k ++ [40] by rw [map_take_succ _ HC.out, exF, if_pos hp])
        clear hc hp
        go_wp2_with (at_builtin; refine appB _ rfl _ _ rfl w.heap.size A1 k c1 _ rfl (OW.out.alloc _) wr.heap.size 40 rfl (by rw [World.cell?_alloc_new]; rfl) (by omega) hs ?_; intro A' c' w' hown' hg' hb')
        have OW2 := Lib.hid (show Own w' 5 w.heap.size A' (k + 1) c' (bv ((l.map (exF 117 40 41)).take (k + 1))) by rw [HN.out, bv_snoc]; exact hown')
        have hb2 := (hb.alloc hs _).trans hb'
        clear hown' hg' hb'
        go_wp2_with fail
        go_roundw
        case rel => exact ⟨k + 1, A', c', by omega, by go_num, rfl, OW2.out, hb2⟩
        case measure => simp [intOf]; omega
      · have hq : ch = 100 := (HM.out k ch HC.out).resolve_left hp
        have e1 : (((l[k]'hlt).toNat : Int) == (([117, 100] : List UInt8)[0].toNat : Int)) = false := by rw [hc]; exact u8_ne hp
        have e2 : (((l[k]'hlt).toNat : Int) == (([117, 100] : List UInt8)[1].toNat : Int)) = true := by rw [hc, hq]; rfl
        have HN := Lib.hid (show (l.map (exF 117 40 41)).take (k + 1) = (l.map (exF 117 40 41)).take k ++ [41] by rw [map_take_succ _ HC.out, exF, if_neg hp])
        clear hc hp hq
        go_wp2_with (at_builtin; refine appB _ rfl _ _ rfl w.heap.size A1 k c1 _ rfl (OW.out.alloc _) wr.heap.size 41 rfl (by rw [World.cell?_alloc_new]; rfl) (by omega) hs ?_; intro A' c' w' hown' hg' hb')
        have OW2 := Lib.hid (show Own w' 5 w.heap.size A' (k + 1) c' (bv ((l.map (exF 117 40 41)).take (k + 1))) by rw [HN.out, bv_snoc]; exact hown')
        have hb2 := (hb.alloc hs _).trans hb'
        clear hown' hg' hb'
        go_wp2_with fail
        go_roundw
        case rel => exact ⟨k + 1, A', c', by omega, by go_num, rfl, OW2.out, hb2⟩
        case measure => simp [intOf]; omega
    · have hcv := run_cv (P := Try.prog) wr 22 5 9 Try.underlying22 Try.underlying5 Try.underlying9 _ _ _ _ _ _ OW.out
      have HQ := Lib.hid (show (l.map (exF 117 40 41)).take k = l.map (exF 117 40 41) by rw [List.take_of_length_le (by simp; omega)])
      go_wp2_with fail
      go_ret2
      exact ⟨by rw [HQ.out]; rfl, hb⟩
set_option maxRecDepth 20000 in
set_option maxHeartbeats 2000000 in
theorem exchP (l : List UInt8) (w : World) (hl : l.length ≤ 16) (hm : ∀ (k : Nat) (c : UInt8), l[k]? = some c → c = 40 ∨ c = 41) :
    Calls Try.prog 97 #[.string (bs l), .string (bs [40, 41]), .string (bs [117, 100])] w fun e w' => e = .returned (.tuple #[.string (bs (l.map (exF 40 117 100))), .bool true]) ∧ Below w.heap.size w w' := by
  have HM := Lib.hid hm
  clear hm
  go_enter Try.func97, Try.ntmps97
  go_wp2_with fail
  go_loopw [8, 9] (fun s i wr => ∃ (k : Nat) (A1 : Option Addr) (c1 : Nat), k ≤ l.length ∧ i = .int .i64 k ∧ s = .slice A1 k c1 ∧ Own wr 5 w.heap.size A1 k c1 (bv ((l.map (exF 40 117 100)).take k)) ∧ Below w.heap.size w wr) (fun _ i _ => l.length - (intOf i).toNat)
  case atStart => exact ⟨0, _, _, Nat.zero_le _, rfl, rfl, own_emptyB w, (Below.refl _ _).alloc (Nat.le_refl _) _⟩
  case round =>
    obtain ⟨k, A1, c1, hk, rfl, rfl, hown, hb⟩ := hrel
    have OW := Lib.hid hown
    have hs := hb.size
    clear hown
    by_cases hlt : k < l.length
    · obtain ⟨ch, hc⟩ : ∃ c, l[k] = c := ⟨_, rfl⟩
      have HC := Lib.hid (show l[k]? = some ch by rw [List.getElem?_eq_getElem hlt, hc])
      by_cases hp : ch = 40
      · have e1 : (((l[k]'hlt).toNat : Int) == (([40, 41] : List UInt8)[0].toNat : Int)) = true := by rw [hc, hp]; rfl
        have HN := Lib.hid (show (l.map (exF 40 117 100)).take (k + 1) = (l.map (exF 40 117 100)).take k ++ [117] by rw [map_take_succ _ HC.out, exF, if_pos hp])
        clear hc hp
        go_wp2_with (at_builtin; refine appB _ rfl _ _ rfl w.heap.size A1 k c1 _ rfl (OW.out.alloc _) wr.heap.size 117 rfl (by rw [World.cell?_alloc_new]; rfl) (by omega) hs ?_; intro A' c' w' hown' hg' hb')
        have OW2 := Lib.hid (show Own w' 5 w.heap.size A' (k + 1) c' (bv ((l.map (exF 40 117 100)).take (k + 1))) by rw [HN.out, bv_snoc]; exact hown')
        have hb2 := (hb.alloc hs _).trans hb'
        clear hown' hg' hb'
        go_wp2_with fail
        go_roundw
        case rel => exact ⟨k + 1, A', c', by omega, by go_num, rfl, OW2.out, hb2⟩
        case measure => simp [intOf]; omega
      · have hq : ch = 41 := (HM.out k ch HC.out).resolve_left hp
        have e1 : (((l[k]'hlt).toNat : Int) == (([40, 41] : List UInt8)[0].toNat : Int)) = false := by rw [hc]; exact u8_ne hp
        have e2 : (((l[k]'hlt).toNat : Int) == (([40, 41] : List UInt8)[1].toNat : Int)) = true := by rw [hc, hq]; rfl
        have HN := Lib.hid (show (l.map (exF 40 117 100)).take (k + 1) = (l.map (exF 40 117 100)).take k ++ [100] by rw [map_take_succ _ HC.out, exF, if_neg hp])
        clear hc hp hq
        go_wp2_with (at_builtin; refine appB _ rfl _ _ rfl w.heap.size A1 k c1 _ rfl (OW.out.alloc _) wr.heap.size 100 rfl (by rw [World.cell?_alloc_new]; rfl) (by omega) hs ?_; intro A' c' w' hown' hg' hb')
        have OW2 := Lib.hid (show Own w' 5 w.heap.size A' (k + 1) c' (bv ((l.map (exF 40 117 100)).take (k + 1))) by rw [HN.out, bv_snoc]; exact hown')
        have hb2 := (hb.alloc hs _).trans hb'
        clear hown' hg' hb'
        go_wp2_with fail
        go_roundw
        case rel => exact ⟨k + 1, A', c', by omega, by go_num, rfl, OW2.out, hb2⟩
        case measure => simp [intOf]; omega
    · have hcv := run_cv (P := Try.prog) wr 22 5 9 Try.underlying22 Try.underlying5 Try.underlying9 _ _ _ _ _ _ OW.out
      have HQ := Lib.hid (show (l.map (exF 40 117 100)).take k = l.map (exF 40 117 100) by rw [List.take_of_length_le (by simp; omega)])
      go_wp2_with fail
      go_ret2
      exact ⟨by rw [HQ.out]; rfl, hb⟩
set_option maxHeartbeats 1000000 in
theorem implBracketsOf_any (l : List UInt8) (w : World) (hd : dyck l = true) :
    Calls Try.prog 54 #[.string (bs l)] w fun e w' => e = .returned (.tuple #[.string (bs (brk l)), .bool true]) ∧ Below w.heap.size w w' := by
  obtain ⟨h16, _, _⟩ := dyck_pathB hd
  have HD := Lib.hid hd
  have hl9 : l.length ≤ 1000000000 := by omega
  clear hd
  go_enter Try.func54, Try.ntmps54
  go_wp2_with fail
  refine (implIsDyck_any l _ hl9).mono ?_
  rintro e w1 ⟨rfl, hb1⟩
  rw [HD.out]
  go_wp2_with fail
  refine (exchB l _ h16 (fun k c h => by
    have hk := (List.getElem?_eq_some_iff.1 h).1
    rcases dk_let HD.out hk with h2 | h2 <;> rw [h] at h2 <;> injection h2 with h2
    · exact Or.inl h2
    · exact Or.inr h2)).mono ?_
  rintro e w2 ⟨rfl, hb2⟩
  have hb := hb1.trans (hb2.mono hb1.size)
  clear hb1 hb2
  go_wp2_with fail
  go_ret2
  exact ⟨rfl, hb⟩
set_option maxHeartbeats 1000000 in
theorem implPathOfBrackets_brk (l : List UInt8) (w : World) (hd : dyck l = true) :
    Calls Try.prog 98 #[.string (bs (brk l))] w fun e w' => e = .returned (.tuple #[.string (bs l), .bool true]) ∧ Below w.heap.size w w' := by
  obtain ⟨h16, _, _⟩ := dyck_pathB hd
  have HD := Lib.hid hd
  have hl9 : l.length ≤ 1000000000 := by omega
  have hbl : (brk l).length ≤ 16 := by rw [brk_len]; exact h16
  have HBB := Lib.hid (brk_back hd)
  have HMM := Lib.hid (show ∀ (k : Nat) (c : UInt8), (brk l)[k]? = some c → c = 40 ∨ c = 41 by
    intro k c h
    unfold brk at h
    rw [List.getElem?_map, Option.map_eq_some_iff] at h
    obtain ⟨a, _, rfl⟩ := h
    unfold exF
    split
    · exact Or.inl rfl
    · exact Or.inr rfl)
  obtain ⟨T, hT⟩ : ∃ T, T = brk l := ⟨_, rfl⟩
  rw [← hT] at hbl HBB HMM ⊢
  clear hd hT
  go_enter Try.func98, Try.ntmps98
  go_wp2_with fail
  refine (exchP T _ hbl HMM.out).mono ?_
  rintro e w1 ⟨rfl, hb1⟩
  rw [HBB.out]
  go_wp2_with fail
  refine (implIsDyck_any l _ hl9).mono ?_
  rintro e w2 ⟨rfl, hb2⟩
  rw [HD.out]
  have hb := hb1.trans (hb2.mono hb1.size)
  clear hb1 hb2
  go_wp2_with fail
  go_ret2
  exact ⟨rfl, hb⟩
set_option maxHeartbeats 1000000 in
theorem implDepthOf_brk (l : List UInt8) (w : World) (hd : dyck l = true) :
    Calls Try.prog 55 #[.string (bs (brk l))] w fun e w' => e = .returned (.int .i64 (dps l (l.length + 1))) ∧ Below w.heap.size w w' := by
  obtain ⟨h16, _, _⟩ := dyck_pathB hd
  have HD := Lib.hid hd
  have HF := Lib.hid (show htsD l = hts l by unfold htsD; rw [if_pos hd])
  have hl9 : l.length ≤ 1000000000 := by omega
  have PB := Lib.hid (fun w => implPathOfBrackets_brk l w hd)
  obtain ⟨T, hT⟩ : ∃ T, T = brk l := ⟨_, rfl⟩
  rw [← hT] at PB ⊢
  clear hd hT
  go_enter Try.func55, Try.ntmps55
  go_wp2_with fail
  refine (PB.out _).mono ?_
  rintro e w1 ⟨rfl, hb1⟩
  go_wp2_with fail
  refine (implHeightsOf_any l _ hl9).mono ?_
  rintro e w2 ⟨A, m, c, hm, rfl, ho, hb2⟩
  have hb := hb1.trans (hb2.mono hb1.size)
  rw [HF.out] at hm ho
  rw [hts_len] at hm
  have HR := Lib.hid ho.rd
  clear ho hb1 hb2
  go_wp2_with fail
  go_loop [5, 7, 18] (fun t _ i => ∃ k : Nat, k ≤ m ∧ i = .int .i64 k ∧ t = .int .i64 (dps l k)) (fun _ _ i => m - (intOf i).toNat)
  case atStart => exact ⟨0, Nat.zero_le _, rfl, rfl⟩
  case round =>
    obtain ⟨k, hk, rfl, rfl⟩ := hrel
    have hbd := dps_bd l k
    obtain ⟨V, hV⟩ : ∃ V, V = dps l k := ⟨_, rfl⟩
    rw [← hV] at hbd ⊢
    have HV := Lib.hid hV
    clear hV
    by_cases hlt : k < m
    · obtain ⟨bl, off, y, hA, hy, hcy⟩ := HR.out.ati hlt
      subst hA
      rw [hts_atS (by omega)] at hy
      injection hy with hy
      have HS := Lib.hid (show dps l (k + 1) = if V < y then y else V by rw [dps, ← HV.out, hy])
      have i1 : (0 : Int) ≤ (k : Int) := by omega
      have i2 : (k : Int) < (m : Int) := by omega
      clear hy
      by_cases h0 : V < y
      · have hmx : max V y = y := by omega
        have HY := Lib.hid h0
        clear h0
        go_wp2_with fail
        go_round
        case rel => exact ⟨k + 1, by omega, by go_num, by rw [HS.out, if_pos HY.out]⟩
        case measure => simp [intOf]; omega
      · have hmx : max V y = V := by omega
        have HY := Lib.hid h0
        clear h0
        go_wp2_with fail
        go_round
        case rel => exact ⟨k + 1, by omega, by go_num, by rw [HS.out, if_neg HY.out]⟩
        case measure => simp [intOf]; omega
    · have HE := Lib.hid (show dps l (l.length + 1) = V by rw [HV.out]; congr 1; omega)
      go_wp2_with fail
      go_ret
      exact ⟨ret_int (by rw [HE.out]), hb⟩
set_option maxHeartbeats 1000000 in
theorem specBracketsOf_any (l : List UInt8) (w : World) (hd : dyck l = true) :
    Calls Try.prog 66 #[.string (bs l)] w fun e w' => e = .returned (.tuple #[.string (bs (brk l)), .bool true]) ∧ w = w' := by
  obtain ⟨h16, _, _⟩ := dyck_pathB hd
  have HD := Lib.hid hd
  have hl9 : l.length ≤ 1000000000 := by omega
  have HBL := Lib.hid (brk_len l)
  clear hd
  go_enter Try.func66, Try.ntmps66
  go_wp2_with fail
  go_loop [4, 5] (fun s i => ∃ (k : Nat) (t : List UInt8), k ≤ l.length ∧ i = .int .i64 k ∧ s = .string (bs t) ∧ Hid (t = (brk l).take k)) (fun _ i => l.length - (intOf i).toNat)
  case atStart => exact ⟨0, [], Nat.zero_le _, rfl, rfl, Lib.hid rfl⟩
  case round =>
    obtain ⟨k, t, hk, rfl, rfl, HT⟩ := hrel
    have htl : t.length = k := by rw [HT.out, List.length_take, HBL.out]; omega
    have p1 : ¬ 9223372036854775807 < t.length + 1 := by omega
    by_cases hlt : k < l.length
    · obtain ⟨ch, hc⟩ : ∃ c, l[k] = c := ⟨_, rfl⟩
      have HC := Lib.hid (show l[k]? = some ch by rw [List.getElem?_eq_getElem hlt, hc])
      by_cases hp : ch = 117
      · have e1 : (((l[k]'hlt).toNat : Int) == 117) = true := by rw [hc, hp]; rfl
        have HN := Lib.hid (show t ++ [40] = (brk l).take (k + 1) by unfold brk; rw [map_take_succ _ HC.out, exF, if_pos hp, HT.out]; rfl)
        clear hc hp
        go_wp2_with (go_at_call 61; refine (specIsDyck_any l _ hl9).mono ?_; rintro e w' ⟨rfl, rfl⟩; rw [HD.out])
        go_round
        case rel => exact ⟨k + 1, _, by omega, by go_num, rfl, HN⟩
        case measure => simp [intOf]; omega
      · have e1 : (((l[k]'hlt).toNat : Int) == 117) = false := by rw [hc]; exact u8_ne hp
        have HN := Lib.hid (show t ++ [41] = (brk l).take (k + 1) by unfold brk; rw [map_take_succ _ HC.out, exF, if_neg hp, HT.out]; rfl)
        clear hc hp
        go_wp2_with (go_at_call 61; refine (specIsDyck_any l _ hl9).mono ?_; rintro e w' ⟨rfl, rfl⟩; rw [HD.out])
        go_round
        case rel => exact ⟨k + 1, _, by omega, by go_num, rfl, HN⟩
        case measure => simp [intOf]; omega
    · have HE := Lib.hid (show t = brk l by rw [HT.out, List.take_of_length_le (by rw [HBL.out]; omega)])
      go_wp2_with (go_at_call 61; refine (specIsDyck_any l _ hl9).mono ?_; rintro e w' ⟨rfl, rfl⟩; rw [HD.out])
      go_ret2
      rw [← HE.out]
      exact ⟨rfl, rfl⟩
set_option maxHeartbeats 2000000 in
theorem specPathOfBrackets_brk (l : List UInt8) (w : World) (hd : dyck l = true) :
    Calls Try.prog 104 #[.string (bs (brk l))] w fun e w' => e = .returned (.tuple #[.string (bs l), .bool true]) ∧ w = w' := by
  obtain ⟨h16, _, _⟩ := dyck_pathB hd
  have HD := Lib.hid hd
  have hl9 : l.length ≤ 1000000000 := by omega
  have HBL := Lib.hid (brk_len l)
  have HAT := Lib.hid (fun (k : Nat) (c : UInt8) (h : (brk l)[k]? = some c) => show (l[k]? = some 117 ∧ c = 40) ∨ (l[k]? = some 100 ∧ c = 41) by
    have hk := (List.getElem?_eq_some_iff.1 h).1
    rw [brk_len] at hk
    rcases dk_let hd hk with h2 | h2
    · rw [brk_at h2] at h; injection h with h; exact Or.inl ⟨h2, h.symm⟩
    · rw [brk_at h2] at h; injection h with h; exact Or.inr ⟨h2, h.symm⟩)
  obtain ⟨T, hT⟩ : ∃ T, T = brk l := ⟨_, rfl⟩
  rw [← hT] at HBL HAT ⊢
  have hbl : T.length ≤ 16 := by rw [HBL.out]; exact h16
  have i16 : (T.length : Int) ≤ 16 := by omega
  have i17 : ¬ (16 : Int) < (T.length : Int) := by omega
  clear hd hT
  go_enter Try.func104, Try.ntmps104
  go_wp2_with fail
  go_loop [4, 5] (fun s i => ∃ (k : Nat) (t : List UInt8), k ≤ T.length ∧ i = .int .i64 k ∧ s = .string (bs t) ∧ Hid (t = l.take k)) (fun _ i => T.length - (intOf i).toNat)
  case atStart => exact ⟨0, [], Nat.zero_le _, rfl, rfl, Lib.hid rfl⟩
  case round =>
    obtain ⟨k, t, hk, rfl, rfl, HT⟩ := hrel
    have htl : t.length ≤ 16 := by rw [HT.out, List.length_take]; omega
    have p1 : ¬ 9223372036854775807 < t.length + 1 := by omega
    by_cases hlt : k < T.length
    · obtain ⟨ch, hc⟩ : ∃ c, T[k] = c := ⟨_, rfl⟩
      have h0 := HAT.out k ch (by rw [List.getElem?_eq_getElem hlt, hc])
      rcases h0 with ⟨hl, hp⟩ | ⟨hl, hp⟩
      · have e1 : (((T[k]'hlt).toNat : Int) == 40) = true := by rw [hc, hp]; rfl
        have HN := Lib.hid (show t ++ [117] = l.take (k + 1) by rw [List.take_add_one, hl, HT.out]; rfl)
        clear hc hp hl
        go_wp2_with fail
        go_round
        case rel => exact ⟨k + 1, _, by omega, by go_num, rfl, HN⟩
        case measure => simp [intOf]; omega
      · have e1 : (((T[k]'hlt).toNat : Int) == 40) = false := by rw [hc, hp]; rfl
        have e2 : (((T[k]'hlt).toNat : Int) == 41) = true := by rw [hc, hp]; rfl
        have HN := Lib.hid (show t ++ [100] = l.take (k + 1) by rw [List.take_add_one, hl, HT.out]; rfl)
        clear hc hp hl
        go_wp2_with fail
        go_round
        case rel => exact ⟨k + 1, _, by omega, by go_num, rfl, HN⟩
        case measure => simp [intOf]; omega
    · have HE := Lib.hid (show t = l by rw [HT.out, List.take_of_length_le (by have := HBL.out; omega)])
      go_wp2_with (go_at_call 61; rw [HE.out]; refine (specIsDyck_any l _ hl9).mono ?_; rintro e w' ⟨rfl, rfl⟩; rw [HD.out])
      go_ret2
      exact ⟨rfl, rfl⟩
set_option maxHeartbeats 1000000 in
theorem specDepthOf_brk (l : List UInt8) (w : World) (hd : dyck l = true) :
    Calls Try.prog 67 #[.string (bs (brk l))] w fun e w' => e = .returned (.int .i64 (dps l (l.length + 1))) ∧ Below w.heap.size w w' := by
  obtain ⟨h16, _, _⟩ := dyck_pathB hd
  have HF := Lib.hid (show htsD l = hts l by unfold htsD; rw [if_pos hd])
  have hl9 : l.length ≤ 1000000000 := by omega
  have PB := Lib.hid (fun w => specPathOfBrackets_brk l w hd)
  obtain ⟨T, hT⟩ : ∃ T, T = brk l := ⟨_, rfl⟩
  rw [← hT] at PB ⊢
  clear hd hT
  go_enter Try.func67, Try.ntmps67
  go_wp2_with fail
  refine (PB.out _).mono ?_
  rintro e w1 ⟨rfl, rfl⟩
  go_wp2_with fail
  refine (specHeightsOf_any l _ hl9).mono ?_
  rintro e w2 ⟨A, m, c, hm, rfl, ho, hb⟩
  rw [HF.out] at hm ho
  rw [hts_len] at hm
  have HR := Lib.hid ho.rd
  clear ho
  go_wp2_with fail
  go_loop [6, 7] (fun t i => ∃ k : Nat, k ≤ m ∧ i = .int .i64 k ∧ t = .int .i64 (dps l k)) (fun _ i => m - (intOf i).toNat)
  case atStart => exact ⟨0, Nat.zero_le _, rfl, rfl⟩
  case round =>
    obtain ⟨k, hk, rfl, rfl⟩ := hrel
    have hbd := dps_bd l k
    obtain ⟨V, hV⟩ : ∃ V, V = dps l k := ⟨_, rfl⟩
    rw [← hV] at hbd ⊢
    have HV := Lib.hid hV
    clear hV
    by_cases hlt : k < m
    · obtain ⟨bl, off, y, hA, hy, hcy⟩ := HR.out.ati hlt
      subst hA
      rw [hts_atS (by omega)] at hy
      injection hy with hy
      have HS := Lib.hid (show dps l (k + 1) = if V < y then y else V by rw [dps, ← HV.out, hy])
      have i1 : (0 : Int) ≤ (k : Int) := by omega
      have i2 : (k : Int) < (m : Int) := by omega
      clear hy
      by_cases h0 : V < y
      · have hmx : max V y = y := by omega
        have HY := Lib.hid h0
        clear h0
        go_wp2_with fail
        go_round
        case rel => exact ⟨k + 1, by omega, by go_num, by rw [HS.out, if_pos HY.out]⟩
        case measure => simp [intOf]; omega
      · have hmx : max V y = V := by omega
        have HY := Lib.hid h0
        clear h0
        go_wp2_with fail
        go_round
        case rel => exact ⟨k + 1, by omega, by go_num, by rw [HS.out, if_neg HY.out]⟩
        case measure => simp [intOf]; omega
    · have HE := Lib.hid (show dps l (l.length + 1) = V by rw [HV.out]; congr 1; omega)
      go_wp2_with fail
      go_ret
      exact ⟨ret_int (by rw [HE.out]), hb⟩

end Go.Proofs.Yteiffomekjadgaa
