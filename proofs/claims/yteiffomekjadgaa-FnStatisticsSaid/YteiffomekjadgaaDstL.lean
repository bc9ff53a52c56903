/- How often a statistic takes each value. No program is named here. -/
import Derived.Test.YteiffomekjadgaaStaT
import Derived.Test.YteiffomekjadgaaTot
import Derived.Test.YteiffomekjadgaaHas
import Derived.Test.YteiffomekjadgaaCatI
namespace Go.Proofs.Yteiffomekjadgaa
set_option linter.unusedVariables false
open Go.RowKit

def snames : List (List UInt8) := [[112, 101, 97, 107, 115], [114, 101, 116, 117, 114, 110, 115], [114, 105, 115, 101], [97, 114, 101, 97], [100, 101, 112, 116, 104], [108, 101, 97, 118, 101, 115], [98, 108, 111, 99, 107, 115], [109, 97, 106, 111, 114], [102, 97, 108, 108]]
theorem stN_bd {l : List UInt8} (hd : dyck l = true) (f : List UInt8) : -1 ≤ stN f l ∧ stN f l ≤ 300 := by
  obtain ⟨h16, hok, _⟩ := dyck_pathB hd
  have h1 := pk_le l (l.length - 1)
  have h2 := rtn_le l l.length
  have h3 := runC_le 117 l
  have h4 := runC_le 100 l.reverse
  rw [List.length_reverse] at h4
  have h5 := ars_bd hok h16 l.length (Nat.le_refl _)
  have h6 := dps_bd l (l.length + 1)
  have h7 : mjr l (l.length - 1) ≤ 256 := Nat.le_trans (mjr_le l (l.length - 1)) (Nat.mul_le_mul (show l.length - 1 ≤ 16 by omega) (show l.length - 1 ≤ 16 by omega))
  have h8 : lvN l ≤ 17 := by unfold lvN; split <;> omega
  unfold stN
  repeat' split
  all_goals omega
theorem stN_nn {l : List UInt8} (hd : dyck l = true) {f : List UInt8} (hf : f ∈ snames) : 0 ≤ stN f l := by
  obtain ⟨h16, hok, _⟩ := dyck_pathB hd
  have h5 := ars_bd hok h16 l.length (Nat.le_refl _)
  have h6 := dps_bd l (l.length + 1)
  simp only [snames, List.mem_cons, List.not_mem_nil, or_false] at hf
  rcases hf with rfl | rfl | rfl | rfl | rfl | rfl | rfl | rfl | rfl
  · exact Int.natCast_nonneg _
  · exact Int.natCast_nonneg _
  · exact Int.natCast_nonneg _
  · exact h5.1
  · exact h6.1
  · exact Int.natCast_nonneg _
  · exact Int.natCast_nonneg _
  · exact Int.natCast_nonneg _
  · exact Int.natCast_nonneg _
theorem stN_no {l f : List UInt8} (hf : f ∉ snames) : stN f l = -1 := by
  simp only [snames, List.mem_cons, List.not_mem_nil, or_false, not_or] at hf
  obtain ⟨h1, h2, h3, h4, h5, h6, h7, h8, h9⟩ := hf
  unfold stN
  simp only [h1, h2, h3, h4, h5, h6, h7, h8, h9, if_false]
theorem sttB_nil (f : List UInt8) : (sttB f [] < 0) ↔ f ∉ snames := by
  have e : sttB f [] = stN f [] := by unfold sttB; rw [if_pos (by decide)]
  rw [e]
  constructor
  · intro h hf
    have := stN_nn (l := []) (by decide) hf
    omega
  · intro h
    rw [stN_no h]; decide

def padZ (l : List Int) (n : Nat) : List Int := l ++ List.replicate (n - l.length) 0
def incZ (l : List Int) (k : Nat) : List Int := (padZ l (k + 1)).set k ((padZ l (k + 1)).getD k 0 + 1)
theorem padZ_len (l : List Int) (n : Nat) : (padZ l n).length = max l.length n := by
  unfold padZ; rw [List.length_append, List.length_replicate]; omega
theorem incZ_len (l : List Int) (k : Nat) : (incZ l k).length = max l.length (k + 1) := by unfold incZ; rw [List.length_set, padZ_len]
theorem padZ_snoc {l : List Int} {e : Nat} (h : l.length ≤ e) : padZ l (e + 1) = padZ l e ++ [0] := by
  unfold padZ
  rw [show e + 1 - l.length = (e - l.length) + 1 by omega, List.replicate_succ', List.append_assoc]
theorem padZ_self {l : List Int} {e : Nat} (h : e ≤ l.length) : padZ l e = l := by
  unfold padZ
  rw [show e - l.length = 0 by omega]; simp
theorem getD_padZ (l : List Int) (n k : Nat) : (padZ l n).getD k 0 = l.getD k 0 := by
  unfold padZ
  rw [List.getD_eq_getElem?_getD, List.getD_eq_getElem?_getD]
  rcases Nat.lt_or_ge k l.length with h | h
  · rw [List.getElem?_append_left h]
  · rw [List.getElem?_append_right h, List.getElem?_eq_none h, List.getElem?_replicate]
    split <;> rfl
theorem incZ_get (l : List Int) (k i : Nat) : (incZ l k).getD i 0 = l.getD i 0 + if i = k then 1 else 0 := by
  unfold incZ
  rw [List.getD_eq_getElem?_getD, List.getElem?_set]
  by_cases h : k = i
  · subst h
    rw [if_pos rfl, if_pos (by rw [padZ_len]; omega), if_pos rfl, getD_padZ]; rfl
  · rw [if_neg h, if_neg (fun e => h e.symm), ← List.getD_eq_getElem?_getD, getD_padZ]; simp
theorem incZ_set {l : List Int} {k : Nat} {x : Int} (h : (padZ l (k + 1))[k]? = some x) : (padZ l (k + 1)).set k (x + 1) = incZ l k := by
  unfold incZ
  rw [List.getD_eq_getElem?_getD, h]; rfl
theorem smI_inc (l : List Int) (k : Nat) : ∀ n, smI (incZ l k) n = smI l n + if k < n then 1 else 0
  | 0 => by simp [smI]
  | n + 1 => by
    rw [smI, smI, smI_inc l k n, incZ_get]
    by_cases h1 : k < n
    · rw [if_pos h1, if_neg (by omega), if_pos (by omega)]; omega
    · by_cases h2 : n = k
      · rw [if_neg h1, if_pos h2, if_pos (by omega)]; omega
      · rw [if_neg h1, if_neg h2, if_neg (by omega)]; omega
theorem smI_ge (l : List Int) : ∀ n, l.length ≤ n → smI l n = smI l l.length := by
  intro n hn
  induction n with
  | zero => rw [show l.length = 0 by omega]
  | succ n ih =>
    by_cases e : l.length = n + 1
    · rw [e]
    · rw [smI, ih (by omega), List.getD_eq_getElem?_getD, List.getElem?_eq_none (by omega)]; simp

/-- The counts behind the first j words. -/
def dstL (f : List UInt8) (ws : List (List UInt8)) : Nat → List Int
  | 0 => []
  | j + 1 => incZ (dstL f ws j) (sttB f (ws.getD j [])).toNat
theorem dstL_step {f : List UInt8} {ws : List (List UInt8)} {j : Nat} {x : List UInt8} (h : ws[j]? = some x) : dstL f ws (j + 1) = incZ (dstL f ws j) (sttB f x).toNat := by
  rw [dstL, List.getD_eq_getElem?_getD, h]; rfl
theorem dstL_bd (f : List UInt8) (ws : List (List UInt8)) (k : Nat) : ∀ j : Nat, 0 ≤ (dstL f ws j).getD k 0 ∧ (dstL f ws j).getD k 0 ≤ j
  | 0 => by simp [dstL]
  | j + 1 => by
    have := dstL_bd f ws k j
    rw [dstL, incZ_get]
    split <;> omega
theorem dstL_len {f : List UInt8} {ws : List (List UInt8)} (h : ∀ x ∈ ws, (sttB f x).toNat ≤ 300) : ∀ j : Nat, j ≤ ws.length → (dstL f ws j).length ≤ 301
  | 0, _ => by simp [dstL]
  | j + 1, hj => by
    have ih := dstL_len h j (by omega)
    rw [dstL, incZ_len]
    have := h (ws.getD j []) (by rw [List.getD_eq_getElem?_getD, List.getElem?_eq_getElem (by omega)]; exact List.getElem_mem _)
    omega
theorem dstL_sum (f : List UInt8) (ws : List (List UInt8)) : ∀ j : Nat, smI (dstL f ws j) (dstL f ws j).length = j
  | 0 => rfl
  | j + 1 => by
    have ih := dstL_sum f ws j
    have h1 := incZ_len (dstL f ws j) (sttB f (ws.getD j [])).toNat
    rw [dstL, smI_inc, if_pos (by rw [h1]; omega), smI_ge _ _ (by rw [h1]; omega), ih]; rfl
theorem dstL_smI (f : List UInt8) (ws : List (List UInt8)) (j : Nat) : ∀ i : Nat, 0 ≤ smI (dstL f ws j) i ∧ smI (dstL f ws j) i ≤ j
  | i => by
    have hb := dstL_bd f ws
    have mono : ∀ i, 0 ≤ smI (dstL f ws j) i ∧ smI (dstL f ws j) i ≤ smI (dstL f ws j) (i + 1) := by
      intro i
      induction i with
      | zero => have := hb 0 j; simp only [smI]; omega
      | succ i ih => have h1 := hb (i + 1) j; have h2 := ih; rw [smI] at h2 ⊢; rw [smI]; rw [smI] at *; omega
    have up : ∀ d, smI (dstL f ws j) i ≤ smI (dstL f ws j) (i + d) := by
      intro d
      induction d with
      | zero => exact Int.le_refl _
      | succ d ih => exact Int.le_trans ih (mono (i + d)).2
    refine ⟨(mono i).1, ?_⟩
    have h1 := up (dstL f ws j).length
    rw [smI_ge _ (i + (dstL f ws j).length) (by omega), dstL_sum] at h1
    exact h1
/-- The distribution that both sides hand back. -/
def dstP (f : List UInt8) (n : Int) : List Int × Bool := if inB n 0 6 && hasB snames f then (dstL f (paths n.toNat) (paths n.toNat).length, true) else ([], false)
theorem paths_wd {n : Nat} (hn : n ≤ 6) {x : List UInt8} (hx : x ∈ paths n) : dyck x = true ∧ goodB x = true ∧ x.length ≤ 12 := by
  have h1 : ∀ n, n < 7 → ((paths n).all fun x => dyck x && decide (x.length ≤ 12)) = true := by decide +kernel
  have h2 := List.all_eq_true.1 (h1 n (by omega)) x hx
  rw [Bool.and_eq_true, decide_eq_true_eq] at h2
  exact ⟨h2.1, good_p hn hx, h2.2⟩
theorem paths_cat : ∀ n : Nat, n < 7 → ((paths n).length : Int) = catN (n : Int) := by decide +kernel
theorem paths_n132 : ∀ n : Nat, n < 7 → (paths n).length ≤ 132 := by decide +kernel
theorem sttB_dyck {f x : List UInt8} (h : dyck x = true) : sttB f x = stN f x := by unfold sttB; rw [h]; rfl
theorem dst_tot {f : List UInt8} {n : Int} (h : (dstP f n).2 = true) : smI (dstP f n).1 (dstP f n).1.length = catN n := by
  unfold dstP at h ⊢
  rcases hb : (inB n 0 6 && hasB snames f) with _ | _
  · rw [hb] at h; cases h
  · rw [Bool.and_eq_true] at hb
    obtain ⟨h1, h2⟩ := inB_iff.1 hb.1
    obtain ⟨N, rfl⟩ := Int.eq_ofNat_of_zero_le h1
    rw [if_pos rfl, Int.toNat_natCast]
    show smI (dstL f (paths N) (paths N).length) (dstL f (paths N) (paths N).length).length = _
    rw [dstL_sum, paths_cat N (by omega)]
theorem dst_len (f : List UInt8) (n : Int) : (dstP f n).1.length ≤ 301 := by
  unfold dstP
  rcases hb : (inB n 0 6 && hasB snames f) with _ | _
  · exact Nat.zero_le _
  · rw [Bool.and_eq_true] at hb
    obtain ⟨h1, h2⟩ := inB_iff.1 hb.1
    obtain ⟨N, rfl⟩ := Int.eq_ofNat_of_zero_le h1
    rw [if_pos rfl, Int.toNat_natCast]
    exact dstL_len (fun x hx => by
      have hd := (paths_wd (by omega) hx).1
      have := stN_bd hd f
      rw [sttB_dyck hd]; omega) _ (Nat.le_refl _)
theorem dst_smI (f : List UInt8) (n : Int) (i : Nat) : 0 ≤ smI (dstP f n).1 i ∧ smI (dstP f n).1 i ≤ 1000000 := by
  unfold dstP
  rcases hb : (inB n 0 6 && hasB snames f) with _ | _
  · have : ∀ i, smI ([] : List Int) i = 0 := fun i => by
      induction i with
      | zero => rfl
      | succ i ih => rw [smI, ih]; rfl
    show 0 ≤ smI [] i ∧ smI [] i ≤ 1000000
    rw [this]; omega
  · rw [Bool.and_eq_true] at hb
    obtain ⟨h1, h2⟩ := inB_iff.1 hb.1
    obtain ⟨N, rfl⟩ := Int.eq_ofNat_of_zero_le h1
    rw [if_pos rfl, Int.toNat_natCast]
    have h3 := dstL_smI f (paths N) (paths N).length i
    have h4 := paths_n132 N (by omega)
    exact ⟨h3.1, Int.le_trans h3.2 (by omega)⟩

end Go.Proofs.Yteiffomekjadgaa
