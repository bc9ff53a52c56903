/- The plane tree of a path, as facts on lists. No program is named here. -/
import Derived.Test.YteiffomekjadgaaStaS
namespace Go.Proofs.Yteiffomekjadgaa
set_option linter.unusedVariables false
open Go.RowKit

theorem stkS_len {l : List UInt8} {k : Nat} (h : okB l k = true) : (stkS l k).length = (hat l k).toNat + 1 := by unfold stkS; rw [List.length_cons, opP_len _ h]
theorem stkS_u {l : List UInt8} {k : Nat} (h : l[k]? = some 117) : stkS l (k + 1) = stkS l k ++ [((ups l k + 1 : Nat) : Int)] := by
  unfold stkS; rw [opP, if_pos h]; rfl
theorem stkS_d {l : List UInt8} {k : Nat} (hok : okB l k = true) (h : ¬ l[k]? = some 117) (hd : 1 ≤ hat l k) : stkS l (k + 1) = (stkS l k).take ((stkS l k).length - 1) := by
  have h1 := opP_len (fun j => ups l j + 1) hok
  unfold stkS
  rw [opP, if_neg h, List.length_cons]
  obtain ⟨m, hm⟩ : ∃ m, (opP (fun j => ups l j + 1) l k).length = m + 1 := ⟨(opP (fun j => ups l j + 1) l k).length - 1, by omega⟩
  rw [hm]; rfl
theorem stk_mem {l : List UInt8} {k : Nat} {x : Int} (h : x ∈ stkS l k) : ∃ j : Nat, x = (j : Int) ∧ j ≤ ups l k := by
  unfold stkS at h
  rw [List.mem_cons] at h
  rcases h with rfl | h
  · exact ⟨0, rfl, Nat.zero_le _⟩
  · obtain ⟨j, a, b, c⟩ := opP_mem _ h
    exact ⟨ups l j + 1, c, ups_lt a b⟩
theorem stk_top (l : List UInt8) (k : Nat) : (stkS l k)[(stkS l k).length - 1]? = some (tpS l k : Int) ∧ tpS l k ≤ ups l k := by
  have hlt : (stkS l k).length - 1 < (stkS l k).length := by unfold stkS; simp
  obtain ⟨j, hj, hj2⟩ := stk_mem (List.getElem_mem hlt)
  have e : tpS l k = j := by
    unfold tpS
    rw [List.getD_eq_getElem?_getD, List.getElem?_eq_getElem hlt, hj]; simp
  rw [e, List.getElem?_eq_getElem hlt, hj]
  exact ⟨rfl, hj2⟩
theorem tp_u {l : List UInt8} {k : Nat} (h : l[k]? = some 117) : tpS l (k + 1) = ups l k + 1 := by
  unfold tpS
  rw [stkS_u h, List.length_append, List.length_singleton, Nat.add_sub_cancel, List.getD_eq_getElem?_getD, List.getElem?_append_right (Nat.le_refl _), Nat.sub_self]
  simp
theorem tp_d {l : List UInt8} (ht : tpB l = true) {k : Nat} (hk : k < l.length) (h : ¬ l[k]? = some 117) : (plP l k)[tpS l k]? = some (tpS l (k + 1) : Int) := by
  unfold tpB at ht
  rw [List.all_eq_true] at ht
  have h1 := ht k (List.mem_range.2 hk)
  rw [Bool.or_eq_true, beq_iff_eq, beq_iff_eq] at h1
  have h2 := h1.resolve_left h
  have h3 := (stk_top l k).2
  have h4 := plP_len l k
  rw [List.getD_eq_getElem?_getD, List.getElem?_eq_getElem (by omega)] at h2
  rw [List.getElem?_eq_getElem (by omega)]
  exact congrArg some h2
/-- A list of parents that fits, in words. -/
structure PlOk (p : List Int) (n : Nat) : Prop where
  len : p.length = n
  lo : 1 ≤ n
  hi : n ≤ 9
  root : p[0]? = some (-1)
  par : ∀ (i : Nat) (x : Int), 1 ≤ i → p[i]? = some x → 0 ≤ x ∧ x < i ∧ onCh p 10 (i - 1) x = true
theorem plOk {p : List Int} (h : planeB p = true) : PlOk p p.length := by
  unfold planeB at h
  rw [Bool.and_eq_true, Bool.and_eq_true, Bool.and_eq_true, decide_eq_true_eq, decide_eq_true_eq, beq_iff_eq, List.all_eq_true] at h
  obtain ⟨⟨⟨h1, h2⟩, h3⟩, h4⟩ := h
  refine ⟨rfl, h1, h2, ?_, fun i x hi hx => ?_⟩
  · rw [List.getD_eq_getElem?_getD, List.getElem?_eq_getElem (by omega)] at h3
    rw [List.getElem?_eq_getElem (by omega)]
    exact congrArg some h3
  · have hlt := (List.getElem?_eq_some_iff.1 hx).1
    have h5 := h4 i (List.mem_range.2 hlt)
    rw [Bool.or_eq_true, beq_iff_eq, Bool.and_eq_true, Bool.and_eq_true, decide_eq_true_eq, decide_eq_true_eq] at h5
    have h6 := h5.resolve_left (by omega)
    rw [List.getD_eq_getElem?_getD, hx] at h6
    exact ⟨h6.1.1, h6.1.2, h6.2⟩
theorem onCh_step {p : List Int} {F v : Nat} {x : Int} (h : onCh p F v x = true) (hx : ¬ (v : Int) = x) : v ≠ 0 ∧ ∃ G, onCh p G (p.getD v 0).toNat x = true := by
  cases F with
  | zero => cases h
  | succ F =>
    rw [onCh, Bool.or_eq_true, beq_iff_eq, Bool.and_eq_true] at h
    rcases h with h | h
    · exact absurd h.symm hx
    · refine ⟨?_, F, h.2⟩
      intro hv; rw [hv] at h; simp at h
theorem chP_1 {p : List Int} {n : Nat} (h : PlOk p n) (v : Nat) : chP p v 1 = [] := by
  rw [chP, List.getD_eq_getElem?_getD, h.root, if_neg (show ¬ ((some (-1 : Int)).getD 0 = (v : Int)) from fun h => by have h2 : (-1 : Int) = (v : Int) := h; omega)]; rfl
theorem goodB_at {l : List UInt8} (h : goodB l = true) : tpB l = true ∧ PlOk (plP l l.length) (plP l l.length).length ∧ lvP (plP l l.length) (plP l l.length).length = lvN l ∧ blkB (parI l).1 (pk l (l.length - 1)) = true ∧ blkB (parS l).1 (pk l (l.length - 1)) = true := by
  unfold goodB at h
  rw [Bool.and_eq_true, Bool.and_eq_true, Bool.and_eq_true, Bool.and_eq_true, beq_iff_eq] at h
  exact ⟨h.1.1.1.1, plOk h.1.1.1.2, h.1.1.2, h.1.2, h.2⟩

end Go.Proofs.Yteiffomekjadgaa
