/- Two statistics side by side: the table of counts. No program is named here. -/
import Derived.Test.YteiffomekjadgaaDstL
namespace Go.Proofs.Yteiffomekjadgaa
set_option linter.unusedVariables false
open Go.RowKit

def upd2 (R : List (List Int)) (s t : Nat) : List (List Int) := R.set s ((R.getD s []).set t ((R.getD s []).getD t 0 + 1))
def zeros (M t : Nat) : List (List Int) := List.replicate t (List.replicate M 0)
def jtL (a b : List UInt8) (ws : List (List UInt8)) (M : Nat) : Nat → List (List Int)
  | 0 => zeros M M
  | j + 1 => upd2 (jtL a b ws M j) (sttB a (ws.getD j [])).toNat (sttB b (ws.getD j [])).toNat
theorem jtL_step {a b : List UInt8} {ws : List (List UInt8)} {M j : Nat} {x : List UInt8} (h : ws[j]? = some x) : jtL a b ws M (j + 1) = upd2 (jtL a b ws M j) (sttB a x).toNat (sttB b x).toNat := by
  rw [jtL, List.getD_eq_getElem?_getD, h]; rfl
theorem jtL_len (a b : List UInt8) (ws : List (List UInt8)) (M : Nat) : ∀ j, (jtL a b ws M j).length = M
  | 0 => by simp [jtL, zeros]
  | j + 1 => by rw [jtL, upd2, List.length_set, jtL_len a b ws M j]
theorem jtL_row (a b : List UInt8) (ws : List (List UInt8)) (M : Nat) : ∀ (j i : Nat) (r : List Int), (jtL a b ws M j)[i]? = some r → r.length = M ∧ ∀ k, 0 ≤ r.getD k 0 ∧ r.getD k 0 ≤ j
  | 0, i, r, h => by
    unfold jtL zeros at h
    rw [List.getElem?_replicate] at h
    split at h
    · injection h with h
      subst h
      refine ⟨by simp, fun k => ?_⟩
      rw [List.getD_eq_getElem?_getD, List.getElem?_replicate]
      split <;> simp
    · cases h
  | j + 1, i, r, h => by
    have ih := jtL_row a b ws M j
    rw [jtL, upd2, List.getElem?_set] at h
    split at h
    · split at h
      · next e hl =>
        injection h with h
        obtain ⟨r0, hr0⟩ : ∃ r0, (jtL a b ws M j)[i]? = some r0 := ⟨_, List.getElem?_eq_getElem (by omega)⟩
        obtain ⟨i1, i2⟩ := ih i r0 hr0
        rw [e, List.getD_eq_getElem?_getD, hr0] at h
        subst h
        refine ⟨by simpa using i1, fun k => ?_⟩
        have hk := i2 k
        rw [List.getD_eq_getElem?_getD, List.getElem?_set]
        split
        · split
          · next e2 _ => have h3 := i2 (sttB b (ws.getD j [])).toNat; show 0 ≤ r0.getD _ 0 + 1 ∧ r0.getD _ 0 + 1 ≤ _; omega
          · simp; omega
        · rw [← List.getD_eq_getElem?_getD]; show 0 ≤ r0.getD k 0 ∧ r0.getD k 0 ≤ _; omega
      · cases h
    · obtain ⟨i1, i2⟩ := ih i r h
      exact ⟨i1, fun k => by have := i2 k; omega⟩
theorem smI_set (l : List Int) (t : Nat) (ht : t < l.length) : ∀ n, smI (l.set t (l.getD t 0 + 1)) n = smI l n + if t < n then 1 else 0
  | 0 => by simp [smI]
  | n + 1 => by
    have e : (l.set t (l.getD t 0 + 1)).getD n 0 = l.getD n 0 + if t = n then 1 else 0 := by
      rw [List.getD_eq_getElem?_getD, List.getElem?_set]
      by_cases h : t = n
      · subst h
        rw [if_pos rfl, if_pos ht, if_pos rfl]; rfl
      · rw [if_neg h, if_neg h, ← List.getD_eq_getElem?_getD]; simp
    rw [smI, smI, smI_set l t ht n, e]
    by_cases h1 : t < n
    · rw [if_pos h1, if_neg (by omega), if_pos (by omega)]; omega
    · by_cases h2 : t = n
      · rw [if_neg h1, if_pos h2, if_pos (by omega)]; omega
      · rw [if_neg h1, if_neg h2, if_neg (by omega)]; omega
/-- The sum of the first i rows. -/
def smR (R : List (List Int)) (M : Nat) : Nat → Int
  | 0 => 0
  | i + 1 => smR R M i + smI (R.getD i []) M
theorem smR_zero (M t : Nat) : ∀ i, smR (zeros M t) M i = 0
  | 0 => rfl
  | i + 1 => by
    have h0 : ∀ n, smI (List.replicate M (0 : Int)) n = 0 := fun n => by
      induction n with
      | zero => rfl
      | succ n ih => rw [smI, ih, List.getD_eq_getElem?_getD, List.getElem?_replicate]; split <;> rfl
    have h1 : ∀ n, smI ([] : List Int) n = 0 := fun n => by
      induction n with
      | zero => rfl
      | succ n ih => rw [smI, ih]; rfl
    rw [smR, smR_zero M t i]
    unfold zeros
    rw [List.getD_eq_getElem?_getD, List.getElem?_replicate]
    split
    · show 0 + smI (List.replicate M 0) M = 0; rw [h0]; rfl
    · show 0 + smI [] M = 0; rw [h1]; rfl
theorem smR_upd {R : List (List Int)} {M s t : Nat} {r : List Int} (hr : R[s]? = some r) (hl : r.length = M) (ht : t < M) : ∀ i, smR (upd2 R s t) M i = smR R M i + if s < i then 1 else 0
  | 0 => by simp [smR]
  | i + 1 => by
    have hs := (List.getElem?_eq_some_iff.1 hr).1
    have hrd : R.getD s [] = r := by rw [List.getD_eq_getElem?_getD, hr]; rfl
    have e : smI ((upd2 R s t).getD i []) M = smI (R.getD i []) M + if s = i then 1 else 0 := by
      unfold upd2
      rw [List.getD_eq_getElem?_getD, List.getElem?_set]
      by_cases h : s = i
      · subst h
        rw [if_pos rfl, if_pos hs, if_pos rfl, hrd]
        show smI (r.set t (r.getD t 0 + 1)) M = _
        rw [smI_set r t (by omega), if_pos ht]
      · rw [if_neg h, if_neg h, ← List.getD_eq_getElem?_getD]; simp
    rw [smR, smR, smR_upd hr hl ht i, e]
    by_cases h1 : s < i
    · rw [if_pos h1, if_neg (by omega), if_pos (by omega)]; omega
    · by_cases h2 : s = i
      · rw [if_neg h1, if_pos h2, if_pos (by omega)]; omega
      · rw [if_neg h1, if_neg h2, if_neg (by omega)]; omega
theorem dst_mono (f : List UInt8) (ws : List (List UInt8)) (j : Nat) : ∀ d, (dstL f ws j).length ≤ (dstL f ws (j + d)).length
  | 0 => Nat.le_refl _
  | d + 1 => by
    have := dst_mono f ws j d
    rw [← Nat.add_assoc, dstL, incZ_len]; omega
theorem dst_lt {f : List UInt8} {ws : List (List UInt8)} {j : Nat} {x : List UInt8} (h : ws[j]? = some x) : (sttB f x).toNat < (dstL f ws ws.length).length := by
  have hj := (List.getElem?_eq_some_iff.1 h).1
  have h1 := dst_mono f ws (j + 1) (ws.length - (j + 1))
  rw [show j + 1 + (ws.length - (j + 1)) = ws.length by omega, dstL_step h, incZ_len] at h1
  omega
def jtM (a b : List UInt8) (n : Nat) : Nat := max (dstL a (paths n) (paths n).length).length (dstL b (paths n) (paths n).length).length
def jtP (a b : List UInt8) (n : Int) : List (List Int) × Bool := if inB n 0 6 && hasB snames a && hasB snames b then (jtL a b (paths n.toNat) (jtM a b n.toNat) (paths n.toNat).length, true) else ([], false)
theorem jtL_sum {a b : List UInt8} {n : Nat} : ∀ j, j ≤ (paths n).length → smR (jtL a b (paths n) (jtM a b n) j) (jtM a b n) (jtM a b n) = j
  | 0, _ => smR_zero _ _ _
  | j + 1, hj => by
    obtain ⟨x, hx⟩ : ∃ x, (paths n)[j]? = some x := ⟨_, List.getElem?_eq_getElem (by omega)⟩
    have h1 := dst_lt (f := a) hx
    have h2 := dst_lt (f := b) hx
    have hlen := jtL_len a b (paths n) (jtM a b n) j
    have hs : (sttB a x).toNat < jtM a b n := by unfold jtM; omega
    have ht : (sttB b x).toNat < jtM a b n := by unfold jtM; omega
    obtain ⟨r, hr⟩ : ∃ r, (jtL a b (paths n) (jtM a b n) j)[(sttB a x).toNat]? = some r := ⟨_, List.getElem?_eq_getElem (by omega)⟩
    rw [jtL_step hx, smR_upd hr (jtL_row a b _ _ j _ r hr).1 ht, jtL_sum j (by omega), if_pos hs]; rfl
def symE (R : List (List Int)) (i k : Nat) : Prop := (R.getD i []).getD k 0 = (R.getD k []).getD i 0
instance (R : List (List Int)) (i k : Nat) : Decidable (symE R i k) := by unfold symE; infer_instance
def symB (R : List (List Int)) : Bool := (List.range R.length).all fun i => (List.range R.length).all fun k => decide (symE R i k)
theorem symB_yes {R : List (List Int)} (h : ∀ i, i < R.length → ∀ k, k < R.length → symE R i k) : symB R = true := by
  unfold symB
  rw [List.all_eq_true]
  intro i hi
  rw [List.all_eq_true]
  intro k hk
  exact decide_eq_true (h i (List.mem_range.1 hi) k (List.mem_range.1 hk))
theorem symB_no {R : List (List Int)} {i k : Nat} (hi : i < R.length) (hk : k < R.length) (h : ¬ symE R i k) : symB R = false := by
  rw [← Bool.not_eq_true]
  intro hs
  unfold symB at hs
  exact h (of_decide_eq_true (List.all_eq_true.1 (List.all_eq_true.1 hs i (List.mem_range.2 hi)) k (List.mem_range.2 hk)))
theorem symB_tri {R : List (List Int)} (h : ∀ i, i < R.length → ∀ k, k < i → symE R i k) : symB R = true := symB_yes fun i hi k hk => by
  rcases Nat.lt_trichotomy k i with h1 | h1 | h1
  · exact h i hi k h1
  · rw [h1]; exact rfl
  · have := h k hk i h1; unfold symE at this ⊢; exact this.symm
def isjP (a b : List UInt8) (n : Int) : Bool := (jtP a b n).2 && symB (jtP a b n).1
def areP (a b : List UInt8) (n : Int) : Bool := (dstP a n).2 && (dstP b n).2 && decide ((dstP a n).1 = (dstP b n).1)
def nRise' : List UInt8 := [114, 105, 115, 101]
def nFall' : List UInt8 := [102, 97, 108, 108]
def nRet' : List UInt8 := [114, 101, 116, 117, 114, 110, 115]
theorem law_stat : ((List.range 6).all fun n => areP nRise' nFall' (n : Int) && (areP nRise' nRet' (n : Int) && (isjP nRise' nRet' (n : Int) && isjP nRise' nFall' (n : Int)))) = true := by decide +kernel

end Go.Proofs.Yteiffomekjadgaa
