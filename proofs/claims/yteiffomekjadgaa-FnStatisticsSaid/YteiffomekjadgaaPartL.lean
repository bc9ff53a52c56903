/- The partition of a path: by the stack of open letters, and by the partners. No program is named here. -/
import Derived.Test.YteiffomekjadgaaPathsL
import Derived.Test.YteiffomekjadgaaPathDefs
import Derived.Test.YteiffomekjadgaaRenum
namespace Go.Proofs.Yteiffomekjadgaa
set_option linter.unusedVariables false
open Go.RowKit

/-- How many letters u there are among the first k. -/
def ups (l : List UInt8) : Nat → Nat
  | 0 => 0
  | k + 1 => if l[k]? = some 117 then ups l k + 1 else ups l k
/-- The stack of open letters, each under its name. -/
def opP (num : Nat → Nat) (l : List UInt8) : Nat → List Int
  | 0 => []
  | k + 1 => if l[k]? = some 117 then opP num l k ++ [(num k : Int)] else (opP num l k).take ((opP num l k).length - 1)
def topP (num : Nat → Nat) (l : List UInt8) (k : Nat) : Nat := ((opP num l k).getD ((opP num l k).length - 1) 0).toNat
theorem ups_hat (l : List UInt8) : ∀ k, hat l k = 2 * (ups l k : Int) - k
  | 0 => by simp [hat, ups]
  | k + 1 => by rw [hat, ups, ups_hat l k]; split <;> omega
theorem ups_mono (l : List UInt8) {j k : Nat} (h : j ≤ k) : ups l j ≤ ups l k := by
  induction k with
  | zero => obtain rfl : j = 0 := by omega
            exact Nat.le_refl _
  | succ k ih =>
    rcases Nat.lt_or_ge j (k + 1) with hlt | hge
    · have := ih (by omega)
      rw [ups]
      split <;> omega
    · obtain rfl : j = k + 1 := by omega
      exact Nat.le_refl _
theorem opP_len (num : Nat → Nat) {l : List UInt8} : ∀ {k : Nat}, okB l k = true → (opP num l k).length = (hat l k).toNat
  | 0, _ => by simp [opP, hat]
  | k + 1, h => by
    have h1 := okB_mono h (show k ≤ k + 1 by omega)
    have h2 := opP_len num h1
    have h3 := okB_nn h1
    have h4 := okB_nn h
    rw [hat] at h4
    rw [opP, hat]
    split
    · rw [List.length_append, h2]; simp; omega
    · next hu =>
      rw [if_neg hu] at h4
      rw [List.length_take]; omega
theorem opP_mem (num : Nat → Nat) {l : List UInt8} : ∀ {k : Nat} {x : Int}, x ∈ opP num l k → ∃ j, j < k ∧ l[j]? = some 117 ∧ x = (num j : Int)
  | 0, x, h => by simp [opP] at h
  | k + 1, x, h => by
    rw [opP] at h
    split at h
    · next hu =>
      rw [List.mem_append] at h
      rcases h with h | h
      · obtain ⟨j, a, b, c⟩ := opP_mem num h
        exact ⟨j, by omega, b, c⟩
      · simp at h
        exact ⟨k, by omega, hu, h⟩
    · obtain ⟨j, a, b, c⟩ := opP_mem num (List.mem_of_mem_take h)
      exact ⟨j, by omega, b, c⟩
theorem ups_lt {l : List UInt8} {j k : Nat} (h : j < k) (hj : l[j]? = some 117) : ups l j < ups l k := by
  have h1 := ups_mono l (show j + 1 ≤ k by omega)
  rw [ups, if_pos hj] at h1
  omega
/-- What lies on top, ahead of a letter d. -/
theorem opP_top (num : Nat → Nat) {l : List UInt8} {k : Nat} (h : okB l k = true) (hd : 1 ≤ hat l k) : ∃ j, j < k ∧ l[j]? = some 117 ∧ (opP num l k)[(opP num l k).length - 1]? = some (num j : Int) ∧ topP num l k = num j := by
  have h1 := opP_len num h
  have h2 : (opP num l k).length - 1 < (opP num l k).length := by omega
  obtain ⟨j, a, b, c⟩ := opP_mem num (List.getElem_mem h2)
  refine ⟨j, a, b, by rw [List.getElem?_eq_getElem h2, c], ?_⟩
  unfold topP
  rw [List.getD_eq_getElem?_getD, List.getElem?_eq_getElem h2, c]
  simp

/-! The specification's blocks. -/
def nxS (l : List UInt8) : Nat → Nat
  | 0 => 0
  | k + 1 => if l[k]? = some 117 then nxS l k else if k + 1 = l.length ∨ l[k + 1]? = some 117 then nxS l k + 1 else nxS l k
def blS (l : List UInt8) : Nat → List Int
  | 0 => List.replicate (l.length / 2) 0
  | k + 1 => if l[k]? = some 117 then blS l k else (blS l k).set (topP (ups l) l k) (nxS l k)
theorem blS_len (l : List UInt8) : ∀ k, (blS l k).length = l.length / 2
  | 0 => by simp [blS]
  | k + 1 => by rw [blS]; split <;> simp [blS_len l k]
theorem nxS_le (l : List UInt8) : ∀ k, nxS l k ≤ k
  | 0 => Nat.le_refl _
  | k + 1 => by have := nxS_le l k; rw [nxS]; split; omega; split <;> omega
def parS (l : List UInt8) : List Int × Bool := if dyck l then (renL (blS l l.length), true) else ([], false)

/-! The partners, and the runs of letters d. -/
def prI (l : List UInt8) : Nat → List Int
  | 0 => List.replicate l.length 0
  | k + 1 => if l[k]? = some 117 then prI l k else ((prI l k).set k (topP id l k)).set (topP id l k) k
theorem prI_len (l : List UInt8) : ∀ k, (prI l k).length = l.length
  | 0 => by simp [prI]
  | k + 1 => by rw [prI]; split <;> simp [prI_len l k]
theorem prI_bd (l : List UInt8) (h : okB l l.length = true) : ∀ k, k ≤ l.length → ∀ x ∈ prI l k, ∃ j : Nat, x = (j : Int) ∧ (j < l.length ∨ j = 0)
  | 0, _, x, hx => ⟨0, by simp [prI] at hx; exact hx.2, Or.inr rfl⟩
  | k + 1, hk, x, hx => by
    rw [prI] at hx
    split at hx
    · exact prI_bd l h k (by omega) x hx
    · next hu =>
      have hd : 1 ≤ hat l k := by
        have := okB_nn (okB_mono h hk)
        rw [hat, if_neg hu] at this
        omega
      obtain ⟨j, a, b, c, e⟩ := opP_top id (okB_mono h (show k ≤ l.length by omega)) hd
      have e' : topP id l k = j := e
      rw [e'] at hx
      rcases List.mem_or_eq_of_mem_set hx with hx | hx
      · rcases List.mem_or_eq_of_mem_set hx with hx | hx
        · exact prI_bd l h k (by omega) x hx
        · exact ⟨j, hx, Or.inl (by omega)⟩
      · exact ⟨k, hx, Or.inl (by omega)⟩
/-- The number of the run behind letter i. -/
def rnN (l : List UInt8) : Nat → Nat
  | 0 => 0
  | i + 1 => if l[i + 1]? = some 100 ∧ l[i]? = some 117 then rnN l i + 1 else rnN l i
def rnL (l : List UInt8) : Nat → List Int
  | 0 => List.replicate l.length 0
  | i + 1 => (rnL l i).set (i + 1) (rnN l (i + 1))
theorem rnL_len (l : List UInt8) : ∀ k, (rnL l k).length = l.length
  | 0 => by simp [rnL]
  | k + 1 => by rw [rnL, List.length_set, rnL_len l k]
theorem rnN_le (l : List UInt8) : ∀ k, rnN l k ≤ k
  | 0 => Nat.le_refl _
  | k + 1 => by have := rnN_le l k; rw [rnN]; split <;> omega
def liI (l : List UInt8) : Nat → List Int
  | 0 => []
  | k + 1 => if l[k]? = some 117 then liI l k ++ [(rnL l (l.length - 1)).getD ((prI l l.length).getD k 0).toNat 0] else liI l k
theorem liI_len (l : List UInt8) : ∀ k, (liI l k).length = ups l k
  | 0 => rfl
  | k + 1 => by rw [liI, ups]; split <;> simp [liI_len l k]
def parI (l : List UInt8) : List Int × Bool := if dyck l then (renL (liI l l.length), true) else ([], false)
/-- The two are one, on the paths of at most 6 letters u. -/
def samP (n : Nat) : Bool := (paths n).all fun w => decide (renL (blS w w.length) = renL (liI w w.length))
theorem samP_6 : (List.range 7).all samP = true := by decide +kernel
theorem par_eq {n : Nat} (hn : n ≤ 6) {w : List UInt8} (hw : w ∈ paths n) : parI w = parS w := by
  have h := List.all_eq_true.1 (List.all_eq_true.1 samP_6 n (List.mem_range.2 (by omega))) w hw
  unfold parI parS
  rw [of_decide_eq_true h]

end Go.Proofs.Yteiffomekjadgaa
