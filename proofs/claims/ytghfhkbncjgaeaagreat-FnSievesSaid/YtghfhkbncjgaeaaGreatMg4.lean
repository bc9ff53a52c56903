/- Merged: Renum PartL. -/
import Derived.Test.YtghfhkbncjgaeaaGreatMg3
import Derived.Test.YtghfhkbncjgaeaaGreatMg1

namespace Go.Proofs.YtghfhkbncjgaeaaGreat
open Go.RowKit

/-- The different numbers among the first k, in the order of their first places. -/
def renN (l : List Int) : Nat → List Int
  | 0 => []
  | k + 1 => if l.getD k 0 ∈ renN l k then renN l k else renN l k ++ [l.getD k 0]
def renO (l : List Int) : Nat → List Int
  | 0 => []
  | k + 1 => renO l k ++ [((renN l k).idxOf (l.getD k 0) : Int)]
theorem renN_len (l : List Int) : ∀ k : Nat, (renN l k).length ≤ k
  | 0 => Nat.le_refl _
  | k + 1 => by
    have := renN_len l k
    unfold renN
    split <;> simp <;> omega
theorem renO_len (l : List Int) : ∀ k : Nat, (renO l k).length = k
  | 0 => rfl
  | k + 1 => by rw [renO, List.length_append, renO_len l k]; rfl
theorem renN_mem (l : List Int) : ∀ (k j : Nat), j < k → l.getD j 0 ∈ renN l k
  | k + 1, j, h => by
    unfold renN
    by_cases hj : j = k
    · subst hj
      split
      · assumption
      · simp
    · have := renN_mem l k j (by omega)
      split
      · exact this
      · exact List.mem_append_left _ this
theorem renN_sub (l : List Int) : ∀ (k : Nat) (x : Int), x ∈ renN l k → ∃ j, j < k ∧ l.getD j 0 = x
  | 0, x, h => by cases h
  | k + 1, x, h => by
    unfold renN at h
    split at h
    · obtain ⟨j, hj, e⟩ := renN_sub l k x h
      exact ⟨j, by omega, e⟩
    · rcases List.mem_append.1 h with h1 | h1
      · obtain ⟨j, hj, e⟩ := renN_sub l k x h1
        exact ⟨j, by omega, e⟩
      · simp at h1
        exact ⟨k, by omega, h1.symm⟩
/-- The numbers given so far are the places among the names. -/
theorem renO_at (l : List Int) : ∀ (k j : Nat), j < k → (renO l k)[j]? = some ((renN l k).idxOf (l.getD j 0) : Int)
  | k + 1, j, h => by
    have hs : renN l (k + 1) = if l.getD k 0 ∈ renN l k then renN l k else renN l k ++ [l.getD k 0] := rfl
    by_cases hm : l.getD k 0 ∈ renN l k
    · rw [if_pos hm] at hs
      by_cases hj : j = k
      · subst hj
        rw [renO, List.getElem?_append_right (by rw [renO_len]; exact Nat.le_refl _), renO_len, Nat.sub_self, hs]; rfl
      · rw [renO, List.getElem?_append_left (by rw [renO_len]; omega), renO_at l k j (by omega), hs]
    · rw [if_neg hm] at hs
      by_cases hj : j = k
      · subst hj
        rw [renO, List.getElem?_append_right (by rw [renO_len]; exact Nat.le_refl _), renO_len, Nat.sub_self, hs, List.idxOf_append, if_neg hm, List.idxOf_eq_length hm]
        simp
      · rw [renO, List.getElem?_append_left (by rw [renO_len]; omega), renO_at l k j (by omega), hs, List.idxOf_append, if_pos (renN_mem l k j (by omega))]
/-- Only which numbers are alike counts. -/
theorem idxOf_map {g : Int → Int} (hg : ∀ x y, g x = g y → x = y) (x : Int) : ∀ L : List Int, (L.map g).idxOf (g x) = L.idxOf x
  | [] => rfl
  | a :: L => by
    rw [List.map_cons, List.idxOf_cons, List.idxOf_cons, idxOf_map hg x L]
    by_cases h : a = x
    · subst h; rw [beq_self_eq_true, beq_self_eq_true]
    · have h2 : (a == x) = false := by simpa using h
      have h3 : (g a == g x) = false := by simpa using fun e => h (hg _ _ e)
      rw [h2, h3]
theorem getD_map {g : Int → Int} {l : List Int} {k : Nat} (h : k < l.length) : (l.map g).getD k 0 = g (l.getD k 0) := by
  rw [List.getD_eq_getElem?_getD, List.getD_eq_getElem?_getD, List.getElem?_map, List.getElem?_eq_getElem h]; rfl
theorem renN_map {g : Int → Int} (hg : ∀ x y, g x = g y → x = y) (l : List Int) : ∀ k : Nat, k ≤ l.length → renN (l.map g) k = (renN l k).map g
  | 0, _ => rfl
  | k + 1, h => by
    have hm : g (l.getD k 0) ∈ (renN l k).map g ↔ l.getD k 0 ∈ renN l k := by
      constructor
      · intro h1
        obtain ⟨y, hy, e⟩ := List.mem_map.1 h1
        rw [← hg _ _ e]; exact hy
      · exact List.mem_map_of_mem
    rw [renN, renN, renN_map hg l k (by omega), getD_map (by omega)]
    by_cases h1 : l.getD k 0 ∈ renN l k
    · rw [if_pos h1, if_pos (hm.2 h1)]
    · rw [if_neg h1, if_neg (fun e => h1 (hm.1 e)), List.map_append]; rfl
theorem renO_map {g : Int → Int} (hg : ∀ x y, g x = g y → x = y) (l : List Int) : ∀ k : Nat, k ≤ l.length → renO (l.map g) k = renO l k
  | 0, _ => rfl
  | k + 1, h => by rw [renO, renO, renO_map hg l k (by omega), renN_map hg l k (by omega), getD_map (by omega), idxOf_map hg]
def renL (l : List Int) : List Int := renO l l.length
theorem renL_map {g : Int → Int} (hg : ∀ x y, g x = g y → x = y) (l : List Int) : renL (l.map g) = renL l := by
  unfold renL
  rw [List.length_map, renO_map hg l _ (Nat.le_refl _)]

end Go.Proofs.YtghfhkbncjgaeaaGreat

namespace Go.Proofs.YtghfhkbncjgaeaaGreat
set_option linter.unusedVariables false
open Go.RowKit

/-- How many letters u there are among the first k. -/
def ups (l : List UInt8) : Nat → Nat
  | 0 => 0
  | k + 1 => if l[k]? = some 117 then ups l k + 1 else ups l k
/-- The stack of open letters, each under its name. -/
def opP (num : Nat → Nat) (l : List UInt8) : Nat → List Int
  | 0 => []
  | k + 1 => if l[k]? = some 117 then opP num l k ++ [(num k : Int)] else (opP num l k).take ((opP num l k).length - 1)
def topP (num : Nat → Nat) (l : List UInt8) (k : Nat) : Nat := ((opP num l k).getD ((opP num l k).length - 1) 0).toNat
theorem ups_hat (l : List UInt8) : ∀ k, hat l k = 2 * (ups l k : Int) - k
  | 0 => by simp [hat, ups]
  | k + 1 => by rw [hat, ups, ups_hat l k]; split <;> omega
theorem ups_mono (l : List UInt8) {j k : Nat} (h : j ≤ k) : ups l j ≤ ups l k := by
  induction k with
  | zero => obtain rfl : j = 0 := by omega
            exact Nat.le_refl _
  | succ k ih =>
    rcases Nat.lt_or_ge j (k + 1) with hlt | hge
    · have := ih (by omega)
      rw [ups]
      split <;> omega
    · obtain rfl : j = k + 1 := by omega
      exact Nat.le_refl _
theorem opP_len (num : Nat → Nat) {l : List UInt8} : ∀ {k : Nat}, okB l k = true → (opP num l k).length = (hat l k).toNat
  | 0, _ => by simp [opP, hat]
  | k + 1, h => by
    have h1 := okB_mono h (show k ≤ k + 1 by omega)
    have h2 := opP_len num h1
    have h3 := okB_nn h1
    have h4 := okB_nn h
    rw [hat] at h4
    rw [opP, hat]
    split
    · rw [List.length_append, h2]; simp; omega
    · next hu =>
      rw [if_neg hu] at h4
      rw [List.length_take]; omega
theorem opP_mem (num : Nat → Nat) {l : List UInt8} : ∀ {k : Nat} {x : Int}, x ∈ opP num l k → ∃ j, j < k ∧ l[j]? = some 117 ∧ x = (num j : Int)
  | 0, x, h => by simp [opP] at h
  | k + 1, x, h => by
    rw [opP] at h
    split at h
    · next hu =>
      rw [List.mem_append] at h
      rcases h with h | h
      · obtain ⟨j, a, b, c⟩ := opP_mem num h
        exact ⟨j, by omega, b, c⟩
      · simp at h
        exact ⟨k, by omega, hu, h⟩
    · obtain ⟨j, a, b, c⟩ := opP_mem num (List.mem_of_mem_take h)
      exact ⟨j, by omega, b, c⟩
theorem ups_lt {l : List UInt8} {j k : Nat} (h : j < k) (hj : l[j]? = some 117) : ups l j < ups l k := by
  have h1 := ups_mono l (show j + 1 ≤ k by omega)
  rw [ups, if_pos hj] at h1
  omega
/-- What lies on top, ahead of a letter d. -/
theorem opP_top (num : Nat → Nat) {l : List UInt8} {k : Nat} (h : okB l k = true) (hd : 1 ≤ hat l k) : ∃ j, j < k ∧ l[j]? = some 117 ∧ (opP num l k)[(opP num l k).length - 1]? = some (num j : Int) ∧ topP num l k = num j := by
  have h1 := opP_len num h
  have h2 : (opP num l k).length - 1 < (opP num l k).length := by omega
  obtain ⟨j, a, b, c⟩ := opP_mem num (List.getElem_mem h2)
  refine ⟨j, a, b, by rw [List.getElem?_eq_getElem h2, c], ?_⟩
  unfold topP
  rw [List.getD_eq_getElem?_getD, List.getElem?_eq_getElem h2, c]
  simp

/-! The specification's blocks. -/
def nxS (l : List UInt8) : Nat → Nat
  | 0 => 0
  | k + 1 => if l[k]? = some 117 then nxS l k else if k + 1 = l.length ∨ l[k + 1]? = some 117 then nxS l k + 1 else nxS l k
def blS (l : List UInt8) : Nat → List Int
  | 0 => List.replicate (l.length / 2) 0
  | k + 1 => if l[k]? = some 117 then blS l k else (blS l k).set (topP (ups l) l k) (nxS l k)
theorem blS_len (l : List UInt8) : ∀ k, (blS l k).length = l.length / 2
  | 0 => by simp [blS]
  | k + 1 => by rw [blS]; split <;> simp [blS_len l k]
theorem nxS_le (l : List UInt8) : ∀ k, nxS l k ≤ k
  | 0 => Nat.le_refl _
  | k + 1 => by have := nxS_le l k; rw [nxS]; split; omega; split <;> omega
def parS (l : List UInt8) : List Int × Bool := if dyck l then (renL (blS l l.length), true) else ([], false)

/-! The partners, and the runs of letters d. -/
def prI (l : List UInt8) : Nat → List Int
  | 0 => List.replicate l.length 0
  | k + 1 => if l[k]? = some 117 then prI l k else ((prI l k).set k (topP id l k)).set (topP id l k) k
theorem prI_len (l : List UInt8) : ∀ k, (prI l k).length = l.length
  | 0 => by simp [prI]
  | k + 1 => by rw [prI]; split <;> simp [prI_len l k]
theorem prI_bd (l : List UInt8) (h : okB l l.length = true) : ∀ k, k ≤ l.length → ∀ x ∈ prI l k, ∃ j : Nat, x = (j : Int) ∧ (j < l.length ∨ j = 0)
  | 0, _, x, hx => ⟨0, by simp [prI] at hx; exact hx.2, Or.inr rfl⟩
  | k + 1, hk, x, hx => by
    rw [prI] at hx
    split at hx
    · exact prI_bd l h k (by omega) x hx
    · next hu =>
      have hd : 1 ≤ hat l k := by
        have := okB_nn (okB_mono h hk)
        rw [hat, if_neg hu] at this
        omega
      obtain ⟨j, a, b, c, e⟩ := opP_top id (okB_mono h (show k ≤ l.length by omega)) hd
      have e' : topP id l k = j := e
      rw [e'] at hx
      rcases List.mem_or_eq_of_mem_set hx with hx | hx
      · rcases List.mem_or_eq_of_mem_set hx with hx | hx
        · exact prI_bd l h k (by omega) x hx
        · exact ⟨j, hx, Or.inl (by omega)⟩
      · exact ⟨k, hx, Or.inl (by omega)⟩
/-- The number of the run behind letter i. -/
def rnN (l : List UInt8) : Nat → Nat
  | 0 => 0
  | i + 1 => if l[i + 1]? = some 100 ∧ l[i]? = some 117 then rnN l i + 1 else rnN l i
def rnL (l : List UInt8) : Nat → List Int
  | 0 => List.replicate l.length 0
  | i + 1 => (rnL l i).set (i + 1) (rnN l (i + 1))
theorem rnL_len (l : List UInt8) : ∀ k, (rnL l k).length = l.length
  | 0 => by simp [rnL]
  | k + 1 => by rw [rnL, List.length_set, rnL_len l k]
theorem rnN_le (l : List UInt8) : ∀ k, rnN l k ≤ k
  | 0 => Nat.le_refl _
  | k + 1 => by have := rnN_le l k; rw [rnN]; split <;> omega
def liI (l : List UInt8) : Nat → List Int
  | 0 => []
  | k + 1 => if l[k]? = some 117 then liI l k ++ [(rnL l (l.length - 1)).getD ((prI l l.length).getD k 0).toNat 0] else liI l k
theorem liI_len (l : List UInt8) : ∀ k, (liI l k).length = ups l k
  | 0 => rfl
  | k + 1 => by rw [liI, ups]; split <;> simp [liI_len l k]
def parI (l : List UInt8) : List Int × Bool := if dyck l then (renL (liI l l.length), true) else ([], false)
/-- The two are one, on the paths of at most 6 letters u. -/
def samP (n : Nat) : Bool := (paths n).all fun w => decide (renL (blS w w.length) = renL (liI w w.length))
theorem samP_6 : (List.range 7).all samP = true := by decide +kernel
theorem par_eq {n : Nat} (hn : n ≤ 6) {w : List UInt8} (hw : w ∈ paths n) : parI w = parS w := by
  have h := List.all_eq_true.1 (List.all_eq_true.1 samP_6 n (List.mem_range.2 (by omega))) w hw
  unfold parI parS
  rw [of_decide_eq_true h]

end Go.Proofs.YtghfhkbncjgaeaaGreat
