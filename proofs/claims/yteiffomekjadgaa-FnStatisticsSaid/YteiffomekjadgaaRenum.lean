/- Numbers for blocks by their first places: l8Renumber, RenumberBlocks; the plain part. -/
import Derived.Test.YteiffomekjadgaaPart
import Derived.Test.YteiffomekjadgaaPut
namespace Go.Proofs.Yteiffomekjadgaa
open Go.RowKit

/-- The different numbers among the first k, in the order of their first places. -/
def renN (l : List Int) : Nat → List Int
  | 0 => []
  | k + 1 => if l.getD k 0 ∈ renN l k then renN l k else renN l k ++ [l.getD k 0]
def renO (l : List Int) : Nat → List Int
  | 0 => []
  | k + 1 => renO l k ++ [((renN l k).idxOf (l.getD k 0) : Int)]
theorem renN_len (l : List Int) : ∀ k : Nat, (renN l k).length ≤ k
  | 0 => Nat.le_refl _
  | k + 1 => by
    have := renN_len l k
    unfold renN
    split <;> simp <;> omega
theorem renO_len (l : List Int) : ∀ k : Nat, (renO l k).length = k
  | 0 => rfl
  | k + 1 => by rw [renO, List.length_append, renO_len l k]; rfl
theorem renN_mem (l : List Int) : ∀ (k j : Nat), j < k → l.getD j 0 ∈ renN l k
  | k + 1, j, h => by
    unfold renN
    by_cases hj : j = k
    · subst hj
      split
      · assumption
      · simp
    · have := renN_mem l k j (by omega)
      split
      · exact this
      · exact List.mem_append_left _ this
theorem renN_sub (l : List Int) : ∀ (k : Nat) (x : Int), x ∈ renN l k → ∃ j, j < k ∧ l.getD j 0 = x
  | 0, x, h => by cases h
  | k + 1, x, h => by
    unfold renN at h
    split at h
    · obtain ⟨j, hj, e⟩ := renN_sub l k x h
      exact ⟨j, by omega, e⟩
    · rcases List.mem_append.1 h with h1 | h1
      · obtain ⟨j, hj, e⟩ := renN_sub l k x h1
        exact ⟨j, by omega, e⟩
      · simp at h1
        exact ⟨k, by omega, h1.symm⟩
/-- The numbers given so far are the places among the names. -/
theorem renO_at (l : List Int) : ∀ (k j : Nat), j < k → (renO l k)[j]? = some ((renN l k).idxOf (l.getD j 0) : Int)
  | k + 1, j, h => by
    have hs : renN l (k + 1) = if l.getD k 0 ∈ renN l k then renN l k else renN l k ++ [l.getD k 0] := rfl
    by_cases hm : l.getD k 0 ∈ renN l k
    · rw [if_pos hm] at hs
      by_cases hj : j = k
      · subst hj
        rw [renO, List.getElem?_append_right (by rw [renO_len]; exact Nat.le_refl _), renO_len, Nat.sub_self, hs]; rfl
      · rw [renO, List.getElem?_append_left (by rw [renO_len]; omega), renO_at l k j (by omega), hs]
    · rw [if_neg hm] at hs
      by_cases hj : j = k
      · subst hj
        rw [renO, List.getElem?_append_right (by rw [renO_len]; exact Nat.le_refl _), renO_len, Nat.sub_self, hs, List.idxOf_append, if_neg hm, List.idxOf_eq_length hm]
        simp
      · rw [renO, List.getElem?_append_left (by rw [renO_len]; omega), renO_at l k j (by omega), hs, List.idxOf_append, if_pos (renN_mem l k j (by omega))]
/-- Only which numbers are alike counts. -/
theorem idxOf_map {g : Int → Int} (hg : ∀ x y, g x = g y → x = y) (x : Int) : ∀ L : List Int, (L.map g).idxOf (g x) = L.idxOf x
  | [] => rfl
  | a :: L => by
    rw [List.map_cons, List.idxOf_cons, List.idxOf_cons, idxOf_map hg x L]
    by_cases h : a = x
    · subst h; rw [beq_self_eq_true, beq_self_eq_true]
    · have h2 : (a == x) = false := by simpa using h
      have h3 : (g a == g x) = false := by simpa using fun e => h (hg _ _ e)
      rw [h2, h3]
theorem getD_map {g : Int → Int} {l : List Int} {k : Nat} (h : k < l.length) : (l.map g).getD k 0 = g (l.getD k 0) := by
  rw [List.getD_eq_getElem?_getD, List.getD_eq_getElem?_getD, List.getElem?_map, List.getElem?_eq_getElem h]; rfl
theorem renN_map {g : Int → Int} (hg : ∀ x y, g x = g y → x = y) (l : List Int) : ∀ k : Nat, k ≤ l.length → renN (l.map g) k = (renN l k).map g
  | 0, _ => rfl
  | k + 1, h => by
    have hm : g (l.getD k 0) ∈ (renN l k).map g ↔ l.getD k 0 ∈ renN l k := by
      constructor
      · intro h1
        obtain ⟨y, hy, e⟩ := List.mem_map.1 h1
        rw [← hg _ _ e]; exact hy
      · exact List.mem_map_of_mem
    rw [renN, renN, renN_map hg l k (by omega), getD_map (by omega)]
    by_cases h1 : l.getD k 0 ∈ renN l k
    · rw [if_pos h1, if_pos (hm.2 h1)]
    · rw [if_neg h1, if_neg (fun e => h1 (hm.1 e)), List.map_append]; rfl
theorem renO_map {g : Int → Int} (hg : ∀ x y, g x = g y → x = y) (l : List Int) : ∀ k : Nat, k ≤ l.length → renO (l.map g) k = renO l k
  | 0, _ => rfl
  | k + 1, h => by rw [renO, renO, renO_map hg l k (by omega), renN_map hg l k (by omega), getD_map (by omega), idxOf_map hg]
def renL (l : List Int) : List Int := renO l l.length
theorem renL_map {g : Int → Int} (hg : ∀ x y, g x = g y → x = y) (l : List Int) : renL (l.map g) = renL l := by
  unfold renL
  rw [List.length_map, renO_map hg l _ (Nat.le_refl _)]

end Go.Proofs.Yteiffomekjadgaa
