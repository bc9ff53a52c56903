/- Chains of noncrossing partitions, counted by their last one. No program is named here. -/
import Derived.Test.YtghfhkbncjgaeaaNcI
import Derived.Test.YtghfhkbncjgaeaaFiner
namespace Go.Proofs.Ytghfhkbncjgaeaa
set_option linter.unusedVariables false
open Go.RowKit

/-- The sum for row i over the first j rows that are finer. -/
def accC (L : List (List Int)) (ws : List Int) (i : Nat) : Nat → Int
  | 0 => 0
  | j + 1 => if finB (L.getD j []) (L.getD i []) then accC L ws i j + ws.getD j 0 else accC L ws i j
/-- The next list, with its first i places filled. -/
def nxC (L : List (List Int)) (ws : List Int) (i : Nat) : List Int := (List.range i).map (fun t => accC L ws t L.length) ++ List.replicate (L.length - i) 0
def waC (L : List (List Int)) : Nat → List Int
  | 0 => List.replicate L.length 1
  | s + 1 => nxC L (waC L s) L.length
theorem nxC_len (L : List (List Int)) (ws : List Int) {i : Nat} (h : i ≤ L.length) : (nxC L ws i).length = L.length := by unfold nxC; simp; omega
theorem nxC_0 (L : List (List Int)) (ws : List Int) : nxC L ws 0 = List.replicate L.length 0 := by simp [nxC]
theorem nxC_set (L : List (List Int)) (ws : List Int) {i : Nat} (h : i < L.length) : (nxC L ws i).set i (accC L ws i L.length) = nxC L ws (i + 1) := by
  unfold nxC
  rw [List.set_append_right _ _ (by simp), List.range_succ, List.map_append, List.append_assoc]
  congr 1
  rw [show L.length - i = (L.length - (i + 1)) + 1 by omega, List.replicate_succ]
  simp
theorem nxC_self (L : List (List Int)) (ws : List Int) {i : Nat} (h : i < L.length) : (nxC L ws i).set i (accC L ws i 0) = nxC L ws i := by
  unfold nxC
  rw [List.set_append_right _ _ (by simp), show L.length - i = (L.length - (i + 1)) + 1 by omega, List.replicate_succ]
  simp [accC]
theorem accC_bd (L : List (List Int)) {ws : List Int} {b : Int} (hb : 0 ≤ b) (h : ∀ j, 0 ≤ ws.getD j 0 ∧ ws.getD j 0 ≤ b) (i : Nat) : ∀ j, 0 ≤ accC L ws i j ∧ accC L ws i j ≤ j * b
  | 0 => by simp [accC]
  | j + 1 => by
    have h1 := accC_bd L hb h i j
    have h2 := h j
    have h3 : ((j + 1 : Nat) : Int) * b = j * b + b := by push_cast; rw [Int.add_mul]; simp
    rw [h3, accC]
    split <;> omega
theorem waC_bd (L : List (List Int)) (hL : L.length ≤ 14) : ∀ s j, 0 ≤ (waC L s).getD j 0 ∧ (waC L s).getD j 0 ≤ 14 ^ s
  | 0, j => by
    rw [waC, List.getD_eq_getElem?_getD, List.getElem?_replicate]
    split <;> simp
  | s + 1, j => by
    have h1 := waC_bd L hL s
    have h0 : (0 : Int) ≤ 14 ^ s := Int.le_trans (h1 0).1 (h1 0).2
    rw [waC, nxC, Nat.sub_self, List.replicate_zero, List.append_nil, List.getD_eq_getElem?_getD, List.getElem?_map]
    rcases hj : (List.range L.length)[j]? with _ | t
    · simp
      exact Int.le_trans h0 (by rw [Int.pow_succ]; omega)
    · have h2 := accC_bd L h0 h1 t L.length
      have h3 : ((L.length : Nat) : Int) * 14 ^ s ≤ 14 * 14 ^ s := Int.mul_le_mul_of_nonneg_right (by omega) h0
      simp
      rw [Int.pow_succ, Int.mul_comm (14 ^ s) 14]
      omega

end Go.Proofs.Ytghfhkbncjgaeaa
