/- BallotNumber and CatalanNumber of the program. -/
import Derived.Test.YtiebaoglcdbopaaNum
import Derived.Test.YtiebaoglcdbopaaPut
import Derived.StillTailTactics
namespace Go.Proofs.Ytiebaoglcdbopaa
set_option linter.unusedVariables false
open Go.RowKit

/-- The next row, j places filled from u on. -/
def stB (row : List Int) (u : Nat) : Nat → List Int
  | 0 => List.replicate row.length 0
  | j + 1 => (stB row u j).set (u + j) (row.getD (u + j) 0 + if 0 < j then (stB row u j).getD (u + j - 1) 0 else 0)
def rwB (D : Nat) : Nat → List Int
  | 0 => List.replicate (D + 1) 1
  | u + 1 => stB (rwB D u) (u + 1) (D - u)
def balV (U D : Nat) : Int := (rwB D U).getD D 0
def catN (n : Int) : Int := if inB n 0 15 then balV n.toNat n.toNat else -1
theorem stB_len (row : List Int) (u : Nat) : ∀ j, (stB row u j).length = row.length
  | 0 => by simp [stB]
  | j + 1 => by rw [stB, List.length_set, stB_len row u j]
theorem rwB_len (D : Nat) : ∀ u, (rwB D u).length = D + 1
  | 0 => by simp [rwB]
  | u + 1 => by rw [rwB, stB_len, rwB_len D u]
theorem getD_set_bd {l : List Int} {k : Nat} {x b : Int} (h : ∀ i, 0 ≤ l.getD i 0 ∧ l.getD i 0 ≤ b) (hx : 0 ≤ x ∧ x ≤ b) (i : Nat) : 0 ≤ (l.set k x).getD i 0 ∧ (l.set k x).getD i 0 ≤ b := by
  rw [List.getD_eq_getElem?_getD, List.getElem?_set]
  split
  · split
    · exact hx
    · have := h i; simp; omega
  · rw [← List.getD_eq_getElem?_getD]; exact h i
theorem stB_bd {row : List Int} {b : Int} (hb : 0 ≤ b) (h : ∀ i, 0 ≤ row.getD i 0 ∧ row.getD i 0 ≤ b) (u : Nat) : ∀ (j : Nat) i, 0 ≤ (stB row u j).getD i 0 ∧ (stB row u j).getD i 0 ≤ (j : Int) * b
  | 0, i => by
    rw [stB, List.getD_eq_getElem?_getD, List.getElem?_replicate]
    split <;> simp
  | j + 1, i => by
    have ih := stB_bd hb h u j
    have e : ((j + 1 : Nat) : Int) * b = j * b + b := by push_cast; rw [Int.add_mul]; simp
    have hjb : 0 ≤ (j : Int) * b := Int.mul_nonneg (by omega) hb
    rw [stB, e]
    refine getD_set_bd (fun i => by have := ih i; omega) ?_ i
    have h1 := h (u + j)
    have h2 := ih (u + j - 1)
    split <;> omega
theorem rwB_bd {D : Nat} (hD : D ≤ 15) : ∀ (u : Nat) i, 0 ≤ (rwB D u).getD i 0 ∧ (rwB D u).getD i 0 ≤ 16 ^ u
  | 0, i => by
    rw [rwB, List.getD_eq_getElem?_getD, List.getElem?_replicate]
    split <;> simp
  | u + 1, i => by
    have ih := rwB_bd hD u
    have h0 : (0 : Int) ≤ 16 ^ u := Int.le_trans (ih 0).1 (ih 0).2
    have h1 := stB_bd h0 ih (u + 1) (D - u) i
    have h2 : ((D - u : Nat) : Int) * 16 ^ u ≤ 16 * 16 ^ u := Int.mul_le_mul_of_nonneg_right (by omega) h0
    rw [rwB, Int.pow_succ, Int.mul_comm (16 ^ u) 16]
    omega
theorem pow16C {u : Nat} (h : u ≤ 14) : (16 : Int) ^ u ≤ 72057594037927936 := by
  have : (16 : Int) ^ u ≤ 16 ^ 14 := by
    induction u with
    | zero => decide
    | succ u ih =>
      have h1 : u = 0 ∨ u = 1 ∨ u = 2 ∨ u = 3 ∨ u = 4 ∨ u = 5 ∨ u = 6 ∨ u = 7 ∨ u = 8 ∨ u = 9 ∨ u = 10 ∨ u = 11 ∨ u = 12 ∨ u = 13 := by omega
      rcases h1 with rfl | rfl | rfl | rfl | rfl | rfl | rfl | rfl | rfl | rfl | rfl | rfl | rfl | rfl <;> decide
  exact Int.le_trans this (by decide)
def onB (N i : Nat) : List Int := List.replicate i 1 ++ List.replicate (N - i) 0
theorem onB_set {N i : Nat} (h : i < N) : (onB N i).set i 1 = onB N (i + 1) := by
  unfold onB
  rw [List.set_append_right _ _ (by simp), List.replicate_succ', List.append_assoc]
  congr 1
  rw [show N - i = (N - (i + 1)) + 1 by omega, List.replicate_succ]
  simp



end Go.Proofs.Ytiebaoglcdbopaa
