/- Additions into a list, one place after the other. -/
import Derived.Test.YtlpabdpaolmpfaaTrim
import Derived.Test.YtlpabdpaolmpfaaIsPoly
namespace Go.Proofs.Ytlpabdpaolmpfaa
open Go.RowKit

/-- To the places from off on, the values f 0, f 1, .. are added, k of them. -/
def upd (xs : List Int) (f : Nat → Int) (off : Nat) : Nat → List Int
  | 0 => xs
  | k + 1 => (upd xs f off k).set (off + k) ((upd xs f off k).getD (off + k) 0 + f k)
theorem upd_len (xs : List Int) (f : Nat → Int) (off : Nat) : ∀ k : Nat, (upd xs f off k).length = xs.length
  | 0 => rfl
  | k + 1 => by rw [upd, List.length_set, upd_len xs f off k]
theorem getD_set (ys : List Int) (i j : Nat) (x : Int) (hi : i < ys.length) : (ys.set i x).getD j 0 = if i = j then x else ys.getD j 0 := by
  rw [List.getD_eq_getElem?_getD, List.getElem?_set]
  split
  · next h => subst h; rfl
  · rw [List.getD_eq_getElem?_getD]
theorem upd_get (xs : List Int) (f : Nat → Int) (off : Nat) : ∀ (k j : Nat), off + k ≤ xs.length → (upd xs f off k).getD j 0 = xs.getD j 0 + if off ≤ j ∧ j < off + k then f (j - off) else 0
  | 0, j, _ => by rw [if_neg (by omega)]; simp [upd]
  | k + 1, j, h => by
    rw [upd, getD_set _ _ _ _ (by rw [upd_len]; omega), upd_get xs f off k _ (by omega), upd_get xs f off k _ (by omega)]
    by_cases hj : off + k = j
    · subst hj
      rw [if_pos rfl, if_neg (by omega), if_pos (by omega)]
      simp
    · rw [if_neg hj]
      by_cases h1 : off ≤ j ∧ j < off + k
      · rw [if_pos h1, if_pos (by omega)]
      · rw [if_neg h1, if_neg (by omega)]
theorem isPol_iff {xs : List Int} (h : isPol xs = true) : xs.length ≤ 61 ∧ ∀ x ∈ xs, -1000000000 ≤ x ∧ x ≤ 1000000000 := by
  unfold isPol at h
  simp only [Bool.and_eq_true, decide_eq_true_eq, List.all_eq_true] at h
  exact ⟨h.2.1, fun x hx => inB_iff.1 (h.1 x hx)⟩
theorem isPol_getD {xs : List Int} (h : isPol xs = true) (k : Nat) : -1000000000 ≤ xs.getD k 0 ∧ xs.getD k 0 ≤ 1000000000 := by
  rw [List.getD_eq_getElem?_getD]
  rcases hg : xs[k]? with _ | x
  · simp
  · exact (isPol_iff h).2 x (List.mem_of_getElem? hg)
theorem getD_of {xs : List Int} {k : Nat} {x : Int} (h : xs[k]? = some x) : xs.getD k 0 = x := by rw [List.getD_eq_getElem?_getD, h]; rfl
theorem getD_rep (m j : Nat) : (List.replicate m (0 : Int)).getD j 0 = 0 := by
  rw [List.getD_eq_getElem?_getD, List.getElem?_replicate]
  split <;> rfl
theorem set_same_len {ys : List Int} {k n : Nat} (h : ys.length = n) (hk : k < n) : ∃ y, ys[k]? = some y := ⟨_, List.getElem?_eq_getElem (by omega)⟩

/-- The sum of two polynomials, not yet trimmed. -/
def sumL (xs ys : List Int) : List Int := upd (upd (List.replicate (max xs.length ys.length) 0) (fun k => xs.getD k 0) 0 xs.length) (fun k => ys.getD k 0) 0 ys.length
def addP (xs ys : List Int) : List Int × Bool := if isPol xs && isPol ys && isPol (trimL (sumL xs ys)) then (trimL (sumL xs ys), true) else ([], false)
theorem sumL_len (xs ys : List Int) : (sumL xs ys).length = max xs.length ys.length := by simp [sumL, upd_len]

theorem addP_len (xs ys : List Int) : (addP xs ys).1.length ≤ 1048576 := by
  unfold addP
  split
  · next h =>
    simp only [Bool.and_eq_true] at h
    have := (isPol_iff h.2).1
    show (trimL (sumL xs ys)).length ≤ 1048576
    omega
  · simp
/-- make([]int, max(n1, n2)), the greater one known. -/
theorem mkMax (n1 n2 : Nat) (h1 : n1 ≤ 1000000) (h2 : n2 ≤ 1000000) (w : World) : ∃ m : Nat, n1 ≤ m ∧ n2 ≤ m ∧ max n1 n2 = m ∧
    (((n1 : Int) < (n2 : Int) ∧ (Instr.makeSlice 22 (.int .i64 (n2 : Int)) (.int .i64 (n2 : Int))).run Try.prog w = .ok (.slice (some ⟨w.heap.size, 0, none⟩) m m) (w.alloc (.cells (madeCells #[.int .i64 0] m) 3))) ∨
     (¬ (n1 : Int) < (n2 : Int) ∧ (Instr.makeSlice 22 (.int .i64 (n1 : Int)) (.int .i64 (n1 : Int))).run Try.prog w = .ok (.slice (some ⟨w.heap.size, 0, none⟩) m m) (w.alloc (.cells (madeCells #[.int .i64 0] m) 3)))) := by
  rcases Nat.lt_or_ge n1 n2 with h | h
  · exact ⟨n2, by omega, by omega, by omega, Or.inl ⟨by omega, mkI n2 (by omega) w⟩⟩
  · exact ⟨n1, by omega, by omega, by omega, Or.inr ⟨by omega, mkI n1 (by omega) w⟩⟩

end Go.Proofs.Ytlpabdpaolmpfaa
