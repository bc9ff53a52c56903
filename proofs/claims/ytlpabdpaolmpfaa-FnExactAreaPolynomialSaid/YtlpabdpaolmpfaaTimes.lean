/- The product of two lists of numbers; l14Times. -/
import Derived.Test.YtlpabdpaolmpfaaUpd
import Derived.Test.YtlpabdpaolmpfaaFactor
import Derived.BigRegion
namespace Go.Proofs.Ytlpabdpaolmpfaa
open Go.RowKit

/-- Into a list: the products of the first k coefficients of the one with all of the other. -/
def mulK (base xs ys : List Int) : Nat → List Int
  | 0 => base
  | k + 1 => upd (mulK base xs ys k) (fun j => xs.getD k 0 * ys.getD j 0) k ys.length
theorem mulK_len (base xs ys : List Int) : ∀ k : Nat, (mulK base xs ys k).length = base.length
  | 0 => rfl
  | k + 1 => by rw [mulK, upd_len, mulK_len base xs ys k]
def timesL (xs ys : List Int) : List Int := if xs = [] ∨ ys = [] then [] else trimL (mulK (List.replicate (xs.length + ys.length - 1) 0) xs ys xs.length)

theorem mul_le {a b : Int} (ha : -100000 ≤ a ∧ a ≤ 100000) (hb : -100000 ≤ b ∧ b ≤ 100000) : -10000000000 ≤ a * b ∧ a * b ≤ 10000000000 := by
  have h : (a * b).natAbs ≤ 100000 * 100000 := by
    rw [Int.natAbs_mul]
    exact Nat.mul_le_mul (by omega) (by omega)
  omega
theorem getD_bd {xs : List Int} (h : ∀ x ∈ xs, -100000 ≤ x ∧ x ≤ 100000) (k : Nat) : -100000 ≤ xs.getD k 0 ∧ xs.getD k 0 ≤ 100000 := by
  rw [List.getD_eq_getElem?_getD]
  rcases hg : xs[k]? with _ | x
  · simp
  · exact h x (List.mem_of_getElem? hg)
theorem mulK_bd {base xs ys : List Int} (h0 : ∀ j : Nat, base.getD j 0 = 0) (hx : ∀ x ∈ xs, -100000 ≤ x ∧ x ≤ 100000) (hy : ∀ x ∈ ys, -100000 ≤ x ∧ x ≤ 100000) :
    ∀ (k j : Nat), k + ys.length ≤ base.length + 1 → -((k : Int) * 10000000000) ≤ (mulK base xs ys k).getD j 0 ∧ (mulK base xs ys k).getD j 0 ≤ (k : Int) * 10000000000
  | 0, j, _ => by rw [mulK, h0]; omega
  | k + 1, j, h => by
    have ih := mulK_bd h0 hx hy k j (by omega)
    have hm := mul_le (getD_bd hx k) (getD_bd hy (j - k))
    rw [mulK, upd_get _ _ _ _ _ (by rw [mulK_len]; omega)]
    split <;> omega
/-- One more nought at the end. -/
theorem upd_snoc (xs : List Int) (f : Nat → Int) (off : Nat) : ∀ k : Nat, off + k ≤ xs.length → upd (xs ++ [0]) f off k = upd xs f off k ++ [0]
  | 0, _ => rfl
  | k + 1, h => by
    have hl : off + k < (upd xs f off k).length := by rw [upd_len]; omega
    rw [upd, upd, upd_snoc xs f off k (by omega), List.set_append_left _ _ hl]
    congr 3
    rw [List.getD_eq_getElem?_getD, List.getD_eq_getElem?_getD, List.getElem?_append_left hl]
theorem mulK_snoc (base xs ys : List Int) : ∀ k : Nat, k + ys.length ≤ base.length + 1 → mulK (base ++ [0]) xs ys k = mulK base xs ys k ++ [0]
  | 0, _ => rfl
  | k + 1, h => by rw [mulK, mulK, mulK_snoc base xs ys k (by omega), upd_snoc _ _ _ _ (by rw [mulK_len]; omega)]
theorem tz_snoc (xs : List Int) : ∀ n : Nat, n ≤ xs.length → tz (xs ++ [0]) n = tz xs n
  | 0, _ => rfl
  | n + 1, h => by
    unfold tz
    rw [tz_snoc xs n (by omega), show List.getD (xs ++ [(0 : Int)]) n 0 = xs.getD n 0 by rw [List.getD_eq_getElem?_getD, List.getD_eq_getElem?_getD, List.getElem?_append_left (by omega)]]
theorem trimL_snoc (xs : List Int) : trimL (xs ++ [0]) = trimL xs := by
  have e : tz (xs ++ [0]) (xs ++ [0]).length = tz xs xs.length := by
    rw [show List.length (xs ++ [(0 : Int)]) = xs.length + 1 by simp, tz, if_pos (by rw [List.getD_eq_getElem?_getD]; simp), tz_snoc xs _ (Nat.le_refl _)]
  unfold trimL
  rw [e, List.take_append_of_le_length (tz_le _ _)]
theorem trimL_rep : ∀ n : Nat, trimL (List.replicate n 0) = []
  | 0 => rfl
  | n + 1 => by rw [List.replicate_succ', trimL_snoc, trimL_rep n]
/-- What the implementation reckons with one place more. -/
theorem timesL_eq (xs ys : List Int) : trimL (mulK (List.replicate (xs.length + ys.length) 0) xs ys xs.length) = timesL xs ys := by
  unfold timesL
  split
  · next h =>
    rcases h with rfl | rfl
    · exact trimL_rep _
    · have : ∀ k : Nat, mulK (List.replicate (xs.length + ([] : List Int).length) 0) xs [] k = List.replicate (xs.length + ([] : List Int).length) 0 := by
        intro k
        induction k with
        | zero => rfl
        | succ k ih => rw [mulK, ih]; rfl
      rw [this, trimL_rep]
  · next h =>
    have h1 : 0 < xs.length := List.length_pos_iff.2 (fun e => h (Or.inl e))
    have h2 : 0 < ys.length := List.length_pos_iff.2 (fun e => h (Or.inr e))
    rw [show xs.length + ys.length = (xs.length + ys.length - 1) + 1 by omega, List.replicate_succ', mulK_snoc _ _ _ _ (by simp; omega), trimL_snoc]
    simp
theorem isFac_iff {xs : List Int} (h : isFac xs = true) : xs.length ≤ 61 ∧ ∀ x ∈ xs, -100000 ≤ x ∧ x ≤ 100000 := by
  unfold isFac at h
  simp only [Bool.and_eq_true, List.all_eq_true] at h
  exact ⟨(isPol_iff h.2).1, fun x hx => inB_iff.1 (h.1 x hx)⟩
def mulP (xs ys : List Int) : List Int × Bool := if isFac xs && isFac ys && decide (xs.length + ys.length ≤ 62) && isPol (timesL xs ys) then (timesL xs ys, true) else ([], false)
theorem mulP_len (xs ys : List Int) : (mulP xs ys).1.length ≤ 1048576 := by
  unfold mulP
  split
  · next h =>
    simp only [Bool.and_eq_true] at h
    have := (isPol_iff h.2).1
    show (timesL xs ys).length ≤ 1048576
    omega
  · simp
theorem isFac_iff7 {p : List Int} (h : isFac p = true) : p.length ≤ 61 ∧ ∀ x ∈ p, -10000000 ≤ x ∧ x ≤ 10000000 :=
  ⟨(isFac_iff h).1, fun x hx => by have := (isFac_iff h).2 x hx; omega⟩
theorem getD_bd7 {xs : List Int} (h : ∀ x ∈ xs, -10000000 ≤ x ∧ x ≤ 10000000) (k : Nat) : -10000000 ≤ xs.getD k 0 ∧ xs.getD k 0 ≤ 10000000 := by
  rw [List.getD_eq_getElem?_getD]
  rcases hg : xs[k]? with _ | x
  · simp
  · exact h x (List.mem_of_getElem? hg)

end Go.Proofs.Ytlpabdpaolmpfaa
