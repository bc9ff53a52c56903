/- Division by a polynomial whose last coefficient is 1: what it reckons. -/
import Derived.Test.YtlpabdpaolmpfaaTimes
import Derived.Test.YtlpabdpaolmpfaaPair
import Derived.Test.YtlpabdpaolmpfaaPut2
namespace Go.Proofs.Ytlpabdpaolmpfaa
open Go.RowKit

def inU (x : Int) : Bool := inB x (-1) 1
def isDiv (ys : List Int) : Bool := inB ys.length 1 13 && (ys.getLastD 0 == 1) && ys.all inU
/-- The rounds z - 1, .., 0. -/
def divR (ys : List Int) : Nat → List Int → List Int → Option (List Int × List Int)
  | 0, q, r => some (q, r)
  | z + 1, q, r => if inM (r.getD (z + ys.length - 1) 0) then divR ys z (q.set z (r.getD (z + ys.length - 1) 0)) (upd r (fun k => -(r.getD (z + ys.length - 1) 0 * ys.getD k 0)) z ys.length) else none
def divQ (xs ys : List Int) : Option (List Int × List Int) := divR ys (xs.length + 1 - ys.length) (List.replicate (xs.length + 1 - ys.length) 0) xs
def divP (xs ys : List Int) : List Int × List Int × Bool :=
  if isFac xs && isDiv ys then
    match divQ xs ys with
    | none => ([], [], false)
    | some (q, r) => if isPol (trimL q) && isPol (trimL r) then (trimL q, trimL r, true) else ([], [], false)
  else ([], [], false)
theorem isDiv_iff {ys : List Int} (h : isDiv ys = true) : 1 ≤ ys.length ∧ ys.length ≤ 13 ∧ ys.getLastD 0 = 1 ∧ ∀ y ∈ ys, -1 ≤ y ∧ y ≤ 1 := by
  unfold isDiv at h
  simp only [Bool.and_eq_true, List.all_eq_true, beq_iff_eq] at h
  obtain ⟨⟨h1, h2⟩, h3⟩ := h
  have := inB_iff.1 h1
  exact ⟨by omega, by omega, h2, fun y hy => inB_iff.1 (h3 y hy)⟩
theorem lastD_01 {ys : List Int} (h : 1 ≤ ys.length) : ys.getLastD 0 = ys.getLastD 1 := by
  cases ys with
  | nil => simp at h
  | cons a l => simp [List.getLastD]
theorem isDiv_pol {ys : List Int} (h : isDiv ys = true) : isPol ys = true := by
  obtain ⟨h1, h2, h3, h4⟩ := isDiv_iff h
  unfold isPol
  rw [← lastD_01 h1, h3]
  simp only [Bool.and_eq_true, List.all_eq_true, decide_eq_true_eq]
  refine ⟨fun y hy => ?_, by omega, by decide⟩
  have := h4 y hy
  exact inB_iff.2 (by omega)
theorem unit_mul {f y : Int} (hf : -1000000000 ≤ f ∧ f ≤ 1000000000) (hy : -1 ≤ y ∧ y ≤ 1) : -1000000000 ≤ f * y ∧ f * y ≤ 1000000000 := by
  rcases (show y = -1 ∨ y = 0 ∨ y = 1 by omega) with rfl | rfl | rfl <;> omega
theorem getD_unit {ys : List Int} (h : ∀ y ∈ ys, -1 ≤ y ∧ y ≤ 1) (k : Nat) : -1 ≤ ys.getD k 0 ∧ ys.getD k 0 ≤ 1 := by
  rw [List.getD_eq_getElem?_getD]
  rcases hg : ys[k]? with _ | x
  · simp
  · exact h x (List.mem_of_getElem? hg)
/-- A round moves a coefficient by no more than 1000000000. -/
theorem upd_div_bd {r ys : List Int} {f b : Int} {z : Nat} (hr : ∀ j : Nat, -b ≤ r.getD j 0 ∧ r.getD j 0 ≤ b) (hf : -1000000000 ≤ f ∧ f ≤ 1000000000) (hy : ∀ y ∈ ys, -1 ≤ y ∧ y ≤ 1) (k : Nat) (hz : z + k ≤ r.length) (j : Nat) :
    -(b + 1000000000) ≤ (upd r (fun k => -(f * ys.getD k 0)) z k).getD j 0 ∧ (upd r (fun k => -(f * ys.getD k 0)) z k).getD j 0 ≤ b + 1000000000 := by
  rw [upd_get _ _ _ _ _ hz]
  have h1 := hr j
  have h2 := unit_mul hf (getD_unit hy (j - z))
  split <;> omega
theorem last_of0 {xs : List Int} {n : Nat} {x : Int} (hx : xs[n]? = some x) (hl : xs.length = n + 1) : xs.getLastD 0 = x := by
  rw [List.getLastD_eq_getLast?, List.getLast?_eq_getElem?, hl]; simp [hx]
theorem divP_len (xs ys : List Int) : (divP xs ys).1.length ≤ 1048576 ∧ (divP xs ys).2.1.length ≤ 1048576 := by
  unfold divP
  split
  · split
    · simp
    · next q r _ =>
      split
      · next h =>
        simp only [Bool.and_eq_true] at h
        have h1 := (isPol_iff h.1).1
        have h2 := (isPol_iff h.2).1
        exact ⟨by show (trimL q).length ≤ _; omega, by show (trimL r).length ≤ _; omega⟩
      · simp
  · simp

theorem own_cap {w : World} {e : TypeId} {B : Nat} {A : Option Addr} {n c : Nat} {vs : List Value} (h : Own w e B A n c vs) : n ≤ c ∧ c ≤ 9223372036854775807 ∧ (A = none → c = 0) := by
  rcases h.2 with ⟨h1, h2⟩ | ⟨g, cap, cur, h1, _, _, h2, h3, _⟩
  · cases h1; exact ⟨by omega, by omega, fun _ => rfl⟩
  · cases h1; unfold maxLen at h3; exact ⟨h2, by omega, by simp⟩

/-- make([]int, max(0, n1 - n2 + 1)). -/
theorem mkDiv (n1 n2 : Nat) (h1 : n1 ≤ 1000000) (W : World) : ∃ m : Nat, n1 + 1 - n2 = m ∧
    ((0 < (n1 : Int) - (n2 : Int) + 1 ∧ (m : Int) = (n1 : Int) - (n2 : Int) + 1 ∧ (Instr.makeSlice 22 (.int .i64 ((n1 : Int) - (n2 : Int) + 1)) (.int .i64 ((n1 : Int) - (n2 : Int) + 1))).run Try.prog W = .ok (.slice (some ⟨W.heap.size, 0, none⟩) m m) (W.alloc (.cells (madeCells #[.int .i64 0] m) 3))) ∨
     (¬ 0 < (n1 : Int) - (n2 : Int) + 1 ∧ m = 0 ∧ (Instr.makeSlice 22 (.int .i64 0) (.int .i64 0)).run Try.prog W = .ok (.slice (some ⟨W.heap.size, 0, none⟩) m m) (W.alloc (.cells (madeCells #[.int .i64 0] m) 3)))) := by
  rcases Nat.lt_or_ge n1 n2 with h | h
  · exact ⟨0, by omega, Or.inr ⟨by omega, rfl, mkI 0 (by omega) W⟩⟩
  · refine ⟨n1 + 1 - n2, rfl, Or.inl ⟨by omega, by omega, ?_⟩⟩
    have := mkI (n1 + 1 - n2) (by omega) W
    rwa [show ((n1 + 1 - n2 : Nat) : Int) = (n1 : Int) - (n2 : Int) + 1 by omega] at this

end Go.Proofs.Ytlpabdpaolmpfaa
