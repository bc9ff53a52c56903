/- Merged: Finer. -/
import Derived.Test.YtghfhkbncjgaeaaGreatMg3

namespace Go.Proofs.YtghfhkbncjgaeaaGreat
open Go.RowKit

def fin2 (p q : List Int) (a b : Nat) : Prop := p.getD a 0 = p.getD b 0 → q.getD a 0 = q.getD b 0
instance (p q : List Int) (a b : Nat) : Decidable (fin2 p q a b) := by unfold fin2; infer_instance
def finB (p q : List Int) : Bool := isPar p && isPar q && (p.length == q.length) && decide (∀ a, a < p.length → ∀ b, b < p.length → fin2 p q a b)
theorem finB_bad {p q : List Int} {a b : Nat} (ha : a < p.length) (hb : b < p.length) (h : ¬ fin2 p q a b) : finB p q = false := by
  unfold finB
  rw [show decide (∀ a, a < p.length → ∀ b, b < p.length → fin2 p q a b) = false from decide_eq_false fun hh => h (hh a ha b hb)]
  simp
theorem finB_ok {p q : List Int} (h1 : isPar p = true) (h2 : isPar q = true) (h3 : p.length = q.length) (h : ∀ a, a < p.length → ∀ b, b < p.length → fin2 p q a b) : finB p q = true := by
  unfold finB
  rw [h1, h2, decide_eq_true h]
  simp [h3]
theorem getD_of {xs : List Int} {k : Nat} {x : Int} (h : xs[k]? = some x) : xs.getD k 0 = x := by
  rw [List.getD_eq_getElem?_getD, h]; rfl
/-- What has been seen: all pairs up to (i, k). -/
def Seen (p q : List Int) (n i k : Nat) : Prop := ∀ a b, (a < i ∧ b < n) ∨ (a = i ∧ b < k) → fin2 p q a b
def SeenL (p q : List Int) (i k : Nat) : Prop := ∀ a b, (a < i ∧ b < a) ∨ (a = i ∧ b < k) → fin2 p q a b
theorem fin2_symm {p q : List Int} {a b : Nat} (h : fin2 p q a b) : fin2 p q b a := fun e => (h e.symm).symm


end Go.Proofs.YtghfhkbncjgaeaaGreat
