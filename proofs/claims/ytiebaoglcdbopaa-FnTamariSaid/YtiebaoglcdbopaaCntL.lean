/- Counting pairs of a list. No program is named here. -/
import Derived.Test.YtiebaoglcdbopaaLib
namespace Go.Proofs.Ytiebaoglcdbopaa

def rowC (p : List UInt8 → List UInt8 → Bool) (a : List UInt8) (l : List (List UInt8)) : Nat → Int
  | 0 => 0
  | k + 1 => if p a (l.getD k []) then rowC p a l k + 1 else rowC p a l k
def dblC (p : List UInt8 → List UInt8 → Bool) (l : List (List UInt8)) : Nat → Int
  | 0 => 0
  | i + 1 => dblC p l i + rowC p (l.getD i []) l l.length
theorem rowC_bd (p : List UInt8 → List UInt8 → Bool) (a : List UInt8) (l : List (List UInt8)) : ∀ k : Nat, 0 ≤ rowC p a l k ∧ rowC p a l k ≤ k
  | 0 => by simp [rowC]
  | k + 1 => by have := rowC_bd p a l k; unfold rowC; split <;> omega
theorem dblC_bd (p : List UInt8 → List UInt8 → Bool) (l : List (List UInt8)) (h : l.length ≤ 70000) : ∀ i : Nat, 0 ≤ dblC p l i ∧ dblC p l i ≤ i * 70000
  | 0 => by simp [dblC]
  | i + 1 => by
    have h1 := dblC_bd p l h i
    have h2 := rowC_bd p (l.getD i []) l l.length
    unfold dblC
    omega
theorem getDs {xs : List (List UInt8)} {k : Nat} {x : List UInt8} (h : xs[k]? = some x) : xs.getD k [] = x := by rw [List.getD_eq_getElem?_getD, h]; rfl

end Go.Proofs.Ytiebaoglcdbopaa
