/- CatalanPolynomial: the plain part. -/
import Derived.Test.YtlpabdpaolmpfaaBinomial
import Derived.Test.YtlpabdpaolmpfaaDivQuiet
import Derived.Test.YtlpabdpaolmpfaaDivSpec
import Derived.Test.YtlpabdpaolmpfaaNumberPoly
namespace Go.Proofs.Ytlpabdpaolmpfaa
open Go.RowKit

def catA (N : Nat) : List Int := gau (2 * N) N
def catB (N : Nat) : List Int := List.replicate (N + 1) 1
def catOk (N : Nat) : Bool := isFac (catA N) && isDiv (catB N) && (match divQ (catA N) (catB N) with
  | some (q, r) => isPol (trimL q) && isPol (trimL r)
  | none => false)
theorem catOk_7 : ∀ N : Nat, N < 8 → catOk N = true := by decide +kernel
theorem cat_div {N : Nat} (h : N < 8) : isFac (catA N) = true ∧ isDiv (catB N) = true ∧ ∃ q r, divQ (catA N) (catB N) = some (q, r) ∧ divP (catA N) (catB N) = (trimL q, trimL r, true) := by
  have h0 := catOk_7 N h
  unfold catOk at h0
  simp only [Bool.and_eq_true] at h0
  obtain ⟨⟨h1, h2⟩, h3⟩ := h0
  refine ⟨h1, h2, ?_⟩
  rcases hd : divQ (catA N) (catB N) with _ | ⟨q, r⟩
  · rw [hd] at h3; cases h3
  · rw [hd] at h3
    refine ⟨q, r, rfl, ?_⟩
    unfold divP
    rw [h1, h2, hd]
    show (if (isPol (trimL q) && isPol (trimL r)) = true then _ else _) = _
    rw [if_pos h3]
def catP (n : Int) : List Int × Bool := if inB n 0 7 then ((divP (catA n.toNat) (catB n.toNat)).1, true) else ([], false)
theorem catP_len (n : Int) : (catP n).1.length ≤ 1048576 := by
  unfold catP
  split
  · exact (divP_len _ _).1
  · simp

end Go.Proofs.Ytlpabdpaolmpfaa
