/- laws.FnExactIsPolynomial returns true at every list. -/
import Derived.Test.YtnfhdcakmlmnaaaIsPoly
import Derived.Test.YtnfhdcakmlmnaaaCoreFnExactIsPolynomial
namespace Go.Proofs.Ytnfhdcakmlmnaaa
open Go.RowKit

theorem walk_FnExactIsPolynomial (a0 : Option Addr) (len0 cap0 : Nat) (z0 : List Int) (w : World) (w0 : IsRow .i64 w a0 len0 cap0 z0) :
    Calls Try.prog 6 #[.slice a0 len0 cap0] w fun e w' => e = .returned (.bool true) ∧ Below w.heap.size w w' := by
  by_cases hl : len0 ≤ 1048576
  · exact core_FnExactIsPolynomial a0 len0 cap0 _ (isPol (z0.take len0)) w hl w0.rd
      (fun W B e h => (specIsPolynomial_any _ _ _ _ W h (by omega)).mono fun _ _ ⟨he, hw⟩ => ⟨he, by subst hw; exact Below.refl _ _⟩)
      (fun W B e h => (implIsPolynomial_any _ _ _ _ W h (by omega)).mono fun _ _ ⟨he, hw⟩ => ⟨he, by subst hw; exact Below.refl _ _⟩)
  · have := w0.len_le
    clear w0
    go_enter Try.func6, Try.ntmps6
    go_wp2_with fail
    go_ret
    exact ⟨rfl, Below.refl _ _⟩

end Go.Proofs.Ytnfhdcakmlmnaaa
