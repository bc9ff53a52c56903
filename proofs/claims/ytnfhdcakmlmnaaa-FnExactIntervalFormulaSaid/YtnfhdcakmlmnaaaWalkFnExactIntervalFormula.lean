/- laws.FnExactIntervalFormula returns true at every n. -/
import Derived.Test.YtnfhdcakmlmnaaaIntervalFormula
namespace Go.Proofs.Ytnfhdcakmlmnaaa
open Go.RowKit

theorem walk_FnExactIntervalFormula (a0 : Int) (w : World) (_ : (Lit.int .i64 a0).wf = true) :
    Calls Try.prog 5 #[.int .i64 a0] w fun e w' => e = .returned (.bool true) ∧ Below w.heap.size w w' := by
  go_enter Try.func5, Try.ntmps5
  go_wp2_with (first | (go_at_call 13; refine (specIntervalFormula_any _ _).mono ?_; rintro e w' ⟨rfl, rfl⟩) | (go_at_call 14; refine (implIntervalFormula_any _ _).mono ?_; rintro e w' ⟨rfl, rfl⟩))
  go_ret
  exact ⟨rfl, Below.refl _ _⟩

end Go.Proofs.Ytnfhdcakmlmnaaa
