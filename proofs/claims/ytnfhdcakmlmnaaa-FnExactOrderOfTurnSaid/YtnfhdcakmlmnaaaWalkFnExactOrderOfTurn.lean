/- laws.FnExactOrderOfTurn returns true at every family and n. -/
import Derived.Test.YtnfhdcakmlmnaaaOrderOfTurn
namespace Go.Proofs.Ytnfhdcakmlmnaaa
open Go.RowKit

theorem walk_FnExactOrderOfTurn (a0 : ByteArray) (a1 : Int) (w : World) (w0 : a0.size ≤ maxLen) (_ : (Lit.int .i64 a1).wf = true) :
    Calls Try.prog 4 #[.string a0, .int .i64 a1] w fun e w' => e = .returned (.bool true) ∧ Below w.heap.size w w' := by
  obtain ⟨l, rfl⟩ := ex_bs a0
  unfold maxLen at w0
  rw [size_bs] at w0
  by_cases hl : 1048576 < l.length
  · go_enter Try.func4, Try.ntmps4
    go_wp2_with fail
    go_ret
    exact ⟨rfl, Below.refl _ _⟩
  · go_enter Try.func4, Try.ntmps4
    go_wp2_with (first | (go_at_call 11; refine (specOrderOfTurn_any _ _ _).mono ?_; rintro e w' ⟨rfl, rfl⟩) | (go_at_call 12; refine (implOrderOfTurn_any _ _ _).mono ?_; rintro e w' ⟨rfl, rfl⟩))
    go_ret
    exact ⟨rfl, Below.refl _ _⟩

end Go.Proofs.Ytnfhdcakmlmnaaa
