/- laws.FnExactRightComb returns true at every n. -/
import Derived.Test.YtnfhdcakmlmnaaaRightComb
namespace Go.Proofs.Ytnfhdcakmlmnaaa
open Go.RowKit Go.Deep

theorem walk_FnExactRightComb (a0 : Int) (w : World) (_ : (Lit.int .i64 a0).wf = true) :
    Calls Try.prog 3 #[.int .i64 a0] w fun e w' => e = .returned (.bool true) ∧ Below w.heap.size w w' := by
  by_cases h : 0 ≤ a0 ∧ a0 ≤ 8
  · obtain ⟨h1, h2⟩ := h
    obtain ⟨m, rfl⟩ := Int.eq_ofNat_of_zero_le h1
    go_enter Try.func3, Try.ntmps3
    go_wp2_with (first | (go_at_call 9; refine (specRightComb_good m (by omega) _).mono ?_; rintro e w' ⟨rfl, rfl⟩) | (go_at_call 10; refine (implRightComb_good m (by omega) _).mono ?_; rintro e w' ⟨rfl, hb⟩))
    go_ret
    exact ⟨rfl, hb⟩
  · have h' : a0 < 0 ∨ 8 < a0 := by omega
    clear h
    go_enter Try.func3, Try.ntmps3
    go_wp2_with (first | (go_at_call 9; refine (specRightComb_bad a0 h' _).mono ?_; rintro e w' ⟨rfl, rfl⟩) | (go_at_call 10; refine (implRightComb_bad a0 h' _).mono ?_; rintro e w' ⟨rfl, rfl⟩))
    go_ret
    exact ⟨rfl, Below.refl _ _⟩

end Go.Proofs.Ytnfhdcakmlmnaaa
