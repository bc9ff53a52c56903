/- laws.FnExactValueAt returns true at every list and number. -/
import Derived.Test.YtlpabdpaolmpfaaValueAt
import Derived.Test.YtlpabdpaolmpfaaCoreFnExactValueAt
namespace Go.Proofs.Ytlpabdpaolmpfaa
open Go.RowKit

theorem walk_FnExactValueAt (a0 : Option Addr) (len0 cap0 : Nat) (z0 : List Int) (a1 : Int) (w : World) (w0 : IsRow .i64 w a0 len0 cap0 z0) (_ : (Lit.int .i64 a1).wf = true) :
    Calls Try.prog 3 #[.slice a0 len0 cap0, .int .i64 a1] w fun e w' => e = .returned (.bool true) ∧ Below w.heap.size w w' := by
  by_cases hl : len0 ≤ 1048576
  · exact core_FnExactValueAt a0 len0 cap0 _ a1 _ _ w hl w0.rd
      (fun W B e h => (specValueAt_any _ _ _ _ a1 W h (by omega)).mono fun _ _ ⟨he, hw⟩ => ⟨he, by subst hw; exact Below.refl _ _⟩)
      (fun W B e h => (implValueAt_any _ _ _ _ a1 W h (by omega)).mono fun _ _ ⟨he, hw⟩ => ⟨he, by subst hw; exact Below.refl _ _⟩)
  · have := w0.len_le
    clear w0
    go_enter Try.func3, Try.ntmps3
    go_wp2_with fail
    go_ret
    exact ⟨rfl, Below.refl _ _⟩

end Go.Proofs.Ytlpabdpaolmpfaa
