/- laws.FnExactFormatPolynomial returns true at every input. -/
import Derived.Test.YtlpabdpaolmpfaaFmtPol
import Derived.Test.YtlpabdpaolmpfaaCoreFnExactFormatPolynomial
namespace Go.Proofs.Ytlpabdpaolmpfaa
open Go.RowKit

theorem walk_FnExactFormatPolynomial (a0 : Option Addr) (len0 cap0 : Nat) (z0 : List Int) (w : World) (w0 : IsRow .i64 w a0 len0 cap0 z0) :
    Calls Try.prog 7 #[.slice a0 len0 cap0] w fun e w' => e = .returned (.bool true) ∧ Below w.heap.size w w' := by
  have v0 := w0.len_le
  by_cases q0 : len0 ≤ 1048576
  · skip
    exact core_FnExactFormatPolynomial a0 len0 cap0 (z0.take len0) _ w q0 w0.rd 
      (fun W B0 e0 g0 => specFmtPol_any _ _ _ _ W g0 (by omega))
      (fun W B0 e0 g0 => implFmtPol_any _ _ _ _ W g0 (by omega))
  · go_enter Try.func7, Try.ntmps7
    go_wp2_with fail
    go_ret
    exact ⟨rfl, Below.refl _ _⟩

end Go.Proofs.Ytlpabdpaolmpfaa
