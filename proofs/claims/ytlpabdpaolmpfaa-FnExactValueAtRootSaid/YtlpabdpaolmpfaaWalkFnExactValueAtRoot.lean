/- laws.FnExactValueAtRoot returns true at every input. -/
import Derived.Test.YtlpabdpaolmpfaaRoot
import Derived.Test.YtlpabdpaolmpfaaCoreFnExactValueAtRoot
namespace Go.Proofs.Ytlpabdpaolmpfaa
open Go.RowKit

theorem walk_FnExactValueAtRoot (a0 : Option Addr) (len0 cap0 : Nat) (z0 : List Int) (a1 : Int) (w : World) (w0 : IsRow .i64 w a0 len0 cap0 z0) (_ : (Lit.int .i64 a1).wf = true) :
    Calls Try.prog 11 #[.slice a0 len0 cap0, .int .i64 a1] w fun e w' => e = .returned (.bool true) ∧ Below w.heap.size w w' := by
  have v0 := w0.len_le
  by_cases q0 : len0 ≤ 1048576
  · skip
    exact core_FnExactValueAtRoot a0 len0 cap0 (z0.take len0) a1 _ _ w q0 w0.rd 
      (fun W B0 e0 g0 => specValueAtRoot_any _ _ _ _ _ W g0 (by omega))
      (fun W B0 e0 g0 => implValueAtRoot_any _ _ _ _ _ W g0 (by omega))
  · go_enter Try.func11, Try.ntmps11
    go_wp2_with fail
    go_ret
    exact ⟨rfl, Below.refl _ _⟩

end Go.Proofs.Ytlpabdpaolmpfaa
