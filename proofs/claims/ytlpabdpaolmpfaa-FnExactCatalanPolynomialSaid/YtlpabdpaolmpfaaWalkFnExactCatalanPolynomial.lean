/- laws.FnExactCatalanPolynomial returns true at every input. -/
import Derived.Test.YtlpabdpaolmpfaaCatalan
import Derived.Test.YtlpabdpaolmpfaaCoreFnExactCatalanPolynomial
namespace Go.Proofs.Ytlpabdpaolmpfaa
open Go.RowKit

theorem walk_FnExactCatalanPolynomial (a0 : Int) (w : World) (_ : (Lit.int .i64 a0).wf = true) :
    Calls Try.prog 12 #[.int .i64 a0] w fun e w' => e = .returned (.bool true) ∧ Below w.heap.size w w' := by
  exact core_FnExactCatalanPolynomial a0 _ _ w  (catP_len _)
    (fun W => (specCatalanPolynomial_any _ W ).mono fun _ _ ⟨A, n, c, hn, he, ho, hb⟩ => ⟨A, n, c, hn, he, OSeg.mk' ho, hb⟩)
    (fun W => (implCatalanPolynomial_any _ W ).mono fun _ _ ⟨A, n, c, hn, he, ho, hb⟩ => ⟨A, n, c, hn, he, OSeg.mk' ho, hb⟩)

end Go.Proofs.Ytlpabdpaolmpfaa
