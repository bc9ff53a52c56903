/- laws.FnExactCyclotomicPolynomial returns true at every input. -/
import Derived.Test.YtlpabdpaolmpfaaCyc
import Derived.Test.YtlpabdpaolmpfaaCoreFnExactCyclotomicPolynomial
namespace Go.Proofs.Ytlpabdpaolmpfaa
open Go.RowKit

theorem walk_FnExactCyclotomicPolynomial (a0 : Int) (w : World) (_ : (Lit.int .i64 a0).wf = true) :
    Calls Try.prog 6 #[.int .i64 a0] w fun e w' => e = .returned (.bool true) ∧ Below w.heap.size w w' := by
  exact core_FnExactCyclotomicPolynomial a0 _ _ w  (cycP_len _)
    (fun W => (specCyclotomicPolynomial_any _ W ).mono fun _ _ ⟨A, n, c, hn, he, ho, hb⟩ => ⟨A, n, c, hn, he, OSeg.mk' ho, hb⟩)
    (fun W => (implCyclotomicPolynomial_any _ W ).mono fun _ _ ⟨A, n, c, hn, he, ho, hb⟩ => ⟨A, n, c, hn, he, OSeg.mk' ho, hb⟩)

end Go.Proofs.Ytlpabdpaolmpfaa
