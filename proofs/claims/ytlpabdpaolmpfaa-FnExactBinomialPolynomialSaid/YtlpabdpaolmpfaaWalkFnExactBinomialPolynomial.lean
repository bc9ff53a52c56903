/- laws.FnExactBinomialPolynomial returns true at every input. -/
import Derived.Test.YtlpabdpaolmpfaaBinomial
import Derived.Test.YtlpabdpaolmpfaaCoreFnExactBinomialPolynomial
namespace Go.Proofs.Ytlpabdpaolmpfaa
open Go.RowKit

theorem walk_FnExactBinomialPolynomial (a0 : Int) (a1 : Int) (w : World) (_ : (Lit.int .i64 a0).wf = true) (_ : (Lit.int .i64 a1).wf = true) :
    Calls Try.prog 4 #[.int .i64 a0, .int .i64 a1] w fun e w' => e = .returned (.bool true) ∧ Below w.heap.size w w' := by
  exact core_FnExactBinomialPolynomial a0 a1 _ _ w  (binP_len _ _)
    (fun W => (specBinomialPolynomial_any _ _ W ).mono fun _ _ ⟨A, n, c, hn, he, ho, hb⟩ => ⟨A, n, c, hn, he, OSeg.mk' ho, hb⟩)
    (fun W => (implBinomialPolynomial_any _ _ W ).mono fun _ _ ⟨A, n, c, hn, he, ho, hb⟩ => ⟨A, n, c, hn, he, OSeg.mk' ho, hb⟩)

end Go.Proofs.Ytlpabdpaolmpfaa
