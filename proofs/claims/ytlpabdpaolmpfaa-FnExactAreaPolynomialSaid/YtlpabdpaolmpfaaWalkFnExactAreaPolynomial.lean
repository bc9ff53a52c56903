/- laws.FnExactAreaPolynomial returns true at every input. -/
import Derived.Test.YtlpabdpaolmpfaaAreaS
import Derived.Test.YtlpabdpaolmpfaaAreaI
import Derived.Test.YtlpabdpaolmpfaaCoreFnExactAreaPolynomial
namespace Go.Proofs.Ytlpabdpaolmpfaa
open Go.RowKit

theorem walk_FnExactAreaPolynomial (a0 : Int) (w : World) (_ : (Lit.int .i64 a0).wf = true) :
    Calls Try.prog 10 #[.int .i64 a0] w fun e w' => e = .returned (.bool true) ∧ Below w.heap.size w w' := by
  exact core_FnExactAreaPolynomial a0 _ _ w  (arP_len _)
    (fun W => (specAreaPolynomial_any _ W ).mono fun _ _ ⟨A, n, c, hn, he, ho, hb⟩ => ⟨A, n, c, hn, he, OSeg.mk' ho, hb⟩)
    (fun W => (implAreaPolynomial_any _ W ).mono fun _ _ ⟨A, n, c, hn, he, ho, hb⟩ => ⟨A, n, c, hn, he, OSeg.mk' ho, hb⟩)

end Go.Proofs.Ytlpabdpaolmpfaa
