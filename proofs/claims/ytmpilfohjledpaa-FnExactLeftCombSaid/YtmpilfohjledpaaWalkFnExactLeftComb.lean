/- laws.FnExactLeftComb returns true at every input. -/
import Derived.Test.YtmpilfohjledpaaLeftComb
import Derived.Test.YtmpilfohjledpaaSlice
import Derived.Test.YtmpilfohjledpaaCoreFnExactLeftComb
namespace Go.Proofs.Ytmpilfohjledpaa
open Go.RowKit

theorem walk_FnExactLeftComb (a0 : Int) (w : World) (_ : (Lit.int .i64 a0).wf = true) :
    Calls Try.prog 4 #[.int .i64 a0] w fun e w' => e = .returned (.bool true) ∧ Below w.heap.size w w' := by
  exact core_FnExactLeftComb a0 _ _ w  
    (fun W => (specLeftComb_any _ W ).mono fun _ _ ⟨he, hw⟩ => ⟨he, below_of_drewN hw⟩)
    (fun W => implLeftComb_any _ W )

end Go.Proofs.Ytmpilfohjledpaa
