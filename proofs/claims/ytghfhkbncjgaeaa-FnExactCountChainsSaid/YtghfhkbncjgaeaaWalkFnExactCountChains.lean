/- laws.FnExactCountChains returns true at every input. -/
import Derived.Test.YtghfhkbncjgaeaaChcS
import Derived.Test.YtghfhkbncjgaeaaCoreFnExactCountChains
namespace Go.Proofs.Ytghfhkbncjgaeaa
open Go.RowKit

theorem walk_FnExactCountChains (a0 : Int) (a1 : Int) (w : World) (_ : (Lit.int .i64 a0).wf = true) (_ : (Lit.int .i64 a1).wf = true) :
    Calls Try.prog 4 #[.int .i64 a0, .int .i64 a1] w fun e w' => e = .returned (.bool true) ∧ Below w.heap.size w w' := by
  exact core_FnExactCountChains a0 a1 _ w  
    (fun W => specCountChains_any _ _ W )
    (fun W => implCountChains_any _ _ W )

end Go.Proofs.Ytghfhkbncjgaeaa
