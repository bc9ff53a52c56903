/- laws.FnExactDiameterOf returns true at every input. -/
import Derived.Test.YteekkcjbflehlaaDiam
import Derived.Test.YteekkcjbflehlaaCoreFnExactDiameterOf
namespace Go.Proofs.Yteekkcjbflehlaa
open Go.RowKit

theorem walk_FnExactDiameterOf (a0 : Int) (w : World) (_ : (Lit.int .i64 a0).wf = true) :
    Calls Try.prog 11 #[.int .i64 a0] w fun e w' => e = .returned (.bool true) ∧ Below w.heap.size w w' := by
  exact core_FnExactDiameterOf a0 _ w  
    (fun W => specDiameterOf_any _ W )
    (fun W => implDiameterOf_any _ W )

end Go.Proofs.Yteekkcjbflehlaa
