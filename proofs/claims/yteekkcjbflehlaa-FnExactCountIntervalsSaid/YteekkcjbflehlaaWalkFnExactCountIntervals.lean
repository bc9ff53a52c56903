/- laws.FnExactCountIntervals returns true at every input. -/
import Derived.Test.YteekkcjbflehlaaCntInt
import Derived.Test.YteekkcjbflehlaaCoreFnExactCountIntervals
namespace Go.Proofs.Yteekkcjbflehlaa
open Go.RowKit

theorem walk_FnExactCountIntervals (a0 : Int) (w : World) (_ : (Lit.int .i64 a0).wf = true) :
    Calls Try.prog 9 #[.int .i64 a0] w fun e w' => e = .returned (.bool true) ∧ Below w.heap.size w w' := by
  exact core_FnExactCountIntervals a0 _ w  
    (fun W => specCountIntervals_any _ W )
    (fun W => implCountIntervals_any _ W )

end Go.Proofs.Yteekkcjbflehlaa
