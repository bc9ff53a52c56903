/- laws.FnExactCountBelow returns true at every input. -/
import Derived.Test.YtdjkmeepkodhjaaCntBelow
import Derived.Test.YtdjkmeepkodhjaaCoreFnExactCountBelow
namespace Go.Proofs.Ytdjkmeepkodhjaa
open Go.RowKit

theorem walk_FnExactCountBelow (a0 : Int) (w : World) (_ : (Lit.int .i64 a0).wf = true) :
    Calls Try.prog 13 #[.int .i64 a0] w fun e w' => e = .returned (.bool true) ∧ Below w.heap.size w w' := by
  exact core_FnExactCountBelow a0 _ w  
    (fun W => specCountBelow_any _ W )
    (fun W => implCountBelow_any _ W )

end Go.Proofs.Ytdjkmeepkodhjaa
