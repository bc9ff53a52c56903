/- laws.FnExactFixedByTurn returns true at every input. -/
import Derived.Test.YtghfhkbncjgaeaaMg41
import Derived.Test.YtghfhkbncjgaeaaCoreFnExactFixedByTurn
namespace Go.Proofs.Ytghfhkbncjgaeaa
open Go.RowKit

theorem walk_FnExactFixedByTurn (a0 : ByteArray) (a1 : Int) (a2 : Int) (w : World) (w0 : a0.size ≤ maxLen) (_ : (Lit.int .i64 a1).wf = true) (_ : (Lit.int .i64 a2).wf = true) :
    Calls Try.prog 6 #[.string a0, .int .i64 a1, .int .i64 a2] w fun e w' => e = .returned (.bool true) ∧ Below w.heap.size w w' := by
  obtain ⟨l0, rfl⟩ := ex_bs a0
  unfold maxLen at w0
  rw [size_bs] at w0
  by_cases q0 : l0.length ≤ 1048576
  · skip
    exact core_FnExactFixedByTurn l0 a1 a2 _ w q0 
      (fun W => specFixedByTurn_any _ _ _ W)
      (fun W => implFixedByTurn_any _ _ _ W)
  · go_enter Try.func6, Try.ntmps6
    go_wp2_with fail
    go_ret
    exact ⟨rfl, Below.refl _ _⟩

end Go.Proofs.Ytghfhkbncjgaeaa
