/- laws.FnExactSieveHolds returns true at every input. -/
import Derived.Test.YtghfhkbncjgaeaaGreatSvI
import Derived.Test.YtghfhkbncjgaeaaGreatCoreFnExactSieveHolds
namespace Go.Proofs.YtghfhkbncjgaeaaGreat
open Go.RowKit

theorem walk_FnExactSieveHolds (a0 : ByteArray) (a1 : Int) (w : World) (w0 : a0.size ≤ maxLen) (_ : (Lit.int .i64 a1).wf = true) :
    Calls Tryz.prog 5 #[.string a0, .int .i64 a1] w fun e w' => e = .returned (.bool true) ∧ Below w.heap.size w w' := by
  obtain ⟨l0, rfl⟩ := ex_bs a0
  unfold maxLen at w0
  rw [size_bs] at w0
  by_cases q0 : l0.length ≤ 1048576
  · skip
    exact core_FnExactSieveHolds l0 a1 _ w q0 
      (fun W => specSieveHolds_any _ _ W)
      (fun W => implSieveHolds_any _ _ W)
  · go_enter Tryz.func5, Tryz.ntmps5
    go_wp2_with fail
    go_ret
    exact ⟨rfl, Below.refl _ _⟩

end Go.Proofs.YtghfhkbncjgaeaaGreat
