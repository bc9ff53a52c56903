/- laws.FnExactRotationDistance returns true at every input. -/
import Derived.Test.YteekkcjbflehlaaRDist
import Derived.Test.YteekkcjbflehlaaCoreFnExactRotationDistance
namespace Go.Proofs.Yteekkcjbflehlaa
open Go.RowKit

theorem walk_FnExactRotationDistance (a0 : ByteArray) (a1 : ByteArray) (w : World) (w0 : a0.size ≤ maxLen) (w1 : a1.size ≤ maxLen) :
    Calls Try.prog 7 #[.string a0, .string a1] w fun e w' => e = .returned (.bool true) ∧ Below w.heap.size w w' := by
  obtain ⟨l0, rfl⟩ := ex_bs a0
  unfold maxLen at w0
  rw [size_bs] at w0
  obtain ⟨l1, rfl⟩ := ex_bs a1
  unfold maxLen at w1
  rw [size_bs] at w1
  by_cases q0 : l0.length ≤ 1048576
  · skip
    by_cases q1 : l1.length ≤ 1048576
    · skip
      exact core_FnExactRotationDistance l0 l1 _ w q0 q1 
        (fun W => specRotationDistance_any _ _ W (by omega) (by omega))
        (fun W => implRotationDistance_any _ _ W (by omega) (by omega))
    · go_enter Try.func7, Try.ntmps7
      go_wp2_with fail
      go_ret
      exact ⟨rfl, Below.refl _ _⟩
  · go_enter Try.func7, Try.ntmps7
    go_wp2_with fail
    go_ret
    exact ⟨rfl, Below.refl _ _⟩

end Go.Proofs.Yteekkcjbflehlaa
