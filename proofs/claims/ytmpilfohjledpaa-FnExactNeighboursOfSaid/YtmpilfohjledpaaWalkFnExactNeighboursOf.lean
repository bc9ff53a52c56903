/- laws.FnExactNeighboursOf returns true at every input. -/
import Derived.Test.YtmpilfohjledpaaNbS
import Derived.Test.YtmpilfohjledpaaNbI
import Derived.Test.YtmpilfohjledpaaCoreFnExactNeighboursOf
namespace Go.Proofs.Ytmpilfohjledpaa
open Go.RowKit

theorem walk_FnExactNeighboursOf (a0 : ByteArray) (w : World) (w0 : a0.size ≤ maxLen) :
    Calls Try.prog 12 #[.string a0] w fun e w' => e = .returned (.bool true) ∧ Below w.heap.size w w' := by
  obtain ⟨l0, rfl⟩ := ex_bs a0
  unfold maxLen at w0
  rw [size_bs] at w0
  by_cases q0 : l0.length ≤ 1048576
  · skip
    exact core_FnExactNeighboursOf l0 _ w q0 (by have h1 := rtsB_len rotR l0; have h2 := rtsB_len rotL l0; rw [nbB, List.length_append]; omega)
      (fun W => specNeighboursOf_any _ W (by omega))
      (fun W => implNeighboursOf_any _ W (by omega))
  · go_enter Try.func12, Try.ntmps12
    go_wp2_with fail
    go_ret
    exact ⟨rfl, Below.refl _ _⟩

end Go.Proofs.Ytmpilfohjledpaa
