/- laws.FnExactCountRight returns true at every input. -/
import Derived.Test.YtmpilfohjledpaaNbS
import Derived.Test.YtmpilfohjledpaaNbI
import Derived.Test.YtmpilfohjledpaaSlice
import Derived.Test.YtmpilfohjledpaaCoreFnExactCountRight
namespace Go.Proofs.Ytmpilfohjledpaa
open Go.RowKit

theorem walk_FnExactCountRight (a0 : ByteArray) (w : World) (w0 : a0.size ≤ maxLen) :
    Calls Try.prog 9 #[.string a0] w fun e w' => e = .returned (.bool true) ∧ Below w.heap.size w w' := by
  obtain ⟨l0, rfl⟩ := ex_bs a0
  unfold maxLen at w0
  rw [size_bs] at w0
  by_cases q0 : l0.length ≤ 1048576
  · skip
    exact core_FnExactCountRight l0 _ w q0 
      (fun W => (specCountRight_any _ W (by omega)).mono fun _ _ ⟨he, hw⟩ => ⟨he, below_of_drewN hw⟩)
      (fun W => implCountRight_any _ W (by omega))
  · go_enter Try.func9, Try.ntmps9
    go_wp2_with fail
    go_ret
    exact ⟨rfl, Below.refl _ _⟩

end Go.Proofs.Ytmpilfohjledpaa
