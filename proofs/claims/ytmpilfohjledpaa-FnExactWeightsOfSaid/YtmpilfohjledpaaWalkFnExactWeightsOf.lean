/- laws.FnExactWeightsOf returns true at every input. -/
import Derived.Test.YtmpilfohjledpaaWtI2
import Derived.Test.YtmpilfohjledpaaCoreFnExactWeightsOf
namespace Go.Proofs.Ytmpilfohjledpaa
open Go.RowKit

theorem walk_FnExactWeightsOf (a0 : ByteArray) (w : World) (w0 : a0.size ≤ maxLen) :
    Calls Try.prog 5 #[.string a0] w fun e w' => e = .returned (.bool true) ∧ Below w.heap.size w w' := by
  obtain ⟨l0, rfl⟩ := ex_bs a0
  unfold maxLen at w0
  rw [size_bs] at w0
  by_cases q0 : l0.length ≤ 1048576
  · skip
    exact core_FnExactWeightsOf l0 _ w q0 (by have := wtsB_len l0; omega)
      (fun W => (specWeightsOf_any _ W (by omega)).mono fun _ _ ⟨A, n, c, hn, he, ho, hb⟩ => ⟨A, n, c, hn, he, OSeg.mk' ho, hb⟩)
      (fun W => (implWeightsOf_any _ W (by omega)).mono fun _ _ ⟨A, n, c, hn, he, ho, hb⟩ => ⟨A, n, c, hn, he, OSeg.mk' ho, hb⟩)
  · go_enter Try.func5, Try.ntmps5
    go_wp2_with fail
    go_ret
    exact ⟨rfl, Below.refl _ _⟩

end Go.Proofs.Ytmpilfohjledpaa
