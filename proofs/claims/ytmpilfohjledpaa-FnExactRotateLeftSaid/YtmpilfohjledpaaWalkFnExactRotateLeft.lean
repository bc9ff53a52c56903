/- laws.FnExactRotateLeft returns true at every input. -/
import Derived.Test.YtmpilfohjledpaaRotS
import Derived.Test.YtmpilfohjledpaaRotI
import Derived.Test.YtmpilfohjledpaaSlice
import Derived.Test.YtmpilfohjledpaaCoreFnExactRotateLeft
namespace Go.Proofs.Ytmpilfohjledpaa
open Go.RowKit

theorem walk_FnExactRotateLeft (a0 : ByteArray) (a1 : Int) (w : World) (w0 : a0.size ≤ maxLen) (i1 : (Lit.int .i64 a1).wf = true) :
    Calls Try.prog 7 #[.string a0, .int .i64 a1] w fun e w' => e = .returned (.bool true) ∧ Below w.heap.size w w' := by
  have b1 : -9223372036854775808 ≤ a1 ∧ a1 ≤ 9223372036854775807 := by
    have h : (decide ((-9223372036854775808 : Int) ≤ a1) && decide (a1 ≤ 9223372036854775807)) = true := i1
    simpa using h
  obtain ⟨l0, rfl⟩ := ex_bs a0
  unfold maxLen at w0
  rw [size_bs] at w0
  by_cases q0 : l0.length ≤ 1048576
  · skip
    exact core_FnExactRotateLeft l0 a1 _ _ w q0 
      (fun W => (specRotateLeft_any _ _ W (by omega)).mono fun _ _ ⟨he, hw⟩ => ⟨he, below_of_drewN hw⟩)
      (fun W => implRotateLeft_any _ _ W (by omega) (by omega))
  · go_enter Try.func7, Try.ntmps7
    go_wp2_with fail
    go_ret
    exact ⟨rfl, Below.refl _ _⟩

end Go.Proofs.Ytmpilfohjledpaa
