/- laws.FnExactDistanceBetween returns true at every two words. -/
import Derived.Test.YtdjkmeepkodhjaaHeights
import Derived.Test.YtdjkmeepkodhjaaCoreFnExactDistanceBetween
namespace Go.Proofs.Ytdjkmeepkodhjaa
open Go.RowKit

theorem walk_FnExactDistanceBetween (a0 a1 : ByteArray) (w : World) (w0 : a0.size ≤ maxLen) (w1 : a1.size ≤ maxLen) :
    Calls Try.prog 5 #[.string a0, .string a1] w fun e w' => e = .returned (.bool true) ∧ Below w.heap.size w w' := by
  obtain ⟨l0, rfl⟩ := ex_bs a0
  obtain ⟨l1, rfl⟩ := ex_bs a1
  unfold maxLen at w0 w1
  rw [size_bs] at w0 w1
  by_cases h0 : l0.length ≤ 1048576
  · by_cases h1 : l1.length ≤ 1048576
    · exact core_FnExactDistanceBetween l0 l1 _ w h0 h1 (fun W => specDistanceBetween_any _ _ W (by omega) (by omega)) (fun W => implDistanceBetween_any _ _ W (by omega) (by omega))
    · go_enter Try.func5, Try.ntmps5
      go_wp2_with fail
      go_ret
      exact ⟨rfl, Below.refl _ _⟩
  · go_enter Try.func5, Try.ntmps5
    go_wp2_with fail
    go_ret
    exact ⟨rfl, Below.refl _ _⟩

end Go.Proofs.Ytdjkmeepkodhjaa
