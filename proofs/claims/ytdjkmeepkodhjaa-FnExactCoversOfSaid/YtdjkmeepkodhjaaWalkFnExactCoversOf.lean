/- laws.FnExactCoversOf returns true at every word. -/
import Derived.Test.YtdjkmeepkodhjaaCovers
import Derived.Test.YtdjkmeepkodhjaaCoreFnExactCoversOf
namespace Go.Proofs.Ytdjkmeepkodhjaa
open Go.RowKit

theorem coversB_len (l : List UInt8) : (coversB l).length ≤ 1048576 := by
  unfold coversB
  split
  · next h => have := cov_len l (l.length - 1); have := (dyck_pathB h).1; omega
  · simp
theorem walk_FnExactCoversOf (a0 : ByteArray) (w : World) (w0 : a0.size ≤ maxLen) :
    Calls Try.prog 8 #[.string a0] w fun e w' => e = .returned (.bool true) ∧ Below w.heap.size w w' := by
  obtain ⟨l0, rfl⟩ := ex_bs a0
  unfold maxLen at w0
  rw [size_bs] at w0
  by_cases h0 : l0.length ≤ 1048576
  · exact core_FnExactCoversOf l0 _ w h0 (coversB_len l0) (fun W => specCoversOf_any _ W (by omega)) (fun W => implCoversOf_any _ W (by omega))
  · go_enter Try.func8, Try.ntmps8
    go_wp2_with fail
    go_ret
    exact ⟨rfl, Below.refl _ _⟩

end Go.Proofs.Ytdjkmeepkodhjaa
