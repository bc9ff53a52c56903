/- laws.FnExactRankOfPath returns true at every word. -/
import Derived.Test.YtdjkmeepkodhjaaRankPath2
import Derived.Test.YtdjkmeepkodhjaaCoreFnExactRankOfPath
namespace Go.Proofs.Ytdjkmeepkodhjaa
open Go.RowKit

theorem walk_FnExactRankOfPath (a0 : ByteArray) (w : World) (w0 : a0.size ≤ maxLen) :
    Calls Try.prog 7 #[.string a0] w fun e w' => e = .returned (.bool true) ∧ Below w.heap.size w w' := by
  obtain ⟨l0, rfl⟩ := ex_bs a0
  unfold maxLen at w0
  rw [size_bs] at w0
  by_cases h0 : l0.length ≤ 1048576
  · exact core_FnExactRankOfPath l0 _ w h0 (fun W => specRankOfPath_any _ W (by omega)) (fun W => implRankOfPath_any _ W (by omega))
  · go_enter Try.func7, Try.ntmps7
    go_wp2_with fail
    go_ret
    exact ⟨rfl, Below.refl _ _⟩

end Go.Proofs.Ytdjkmeepkodhjaa
