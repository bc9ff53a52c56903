/- laws.FnExactRankOfPartition returns true at every input. -/
import Derived.Test.YtdjkmeepkodhjaaRankPart
import Derived.Test.YtdjkmeepkodhjaaCoreFnExactRankOfPartition
namespace Go.Proofs.Ytdjkmeepkodhjaa
open Go.RowKit

theorem walk_FnExactRankOfPartition (a0 : Option Addr) (len0 cap0 : Nat) (z0 : List Int) (w : World) (w0 : IsRow .i64 w a0 len0 cap0 z0) :
    Calls Try.prog 4 #[.slice a0 len0 cap0] w fun e w' => e = .returned (.bool true) ∧ Below w.heap.size w w' := by
  have v0 := w0.len_le
  by_cases q0 : len0 ≤ 1048576
  · skip
    exact core_FnExactRankOfPartition a0 len0 cap0 (z0.take len0) _ w q0 w0.rd 
      (fun W B0 e0 g0 => specRankOfPartition_any _ _ _ _ W g0 (by omega))
      (fun W B0 e0 g0 => implRankOfPartition_any _ _ _ _ W g0 (by omega))
  · go_enter Try.func4, Try.ntmps4
    go_wp2_with fail
    go_ret
    exact ⟨rfl, Below.refl _ _⟩

end Go.Proofs.Ytdjkmeepkodhjaa
