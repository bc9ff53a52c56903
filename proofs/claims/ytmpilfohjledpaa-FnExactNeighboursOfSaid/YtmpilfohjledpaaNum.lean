/- within, l1In: a number lies in a range. -/
import Derived.Test.YtmpilfohjledpaaProg
import Derived.Test.YtmpilfohjledpaaLib
namespace Go.Proofs.Ytmpilfohjledpaa
open Go.RowKit

theorem within_any (x lo hi : Int) (w : World) :
    Calls Try.prog 68 #[.int .i64 x, .int .i64 lo, .int .i64 hi] w fun e w' => e = .returned (.bool (inB x lo hi)) ∧ w = w' := by
  unfold inB
  go_enter Try.func68, Try.ntmps68
  go_wp2
  all_goals (go_ret; simp [*]; try omega)

theorem l1In_any (x lo hi : Int) (w : World) :
    Calls Try.prog 43 #[.int .i64 x, .int .i64 lo, .int .i64 hi] w fun e w' => e = .returned (.bool (inB x lo hi)) ∧ w = w' := by
  unfold inB
  go_enter Try.func43, Try.ntmps43
  go_wp2
  all_goals (go_ret; simp [*]; try omega)

end Go.Proofs.Ytmpilfohjledpaa
