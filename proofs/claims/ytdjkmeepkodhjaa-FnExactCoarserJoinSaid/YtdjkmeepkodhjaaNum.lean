/- within, l1In: a number lies in a range. -/
import Derived.Test.YtdjkmeepkodhjaaProg
import Derived.Test.YtdjkmeepkodhjaaLib
namespace Go.Proofs.Ytdjkmeepkodhjaa
open Go.RowKit

theorem within_any (x lo hi : Int) (w : World) :
    Calls Try.prog 67 #[.int .i64 x, .int .i64 lo, .int .i64 hi] w fun e w' => e = .returned (.bool (inB x lo hi)) ∧ w = w' := by
  unfold inB
  go_enter Try.func67, Try.ntmps67
  go_wp2
  all_goals (go_ret; simp [*]; try omega)

theorem l1In_any (x lo hi : Int) (w : World) :
    Calls Try.prog 65 #[.int .i64 x, .int .i64 lo, .int .i64 hi] w fun e w' => e = .returned (.bool (inB x lo hi)) ∧ w = w' := by
  unfold inB
  go_enter Try.func65, Try.ntmps65
  go_wp2
  all_goals (go_ret; simp [*]; try omega)

end Go.Proofs.Ytdjkmeepkodhjaa
