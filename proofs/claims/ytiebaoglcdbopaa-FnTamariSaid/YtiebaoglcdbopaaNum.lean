/- within, l1In: a number lies in a range. -/
import Derived.Test.YtiebaoglcdbopaaProg
import Derived.Test.YtiebaoglcdbopaaLib
namespace Go.Proofs.Ytiebaoglcdbopaa
open Go.RowKit

theorem within_any (x lo hi : Int) (w : World) :
    Calls Try.prog 72 #[.int .i64 x, .int .i64 lo, .int .i64 hi] w fun e w' => e = .returned (.bool (inB x lo hi)) ∧ w = w' := by
  unfold inB
  go_enter Try.func72, Try.ntmps72
  go_wp2
  all_goals (go_ret; simp [*]; try omega)

theorem l1In_any (x lo hi : Int) (w : World) :
    Calls Try.prog 64 #[.int .i64 x, .int .i64 lo, .int .i64 hi] w fun e w' => e = .returned (.bool (inB x lo hi)) ∧ w = w' := by
  unfold inB
  go_enter Try.func64, Try.ntmps64
  go_wp2
  all_goals (go_ret; simp [*]; try omega)

end Go.Proofs.Ytiebaoglcdbopaa
