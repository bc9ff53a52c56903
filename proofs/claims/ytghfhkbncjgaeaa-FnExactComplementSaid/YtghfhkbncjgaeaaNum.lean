/- within, l1In: a number lies in a range. -/
import Derived.Test.YtghfhkbncjgaeaaProg
import Derived.Test.YtghfhkbncjgaeaaLib
namespace Go.Proofs.Ytghfhkbncjgaeaa
open Go.RowKit

theorem within_any (x lo hi : Int) (w : World) :
    Calls Try.prog 29 #[.int .i64 x, .int .i64 lo, .int .i64 hi] w fun e w' => e = .returned (.bool (inB x lo hi)) ∧ w = w' := by
  unfold inB
  go_enter Try.func29, Try.ntmps29
  go_wp2
  all_goals (go_ret; simp [*]; try omega)

theorem l1In_any (x lo hi : Int) (w : World) :
    Calls Try.prog 25 #[.int .i64 x, .int .i64 lo, .int .i64 hi] w fun e w' => e = .returned (.bool (inB x lo hi)) ∧ w = w' := by
  unfold inB
  go_enter Try.func25, Try.ntmps25
  go_wp2
  all_goals (go_ret; simp [*]; try omega)

end Go.Proofs.Ytghfhkbncjgaeaa
