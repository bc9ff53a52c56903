/- within, l1In: a number lies in a range. -/
import Derived.Test.YteiffomekjadgaaProg
import Derived.Test.YteiffomekjadgaaLib
namespace Go.Proofs.Yteiffomekjadgaa
open Go.RowKit

theorem within_any (x lo hi : Int) (w : World) :
    Calls Try.prog 74 #[.int .i64 x, .int .i64 lo, .int .i64 hi] w fun e w' => e = .returned (.bool (inB x lo hi)) ∧ w = w' := by
  unfold inB
  go_enter Try.func74, Try.ntmps74
  go_wp2
  all_goals (go_ret; simp [*]; try omega)

theorem l1In_any (x lo hi : Int) (w : World) :
    Calls Try.prog 91 #[.int .i64 x, .int .i64 lo, .int .i64 hi] w fun e w' => e = .returned (.bool (inB x lo hi)) ∧ w = w' := by
  unfold inB
  go_enter Try.func91, Try.ntmps91
  go_wp2
  all_goals (go_ret; simp [*]; try omega)

end Go.Proofs.Yteiffomekjadgaa
