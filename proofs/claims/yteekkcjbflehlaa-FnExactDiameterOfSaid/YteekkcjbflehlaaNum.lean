/- within, l1In: a number lies in a range. -/
import Derived.Test.YteekkcjbflehlaaProg
import Derived.Test.YteekkcjbflehlaaLib
namespace Go.Proofs.Yteekkcjbflehlaa
open Go.RowKit

theorem within_any (x lo hi : Int) (w : World) :
    Calls Try.prog 93 #[.int .i64 x, .int .i64 lo, .int .i64 hi] w fun e w' => e = .returned (.bool (inB x lo hi)) ∧ w = w' := by
  unfold inB
  go_enter Try.func93, Try.ntmps93
  go_wp2
  all_goals (go_ret; simp [*]; try omega)

theorem l1In_any (x lo hi : Int) (w : World) :
    Calls Try.prog 85 #[.int .i64 x, .int .i64 lo, .int .i64 hi] w fun e w' => e = .returned (.bool (inB x lo hi)) ∧ w = w' := by
  unfold inB
  go_enter Try.func85, Try.ntmps85
  go_wp2
  all_goals (go_ret; simp [*]; try omega)

end Go.Proofs.Yteekkcjbflehlaa
