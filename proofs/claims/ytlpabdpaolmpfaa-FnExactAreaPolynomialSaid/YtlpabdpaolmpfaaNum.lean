/- within, l1In: a number lies in a range. -/
import Derived.Test.YtlpabdpaolmpfaaProg
import Derived.Test.YtlpabdpaolmpfaaLib
namespace Go.Proofs.Ytlpabdpaolmpfaa
open Go.RowKit

theorem within_any (x lo hi : Int) (w : World) :
    Calls Try.prog 40 #[.int .i64 x, .int .i64 lo, .int .i64 hi] w fun e w' => e = .returned (.bool (inB x lo hi)) ∧ w = w' := by
  unfold inB
  go_enter Try.func40, Try.ntmps40
  go_wp2
  all_goals (go_ret; simp [*]; try omega)

theorem l1In_any (x lo hi : Int) (w : World) :
    Calls Try.prog 38 #[.int .i64 x, .int .i64 lo, .int .i64 hi] w fun e w' => e = .returned (.bool (inB x lo hi)) ∧ w = w' := by
  unfold inB
  go_enter Try.func38, Try.ntmps38
  go_wp2
  all_goals (go_ret; simp [*]; try omega)

end Go.Proofs.Ytlpabdpaolmpfaa
