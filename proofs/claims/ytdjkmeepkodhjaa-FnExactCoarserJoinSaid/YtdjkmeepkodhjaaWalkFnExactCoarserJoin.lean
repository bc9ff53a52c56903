/- laws.FnExactCoarserJoin returns true at every input. -/
import Derived.Test.YtdjkmeepkodhjaaJoin
import Derived.Test.YtdjkmeepkodhjaaCoreFnExactCoarserJoin
namespace Go.Proofs.Ytdjkmeepkodhjaa
open Go.RowKit

theorem walk_FnExactCoarserJoin (a0 : Option Addr) (len0 cap0 : Nat) (z0 : List Int) (a1 : Option Addr) (len1 cap1 : Nat) (z1 : List Int) (w : World) (w0 : IsRow .i64 w a0 len0 cap0 z0) (w1 : IsRow .i64 w a1 len1 cap1 z1) :
    Calls Try.prog 14 #[.slice a0 len0 cap0, .slice a1 len1 cap1] w fun e w' => e = .returned (.bool true) ∧ Below w.heap.size w w' := by
  have v0 := w0.len_le
  have v1 := w1.len_le
  by_cases q0 : len0 ≤ 1048576
  · skip
    by_cases q1 : len1 ≤ 1048576
    · skip
      exact core_FnExactCoarserJoin a0 len0 cap0 (z0.take len0) a1 len1 cap1 (z1.take len1) _ _ w q0 w0.rd q1 w1.rd (joi_len _ _)
        (fun W B0 e0 B1 e1 g0 g1 => (specJoin_any _ _ _ _ _ _ _ _ W g0 g1 (by omega) (by omega)).mono fun _ _ ⟨A, n, c, hn, he, ho, hb⟩ => ⟨A, n, c, hn, he, OSeg.mk' ho, hb⟩)
        (fun W B0 e0 B1 e1 g0 g1 => (implJoin_any _ _ _ _ _ _ _ _ W g0 g1 (by omega) (by omega)).mono fun _ _ ⟨A, n, c, hn, he, ho, hb⟩ => ⟨A, n, c, hn, he, OSeg.mk' ho, hb⟩)
    · go_enter Try.func14, Try.ntmps14
      go_wp2_with fail
      go_ret
      exact ⟨rfl, Below.refl _ _⟩
  · go_enter Try.func14, Try.ntmps14
    go_wp2_with fail
    go_ret
    exact ⟨rfl, Below.refl _ _⟩

end Go.Proofs.Ytdjkmeepkodhjaa
