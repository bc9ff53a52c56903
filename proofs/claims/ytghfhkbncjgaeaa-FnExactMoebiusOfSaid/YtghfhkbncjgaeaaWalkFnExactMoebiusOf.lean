/- laws.FnExactMoebiusOf returns true at every input. -/
import Derived.Test.YtghfhkbncjgaeaaMoeS
import Derived.Test.YtghfhkbncjgaeaaCoreFnExactMoebiusOf
namespace Go.Proofs.Ytghfhkbncjgaeaa
open Go.RowKit

theorem walk_FnExactMoebiusOf (a0 : Option Addr) (len0 cap0 : Nat) (z0 : List Int) (a1 : Option Addr) (len1 cap1 : Nat) (z1 : List Int) (w : World) (w0 : IsRow .i64 w a0 len0 cap0 z0) (w1 : IsRow .i64 w a1 len1 cap1 z1) :
    Calls Try.prog 5 #[.slice a0 len0 cap0, .slice a1 len1 cap1] w fun e w' => e = .returned (.bool true) ∧ Below w.heap.size w w' := by
  have v0 := w0.len_le
  have v1 := w1.len_le
  by_cases q0 : len0 ≤ 1048576
  · skip
    by_cases q1 : len1 ≤ 1048576
    · skip
      exact core_FnExactMoebiusOf a0 len0 cap0 (z0.take len0) a1 len1 cap1 (z1.take len1) _ _ w q0 w0.rd q1 w1.rd 
        (fun W B0 e0 B1 e1 g0 g1 => specMoebiusOf_any _ _ _ _ _ _ _ _ W g0 g1 (by omega) (by omega))
        (fun W B0 e0 B1 e1 g0 g1 => implMoebiusOf_any _ _ _ _ _ _ _ _ W g0 g1 (by omega) (by omega))
    · go_enter Try.func5, Try.ntmps5
      go_wp2_with fail
      go_ret
      exact ⟨rfl, Below.refl _ _⟩
  · go_enter Try.func5, Try.ntmps5
    go_wp2_with fail
    go_ret
    exact ⟨rfl, Below.refl _ _⟩

end Go.Proofs.Ytghfhkbncjgaeaa
