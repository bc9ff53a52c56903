/- laws.FnExactComplement returns true at every input. -/
import Derived.Test.YtghfhkbncjgaeaaCmp
import Derived.Test.YtghfhkbncjgaeaaCoreFnExactComplement
namespace Go.Proofs.Ytghfhkbncjgaeaa
open Go.RowKit

theorem walk_FnExactComplement (a0 : Option Addr) (len0 cap0 : Nat) (z0 : List Int) (w : World) (w0 : IsRow .i64 w a0 len0 cap0 z0) :
    Calls Try.prog 3 #[.slice a0 len0 cap0] w fun e w' => e = .returned (.bool true) ∧ Below w.heap.size w w' := by
  have v0 := w0.len_le
  by_cases q0 : len0 ≤ 1048576
  · skip
    exact core_FnExactComplement a0 len0 cap0 (z0.take len0) _ _ w q0 w0.rd (cmp_len _)
      (fun W B0 e0 g0 => (specComplement_any _ _ _ _ W g0 (by omega)).mono fun _ _ ⟨A, n, c, hn, he, ho, hb⟩ => ⟨A, n, c, hn, he, OSeg.mk' ho, hb⟩)
      (fun W B0 e0 g0 => (implComplement_any _ _ _ _ W g0 (by omega)).mono fun _ _ ⟨A, n, c, hn, he, ho, hb⟩ => ⟨A, n, c, hn, he, OSeg.mk' ho, hb⟩)
  · go_enter Try.func3, Try.ntmps3
    go_wp2_with fail
    go_ret
    exact ⟨rfl, Below.refl _ _⟩

end Go.Proofs.Ytghfhkbncjgaeaa
