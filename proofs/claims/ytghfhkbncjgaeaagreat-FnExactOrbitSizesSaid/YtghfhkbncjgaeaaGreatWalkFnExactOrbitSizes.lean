/- laws.FnExactOrbitSizes returns true at every input. -/
import Derived.Test.YtghfhkbncjgaeaaGreatOrbI
import Derived.Test.YtghfhkbncjgaeaaGreatOrbS
import Derived.Test.YtghfhkbncjgaeaaGreatCoreFnExactOrbitSizes
namespace Go.Proofs.YtghfhkbncjgaeaaGreat
open Go.RowKit

theorem walk_FnExactOrbitSizes (a0 : ByteArray) (a1 : Int) (w : World) (w0 : a0.size ≤ maxLen) (_ : (Lit.int .i64 a1).wf = true) :
    Calls Tryz.prog 4 #[.string a0, .int .i64 a1] w fun e w' => e = .returned (.bool true) ∧ Below w.heap.size w w' := by
  obtain ⟨l0, rfl⟩ := ex_bs a0
  unfold maxLen at w0
  rw [size_bs] at w0
  by_cases q0 : l0.length ≤ 1048576
  · skip
    exact core_FnExactOrbitSizes l0 a1 _ _ w q0 (orbT_len _ _)
      (fun W => (specOrbitSizes_any _ _ W).mono fun _ _ ⟨A, n, c, hn, he, ho, hb⟩ => ⟨A, n, c, hn, he, OSeg.mk' ho, hb⟩)
      (fun W => (implOrbitSizes_any _ _ W).mono fun _ _ ⟨A, n, c, hn, he, ho, hb⟩ => ⟨A, n, c, hn, he, OSeg.mk' ho, hb⟩)
  · go_enter Tryz.func4, Tryz.ntmps4
    go_wp2_with fail
    go_ret
    exact ⟨rfl, Below.refl _ _⟩

end Go.Proofs.YtghfhkbncjgaeaaGreat
