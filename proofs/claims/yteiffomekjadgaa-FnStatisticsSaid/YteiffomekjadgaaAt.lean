/- laws.at: a byte of the code, or a number in its place. -/
import Derived.Test.YteiffomekjadgaaNum
import Derived.Test.YteiffomekjadgaaSlice
import Derived.Test.YteiffomekjadgaaDraw
import Derived.StillTailTactics
namespace Go.Proofs.Yteiffomekjadgaa
set_option linter.unusedVariables false
open Go.RowKit

theorem at_any (A : Option Addr) (n c i : Nat) (zs : List Int) (w : World) (h : Rd w A n (uv zs)) (hn : n ≤ 1000000000) (hi : i ≤ 1000) (hz : ∀ z ∈ zs, 0 ≤ z ∧ z ≤ 255) :
    Calls Try.prog 15 #[.slice A n c, .int .i64 i] w fun e w' => ∃ z : Int, 0 ≤ z ∧ z ≤ 255 ∧ e = .returned (.int .i64 z) ∧ Below w.heap.size w w' := by
  by_cases hlt : i < n
  · obtain ⟨b, o, z, hA, hzx, hc⟩ := h.atu hlt
    subst hA
    have hb := hz z (List.mem_of_getElem? hzx)
    have i1 : (i : Int) < (n : Int) := by omega
    have i2 : (0 : Int) ≤ (i : Int) := by omega
    have uz : IntKind.i64.wrap z = z := IntWalk.i64_in _ (by omega)
    have HB := Lib.hid hb
    clear h hz hzx hb
    go_enter Try.func15, Try.ntmps15
    go_wp2_with fail
    go_ret
    exact ⟨z, HB.out.1, HB.out.2, rfl, Below.refl _ _⟩
  · have i1 : ¬ (i : Int) < (n : Int) := by omega
    have u1 : IntKind.i64.wrap ((i : Int) * 37) = (i : Int) * 37 := IntWalk.i64_in _ (by omega)
    have u2 : IntKind.i64.wrap ((n : Int) * 11) = (n : Int) * 11 := IntWalk.i64_in _ (by omega)
    have u3 : IntKind.i64.wrap ((i : Int) * 37 + (n : Int) * 11) = (i : Int) * 37 + (n : Int) * 11 := IntWalk.i64_in _ (by omega)
    have u4 : IntKind.i64.wrap (((i : Int) * 37 + (n : Int) * 11).tmod 256) = ((i : Int) * 37 + (n : Int) * 11).tmod 256 := IntWalk.i64_in _ (by rw [Int.tmod_eq_emod_of_nonneg (by omega)]; omega)
    have HT := Lib.hid (show 0 ≤ ((i : Int) * 37 + (n : Int) * 11).tmod 256 ∧ ((i : Int) * 37 + (n : Int) * 11).tmod 256 ≤ 255 by rw [Int.tmod_eq_emod_of_nonneg (by omega)]; omega)
    clear h hz
    go_enter Try.func15, Try.ntmps15
    go_wp2_with fail
    go_ret
    exact ⟨_, HT.out.1, HT.out.2, rfl, Below.refl _ _⟩

end Go.Proofs.Yteiffomekjadgaa
