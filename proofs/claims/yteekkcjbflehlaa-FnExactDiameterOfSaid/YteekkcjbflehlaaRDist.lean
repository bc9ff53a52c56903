/- RotationDistance of both sides. -/
import Derived.Test.YteekkcjbflehlaaWayI
namespace Go.Proofs.Yteekkcjbflehlaa
set_option linter.unusedVariables false
open Go.RowKit Go.Deep

def rdB (a b : Txt) : Int := if alikeB a b 5 then ((wayB a b).length : Int) - 1 else -1
theorem rw_yes {a b : Txt} (h : alikeB a b 5 = true) : (rwB a b).2 = true ∧ rdB a b = ((rwB a b).1.length : Int) - 1 := by
  unfold rwB rdB; rw [if_pos h, if_pos h]; exact ⟨rfl, rfl⟩
theorem rw_no {a b : Txt} (h : alikeB a b 5 = false) : (rwB a b).2 = false ∧ rdB a b = -1 := by
  unfold rwB rdB; rw [h]; exact ⟨rfl, rfl⟩

theorem specRotationDistance_any (a b : List UInt8) (w : World) (ha : a.length ≤ 1000000000) (hb : b.length ≤ 1000000000) :
    Calls Try.prog 46 #[.string (bs a), .string (bs b)] w fun e w' => e = .returned (.int .i64 (rdB a b)) ∧ Below w.heap.size w w' := by
  have HC := Lib.hid (specRotationWay_any a b w ha hb)
  have hlen := rwB_len a b
  rcases hf : alikeB a b 5 with _ | _
  · obtain ⟨h1, h2⟩ := rw_no hf
    have H1 := Lib.hid h1
    have H2 := Lib.hid h2
    clear h1 h2 hf
    go_enter Try.func46, Try.ntmps46
    go_wp2_with fail
    refine HC.out.mono ?_
    rintro e w1 ⟨A, n, c, hn, rfl, ho, hb1⟩
    rw [H1.out]
    go_wp2_with fail
    go_ret
    exact ⟨ret_int (by rw [H2.out]), hb1⟩
  · obtain ⟨h1, h2⟩ := rw_yes hf
    have H1 := Lib.hid h1
    have H2 := Lib.hid h2
    clear h1 h2 hf
    go_enter Try.func46, Try.ntmps46
    go_wp2_with fail
    refine HC.out.mono ?_
    rintro e w1 ⟨A, n, c, hn, rfl, ho, hb1⟩
    rw [H1.out]
    have HN := Lib.hid hn
    have hn9 : n ≤ 1048576 := by omega
    clear hn ho
    go_wp2_with fail
    go_ret
    exact ⟨ret_int (by rw [H2.out, ← HN.out]), hb1⟩

theorem implRotationDistance_any (a b : List UInt8) (w : World) (ha : a.length ≤ 1000000000) (hb : b.length ≤ 1000000000) :
    Calls Try.prog 47 #[.string (bs a), .string (bs b)] w fun e w' => e = .returned (.int .i64 (rdB a b)) ∧ Below w.heap.size w w' := by
  have HC := Lib.hid (implRotationWay_any a b w ha hb)
  have hlen := rwB_len a b
  rcases hf : alikeB a b 5 with _ | _
  · obtain ⟨h1, h2⟩ := rw_no hf
    have H1 := Lib.hid h1
    have H2 := Lib.hid h2
    clear h1 h2 hf
    go_enter Try.func47, Try.ntmps47
    go_wp2_with fail
    refine HC.out.mono ?_
    rintro e w1 ⟨A, n, c, hn, rfl, ho, hb1⟩
    rw [H1.out]
    go_wp2_with fail
    go_ret
    exact ⟨ret_int (by rw [H2.out]), hb1⟩
  · obtain ⟨h1, h2⟩ := rw_yes hf
    have H1 := Lib.hid h1
    have H2 := Lib.hid h2
    clear h1 h2 hf
    go_enter Try.func47, Try.ntmps47
    go_wp2_with fail
    refine HC.out.mono ?_
    rintro e w1 ⟨A, n, c, hn, rfl, ho, hb1⟩
    rw [H1.out]
    have HN := Lib.hid hn
    have hn9 : n ≤ 1048576 := by omega
    clear hn ho
    go_wp2_with fail
    go_ret
    exact ⟨ret_int (by rw [H2.out, ← HN.out]), hb1⟩

end Go.Proofs.Yteekkcjbflehlaa
