/- The words and numbers that FnHeights draws. -/
import Derived.Test.YteiffomekjadgaaDraw4
import Derived.Test.YteiffomekjadgaaBetw
namespace Go.Proofs.Yteiffomekjadgaa
set_option linter.unusedVariables false
open Go.RowKit

theorem Only.fin {g : Nat} {w w1 w2 : World} (hb : Below w.heap.size w w1) (ho : Only g (g + 1) w1 w2) (hg : w.heap.size ≤ g) : Below w.heap.size w w2 := hb.trans (ho.below hg hb.size)

set_option maxRecDepth 20000 in
set_option maxHeartbeats 4000000 in
theorem l18Pair_any (A : Option Addr) (n c : Nat) (zs : List Int) (w : World) (h : Rd w A n (uv zs)) (hn : n ≤ 1000000000) (hz : ∀ z ∈ zs, 0 ≤ z ∧ z ≤ 255) :
    Calls Try.prog 82 #[.slice A n c] w (RetW2 w) := by
  have HR := Lib.hid h
  have HZ := Lib.hid hz
  clear h hz
  go_enter Try.func82, Try.ntmps82
  go_wp2_with fail
  refine (l1New_any _ _ _ zs _ HR.out hn HZ.out).mono ?_
  rintro e w0 ⟨g, hg, rfl, hc, hb⟩
  have C0 := Lib.hid hc
  have B0 := Lib.hid hb
  clear hc hb
  go_wp2_with fail
  refine (l1Below_any 7 (by omega) (by omega) _ _ _ _ _ _ C0.out).mono ?_
  rintro e w1 ⟨x, hx0, hx1, rfl, hc, ho⟩
  have C1 := Lib.hid hc
  have B1 := Lib.hid (Only.fin B0.out ho hg)
  obtain ⟨m, rfl⟩ := Int.eq_ofNat_of_zero_le hx0
  have hm : m ≤ 8 := by omega
  clear hc ho hx0 hx1
  go_wp2_with fail
  refine (l2Draw_any m hm _ _ _ _ _ _ C1.out).mono ?_
  rintro e w2 ⟨a, ⟨-, ha⟩, rfl, hc, ho⟩
  have C2 := Lib.hid hc
  have B2 := Lib.hid (Only.fin B1.out ho hg)
  have HA := Lib.hid (show a.length ≤ 1000 by omega)
  clear hc ho ha
  go_wp2_with fail
  refine (l1Below_any 8 (by omega) (by omega) _ _ _ _ _ _ C2.out).mono ?_
  rintro e w3 ⟨y, hy0, hy1, rfl, hc, ho⟩
  have C3 := Lib.hid hc
  have B3 := Lib.hid (Only.fin B2.out ho hg)
  clear hc ho
  by_cases y0 : y = 0
  · have f0 : (y == 0) = true := by rw [beq_iff_eq]; exact y0
    clear y0
    go_wp2_with fail
    refine (l2Any_any _ _ _ _ _ _ C3.out).mono ?_
    rintro e w4 ⟨b, hb, rfl, hc, ho⟩
    have B4 := Lib.hid (Only.fin B3.out ho hg)
    have HB := Lib.hid hb
    clear hc ho hb
    go_wp2_with fail
    go_ret2
    exact ⟨a, b, HA.out, HB.out, rfl, B4.out⟩
  have f0 : (y == 0) = false := by rw [beq_eq_false_iff_ne]; exact y0
  by_cases y1 : y = 1
  · have f1 : (y == 1) = true := by rw [beq_iff_eq]; exact y1
    clear y0 y1
    go_wp2_with fail
    go_ret2
    exact ⟨a, a, HA.out, HA.out, rfl, B3.out⟩
  have f1 : (y == 1) = false := by rw [beq_eq_false_iff_ne]; exact y1
  clear y0 y1
  go_wp2_with fail
  refine (l2Draw_any m hm _ _ _ _ _ _ C3.out).mono ?_
  rintro e w4 ⟨b, ⟨-, hb⟩, rfl, hc, ho⟩
  have C4 := Lib.hid hc
  have B4 := Lib.hid (Only.fin B3.out ho hg)
  have HB := Lib.hid (show b.length ≤ 1000 by omega)
  clear hc ho hb
  go_wp2_with fail
  refine (l1Once_any 3 (by omega) (by omega) _ _ _ _ _ _ C4.out).mono ?_
  rintro e w5 ⟨q, rfl, hc, ho⟩
  have B5 := Lib.hid (Only.fin B4.out ho hg)
  clear hc ho
  rcases q with _ | _
  · go_wp2_with fail
    go_ret2
    exact ⟨a, b, HA.out, HB.out, rfl, B5.out⟩
  · go_wp2_with fail
    refine (specUpperPath_any a b _ (by have := HA.out; omega) (by have := HB.out; omega)).mono ?_
    rintro e w6 ⟨rfl, hb6⟩
    have B6 := Lib.hid (B5.out.trans (hb6.mono B5.out.size))
    have HX := Lib.hid (show (betwB mx a b).1.length ≤ 1000 by have := betw_len (m := mx) (a := a) (b := b); have := HA.out; omega)
    clear hb6
    go_wp2_with fail
    go_ret2
    exact ⟨a, _, HA.out, HX.out, rfl, B6.out⟩

theorem DrawLowerPath_any (A : Option Addr) (n c : Nat) (zs : List Int) (w : World) (h : Rd w A n (uv zs)) (hn : n ≤ 1000000000) (hz : ∀ z ∈ zs, 0 ≤ z ∧ z ≤ 255) :
    Calls Try.prog 29 #[.slice A n c] w (RetW2 w) := by
  have HR := Lib.hid h
  have HZ := Lib.hid hz
  clear h hz
  go_enter Try.func29, Try.ntmps29
  go_wp2_with fail
  refine (l18Pair_any _ _ _ zs _ HR.out hn HZ.out).mono ?_
  rintro e w0 ⟨a, b, ha, hb, rfl, hbl⟩
  have HB := Lib.hid hbl
  have HA := Lib.hid (And.intro ha hb)
  clear hbl ha hb
  go_wp2_with fail
  go_ret2
  exact ⟨a, b, HA.out.1, HA.out.2, rfl, HB.out⟩

theorem DrawIsBelow_any (A : Option Addr) (n c : Nat) (zs : List Int) (w : World) (h : Rd w A n (uv zs)) (hn : n ≤ 1000000000) (hz : ∀ z ∈ zs, 0 ≤ z ∧ z ≤ 255) :
    Calls Try.prog 44 #[.slice A n c] w (RetW2 w) := by
  have HR := Lib.hid h
  have HZ := Lib.hid hz
  clear h hz
  go_enter Try.func44, Try.ntmps44
  go_wp2_with fail
  refine (l18Pair_any _ _ _ zs _ HR.out hn HZ.out).mono ?_
  rintro e w0 ⟨a, b, ha, hb, rfl, hbl⟩
  have HB := Lib.hid hbl
  have HA := Lib.hid (And.intro ha hb)
  clear hbl ha hb
  go_wp2_with fail
  go_ret2
  exact ⟨a, b, HA.out.1, HA.out.2, rfl, HB.out⟩

theorem DrawCoversOf_any (A : Option Addr) (n c : Nat) (zs : List Int) (w : World) (h : Rd w A n (uv zs)) (hn : n ≤ 1000000000) (hz : ∀ z ∈ zs, 0 ≤ z ∧ z ≤ 255) :
    Calls Try.prog 38 #[.slice A n c] w (RetW1 w) := by
  have HR := Lib.hid h
  have HZ := Lib.hid hz
  clear h hz
  go_enter Try.func38, Try.ntmps38
  go_wp2_with fail
  refine (l1New_any _ _ _ zs _ HR.out hn HZ.out).mono ?_
  rintro e w0 ⟨g, hg, rfl, hc, hb⟩
  have C0 := Lib.hid hc
  have B0 := Lib.hid hb
  clear hc hb
  go_wp2_with fail
  refine (l2Any_any _ _ _ _ _ _ C0.out).mono ?_
  rintro e w1 ⟨a, ha, rfl, hc, ho⟩
  have B1 := Lib.hid (Only.fin B0.out ho hg)
  have HA := Lib.hid ha
  clear hc ho ha
  go_wp2_with fail
  go_ret
  exact ⟨a, HA.out, rfl, B1.out⟩

theorem DrawCountBelow_any (A : Option Addr) (n c : Nat) (zs : List Int) (w : World) (h : Rd w A n (uv zs)) (hn : n ≤ 1000000000) (hz : ∀ z ∈ zs, 0 ≤ z ∧ z ≤ 255) :
    Calls Try.prog 41 #[.slice A n c] w (RetN1 (-1) 5 w) := by
  have HR := Lib.hid h
  have HZ := Lib.hid hz
  clear h hz
  go_enter Try.func41, Try.ntmps41
  go_wp2_with fail
  refine (l1New_any _ _ _ zs _ HR.out hn HZ.out).mono ?_
  rintro e w0 ⟨g, hg, rfl, hc, hb⟩
  have C0 := Lib.hid hc
  have B0 := Lib.hid hb
  clear hc hb
  go_wp2_with fail
  refine (l1Below_any 7 (by omega) (by omega) _ _ _ _ _ _ C0.out).mono ?_
  rintro e w1 ⟨x, hx0, hx1, rfl, hc, ho⟩
  have B1 := Lib.hid (Only.fin B0.out ho hg)
  clear hc ho
  go_wp2_with fail
  go_ret
  exact ⟨x - 1, by omega, by omega, rfl, B1.out⟩

end Go.Proofs.Yteiffomekjadgaa
