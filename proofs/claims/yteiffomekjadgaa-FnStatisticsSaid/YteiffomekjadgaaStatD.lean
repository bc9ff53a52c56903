/- The words and names that FnStatistics draws. -/
import Derived.Test.YteiffomekjadgaaDraw4
import Derived.Test.YteiffomekjadgaaStatM
namespace Go.Proofs.Yteiffomekjadgaa
set_option linter.unusedVariables false
open Go.RowKit

/-- What is drawn is short as well. -/
def drawnC (l : List UInt8) : Prop := drawnB l ∧ l.length ≤ 100
set_option maxRecDepth 20000 in
set_option maxHeartbeats 4000000 in
theorem l2AnyS_any (g : Nat) (A : Option Addr) (n c : Nat) (zs : List Int) (w : World) (h : Cur w g A n c zs) :
    Calls Try.prog 49 #[.pointer (some ⟨g, 0, none⟩)] w (RetDS drawnC g A n c zs w) := by
  have HC := Lib.hid h
  clear h
  go_enter Try.func49, Try.ntmps49
  go_wp2_with fail
  refine (l2Path_any _ _ _ _ _ _ HC.out).mono ?_
  rintro e w1 ⟨l, ⟨hd, hl, -⟩, rfl, hc, ho⟩
  have C1 := Lib.hid hc
  have O1 := Lib.hid ho
  clear hc ho hd
  go_wp2_with fail
  refine (l1Below_any 12 (by omega) (by omega) _ _ _ _ _ _ C1.out).mono ?_
  rintro e w2 ⟨y, hy0, hy1, rfl, hc, ho⟩
  have C2 := Lib.hid hc
  have O2 := Lib.hid (O1.out.trans ho)
  clear hc ho
  by_cases y0 : y = 0
  · have f0 : (y == 0) = true := by rw [beq_iff_eq]; exact y0
    clear y0
    go_wp2_with fail
    refine (l1Spoil_any l (by omega) _ _ _ _ _ _ C2.out).mono ?_
    rintro e w3 ⟨x, hx, rfl, hc, ho⟩
    have C3 := Lib.hid hc
    have O3 := Lib.hid (O2.out.trans ho)
    clear hc ho
    go_wp2_with fail
    go_ret
    exact ⟨x, ⟨Or.inl (by omega), by omega⟩, rfl, C3.out, O3.out⟩
  have f0 : (y == 0) = false := by rw [beq_eq_false_iff_ne]; exact y0
  by_cases y1 : y = 1
  · have f1 : (y == 1) = true := by rw [beq_iff_eq]; exact y1
    clear y0 y1
    go_wp2_with fail
    refine (l1Pick_any [[], [100, 117], [117], [120], [117, 117, 117, 117, 117, 117, 117, 117, 117, 100, 100, 100, 100, 100, 100, 100, 100, 100], [117, 117, 117, 117, 117, 117, 117, 117, 100, 100, 100, 100, 100, 100, 100, 100]] _ 6 6 (by omega) (by omega) _ _ _ _ _ _ (C2.out.below ((Below.refl _ _).alloc (Nat.le_refl _) _)) (by exact (Own.lit w2 _ _ 6 rfl (by decide)).rd) (fun _ ad h => by injection h with h; subst h; show w2.heap.size ≠ g; have := C2.out.lt; omega)).mono ?_
    rintro e w3 ⟨x, hx, rfl, hc, ho⟩
    have C3 := Lib.hid hc
    have O3 := Lib.hid ((O2.out.trans (Only.of_below ((Below.refl w2.heap.size w2).alloc (Nat.le_refl _) _))).trans ho)
    have HX := Lib.hid (show drawnC x by simp only [List.mem_cons, List.not_mem_nil, or_false] at hx; rcases hx with rfl | rfl | rfl | rfl | rfl | rfl <;> exact ⟨by unfold drawnB; decide, by decide⟩)
    clear hc ho hx
    go_wp2_with fail
    go_ret
    exact ⟨x, HX.out, rfl, C3.out, O3.out⟩
  have f1 : (y == 1) = false := by rw [beq_eq_false_iff_ne]; exact y1
  clear y0 y1
  go_wp2_with fail
  go_ret
  exact ⟨l, ⟨Or.inl (by omega), by omega⟩, rfl, C2.out, O2.out⟩

end Go.Proofs.Yteiffomekjadgaa
