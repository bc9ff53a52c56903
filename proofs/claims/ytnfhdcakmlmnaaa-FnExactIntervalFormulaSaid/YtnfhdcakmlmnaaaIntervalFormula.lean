/- IntervalFormula: the number of Tamari intervals by the formula, 0 to 7; else -1. -/
import Derived.Test.YtnfhdcakmlmnaaaChoose
namespace Go.Proofs.Ytnfhdcakmlmnaaa
open Go.RowKit

def ifC (m : Nat) : Int := 2 * chI (4 * (m : Int) + 5) m m / (((m : Int) + 1) * ((m : Int) + 2))
def ifI (n : Int) : Int := if inB n 0 7 then (if n == 0 then 1 else ifC (n.toNat - 1)) else -1
theorem ch_lb : ∀ m : Nat, m ≤ 6 → lbI (4 * (m : Int) + 5) m = chI (4 * (m : Int) + 5) m m := by
  intro m hm
  have : m = 0 ∨ m = 1 ∨ m = 2 ∨ m = 3 ∨ m = 4 ∨ m = 5 ∨ m = 6 := by omega
  rcases this with rfl | rfl | rfl | rfl | rfl | rfl | rfl <;> decide +kernel

theorem implIntervalFormula_any (n : Int) (w : World) :
    Calls Try.prog 14 #[.int .i64 n] w fun e w' => e = .returned (.int .i64 (ifI n)) ∧ w = w' := by
  rcases hin : inB n 0 7 with _ | _
  · have HB := Lib.hid hin
    have hf := Lib.hid (show ifI n = -1 by simp [ifI, hin])
    clear hin
    go_enter Try.func14, Try.ntmps14
    go_wp2_with (go_at_call 29; refine (within_any _ _ _ _).mono ?_; rintro e w' ⟨rfl, rfl⟩; rw [HB.out])
    go_ret
    exact ⟨by rw [hf.out]; rfl, rfl⟩
  · obtain ⟨h1, h2⟩ := inB_iff.1 hin
    by_cases h0 : n = 0
    · subst h0
      have HB := Lib.hid hin
      clear hin
      go_enter Try.func14, Try.ntmps14
      go_wp2_with (go_at_call 29; refine (within_any _ _ _ _).mono ?_; rintro e w' ⟨rfl, rfl⟩; rw [HB.out])
      go_ret
      exact ⟨rfl, rfl⟩
    · obtain ⟨k, rfl⟩ : ∃ k : Nat, n = (k : Int) + 1 := ⟨(n - 1).toNat, by omega⟩
      have HB := Lib.hid hin
      have hk : k ≤ 6 := by omega
      have hf := Lib.hid (show ifI ((k : Int) + 1) = ifC k by unfold ifI; rw [hin, if_pos rfl, if_neg (by simp; omega)]; congr 1)
      clear hin
      obtain ⟨b1, b2⟩ := chI_bd (n := 4 * (k : Int) + 5) (k := k) (by omega) (by omega) k (by omega)
      obtain ⟨b3, b4⟩ := p30_le k (by omega)
      obtain ⟨x, hx⟩ : ∃ x, x = chI (4 * (k : Int) + 5) k k := ⟨_, rfl⟩
      rw [← hx] at b1 b2
      have HX := Lib.hid hx
      clear hx h0
      have hd1 : 2 ≤ ((k : Int) + 1) * ((k : Int) + 1 + 1) ∧ ((k : Int) + 1) * ((k : Int) + 1 + 1) ≤ 56 := by
        have : k = 0 ∨ k = 1 ∨ k = 2 ∨ k = 3 ∨ k = 4 ∨ k = 5 ∨ k = 6 := by omega
        rcases this with rfl | rfl | rfl | rfl | rfl | rfl | rfl <;> decide
      obtain ⟨d1, d2⟩ := hd1
      go_enter Try.func14, Try.ntmps14
      go_wp2_with fail
      refine (within_any _ _ _ _).mono ?_
      rintro e w' ⟨rfl, rfl⟩
      rw [HB.out]
      go_wp2_with fail
      rw [show 4 * ((k : Int) + 1) + 1 = 4 * (k : Int) + 5 by omega]
      refine (choose_any (4 * (k : Int) + 5) k (by omega) (by omega) (by omega) _).mono ?_
      rintro e w' ⟨rfl, rfl⟩
      rw [← HX.out]
      go_wp2_with fail
      go_ret
      refine ⟨?_, rfl⟩
      rw [hf.out, ifC, ← HX.out]
      rfl

theorem specIntervalFormula_any (n : Int) (w : World) :
    Calls Try.prog 13 #[.int .i64 n] w fun e w' => e = .returned (.int .i64 (ifI n)) ∧ w = w' := by
  rcases hin : inB n 0 7 with _ | _
  · have HB := Lib.hid hin
    have hf := Lib.hid (show ifI n = -1 by simp [ifI, hin])
    clear hin
    go_enter Try.func13, Try.ntmps13
    go_wp2_with (go_at_call 28; refine (l1In_any _ _ _ _).mono ?_; rintro e w' ⟨rfl, rfl⟩; rw [HB.out])
    go_ret
    exact ⟨by rw [hf.out]; rfl, rfl⟩
  · obtain ⟨h1, h2⟩ := inB_iff.1 hin
    by_cases h0 : n = 0
    · subst h0
      have HB := Lib.hid hin
      clear hin
      go_enter Try.func13, Try.ntmps13
      go_wp2_with (go_at_call 28; refine (l1In_any _ _ _ _).mono ?_; rintro e w' ⟨rfl, rfl⟩; rw [HB.out])
      go_ret
      exact ⟨rfl, rfl⟩
    · obtain ⟨k, rfl⟩ : ∃ k : Nat, n = (k : Int) + 1 := ⟨(n - 1).toNat, by omega⟩
      have HB := Lib.hid hin
      have hk : k ≤ 6 := by omega
      have hf := Lib.hid (show ifI ((k : Int) + 1) = ifC k by unfold ifI; rw [hin, if_pos rfl, if_neg (by simp; omega)]; congr 1)
      clear hin
      obtain ⟨b1, b2⟩ := chI_bd (n := 4 * (k : Int) + 5) (k := k) (by omega) (by omega) k (by omega)
      obtain ⟨b3, b4⟩ := p30_le k (by omega)
      obtain ⟨x, hx⟩ : ∃ x, x = chI (4 * (k : Int) + 5) k k := ⟨_, rfl⟩
      rw [← hx] at b1 b2
      have HX := Lib.hid hx
      clear hx h0
      have hd1 : 2 ≤ ((k : Int) + 1) * ((k : Int) + 1 + 1) ∧ ((k : Int) + 1) * ((k : Int) + 1 + 1) ≤ 56 := by
        have : k = 0 ∨ k = 1 ∨ k = 2 ∨ k = 3 ∨ k = 4 ∨ k = 5 ∨ k = 6 := by omega
        rcases this with rfl | rfl | rfl | rfl | rfl | rfl | rfl <;> decide
      obtain ⟨d1, d2⟩ := hd1
      go_enter Try.func13, Try.ntmps13
      go_wp2_with fail
      refine (l1In_any _ _ _ _).mono ?_
      rintro e w' ⟨rfl, rfl⟩
      rw [HB.out]
      go_wp2_with fail
      rw [show 4 * ((k : Int) + 1) + 1 = 4 * (k : Int) + 5 by omega]
      refine (l3Binomial_any (4 * (k : Int) + 5) k (by omega) (by omega) (by omega) _).mono ?_
      rintro e w' ⟨rfl, rfl⟩
      rw [ch_lb k hk, ← HX.out]
      go_wp2_with fail
      go_ret
      refine ⟨?_, rfl⟩
      rw [hf.out, ifC, ← HX.out]
      rfl

end Go.Proofs.Ytnfhdcakmlmnaaa
