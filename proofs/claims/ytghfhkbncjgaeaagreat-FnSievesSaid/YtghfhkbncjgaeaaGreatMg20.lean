/- Merged: Mat. -/
import Derived.Test.YtghfhkbncjgaeaaGreatMg15
import Derived.Test.YtghfhkbncjgaeaaGreatMg3
import Derived.BigQuiet
import Derived.Deep.QuietTactic
import Derived.StillTailTactics

namespace Go.Proofs.YtghfhkbncjgaeaaGreat
set_option linter.unusedVariables false
open Go.RowKit

theorem l1In_q (x lo hi : Int) (b : Bool) (h : inB x lo hi = b) (w : World) : Calls Tryz.prog 34 #[.int .i64 x, .int .i64 lo, .int .i64 hi] w fun e w' => e = .returned (.bool b) ∧ ∃ q, w' = w.drewN q :=
  (l1In_any x lo hi w).mono fun _ _ ⟨he, hw⟩ => ⟨by rw [he, h], 0, hw.symm⟩
theorem within_q (x lo hi : Int) (b : Bool) (h : inB x lo hi = b) (w : World) : Calls Tryz.prog 33 #[.int .i64 x, .int .i64 lo, .int .i64 hi] w fun e w' => e = .returned (.bool b) ∧ ∃ q, w' = w.drewN q :=
  (within_any x lo hi w).mono fun _ _ ⟨he, hw⟩ => ⟨by rw [he, h], 0, hw.symm⟩

set_option maxRecDepth 20000 in
set_option maxHeartbeats 2000000 in
theorem specIsMatching_any (A : Option Addr) (n c : Nat) (m : List Int) (w : World) (h : Rd w A n (iv m)) (hn : n ≤ 1000000000) :
    Calls Tryz.prog 111 #[.slice A n c] w fun e w' => e = .returned (.bool (isMat m)) ∧ w = w' := by
  have HR := Lib.hid h
  have HL := Lib.hid (show m.length = n by have := h.len; rw [iv_len] at this; exact this)
  clear h
  go_enter Tryz.func111, Tryz.ntmps111
  go_wp2_with fail
  go_loop [3] (fun ix => ∃ i : Nat, i ≤ n ∧ ix = .int .i64 i ∧ (∀ j, j < i → matAt m j = true)) (fun ix => n - (intOf ix).toNat)
  case atStart => exact ⟨0, Nat.zero_le _, rfl, fun j hj => by omega⟩
  case round =>
    obtain ⟨i, hi, rfl, hok⟩ := hrel
    have HOK := Lib.hid hok
    clear hok
    by_cases hlt : i < n
    · obtain ⟨b, off, x, hA, hx, hc⟩ := HR.out.ati hlt
      subst hA
      have hxd : m.getD i 0 = x := by rw [List.getD_eq_getElem?_getD, hx]; rfl
      have i1 : (0 : Int) ≤ (i : Int) := by omega
      have i2 : (i : Int) < (n : Int) := by omega
      have hwn : IntKind.i64.wrap ((n : Int) - 1) = (n : Int) - 1 := IntWalk.i64_in _ (by omega)
      rcases hin : inB x 0 ((n : Int) - 1) with _ | _
      · have HF := Lib.hid (show isMat m = false from isMat_bad (i := i) (by rw [HL.out]; exact hlt) (by unfold matAt; rw [hxd, HL.out, hin]; rfl))
        have HB := Lib.hid hin
        clear hin hxd hx
        go_wp2_with fail
        refine (l1In_any _ _ _ _).mono ?_
        rintro e w' ⟨rfl, rfl⟩
        rw [HB.out]
        go_wp2_with fail
        go_ret
        exact ⟨ret_bool (by rw [HF.out]), rfl⟩
      have hib := inB_iff.1 hin
      obtain ⟨X, rfl⟩ := Int.eq_ofNat_of_zero_le hib.1
      have hX : X < n := by omega
      by_cases hxi : X = i
      · have HF := Lib.hid (show isMat m = false from isMat_bad (i := i) (by rw [HL.out]; exact hlt) (by unfold matAt; rw [hxd, decide_eq_false (by intro h; exact h (by omega))]; simp))
        have HB := Lib.hid hin
        have e1 : ((X : Int) == (i : Int)) = true := by rw [beq_iff_eq]; omega
        clear hin hxd hx hxi hib
        go_wp2_with fail
        refine (l1In_any _ _ _ _).mono ?_
        rintro e w' ⟨rfl, rfl⟩
        rw [HB.out]
        go_wp2_with fail
        go_ret
        exact ⟨ret_bool (by rw [HF.out]), rfl⟩
      have e1 : ((X : Int) == (i : Int)) = false := by rw [beq_eq_false_iff_ne]; omega
      obtain ⟨b', off', y, hA', hy, hcy⟩ := HR.out.ati hX
      cases hA'
      have hyd : m.getD X 0 = y := by rw [List.getD_eq_getElem?_getD, hy]; rfl
      have j1 : (0 : Int) ≤ (X : Int) := by omega
      have j2 : (X : Int) < (n : Int) := by omega
      have HB := Lib.hid hin
      by_cases hyi : y = (i : Int)
      · have HK := Lib.hid (show matAt m i = true by unfold matAt; rw [hxd, HL.out, hin, Int.toNat_natCast, hyd, decide_eq_true hyi, decide_eq_true (by omega)]; rfl)
        have e2 : (y != (i : Int)) = false := by simp [hyi]
        clear hin hxd hx hxi hib hyd hy hyi
        go_wp2_with fail
        refine (l1In_any _ _ _ _).mono ?_
        rintro e w' ⟨rfl, rfl⟩
        rw [HB.out]
        go_wp2_with fail
        go_round
        case rel => exact ⟨i + 1, by omega, by go_num, fun j hj => by
          rcases Nat.lt_or_ge j i with h1 | h1
          · exact HOK.out j h1
          · obtain rfl : j = i := by omega
            exact HK.out⟩
        case measure => simp [intOf]; omega
      · have HF := Lib.hid (show isMat m = false from isMat_bad (i := i) (by rw [HL.out]; exact hlt) (by unfold matAt; rw [hxd, Int.toNat_natCast, hyd, decide_eq_false hyi]; simp))
        have e2 : (y != (i : Int)) = true := by simp [hyi]
        clear hin hxd hx hxi hib hyd hy hyi
        go_wp2_with fail
        refine (l1In_any _ _ _ _).mono ?_
        rintro e w' ⟨rfl, rfl⟩
        rw [HB.out]
        go_wp2_with fail
        go_ret
        exact ⟨ret_bool (by rw [HF.out]), rfl⟩
    · have HF := Lib.hid (show isMat m = decide ((n : Int) ≤ 16) by
        rw [isMat_ok (fun j hj => HOK.out j (by have := HL.out; omega)), HL.out]
        by_cases h : n ≤ 16
        · rw [decide_eq_true h, decide_eq_true (by omega)]
        · rw [decide_eq_false h, decide_eq_false (by omega)])
      go_wp2_with fail
      go_ret
      exact ⟨ret_bool (by rw [HF.out]), rfl⟩

set_option maxRecDepth 20000 in
set_option maxHeartbeats 2000000 in
theorem implIsMatching_any (A : Option Addr) (n c : Nat) (m : List Int) (w : World) (h : Rd w A n (iv m)) (hn : n ≤ 1000000000) :
    Calls Tryz.prog 95 #[.slice A n c] w fun e w' => e = .returned (.bool (isMat m)) ∧ w = w' := by
  have HR := Lib.hid h
  have HL := Lib.hid (show m.length = n by have := h.len; rw [iv_len] at this; exact this)
  clear h
  by_cases h16 : n ≤ 16
  case neg =>
    have HF := Lib.hid (show isMat m = false by unfold isMat; rw [HL.out, decide_eq_false h16]; rfl)
    have h17 : (16 : Int) < (n : Int) := by omega
    go_enter Tryz.func95, Tryz.ntmps95
    go_wp2_with fail
    go_ret
    exact ⟨ret_bool (by rw [HF.out]), rfl⟩
  have h17 : ¬ (16 : Int) < (n : Int) := by omega
  go_enter Tryz.func95, Tryz.ntmps95
  go_wp2_with fail
  go_loop [3, 4, 10] (fun _ _ ix => ∃ i : Nat, i ≤ n ∧ ix = .int .i64 i ∧ (∀ j, j < i → matAt m j = true)) (fun _ _ ix => n - (intOf ix).toNat)
  case atStart => exact ⟨0, Nat.zero_le _, rfl, fun j hj => by omega⟩
  case round =>
    obtain ⟨i, hi, rfl, hok⟩ := hrel
    have HOK := Lib.hid hok
    clear hok
    by_cases hlt : i < n
    · obtain ⟨b, off, x, hA, hx, hc⟩ := HR.out.ati hlt
      subst hA
      have hxd : m.getD i 0 = x := by rw [List.getD_eq_getElem?_getD, hx]; rfl
      have i1 : (0 : Int) ≤ (i : Int) := by omega
      have i2 : (i : Int) < (n : Int) := by omega
      have hwn : IntKind.i64.wrap ((n : Int) - 1) = (n : Int) - 1 := IntWalk.i64_in _ (by omega)
      rcases hin : inB x 0 ((n : Int) - 1) with _ | _
      · have HF := Lib.hid (show isMat m = false from isMat_bad (i := i) (by rw [HL.out]; exact hlt) (by unfold matAt; rw [hxd, HL.out, hin]; rfl))
        have HB := Lib.hid hin
        clear hin hxd hx
        go_wp2_with fail
        refine (within_any _ _ _ _).mono ?_
        rintro e w' ⟨rfl, rfl⟩
        rw [HB.out]
        go_wp2_with fail
        go_ret
        exact ⟨ret_bool (by rw [HF.out]), rfl⟩
      have hib := inB_iff.1 hin
      obtain ⟨X, rfl⟩ := Int.eq_ofNat_of_zero_le hib.1
      have hX : X < n := by omega
      by_cases hxi : X = i
      · have HF := Lib.hid (show isMat m = false from isMat_bad (i := i) (by rw [HL.out]; exact hlt) (by unfold matAt; rw [hxd, decide_eq_false (by intro h; exact h (by omega))]; simp))
        have HB := Lib.hid hin
        have e1 : ((X : Int) == (i : Int)) = true := by rw [beq_iff_eq]; omega
        clear hin hxd hx hxi hib
        go_wp2_with fail
        refine (within_any _ _ _ _).mono ?_
        rintro e w' ⟨rfl, rfl⟩
        rw [HB.out]
        go_wp2_with fail
        go_ret
        exact ⟨ret_bool (by rw [HF.out]), rfl⟩
      have e1 : ((X : Int) == (i : Int)) = false := by rw [beq_eq_false_iff_ne]; omega
      obtain ⟨b', off', y, hA', hy, hcy⟩ := HR.out.ati hX
      cases hA'
      have hyd : m.getD X 0 = y := by rw [List.getD_eq_getElem?_getD, hy]; rfl
      have j1 : (0 : Int) ≤ (X : Int) := by omega
      have j2 : (X : Int) < (n : Int) := by omega
      have HB := Lib.hid hin
      by_cases hyi : y = (i : Int)
      · have HK := Lib.hid (show matAt m i = true by unfold matAt; rw [hxd, HL.out, hin, Int.toNat_natCast, hyd, decide_eq_true hyi, decide_eq_true (by omega)]; rfl)
        have e2 : (y != (i : Int)) = false := by simp [hyi]
        clear hin hxd hx hxi hib hyd hy hyi
        go_wp2_with fail
        refine (within_any _ _ _ _).mono ?_
        rintro e w' ⟨rfl, rfl⟩
        rw [HB.out]
        go_wp2_with fail
        go_round
        case rel => exact ⟨i + 1, by omega, by go_num, fun j hj => by
          rcases Nat.lt_or_ge j i with h1 | h1
          · exact HOK.out j h1
          · obtain rfl : j = i := by omega
            exact HK.out⟩
        case measure => simp [intOf]; omega
      · have HF := Lib.hid (show isMat m = false from isMat_bad (i := i) (by rw [HL.out]; exact hlt) (by unfold matAt; rw [hxd, Int.toNat_natCast, hyd, decide_eq_false hyi]; simp))
        have e2 : (y != (i : Int)) = true := by simp [hyi]
        clear hin hxd hx hxi hib hyd hy hyi
        go_wp2_with fail
        refine (within_any _ _ _ _).mono ?_
        rintro e w' ⟨rfl, rfl⟩
        rw [HB.out]
        go_wp2_with fail
        go_ret
        exact ⟨ret_bool (by rw [HF.out]), rfl⟩
    · have HF := Lib.hid (show isMat m = true by
        rw [isMat_ok (fun j hj => HOK.out j (by have := HL.out; omega)), HL.out, decide_eq_true (by omega)])
      go_wp2_with fail
      go_ret
      exact ⟨ret_bool (by rw [HF.out]), rfl⟩

end Go.Proofs.YtghfhkbncjgaeaaGreat
