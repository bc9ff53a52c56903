/- IsPartition of both sides: numbers of blocks in the order of their first elements, for at most 8 elements. -/
import Derived.Test.YteiffomekjadgaaNum
import Derived.Test.YteiffomekjadgaaInts
namespace Go.Proofs.Yteiffomekjadgaa
open Go.RowKit

/-- The next new number behind the first k. -/
def nx (xs : List Int) : Nat → Int
  | 0 => 0
  | k + 1 => if xs[k]? = some (nx xs k) then nx xs k + 1 else nx xs k
def okP (xs : List Int) : Nat → Bool
  | 0 => true
  | k + 1 => okP xs k && inB (xs.getD k 0) 0 (nx xs k)
def isPar (xs : List Int) : Bool := decide (xs.length ≤ 8) && okP xs xs.length
theorem nx_bd (xs : List Int) : ∀ k : Nat, 0 ≤ nx xs k ∧ nx xs k ≤ k
  | 0 => by simp [nx]
  | k + 1 => by
    have := nx_bd xs k
    unfold nx
    split <;> omega
theorem okP_false {xs : List Int} {k n : Nat} (h : okP xs k = false) (hk : k ≤ n) : okP xs n = false := by
  induction n with
  | zero => obtain rfl : k = 0 := by omega
            exact h
  | succ n ih =>
    rcases Nat.lt_or_ge k (n + 1) with h1 | h1
    · simp [okP, ih (by omega)]
    · obtain rfl : k = n + 1 := by omega
      exact h
theorem okP_mono {xs : List Int} {k n : Nat} (h : okP xs n = true) (hk : k ≤ n) : okP xs k = true := by
  rcases hb : okP xs k with _ | _
  · rw [okP_false hb hk] at h; exact h
  · rfl
theorem okP_step {xs : List Int} {k : Nat} {x : Int} (hx : xs[k]? = some x) : okP xs (k + 1) = (okP xs k && inB x 0 (nx xs k)) := by
  rw [okP, List.getD_eq_getElem?_getD, hx]; rfl
theorem nx_step {xs : List Int} {k : Nat} {x : Int} (hx : xs[k]? = some x) : nx xs (k + 1) = if x = nx xs k then nx xs k + 1 else nx xs k := by
  rw [nx, hx]; simp only [Option.some.injEq]
theorem isPar_iff {xs : List Int} (h : isPar xs = true) : xs.length ≤ 8 ∧ okP xs xs.length = true := by
  simpa [isPar] using h
theorem isPar_at {xs : List Int} {k : Nat} {x : Int} (h : isPar xs = true) (hx : xs[k]? = some x) : 0 ≤ x ∧ x ≤ 7 ∧ x ≤ nx xs k := by
  obtain ⟨h1, h2⟩ := isPar_iff h
  have hk := (List.getElem?_eq_some_iff.1 hx).1
  have := okP_mono (k := k + 1) h2 (by omega)
  rw [okP_step hx, Bool.and_eq_true] at this
  have h3 := inB_iff.1 this.2
  have h4 := nx_bd xs k
  omega

set_option maxHeartbeats 400000 in
theorem specIsPartition_any (A : Option Addr) (n c : Nat) (xs : List Int) (w : World) (h : Rd w A n (iv xs)) (hn : n ≤ 1000000000) :
    Calls Try.prog 108 #[.slice A n c] w fun e w' => e = .returned (.bool (isPar xs)) ∧ w = w' := by
  have HR := Lib.hid h
  have HL := Lib.hid (show xs.length = n by have := h.len; rw [iv_len] at this; exact this)
  clear h
  go_enter Try.func108, Try.ntmps108
  go_wp2_with fail
  go_loop [3, 4] (fun t i => ∃ k : Nat, k ≤ n ∧ i = .int .i64 k ∧ t = .int .i64 (nx xs k) ∧ Hid (okP xs k = true)) (fun _ i => n - (intOf i).toNat)
  case atStart => exact ⟨0, Nat.zero_le _, rfl, rfl, rfl⟩
  case round =>
    obtain ⟨k, hk, rfl, rfl, HO⟩ := hrel
    obtain ⟨bd1, bd2⟩ := nx_bd xs k
    obtain ⟨X, hX⟩ : ∃ X, X = nx xs k := ⟨_, rfl⟩
    rw [← hX] at bd1 bd2 ⊢
    have HX := Lib.hid hX
    clear hX
    by_cases hlt : k < n
    · obtain ⟨b, off, x, rfl, hx, hc⟩ := HR.out.ati hlt
      have HS := Lib.hid (okP_step hx)
      have HN := Lib.hid (nx_step hx)
      clear hx
      rcases hin : inB x 0 X with _ | _
      · have HI := Lib.hid hin
        have HF := Lib.hid (show isPar xs = false by
          unfold isPar; rw [HL.out, okP_false (k := k + 1) (by rw [HS.out, ← HX.out, hin]; simp) hlt]; simp)
        clear hin
        go_wp2_with fail
        refine (l1In_any _ _ _ _).mono ?_
        rintro e w' ⟨rfl, rfl⟩
        rw [HI.out]
        go_wp2_with fail
        go_ret
        exact ⟨ret_bool (by rw [HF.out]), rfl⟩
      · have HI := Lib.hid hin
        have HO' := Lib.hid (show okP xs (k + 1) = true by rw [HS.out, ← HX.out, HO.out, hin]; rfl)
        clear hin
        by_cases he : x = X
        · have hb : (x == X) = true := by simpa using he
          have HN' := Lib.hid (show nx xs (k + 1) = X + 1 by rw [HN.out, ← HX.out, if_pos he])
          clear he
          go_wp2_with fail
          refine (l1In_any _ _ _ _).mono ?_
          rintro e w' ⟨rfl, rfl⟩
          rw [HI.out]
          go_wp2_with fail
          go_round
          case rel => exact ⟨k + 1, by omega, by go_num, by rw [HN'.out], HO'.out⟩
          case measure => simp [intOf]; omega
        · have hb : (x == X) = false := by simpa using he
          have HN' := Lib.hid (show nx xs (k + 1) = X by rw [HN.out, ← HX.out, if_neg he])
          clear he
          go_wp2_with fail
          refine (l1In_any _ _ _ _).mono ?_
          rintro e w' ⟨rfl, rfl⟩
          rw [HI.out]
          go_wp2_with fail
          go_round
          case rel => exact ⟨k + 1, by omega, by go_num, by rw [HN'.out], HO'.out⟩
          case measure => simp [intOf]; omega
    · have hkn : k = n := by omega
      have HF := Lib.hid (show isPar xs = decide (n ≤ 8) by unfold isPar; rw [HL.out, ← hkn, HO.out]; simp)
      clear hkn
      go_wp2_with fail
      go_ret
      exact ⟨ret_bool (by rw [HF.out]; simp; omega), rfl⟩
set_option maxHeartbeats 400000 in
theorem implIsPartition_any (A : Option Addr) (n c : Nat) (xs : List Int) (w : World) (h : Rd w A n (iv xs)) (hn : n ≤ 1000000000) :
    Calls Try.prog 103 #[.slice A n c] w fun e w' => e = .returned (.bool (isPar xs)) ∧ w = w' := by
  have HR := Lib.hid h
  have HL := Lib.hid (show xs.length = n by have := h.len; rw [iv_len] at this; exact this)
  clear h
  by_cases h8 : n ≤ 8
  · go_enter Try.func103, Try.ntmps103
    go_wp2_with fail
    go_loop [3, 5, 11] (fun t _ i => ∃ k : Nat, k ≤ n ∧ i = .int .i64 k ∧ t = .int .i64 (nx xs k) ∧ Hid (okP xs k = true)) (fun _ _ i => n - (intOf i).toNat)
    case atStart => exact ⟨0, Nat.zero_le _, rfl, rfl, rfl⟩
    case round =>
      obtain ⟨k, hk, rfl, rfl, HO⟩ := hrel
      obtain ⟨bd1, bd2⟩ := nx_bd xs k
      obtain ⟨X, hX⟩ : ∃ X, X = nx xs k := ⟨_, rfl⟩
      rw [← hX] at bd1 bd2 ⊢
      have HX := Lib.hid hX
      clear hX
      by_cases hlt : k < n
      · obtain ⟨b, off, x, rfl, hx, hc⟩ := HR.out.ati hlt
        have HS := Lib.hid (okP_step hx)
        have HN := Lib.hid (nx_step hx)
        clear hx
        rcases hin : inB x 0 X with _ | _
        · have HI := Lib.hid hin
          have HF := Lib.hid (show isPar xs = false by
            unfold isPar; rw [HL.out, okP_false (k := k + 1) (by rw [HS.out, ← HX.out, hin]; simp) hlt]; simp)
          clear hin
          go_wp2_with fail
          refine (within_any _ _ _ _).mono ?_
          rintro e w' ⟨rfl, rfl⟩
          rw [HI.out]
          go_wp2_with fail
          go_ret
          exact ⟨ret_bool (by rw [HF.out]), rfl⟩
        · have HI := Lib.hid hin
          obtain ⟨x0, x1⟩ := inB_iff.1 hin
          have HO' := Lib.hid (show okP xs (k + 1) = true by rw [HS.out, ← HX.out, HO.out, hin]; rfl)
          have HN' := Lib.hid (show nx xs (k + 1) = if X < x + 1 then x + 1 else X by rw [HN.out, ← HX.out]; split <;> split <;> omega)
          clear hin
          go_wp2_with fail
          refine (within_any _ _ _ _).mono ?_
          rintro e w' ⟨rfl, rfl⟩
          rw [HI.out]
          go_wp2_with fail
          all_goals
            go_round
            case rel => exact ⟨k + 1, by omega, by go_num, by rw [HN'.out] <;> first | rfl | (congr 1; split <;> omega) | (congr 1; omega), HO'.out⟩
            case measure => simp [intOf]; omega
      · have hkn : k = n := by omega
        have HF := Lib.hid (show isPar xs = true by unfold isPar; rw [HL.out, ← hkn, HO.out]; simp; omega)
        clear hkn
        go_wp2_with fail
        go_ret
        exact ⟨ret_bool (by rw [HF.out]), rfl⟩
  · have HF := Lib.hid (show isPar xs = false by unfold isPar; rw [HL.out]; simp [h8])
    go_enter Try.func103, Try.ntmps103
    go_wp2_with fail
    go_ret
    exact ⟨ret_bool (by rw [HF.out]), rfl⟩

end Go.Proofs.Yteiffomekjadgaa
