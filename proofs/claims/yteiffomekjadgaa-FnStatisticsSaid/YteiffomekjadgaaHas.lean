/- l15Has; slices.Index, slices.Contains over texts. -/
import Derived.Test.YteiffomekjadgaaStrs
namespace Go.Proofs.Yteiffomekjadgaa
set_option linter.unusedVariables false
open Go.RowKit

def hasB (xs : List (List UInt8)) (x : List UInt8) : Bool := decide (x ∈ xs)
theorem has_no {xs : List (List UInt8)} {x : List UInt8} {n : Nat} (hn : xs.length = n) (h : x ∉ xs.take n) : hasB xs x = false := by
  rw [List.take_of_length_le (by omega)] at h
  exact decide_eq_false h
theorem has_yes {xs : List (List UInt8)} {x : List UInt8} {k : Nat} (h : xs[k]? = some x) : hasB xs x = true := decide_eq_true (List.mem_of_getElem? h)
theorem has_step {xs : List (List UInt8)} {x y : List UInt8} {k : Nat} (h : xs[k]? = some y) (hne : y ≠ x) (hk : x ∉ xs.take k) : x ∉ xs.take (k + 1) := by
  obtain ⟨h1, h2⟩ := List.getElem?_eq_some_iff.1 h
  rw [List.take_succ_eq_append_getElem h1, h2, List.mem_append]
  rintro (h3 | h3)
  · exact hk h3
  · simp at h3; exact hne h3.symm


/-- slices.Index: at or above nought just where the text is among them. -/
def IdxPost (xs : List (List UInt8)) (x : List UInt8) (w : World) (e : Ending) (w' : World) : Prop := ∃ z : Int, e = .returned (.int .i64 z) ∧ hasB xs x = decide (0 ≤ z) ∧ w = w'
set_option maxHeartbeats 1000000 in
theorem indexS_any (A : Option Addr) (n c : Nat) (xs : List (List UInt8)) (x : List UInt8) (w : World) (h : Rd w A n (sv xs)) (hn : n ≤ 1000000000) :
    Calls Try.prog 110 #[.slice A n c, .string (bs x)] w (IdxPost xs x w) := by
  have HR := Lib.hid h
  have HL := Lib.hid (show xs.length = n by have := h.len; rw [sv_len] at this; exact this)
  clear h
  go_enter Try.func110, Try.ntmps110
  go_wp2_with fail
  go_loop [5, 8] (fun _ i => ∃ k : Nat, k ≤ n ∧ i = .int .i64 k ∧ Hid (x ∉ xs.take k)) (fun _ i => n - (intOf i).toNat)
  case atStart => exact ⟨0, Nat.zero_le _, rfl, Lib.hid (by simp)⟩
  case round =>
    obtain ⟨k, hk, rfl, HX⟩ := hrel
    by_cases hlt : k < n
    · obtain ⟨b, off, y, rfl, hy, hc⟩ := HR.out.ats hlt
      have HY := Lib.hid hy
      have k0 : (0 : Int) ≤ (k : Int) := by omega
      have k1 : (k : Int) < (n : Int) := by omega
      clear hy
      by_cases he : y = x
      · subst he
        have HF := Lib.hid (has_yes HY.out)
        have e1 : (y == y) = true := by simp
        go_wp2_with fail
        go_ret
        exact ⟨(k : Int), rfl, by rw [HF.out]; simp, rfl⟩
      · have HN := Lib.hid (has_step HY.out he HX.out)
        have e1 : (x == y) = false := by simpa using fun e => he e.symm
        clear he
        go_wp2_with fail
        go_round
        case rel => exact ⟨k + 1, by omega, by go_num, HN⟩
        case measure => simp [intOf]; omega
    · have hkn : k = n := by omega
      have HF := Lib.hid (has_no HL.out (by rw [← hkn]; exact HX.out))
      clear hkn
      go_wp2_with fail
      go_ret
      exact ⟨-1, rfl, by rw [HF.out]; rfl, rfl⟩
theorem containsS_any (A : Option Addr) (n c : Nat) (xs : List (List UInt8)) (x : List UInt8) (w : World) (h : Rd w A n (sv xs)) (hn : n ≤ 1000000000) :
    Calls Try.prog 75 #[.slice A n c, .string (bs x)] w fun e w' => e = .returned (.bool (hasB xs x)) ∧ w = w' := by
  have HR := Lib.hid h
  clear h
  go_enter Try.func75, Try.ntmps75
  go_wp2_with fail
  refine (indexS_any _ _ _ _ _ _ HR.out hn).mono ?_
  rintro e w' ⟨z, rfl, hz, rfl⟩
  have HZ := Lib.hid hz
  clear hz
  go_wp2_with fail
  go_ret
  exact ⟨ret_bool (by rw [HZ.out]), rfl⟩

end Go.Proofs.Yteiffomekjadgaa
