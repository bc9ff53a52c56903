/- l14Trim and trimmed: without the noughts at the end. -/
import Derived.Test.YtlpabdpaolmpfaaPut
namespace Go.Proofs.Ytlpabdpaolmpfaa
open Go.RowKit

/-- How many of the first n remain. -/
def tz (xs : List Int) : Nat → Nat
  | 0 => 0
  | n + 1 => if xs.getD n 0 = 0 then tz xs n else n + 1
def trimL (xs : List Int) : List Int := xs.take (tz xs xs.length)
theorem tz_le (xs : List Int) : ∀ n, tz xs n ≤ n
  | 0 => Nat.le_refl _
  | n + 1 => by
    unfold tz
    split
    · exact Nat.le_trans (tz_le xs n) (Nat.le_succ n)
    · exact Nat.le_refl _
theorem trimL_len (xs : List Int) : (trimL xs).length = tz xs xs.length := by
  have := tz_le xs xs.length
  simp [trimL]; omega

set_option maxHeartbeats 400000 in
theorem trimmed_any (A : Option Addr) (n c : Nat) (xs : List Int) (w : World) (h : Rd w A n (iv xs)) (hn : n ≤ 1000000000) (hc : n ≤ c) (hc2 : c ≤ maxLen) (hnil : A = none → c = 0) :
    Calls Try.prog 44 #[.slice A n c] w fun e w' => e = .returned (.slice A (tz xs n) c) ∧ w = w' := by
  have HR := Lib.hid h
  clear h
  unfold maxLen at hc2
  go_enter Try.func44, Try.ntmps44
  go_wp2_with fail
  go_loop [3] (fun i => ∃ k : Nat, k ≤ n ∧ i = .int .i64 k ∧ Hid (tz xs k = tz xs n)) (fun i => (intOf i).toNat)
  case atStart => exact ⟨n, Nat.le_refl _, rfl, rfl⟩
  case round =>
    obtain ⟨k, hk, rfl, HT⟩ := hrel
    rcases k with _ | k
    · have HT' := Lib.hid (show 0 = tz xs n from HT.out)
      clear HT
      have n0 : (0 : Int) ≤ (n : Int) := by omega
      go_wp2_with fail
      go_ret
      exact ⟨by rw [← HT'.out]; rfl, rfl⟩
    · obtain ⟨b, off, x, rfl, hx, hcell⟩ := HR.out.ati (show k < n by omega)
      have e1 : ((k : Int) + 1 - 1) = (k : Int) := by omega
      have hg : xs.getD k 0 = x := by rw [List.getD_eq_getElem?_getD, hx]; rfl
      by_cases hx0 : x = 0
      · have HT' := Lib.hid (show tz xs k = tz xs n by rw [← HT.out, tz, if_pos (by rw [hg]; exact hx0)])
        subst hx0
        clear hx HT hg
        go_wp2_with fail
        go_round
        case rel => exact ⟨k, by omega, by go_num, HT'.out⟩
        case measure => simp [intOf]
      · have HT' := Lib.hid (show k + 1 = tz xs n by rw [← HT.out, tz, if_neg (by rw [hg]; exact hx0)])
        have hxb : (x == 0) = false := by simp; exact hx0
        clear hx HT hg hx0
        go_wp2_with fail
        go_ret
        exact ⟨by rw [← HT'.out]; rfl, rfl⟩
set_option maxHeartbeats 400000 in
theorem l14Trim_any (A : Option Addr) (n c : Nat) (xs : List Int) (w : World) (h : Rd w A n (iv xs)) (hn : n ≤ 1000000000) (hc : n ≤ c) (hc2 : c ≤ maxLen) (hnil : A = none → c = 0) :
    Calls Try.prog 43 #[.slice A n c] w (RetI w (trimL xs)) := by
  have HR := Lib.hid h
  have HL := Lib.hid (show xs.length = n by have := h.len; rw [iv_len] at this; exact this)
  clear h
  unfold maxLen at hc2
  go_enter Try.func43, Try.ntmps43
  go_wp2_with fail
  go_loop [3] (fun i => ∃ k : Nat, k ≤ n ∧ i = .int .i64 k ∧ Hid (tz xs k = tz xs n)) (fun i => (intOf i).toNat)
  case atStart => exact ⟨n, Nat.le_refl _, rfl, rfl⟩
  case round =>
    obtain ⟨k, hk, rfl, HT⟩ := hrel
    rcases k with _ | k
    · have HT' := Lib.hid (show 0 = tz xs n from HT.out)
      clear HT
      have n0 : (0 : Int) ≤ (n : Int) := by omega
      go_wp2_with (at_builtin; refine appAll _ rfl _ _ rfl w.heap.size (some ⟨w.heap.size, 0, none⟩) 0 0 (iv []) rfl (own_empty w) A 0 c [] rfl hnil ⟨rfl, by omega⟩ (by omega) (by simp) ?_; intro A' c' w' hown' hg' hb')
      have HO := Lib.hid hown'
      clear hown' hg'
      go_wp2_with fail
      go_ret
      exact ⟨A', 0, c', by rw [trimL_len, HL.out, ← HT'.out], rfl, by rw [show trimL xs = [] by simp [trimL, HL.out, ← HT'.out]]; exact HO.out, ((Below.refl _ _).alloc (Nat.le_refl _) _).trans hb'⟩
    · obtain ⟨b, off, x, rfl, hx, hcell⟩ := HR.out.ati (show k < n by omega)
      have e1 : ((k : Int) + 1 - 1) = (k : Int) := by omega
      have hg : xs.getD k 0 = x := by rw [List.getD_eq_getElem?_getD, hx]; rfl
      by_cases hx0 : x = 0
      · have HT' := Lib.hid (show tz xs k = tz xs n by rw [← HT.out, tz, if_pos (by rw [hg]; exact hx0)])
        subst hx0
        clear hx HT hg
        go_wp2_with fail
        go_round
        case rel => exact ⟨k, by omega, by go_num, HT'.out⟩
        case measure => simp [intOf]
      · have HT' := Lib.hid (show k + 1 = tz xs n by rw [← HT.out, tz, if_neg (by rw [hg]; exact hx0)])
        have hxb : (x == 0) = false := by simp; exact hx0
        clear hx HT hg hx0
        have hr : Rd w (some ⟨b, off, none⟩) (k + 1) (iv (xs.take (k + 1))) := by
          have h0 := HR.out
          refine ⟨by have := HL.out; rw [iv_len]; simp; omega, fun _ => ?_⟩
          obtain ⟨b1, off1, he, hc1⟩ := h0.2 (by omega)
          cases he
          refine ⟨b, off, rfl, fun j u hu => hc1 j u ?_⟩
          rw [← iv_take] at hu
          rw [List.getElem?_take] at hu
          split at hu
          · exact hu
          · cases hu
        have HR1 := Lib.hid hr
        clear hr
        go_wp2_with (at_builtin; refine appAll _ rfl _ _ rfl w.heap.size (some ⟨w.heap.size, 0, none⟩) 0 0 (iv []) rfl (own_empty w) (some ⟨b, off, none⟩) (k + 1) c (xs.take (k + 1)) rfl (by simp) (HR1.out.alloc _) (by omega) (by simp) ?_; intro A' c' w' hown' hg' hb')
        have HO := Lib.hid hown'
        clear hown' hg'
        go_wp2_with fail
        go_ret
        exact ⟨A', _, c', by rw [trimL_len, HL.out, ← HT'.out], rfl, by rw [show trimL xs = xs.take (k + 1) by simp [trimL, HL.out, ← HT'.out]]; simpa [iv] using HO.out, ((Below.refl _ _).alloc (Nat.le_refl _) _).trans hb'⟩

end Go.Proofs.Ytlpabdpaolmpfaa
