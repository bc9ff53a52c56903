/- l14Small and isFactor: a polynomial with coefficients from -100000 to 100000. -/
import Derived.Test.YtlpabdpaolmpfaaIsPoly
namespace Go.Proofs.Ytlpabdpaolmpfaa
open Go.RowKit

def inF (x : Int) : Bool := inB x (-100000) 100000
def isFac (xs : List Int) : Bool := xs.all inF && isPol xs

theorem l14Small_any (A : Option Addr) (n c : Nat) (xs : List Int) (w : World) (h : Rd w A n (iv xs)) (hn : n ≤ 1000000000) :
    Calls Try.prog 50 #[.slice A n c] w fun e w' => e = .returned (.bool (isFac xs)) ∧ w = w' := by
  have HR := Lib.hid h
  have HL := Lib.hid (show xs.length = n by have := h.len; rw [iv_len] at this; exact this)
  clear h
  go_enter Try.func50, Try.ntmps50
  go_wp2_with fail
  go_loop [3] (fun i => ∃ k : Nat, k ≤ n ∧ i = .int .i64 k ∧ Hid ((xs.take k).all inF = true)) (fun i => n - (intOf i).toNat)
  case atStart => exact ⟨0, Nat.zero_le _, rfl, Lib.hid rfl⟩
  case round =>
    obtain ⟨k, hk, rfl, HA⟩ := hrel
    by_cases hlt : k < n
    · obtain ⟨b, off, x, rfl, hx, hc⟩ := HR.out.ati hlt
      have HX := Lib.hid hx
      clear hx
      rcases hP : inF x with _ | _
      · have HP := Lib.hid hP
        have HF := Lib.hid (show isFac xs = false by unfold isFac; rw [not_all HX.out hP]; rfl)
        clear hP
        go_wp2_with fail
        refine (l1In_any _ _ _ _).mono ?_
        rintro e w' ⟨rfl, rfl⟩
        rw [show inB x (-100000) 100000 = false from HP.out]
        go_wp2_with fail
        go_ret
        exact ⟨ret_bool (by rw [HF.out]), rfl⟩
      · have HP := Lib.hid hP
        clear hP
        go_wp2_with fail
        refine (l1In_any _ _ _ _).mono ?_
        rintro e w' ⟨rfl, rfl⟩
        rw [show inB x (-100000) 100000 = true from HP.out]
        go_wp2_with fail
        go_round
        case rel => exact ⟨k + 1, by omega, by go_num, Lib.hid (take_all HA.out HX.out HP.out)⟩
        case measure => simp [intOf]; omega
    · have hkn : k = n := by omega
      subst hkn
      have HF := Lib.hid (show isFac xs = isPol xs by unfold isFac; rw [all_of_take HA.out (by rw [HL.out]; omega)]; rfl)
      go_wp2_with fail
      refine (specIsPolynomial_any _ _ _ _ _ HR.out hn).mono ?_
      rintro e w' ⟨rfl, rfl⟩
      go_wp2_with fail
      go_ret
      exact ⟨ret_bool (by rw [HF.out]), rfl⟩

theorem isFactor_any (A : Option Addr) (n c : Nat) (xs : List Int) (w : World) (h : Rd w A n (iv xs)) (hn : n ≤ 1000000000) :
    Calls Try.prog 52 #[.slice A n c] w fun e w' => e = .returned (.bool (isFac xs)) ∧ w = w' := by
  have HR := Lib.hid h
  have HL := Lib.hid (show xs.length = n by have := h.len; rw [iv_len] at this; exact this)
  clear h
  go_enter Try.func52, Try.ntmps52
  go_wp2_with fail
  go_loop [4, 7] (fun _ i => ∃ k : Nat, k ≤ n ∧ i = .int .i64 k ∧ Hid ((xs.take k).all inF = true)) (fun _ i => n - (intOf i).toNat)
  case atStart => exact ⟨0, Nat.zero_le _, rfl, Lib.hid rfl⟩
  case round =>
    obtain ⟨k, hk, rfl, HA⟩ := hrel
    by_cases hlt : k < n
    · obtain ⟨b, off, x, rfl, hx, hc⟩ := HR.out.ati hlt
      have HX := Lib.hid hx
      clear hx
      rcases hP : inF x with _ | _
      · have HP := Lib.hid hP
        have HF := Lib.hid (show isFac xs = false by unfold isFac; rw [not_all HX.out hP]; rfl)
        clear hP
        go_wp2_with fail
        refine (within_any _ _ _ _).mono ?_
        rintro e w' ⟨rfl, rfl⟩
        rw [show inB x (-100000) 100000 = false from HP.out]
        go_wp2_with fail
        go_ret
        exact ⟨ret_bool (by rw [HF.out]), rfl⟩
      · have HP := Lib.hid hP
        clear hP
        go_wp2_with fail
        refine (within_any _ _ _ _).mono ?_
        rintro e w' ⟨rfl, rfl⟩
        rw [show inB x (-100000) 100000 = true from HP.out]
        go_wp2_with fail
        go_round
        case rel => exact ⟨k + 1, by omega, by go_num, Lib.hid (take_all HA.out HX.out HP.out)⟩
        case measure => simp [intOf]; omega
    · have hkn : k = n := by omega
      subst hkn
      have HF := Lib.hid (show isFac xs = isPol xs by unfold isFac; rw [all_of_take HA.out (by rw [HL.out]; omega)]; rfl)
      go_wp2_with fail
      refine (implIsPolynomial_any _ _ _ _ _ HR.out hn).mono ?_
      rintro e w' ⟨rfl, rfl⟩
      go_wp2_with fail
      go_ret
      exact ⟨ret_bool (by rw [HF.out]), rfl⟩


end Go.Proofs.Ytlpabdpaolmpfaa
