/- IsPolynomial: at most 61 coefficients in range, the last one not 0. -/
import Derived.Test.YtlpabdpaolmpfaaNum
import Derived.Test.YtlpabdpaolmpfaaInts
namespace Go.Proofs.Ytlpabdpaolmpfaa
open Go.RowKit

def inM (x : Int) : Bool := inB x (-1000000000) 1000000000
def isPol (xs : List Int) : Bool := xs.all inM && (decide (xs.length ≤ 61) && (xs.getLastD 1 != 0))
theorem take_all {P : Int → Bool} {xs : List Int} {k : Nat} {x : Int} (h : (xs.take k).all P = true) (hx : xs[k]? = some x) (hP : P x = true) : (xs.take (k + 1)).all P = true := by
  obtain ⟨hl, hxx⟩ := List.getElem?_eq_some_iff.1 hx
  rw [List.take_succ_eq_append_getElem hl, List.all_append, h, hxx]; simp [hP]
theorem not_all {P : Int → Bool} {xs : List Int} {k : Nat} {x : Int} (hx : xs[k]? = some x) (hP : P x = false) : xs.all P = false := by
  rw [List.all_eq_false]
  exact ⟨x, List.mem_of_getElem? hx, by simp [hP]⟩
theorem all_of_take {P : Int → Bool} {xs : List Int} {n : Nat} (h : (xs.take n).all P = true) (hn : xs.length ≤ n) : xs.all P = true := by
  rwa [List.take_of_length_le hn] at h
theorem last_of {xs : List Int} {n : Nat} {x : Int} (hx : xs[n]? = some x) (hl : xs.length = n + 1) : xs.getLastD 1 = x := by
  rw [List.getLastD_eq_getLast?, List.getLast?_eq_getElem?, hl]; simp [hx]

theorem specIsPolynomial_any (A : Option Addr) (n c : Nat) (xs : List Int) (w : World) (h : Rd w A n (iv xs)) (hn : n ≤ 1000000000) :
    Calls Try.prog 37 #[.slice A n c] w fun e w' => e = .returned (.bool (isPol xs)) ∧ w = w' := by
  have HR := Lib.hid h
  have HL := Lib.hid (show xs.length = n by have := h.len; rw [iv_len] at this; exact this)
  clear h
  go_enter Try.func37, Try.ntmps37
  go_wp2_with fail
  go_loop [3] (fun i => ∃ k : Nat, k ≤ n ∧ i = .int .i64 k ∧ Hid ((xs.take k).all inM = true)) (fun i => n - (intOf i).toNat)
  case atStart => exact ⟨0, Nat.zero_le _, rfl, Lib.hid rfl⟩
  case round =>
    obtain ⟨k, hk, rfl, HA⟩ := hrel
    by_cases hlt : k < n
    · obtain ⟨b, off, x, rfl, hx, hc⟩ := HR.out.ati hlt
      have HX := Lib.hid hx
      clear hx
      rcases hP : inM x with _ | _
      · have HP := Lib.hid hP
        have HF := Lib.hid (show isPol xs = false by unfold isPol; rw [not_all HX.out hP]; rfl)
        clear hP
        go_wp2_with fail
        refine (l1In_any _ _ _ _).mono ?_
        rintro e w' ⟨rfl, rfl⟩
        rw [show inB x (-1000000000) 1000000000 = false from HP.out]
        go_wp2_with fail
        go_ret
        exact ⟨by rw [HF.out]; rfl, rfl⟩
      · have HP := Lib.hid hP
        clear hP
        go_wp2_with fail
        refine (l1In_any _ _ _ _).mono ?_
        rintro e w' ⟨rfl, rfl⟩
        rw [show inB x (-1000000000) 1000000000 = true from HP.out]
        go_wp2_with fail
        go_round
        case rel => exact ⟨k + 1, by omega, by go_num, Lib.hid (take_all HA.out HX.out HP.out)⟩
        case measure => simp [intOf]; omega
    · have hkn : k = n := by omega
      subst hkn
      have HF := Lib.hid (show isPol xs = (decide (k ≤ 61) && (xs.getLastD 1 != 0)) by unfold isPol; rw [all_of_take HA.out (by rw [HL.out]; omega), HL.out]; rfl)
      by_cases h61 : k ≤ 61
      · by_cases h0 : k = 0
        · subst h0
          go_wp2_with fail
          go_ret
          exact ⟨ret_bool (by rw [HF.out, List.eq_nil_of_length_eq_zero HL.out]; rfl), rfl⟩
        · obtain ⟨b, off, x, rfl, hx, hc⟩ := HR.out.ati (show k - 1 < k by omega)
          have HX := Lib.hid (last_of hx (by rw [HL.out]; omega))
          have hk0 : 0 < k := by omega
          clear hx h0
          go_wp2_with fail
          go_ret
          exact ⟨ret_bool (by rw [HF.out, HX.out]; simp [h61]; omega), rfl⟩
      · go_wp2_with fail
        go_ret
        exact ⟨ret_bool (by rw [HF.out]; simp [h61]), rfl⟩

theorem implIsPolynomial_any (A : Option Addr) (n c : Nat) (xs : List Int) (w : World) (h : Rd w A n (iv xs)) (hn : n ≤ 1000000000) :
    Calls Try.prog 39 #[.slice A n c] w fun e w' => e = .returned (.bool (isPol xs)) ∧ w = w' := by
  have HR := Lib.hid h
  have HL := Lib.hid (show xs.length = n by have := h.len; rw [iv_len] at this; exact this)
  clear h
  by_cases h61 : n ≤ 61
  · by_cases h0 : n = 0
    · subst h0
      have HX := Lib.hid (List.eq_nil_of_length_eq_zero HL.out)
      go_enter Try.func39, Try.ntmps39
      go_wp2_with fail
      refine wp_loop_rounds 1 ?_
      rw [rounds_succ]
      go_wp2_with fail
      go_ret
      exact ⟨ret_bool (by rw [HX.out]; rfl), rfl⟩
    · obtain ⟨b, off, x, rfl, hx, hc⟩ := HR.out.ati (show n - 1 < n by omega)
      have HX := Lib.hid (last_of hx (by rw [HL.out]; omega))
      have hk0 : 0 < n := by omega
      clear hx h0
      by_cases hx0 : x = 0
      · subst hx0
        go_enter Try.func39, Try.ntmps39
        go_wp2_with fail
        go_ret
        exact ⟨ret_bool (by unfold isPol; rw [HX.out]; simp), rfl⟩
      · have hxb : (x == 0) = false := by simpa using hx0
        have hx2 : (x != 0) = true := by simpa using hx0
        have HX2 := Lib.hid hx2
        clear hx0 hx2
        go_enter Try.func39, Try.ntmps39
        go_wp2_with fail
        go_loop [4, 24] (fun _ i => ∃ k : Nat, k ≤ n ∧ i = .int .i64 k ∧ Hid ((xs.take k).all inM = true)) (fun _ i => n - (intOf i).toNat)
        case atStart => exact ⟨0, Nat.zero_le _, rfl, Lib.hid rfl⟩
        case round =>
          obtain ⟨k, hk, rfl, HA⟩ := hrel
          by_cases hlt : k < n
          · obtain ⟨b', off', y, hA, hy, hc'⟩ := HR.out.ati hlt
            cases hA
            have HY := Lib.hid hy
            clear hy
            rcases hP : inM y with _ | _
            · have HP := Lib.hid hP
              have HF := Lib.hid (show isPol xs = false by unfold isPol; rw [not_all HY.out hP]; rfl)
              clear hP
              go_wp2_with fail
              refine (within_any _ _ _ _).mono ?_
              rintro e w' ⟨rfl, rfl⟩
              rw [show inB y (-1000000000) 1000000000 = false from HP.out]
              go_wp2_with fail
              go_ret
              exact ⟨ret_bool (by rw [HF.out]), rfl⟩
            · have HP := Lib.hid hP
              clear hP
              go_wp2_with fail
              refine (within_any _ _ _ _).mono ?_
              rintro e w' ⟨rfl, rfl⟩
              rw [show inB y (-1000000000) 1000000000 = true from HP.out]
              go_wp2_with fail
              go_round
              case rel => exact ⟨k + 1, by omega, by go_num, Lib.hid (take_all HA.out HY.out HP.out)⟩
              case measure => simp [intOf]; omega
          · have hkn : k = n := by omega
            subst hkn
            have HF := Lib.hid (show isPol xs = true by unfold isPol; rw [all_of_take HA.out (by rw [HL.out]; omega), HX.out, HX2.out, HL.out]; simp [h61])
            go_wp2_with fail
            go_ret
            exact ⟨ret_bool (by rw [HF.out]), rfl⟩
  · have HF := Lib.hid (show isPol xs = false by unfold isPol; rw [HL.out]; simp [h61])
    go_enter Try.func39, Try.ntmps39
    go_wp2_with fail
    go_ret
    exact ⟨ret_bool (by rw [HF.out]), rfl⟩

end Go.Proofs.Ytlpabdpaolmpfaa
