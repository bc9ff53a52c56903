/- Merged: Finer. -/
import Derived.Test.YtghfhkbncjgaeaaMg3

namespace Go.Proofs.Ytghfhkbncjgaeaa
open Go.RowKit

def fin2 (p q : List Int) (a b : Nat) : Prop := p.getD a 0 = p.getD b 0 → q.getD a 0 = q.getD b 0
instance (p q : List Int) (a b : Nat) : Decidable (fin2 p q a b) := by unfold fin2; infer_instance
def finB (p q : List Int) : Bool := isPar p && isPar q && (p.length == q.length) && decide (∀ a, a < p.length → ∀ b, b < p.length → fin2 p q a b)
theorem finB_bad {p q : List Int} {a b : Nat} (ha : a < p.length) (hb : b < p.length) (h : ¬ fin2 p q a b) : finB p q = false := by
  unfold finB
  rw [show decide (∀ a, a < p.length → ∀ b, b < p.length → fin2 p q a b) = false from decide_eq_false fun hh => h (hh a ha b hb)]
  simp
theorem finB_ok {p q : List Int} (h1 : isPar p = true) (h2 : isPar q = true) (h3 : p.length = q.length) (h : ∀ a, a < p.length → ∀ b, b < p.length → fin2 p q a b) : finB p q = true := by
  unfold finB
  rw [h1, h2, decide_eq_true h]
  simp [h3]
theorem getD_of {xs : List Int} {k : Nat} {x : Int} (h : xs[k]? = some x) : xs.getD k 0 = x := by
  rw [List.getD_eq_getElem?_getD, h]; rfl
/-- What has been seen: all pairs up to (i, k). -/
def Seen (p q : List Int) (n i k : Nat) : Prop := ∀ a b, (a < i ∧ b < n) ∨ (a = i ∧ b < k) → fin2 p q a b
def SeenL (p q : List Int) (i k : Nat) : Prop := ∀ a b, (a < i ∧ b < a) ∨ (a = i ∧ b < k) → fin2 p q a b
theorem fin2_symm {p q : List Int} {a b : Nat} (h : fin2 p q a b) : fin2 p q b a := fun e => (h e.symm).symm

theorem specIsFiner_bad (A B : Option Addr) (n0 c0 n1 c1 : Nat) (xs ys : List Int) (w : World) (h : Rd w A n0 (iv xs)) (h' : Rd w B n1 (iv ys)) (hn : n0 ≤ 1000000000) (hn' : n1 ≤ 1000000000) (hb : isPar xs = false ∨ (isPar xs = true ∧ (isPar ys = false ∨ (isPar ys = true ∧ n0 ≠ n1)))) :
    Calls Try.prog 28 #[.slice A n0 c0, .slice B n1 c1] w fun e w' => e = .returned (.bool false) ∧ w = w' := by
  have HR := Lib.hid h
  have HR' := Lib.hid h'
  clear h h'
  rcases hb with h1 | ⟨h1, h2 | ⟨h2, h3⟩⟩
  · have H1 := Lib.hid h1
    clear h1
    go_enter Try.func28, Try.ntmps28
    go_wp2_with fail
    refine (specIsPartition_any _ _ _ _ _ HR.out hn).mono ?_
    rintro e w' ⟨rfl, rfl⟩
    rw [H1.out]
    go_wp2_with fail
    go_ret
    exact ⟨rfl, rfl⟩
  · have H1 := Lib.hid h1
    have H2 := Lib.hid h2
    clear h1 h2
    go_enter Try.func28, Try.ntmps28
    go_wp2_with fail
    refine (specIsPartition_any _ _ _ _ _ HR.out hn).mono ?_
    rintro e w' ⟨rfl, rfl⟩
    rw [H1.out]
    go_wp2_with fail
    refine (specIsPartition_any _ _ _ _ _ HR'.out hn').mono ?_
    rintro e w' ⟨rfl, rfl⟩
    rw [H2.out]
    go_wp2_with fail
    go_ret
    exact ⟨rfl, rfl⟩
  · have H1 := Lib.hid h1
    have H2 := Lib.hid h2
    have h4 : ((n0 : Int) != (n1 : Int)) = true := by simp; omega
    clear h1 h2 h3
    go_enter Try.func28, Try.ntmps28
    go_wp2_with fail
    refine (specIsPartition_any _ _ _ _ _ HR.out hn).mono ?_
    rintro e w' ⟨rfl, rfl⟩
    rw [H1.out]
    go_wp2_with fail
    refine (specIsPartition_any _ _ _ _ _ HR'.out hn').mono ?_
    rintro e w' ⟨rfl, rfl⟩
    rw [H2.out]
    go_wp2_with fail
    go_ret
    exact ⟨rfl, rfl⟩

set_option maxHeartbeats 800000 in
theorem specIsFiner_good (A B : Option Addr) (n0 c0 c1 : Nat) (xs ys : List Int) (w : World) (h : Rd w A n0 (iv xs)) (h' : Rd w B n0 (iv ys)) (h1 : isPar xs = true) (h2 : isPar ys = true) :
    Calls Try.prog 28 #[.slice A n0 c0, .slice B n0 c1] w fun e w' => e = .returned (.bool (finB xs ys)) ∧ ∃ m, w' = w.drewN m := by
  have HR := Lib.hid h
  have HR' := Lib.hid h'
  have HL := Lib.hid (show xs.length = n0 by have := h.len; rw [iv_len] at this; exact this)
  have HL' := Lib.hid (show ys.length = n0 by have := h'.len; rw [iv_len] at this; exact this)
  have hn : n0 ≤ 8 := by have := (isPar_iff h1).1; have := HL.out; omega
  have H1 := Lib.hid h1
  have H2 := Lib.hid h2
  clear h h' h1 h2
  go_enter Try.func28, Try.ntmps28
  go_wp2_with fail
  refine (specIsPartition_any _ _ _ _ _ HR.out (by omega)).mono ?_
  rintro e w' ⟨rfl, rfl⟩
  rw [H1.out]
  go_wp2_with fail
  refine (specIsPartition_any _ _ _ _ _ HR'.out (by omega)).mono ?_
  rintro e w' ⟨rfl, rfl⟩
  rw [H2.out]
  go_wp2_with fail
  go_loopw [5, 6] (fun o _ wr => ∃ i m : Nat, i ≤ n0 ∧ o = .int .i64 i ∧ wr = w.drewN m ∧ Hid (SeenL xs ys i 0)) (fun o _ _ => n0 - (intOf o).toNat)
  case atStart => exact ⟨0, 0, Nat.zero_le _, rfl, rfl, fun a b hh => by omega⟩
  case round =>
    obtain ⟨i, m0, hi, rfl, rfl, HS⟩ := hrel
    by_cases hlt : i < n0
    · go_wp2_with fail
      go_loopw [6] (fun t wr => ∃ k m : Nat, k ≤ i ∧ t = .int .i64 k ∧ wr = w.drewN m ∧ Hid (SeenL xs ys i k)) (fun t _ => i - (intOf t).toNat)
      case atStart => exact ⟨0, m0, Nat.zero_le _, rfl, rfl, HS⟩
      case round =>
        obtain ⟨k, m, hk, rfl, rfl, HK⟩ := hrel
        by_cases hlk : k < i
        · obtain ⟨b1, o1, x, rfl, hx, hc1⟩ := HR.out.ati hlt
          obtain ⟨b1', o1', x', hA, hx', hc1'⟩ := HR.out.ati (show k < n0 by omega)
          cases hA
          obtain ⟨b2, o2, y, rfl, hy, hc2⟩ := HR'.out.ati hlt
          obtain ⟨b2', o2', y', hA, hy', hc2'⟩ := HR'.out.ati (show k < n0 by omega)
          cases hA
          have G1 := Lib.hid (getD_of hx)
          have G2 := Lib.hid (getD_of hx')
          have G3 := Lib.hid (getD_of hy)
          have G4 := Lib.hid (getD_of hy')
          clear hx hx' hy hy'
          have hi0 : (0 : Int) ≤ (i : Int) := by omega
          have hi1 : (i : Int) < (n0 : Int) := by omega
          have hk0 : (0 : Int) ≤ (k : Int) := by omega
          have hk1 : (k : Int) < (n0 : Int) := by omega
          by_cases he : x = x'
          · have e1 : (x == x') = true := by simpa using he
            by_cases hf : y = y'
            · have e2 : (y != y') = false := by simpa using hf
              have HF := Lib.hid (show fin2 xs ys i k from fun _ => by rw [G3.out, G4.out, hf])
              clear he hf
              go_wp2_with fail
              go_quiet (fail)
              go_wp2_with fail
              go_roundw
              case rel => exact ⟨k + 1, _, by omega, by go_num, rfl, fun a b hh => by
                by_cases hb : a = i ∧ b = k
                · obtain ⟨rfl, rfl⟩ := hb; exact HF.out
                · exact HK.out a b (by omega)⟩
              case measure => simp [intOf]; omega
            · have e2 : (y != y') = true := by simpa using hf
              have HF := Lib.hid (finB_bad (p := xs) (q := ys) (a := i) (b := k) (by rw [HL.out]; omega) (by rw [HL.out]; omega) (fun hh => hf (by have := hh (by rw [G1.out, G2.out]; exact he); rwa [G3.out, G4.out] at this)))
              clear he hf
              go_wp2_with fail
              go_quiet (fail)
              go_wp2_with fail
              go_ret
              exact ⟨ret_bool (by rw [HF.out]), _, by first | rfl | (rw [World.drewN_drewN])⟩
          · have e1 : (x == x') = false := by simpa using he
            have HF := Lib.hid (show fin2 xs ys i k from fun hh => absurd (by rw [G1.out, G2.out] at hh; exact hh) he)
            clear he
            go_wp2_with fail
            go_quiet (fail)
            go_wp2_with fail
            go_roundw
            case rel => exact ⟨k + 1, _, by omega, by go_num, rfl, fun a b hh => by
              by_cases hb : a = i ∧ b = k
              · obtain ⟨rfl, rfl⟩ := hb; exact HF.out
              · exact HK.out a b (by omega)⟩
            case measure => simp [intOf]; omega
        · have hki : i ≤ k := by omega
          go_wp2_with fail
          go_roundw
          case rel => exact ⟨i + 1, m, by omega, by go_num, rfl, fun a b hh => HK.out a b (by omega)⟩
          case measure => simp [intOf]; omega
    · have hin : i = n0 := by omega
      have HF := Lib.hid (show finB xs ys = true by
        refine finB_ok H1.out H2.out (by rw [HL.out, HL'.out]) fun a ha b hb => ?_
        rw [HL.out] at ha hb
        rcases Nat.lt_trichotomy a b with hab | hab | hab
        · exact fin2_symm (HS.out b a (by omega))
        · subst hab; exact fun _ => rfl
        · exact HS.out a b (by omega))
      clear hin
      go_wp2_with fail
      go_ret
      exact ⟨ret_bool (by rw [HF.out]), m0, rfl⟩

theorem specIsFiner_any (A B : Option Addr) (n0 c0 n1 c1 : Nat) (xs ys : List Int) (w : World) (h : Rd w A n0 (iv xs)) (h' : Rd w B n1 (iv ys)) (hn : n0 ≤ 1000000000) (hn' : n1 ≤ 1000000000) :
    Calls Try.prog 28 #[.slice A n0 c0, .slice B n1 c1] w fun e w' => e = .returned (.bool (finB xs ys)) ∧ ∃ m, w' = w.drewN m := by
  have L0 : xs.length = n0 := by have := h.len; rw [iv_len] at this; exact this
  have L1 : ys.length = n1 := by have := h'.len; rw [iv_len] at this; exact this
  by_cases hb : isPar xs = false ∨ (isPar xs = true ∧ (isPar ys = false ∨ (isPar ys = true ∧ n0 ≠ n1)))
  · have hF : finB xs ys = false := by
      unfold finB
      rcases hb with h1 | ⟨h1, h2 | ⟨h2, h3⟩⟩
      · simp [h1]
      · simp [h1, h2]
      · rw [show (xs.length == ys.length) = false by simp; omega]; simp
    rw [hF]
    exact (specIsFiner_bad A B n0 c0 n1 c1 xs ys w h h' hn hn' hb).mono fun _ _ ⟨he, hw⟩ => ⟨he, 0, by subst hw; rfl⟩
  · rcases h1 : isPar xs with _ | _
    · exact absurd (Or.inl h1) hb
    · rcases h2 : isPar ys with _ | _
      · exact absurd (Or.inr ⟨h1, Or.inl h2⟩) hb
      · by_cases h3 : n0 = n1
        · subst h3
          exact specIsFiner_good A B n0 c0 c1 xs ys w h h' h1 h2
        · exact absurd (Or.inr ⟨h1, Or.inr ⟨h2, h3⟩⟩) hb

theorem implIsFiner_bad (A B : Option Addr) (n0 c0 n1 c1 : Nat) (xs ys : List Int) (w : World) (h : Rd w A n0 (iv xs)) (h' : Rd w B n1 (iv ys)) (hn : n0 ≤ 1000000000) (hn' : n1 ≤ 1000000000) (hb : isPar xs = false ∨ (isPar xs = true ∧ (isPar ys = false ∨ (isPar ys = true ∧ n0 ≠ n1)))) :
    Calls Try.prog 31 #[.slice A n0 c0, .slice B n1 c1] w fun e w' => e = .returned (.bool false) ∧ w = w' := by
  have HR := Lib.hid h
  have HR' := Lib.hid h'
  clear h h'
  rcases hb with h1 | ⟨h1, h2 | ⟨h2, h3⟩⟩
  · have H1 := Lib.hid h1
    clear h1
    go_enter Try.func31, Try.ntmps31
    go_wp2_with fail
    refine (implIsPartition_any _ _ _ _ _ HR.out hn).mono ?_
    rintro e w' ⟨rfl, rfl⟩
    rw [H1.out]
    go_wp2_with fail
    go_ret
    exact ⟨rfl, rfl⟩
  · have H1 := Lib.hid h1
    have H2 := Lib.hid h2
    clear h1 h2
    go_enter Try.func31, Try.ntmps31
    go_wp2_with fail
    refine (implIsPartition_any _ _ _ _ _ HR.out hn).mono ?_
    rintro e w' ⟨rfl, rfl⟩
    rw [H1.out]
    go_wp2_with fail
    refine (implIsPartition_any _ _ _ _ _ HR'.out hn').mono ?_
    rintro e w' ⟨rfl, rfl⟩
    rw [H2.out]
    go_wp2_with fail
    go_ret
    exact ⟨rfl, rfl⟩
  · have H1 := Lib.hid h1
    have H2 := Lib.hid h2
    have h4 : ((n0 : Int) != (n1 : Int)) = true := by simp; omega
    clear h1 h2 h3
    go_enter Try.func31, Try.ntmps31
    go_wp2_with fail
    refine (implIsPartition_any _ _ _ _ _ HR.out hn).mono ?_
    rintro e w' ⟨rfl, rfl⟩
    rw [H1.out]
    go_wp2_with fail
    refine (implIsPartition_any _ _ _ _ _ HR'.out hn').mono ?_
    rintro e w' ⟨rfl, rfl⟩
    rw [H2.out]
    go_wp2_with fail
    go_ret
    exact ⟨rfl, rfl⟩

set_option maxHeartbeats 800000 in
theorem implIsFiner_good (A B : Option Addr) (n0 c0 c1 : Nat) (xs ys : List Int) (w : World) (h : Rd w A n0 (iv xs)) (h' : Rd w B n0 (iv ys)) (h1 : isPar xs = true) (h2 : isPar ys = true) :
    Calls Try.prog 31 #[.slice A n0 c0, .slice B n0 c1] w fun e w' => e = .returned (.bool (finB xs ys)) ∧ ∃ m, w' = w.drewN m := by
  have HR := Lib.hid h
  have HR' := Lib.hid h'
  have HL := Lib.hid (show xs.length = n0 by have := h.len; rw [iv_len] at this; exact this)
  have HL' := Lib.hid (show ys.length = n0 by have := h'.len; rw [iv_len] at this; exact this)
  have hn : n0 ≤ 8 := by have := (isPar_iff h1).1; have := HL.out; omega
  have H1 := Lib.hid h1
  have H2 := Lib.hid h2
  clear h h' h1 h2
  go_enter Try.func31, Try.ntmps31
  go_wp2_with fail
  refine (implIsPartition_any _ _ _ _ _ HR.out (by omega)).mono ?_
  rintro e w' ⟨rfl, rfl⟩
  rw [H1.out]
  go_wp2_with fail
  refine (implIsPartition_any _ _ _ _ _ HR'.out (by omega)).mono ?_
  rintro e w' ⟨rfl, rfl⟩
  rw [H2.out]
  go_wp2_with fail
  go_loopw [5, 6, 24] (fun _ _ o wr => ∃ i m : Nat, i ≤ n0 ∧ o = .int .i64 i ∧ wr = w.drewN m ∧ Hid (Seen xs ys n0 i 0)) (fun _ _ o _ => n0 - (intOf o).toNat)
  case atStart => exact ⟨0, 0, Nat.zero_le _, rfl, rfl, fun a b hh => by omega⟩
  case round =>
    obtain ⟨i, m0, hi, rfl, rfl, HS⟩ := hrel
    by_cases hlt : i < n0
    · go_wp2_with fail
      go_loopw [6, 29] (fun _ t wr => ∃ k m : Nat, k ≤ n0 ∧ t = .int .i64 k ∧ wr = w.drewN m ∧ Hid (Seen xs ys n0 i k)) (fun _ t _ => n0 - (intOf t).toNat)
      case atStart => exact ⟨0, m0, Nat.zero_le _, rfl, rfl, HS⟩
      case round =>
        obtain ⟨k, m, hk, rfl, rfl, HK⟩ := hrel
        by_cases hlk : k < n0
        · obtain ⟨b1, o1, x, rfl, hx, hc1⟩ := HR.out.ati hlt
          obtain ⟨b1', o1', x', hA, hx', hc1'⟩ := HR.out.ati (show k < n0 by omega)
          cases hA
          obtain ⟨b2, o2, y, rfl, hy, hc2⟩ := HR'.out.ati hlt
          obtain ⟨b2', o2', y', hA, hy', hc2'⟩ := HR'.out.ati (show k < n0 by omega)
          cases hA
          have G1 := Lib.hid (getD_of hx)
          have G2 := Lib.hid (getD_of hx')
          have G3 := Lib.hid (getD_of hy)
          have G4 := Lib.hid (getD_of hy')
          clear hx hx' hy hy'
          have hi0 : (0 : Int) ≤ (i : Int) := by omega
          have hi1 : (i : Int) < (n0 : Int) := by omega
          have hk0 : (0 : Int) ≤ (k : Int) := by omega
          have hk1 : (k : Int) < (n0 : Int) := by omega
          by_cases he : x = x'
          · have e1 : (x == x') = true := by simpa using he
            by_cases hf : y = y'
            · have e2 : (y != y') = false := by simpa using hf
              have HF := Lib.hid (show fin2 xs ys i k from fun _ => by rw [G3.out, G4.out, hf])
              clear he hf
              go_wp2_with fail
              go_quiet (fail)
              go_wp2_with fail
              go_roundw
              case rel => exact ⟨k + 1, _, by omega, by go_num, rfl, fun a b hh => by
                by_cases hb : a = i ∧ b = k
                · obtain ⟨rfl, rfl⟩ := hb; exact HF.out
                · exact HK.out a b (by omega)⟩
              case measure => simp [intOf]; omega
            · have e2 : (y != y') = true := by simpa using hf
              have HF := Lib.hid (finB_bad (p := xs) (q := ys) (a := i) (b := k) (by rw [HL.out]; omega) (by rw [HL.out]; omega) (fun hh => hf (by have := hh (by rw [G1.out, G2.out]; exact he); rwa [G3.out, G4.out] at this)))
              clear he hf
              go_wp2_with fail
              go_quiet (fail)
              go_wp2_with fail
              go_ret
              exact ⟨ret_bool (by rw [HF.out]), _, by first | rfl | (rw [World.drewN_drewN])⟩
          · have e1 : (x == x') = false := by simpa using he
            have HF := Lib.hid (show fin2 xs ys i k from fun hh => absurd (by rw [G1.out, G2.out] at hh; exact hh) he)
            clear he
            go_wp2_with fail
            go_quiet (fail)
            go_wp2_with fail
            go_roundw
            case rel => exact ⟨k + 1, _, by omega, by go_num, rfl, fun a b hh => by
              by_cases hb : a = i ∧ b = k
              · obtain ⟨rfl, rfl⟩ := hb; exact HF.out
              · exact HK.out a b (by omega)⟩
            case measure => simp [intOf]; omega
        · have hki : n0 ≤ k := by omega
          go_wp2_with fail
          go_roundw
          case rel => exact ⟨i + 1, m, by omega, by go_num, rfl, fun a b hh => HK.out a b (by omega)⟩
          case measure => simp [intOf]; omega
    · have hin : i = n0 := by omega
      have HF := Lib.hid (show finB xs ys = true by
        refine finB_ok H1.out H2.out (by rw [HL.out, HL'.out]) fun a ha b hb => ?_
        rw [HL.out] at ha hb
        exact HS.out a b (by omega))
      clear hin
      go_wp2_with fail
      go_ret
      exact ⟨ret_bool (by rw [HF.out]), m0, rfl⟩

theorem implIsFiner_any (A B : Option Addr) (n0 c0 n1 c1 : Nat) (xs ys : List Int) (w : World) (h : Rd w A n0 (iv xs)) (h' : Rd w B n1 (iv ys)) (hn : n0 ≤ 1000000000) (hn' : n1 ≤ 1000000000) :
    Calls Try.prog 31 #[.slice A n0 c0, .slice B n1 c1] w fun e w' => e = .returned (.bool (finB xs ys)) ∧ ∃ m, w' = w.drewN m := by
  have L0 : xs.length = n0 := by have := h.len; rw [iv_len] at this; exact this
  have L1 : ys.length = n1 := by have := h'.len; rw [iv_len] at this; exact this
  by_cases hb : isPar xs = false ∨ (isPar xs = true ∧ (isPar ys = false ∨ (isPar ys = true ∧ n0 ≠ n1)))
  · have hF : finB xs ys = false := by
      unfold finB
      rcases hb with h1 | ⟨h1, h2 | ⟨h2, h3⟩⟩
      · simp [h1]
      · simp [h1, h2]
      · rw [show (xs.length == ys.length) = false by simp; omega]; simp
    rw [hF]
    exact (implIsFiner_bad A B n0 c0 n1 c1 xs ys w h h' hn hn' hb).mono fun _ _ ⟨he, hw⟩ => ⟨he, 0, by subst hw; rfl⟩
  · rcases h1 : isPar xs with _ | _
    · exact absurd (Or.inl h1) hb
    · rcases h2 : isPar ys with _ | _
      · exact absurd (Or.inr ⟨h1, Or.inl h2⟩) hb
      · by_cases h3 : n0 = n1
        · subst h3
          exact implIsFiner_good A B n0 c0 c1 xs ys w h h' h1 h2
        · exact absurd (Or.inr ⟨h1, Or.inr ⟨h2, h3⟩⟩) hb


end Go.Proofs.Ytghfhkbncjgaeaa
