/- ValueAt: the value by Horner's rule where it is told that nothing outgrows the numbers. -/
import Derived.Test.YtlpabdpaolmpfaaIsPoly
namespace Go.Proofs.Ytlpabdpaolmpfaa
open Go.RowKit

def hor (x : Int) : List Int → Int
  | [] => 0
  | c :: l => hor x l * x + c
def vaT (xs : List Int) (x : Int) : Int × Bool :=
  if isPol xs && (inB x (-2) 2 || decide (xs.length ≤ 1)) && (decide (xs.length ≤ 30) || inB x (-1) 1) then (hor x xs, true) else (0, false)

def p2 : Nat → Int
  | 0 => 0
  | k + 1 => 2 * p2 k + 1000000000
theorem p2_le : ∀ k, k ≤ 30 → p2 k ≤ 1100000000000000000 := by
  intro k hk
  have h : ∀ j, j ≤ 30 → p2 j ≤ p2 30 := by
    intro j hj
    have mono : ∀ d j, p2 j ≤ p2 (j + d) := by
      intro d
      induction d with
      | zero => intro j; exact Int.le_refl _
      | succ d ih =>
        intro j
        have h1 := ih j
        have h2 : 0 ≤ p2 (j + d) := by
          have : ∀ m, 0 ≤ p2 m := by
            intro m
            induction m with
            | zero => decide
            | succ m ihm => simp only [p2]; omega
          exact this _
        show p2 j ≤ 2 * p2 (j + d) + 1000000000
        omega
    have := mono (30 - j) j
    rwa [show j + (30 - j) = 30 from by omega] at this
  exact Int.le_trans (h k hk) (by decide)
theorem p2_nn (m : Nat) : 0 ≤ p2 m := by
  induction m with
  | zero => decide
  | succ m ihm => simp only [p2]; omega
theorem mul_bd {a x b : Int} (ha : -b ≤ a ∧ a ≤ b) (hx : -2 ≤ x ∧ x ≤ 2) : -(2 * b) ≤ a * x ∧ a * x ≤ 2 * b := by
  have : x = -2 ∨ x = -1 ∨ x = 0 ∨ x = 1 ∨ x = 2 := by omega
  rcases this with rfl | rfl | rfl | rfl | rfl <;> omega
theorem mul_bd1 {a x b : Int} (ha : -b ≤ a ∧ a ≤ b) (hx : -1 ≤ x ∧ x ≤ 1) : -b ≤ a * x ∧ a * x ≤ b := by
  have : x = -1 ∨ x = 0 ∨ x = 1 := by omega
  rcases this with rfl | rfl | rfl <;> omega
theorem hor_bd2 {x : Int} (hx : -2 ≤ x ∧ x ≤ 2) : ∀ l : List Int, l.all inM = true → -(p2 l.length) ≤ hor x l ∧ hor x l ≤ p2 l.length
  | [], _ => by simp [hor, p2]
  | c :: l, h => by
    simp only [List.all_cons, Bool.and_eq_true] at h
    have hc := inB_iff.1 h.1
    have ih := mul_bd (hor_bd2 hx l h.2) hx
    simp only [hor, List.length_cons, p2]
    omega
theorem hor_bd1 {x : Int} (hx : -1 ≤ x ∧ x ≤ 1) : ∀ l : List Int, l.all inM = true → -(1000000000 * (l.length : Int)) ≤ hor x l ∧ hor x l ≤ 1000000000 * (l.length : Int)
  | [], _ => by simp [hor]
  | c :: l, h => by
    simp only [List.all_cons, Bool.and_eq_true] at h
    have hc := inB_iff.1 h.1
    have ih := mul_bd1 (hor_bd1 hx l h.2) hx
    simp only [hor, List.length_cons]
    omega
/-- What the loops want to know: nothing outgrows the numbers. -/
def Fits (x : Int) (xs : List Int) : Prop := ∀ k : Nat, 1 ≤ k → -1200000000000000000 ≤ hor x (xs.drop k) ∧ hor x (xs.drop k) ≤ 1200000000000000000 ∧ -2400000000000000000 ≤ hor x (xs.drop k) * x ∧ hor x (xs.drop k) * x ≤ 2400000000000000000
theorem all_drop {xs : List Int} (h : xs.all inM = true) (k : Nat) : (xs.drop k).all inM = true := by
  rw [List.all_eq_true] at h ⊢
  exact fun y hy => h y (List.mem_of_mem_drop hy)
theorem fits2 {x : Int} {xs : List Int} (hx : -2 ≤ x ∧ x ≤ 2) (h : xs.all inM = true) (hl : xs.length ≤ 30) : Fits x xs := by
  intro k _
  have h1 := hor_bd2 hx _ (all_drop h k)
  have h2 := p2_le (xs.drop k).length (by simp; omega)
  have h3 := p2_nn (xs.drop k).length
  have h4 := mul_bd h1 hx
  omega
theorem fits1 {x : Int} {xs : List Int} (hx : -1 ≤ x ∧ x ≤ 1) (h : xs.all inM = true) (hl : xs.length ≤ 61) : Fits x xs := by
  intro k _
  have h1 := hor_bd1 hx _ (all_drop h k)
  have h2 : (xs.drop k).length ≤ 61 := by simp; omega
  have h4 := mul_bd1 h1 hx
  omega
theorem isPol_all {xs : List Int} (h : isPol xs = true) : xs.all inM = true ∧ xs.length ≤ 61 := by
  simp only [isPol, Bool.and_eq_true, decide_eq_true_eq] at h
  exact ⟨h.1, h.2.1⟩
theorem drop_hor {xs : List Int} {k : Nat} {c x : Int} (h : xs[k]? = some c) : hor x (xs.drop k) = hor x (xs.drop (k + 1)) * x + c := by
  obtain ⟨hl, rfl⟩ := List.getElem?_eq_some_iff.1 h
  rw [List.drop_eq_getElem_cons hl]; rfl
theorem mem_in {xs : List Int} {k : Nat} {c : Int} (h : xs[k]? = some c) (ha : xs.all inM = true) : -1000000000 ≤ c ∧ c ≤ 1000000000 :=
  inB_iff.1 (List.all_eq_true.1 ha c (List.mem_of_getElem? h))

theorem va_bad {xs : List Int} {x : Int} {n : Nat} (HL : xs.length = n) (hb : isPol xs = false ∨ (isPol xs = true ∧ ((1 < n ∧ inB x (-2) 2 = false) ∨ (30 < n ∧ inB x (-2) 2 = true ∧ inB x (-1) 1 = false)))) : vaT xs x = (0, false) := by
  subst HL
  unfold vaT
  rcases hb with hP | ⟨hP, ⟨h1, hD⟩ | ⟨h1, hD, hD1⟩⟩
  · simp [hP]
  · rw [if_neg]; simp [hP, hD]; intro h; omega
  · rw [if_neg]; simp [hP, hD, hD1]; omega
theorem va_good {xs : List Int} {x : Int} {n : Nat} (HL : xs.length = n) (hb : ¬ (isPol xs = false ∨ (isPol xs = true ∧ ((1 < n ∧ inB x (-2) 2 = false) ∨ (30 < n ∧ inB x (-2) 2 = true ∧ inB x (-1) 1 = false))))) :
    vaT xs x = (hor x xs, true) ∧ isPol xs = true ∧ (2 ≤ n → inB x (-2) 2 = true ∧ (n ≤ 30 ∨ (30 < n ∧ inB x (-1) 1 = true))) := by
  subst HL
  rcases hP : isPol xs with _ | _
  · exact absurd (Or.inl hP) hb
  · rcases hD : inB x (-2) 2 with _ | _
    · have h1 : xs.length ≤ 1 := by
        rcases Nat.lt_or_ge 1 xs.length with h | h
        · exact absurd (Or.inr ⟨hP, Or.inl ⟨h, hD⟩⟩) hb
        · exact h
      refine ⟨by unfold vaT; rw [if_pos]; simp [hP, h1]; omega, rfl, fun h => by omega⟩
    · by_cases h30 : xs.length ≤ 30
      · exact ⟨by unfold vaT; rw [if_pos]; simp [hP, hD, h30], rfl, fun _ => ⟨rfl, Or.inl h30⟩⟩
      · rcases hD1 : inB x (-1) 1 with _ | _
        · exact absurd (Or.inr ⟨hP, Or.inr ⟨by omega, hD, hD1⟩⟩) hb
        · exact ⟨by unfold vaT; rw [if_pos]; simp [hP, hD, hD1], rfl, fun _ => ⟨rfl, Or.inr ⟨by omega, rfl⟩⟩⟩

theorem specValueAt_good (A : Option Addr) (n c : Nat) (xs : List Int) (x : Int) (w : World) (h : Rd w A n (iv xs)) (hn : n ≤ 61) (h2 : 2 ≤ n) (hP : isPol xs = true) (hF : Fits x xs) (hD : inB x (-2) 2 = true) (h30 : n ≤ 30 ∨ (30 < n ∧ inB x (-1) 1 = true)) :
    Calls Try.prog 13 #[.slice A n c, .int .i64 x] w fun e w' => e = .returned (.tuple #[.int .i64 (hor x xs), .bool true]) ∧ w = w' := by
  have HR := Lib.hid h
  have HP := Lib.hid hP
  have HF := Lib.hid hF
  have HD := Lib.hid hD
  have HA := Lib.hid (isPol_all hP).1
  have HL := Lib.hid (show xs.length = n by have := h.len; rw [iv_len] at this; exact this)
  clear h hP hF hD
  have hn1 : ((n : Int) == 1) = false := by simp; omega
  have hn0 : ((n : Int) == 0) = false := by simp; omega
  rcases h30 with h30 | ⟨h30, hD1⟩
  case' inr => have HD1 := Lib.hid hD1; clear hD1
  all_goals
    go_enter Try.func13, Try.ntmps13
    go_wp2_with (first | (go_at_call 37; refine (specIsPolynomial_any _ _ _ _ _ HR.out (by omega)).mono ?_; rintro e w' ⟨rfl, rfl⟩; rw [HP.out]) | (go_at_call 38; refine (l1In_any _ _ _ _).mono ?_; rintro e w' ⟨rfl, rfl⟩; first | rw [HD.out] | rw [HD1.out]))
    go_loop [6, 7] (fun t i => ∃ k : Nat, k ≤ n ∧ i = .int .i64 ((k : Int) - 1) ∧ t = .int .i64 (hor x (xs.drop k))) (fun _ i => (intOf i + 1).toNat)
    case atStart => exact ⟨n, Nat.le_refl _, rfl, by rw [List.drop_of_length_le (by rw [HL.out]; exact Nat.le_refl _)]; rfl⟩
    case round =>
      obtain ⟨k, hk, rfl, rfl⟩ := hrel
      by_cases hk0 : 0 < k
      · obtain ⟨j, rfl⟩ : ∃ j, k = j + 1 := ⟨k - 1, by omega⟩
        obtain ⟨b, off, y, rfl, hy, hc⟩ := HR.out.ati (show j < n by omega)
        have HY := Lib.hid (drop_hor (x := x) hy)
        have hyb := mem_in hy HA.out
        obtain ⟨f1, f2, f3, f4⟩ := HF.out (j + 1) (by omega)
        obtain ⟨H, hH⟩ : ∃ H, H = hor x (xs.drop (j + 1)) := ⟨_, rfl⟩
        rw [← hH] at f1 f2 f3 f4 ⊢
        have HH := Lib.hid hH
        clear hH hy
        have ej : ((j + 1 : Nat) : Int) - 1 = (j : Int) := by omega
        rw [ej]
        have hj0 : (0 : Int) ≤ (j : Int) := by omega
        clear ej
        go_wp2_with fail
        go_round
        case rel => exact ⟨j, by omega, by go_num, by rw [HY.out, HH.out]⟩
        case measure => simp [intOf] <;> omega
      · obtain rfl : k = 0 := by omega
        have ej : ((0 : Nat) : Int) - 1 = -1 := by omega
        rw [ej]
        clear ej
        go_wp2_with fail
        go_ret2
        exact ⟨rfl, rfl⟩

theorem specValueAt_0 (A : Option Addr) (c : Nat) (x : Int) (w : World) (h : Rd w A 0 (iv [])) :
    Calls Try.prog 13 #[.slice A 0 c, .int .i64 x] w fun e w' => e = .returned (.tuple #[.int .i64 0, .bool true]) ∧ w = w' := by
  have HR := Lib.hid h
  have HP := Lib.hid (show isPol [] = true by decide)
  rcases hD : inB x (-2) 2 with _ | _
  all_goals
    have HD := Lib.hid hD
    clear hD
    go_enter Try.func13, Try.ntmps13
    go_wp2_with (first | (go_at_call 37; refine (specIsPolynomial_any _ _ _ _ _ HR.out (by omega)).mono ?_; rintro e w' ⟨rfl, rfl⟩; rw [HP.out]) | (go_at_call 38; refine (l1In_any _ _ _ _).mono ?_; rintro e w' ⟨rfl, rfl⟩; rw [HD.out]))
    refine wp_loop_rounds 1 ?_
    rw [rounds_succ]
    go_wp2_with fail
    go_ret2
    exact ⟨rfl, rfl⟩

theorem specValueAt_1 (A : Option Addr) (c : Nat) (y x : Int) (w : World) (h : Rd w A 1 (iv [y])) (hP : isPol [y] = true) :
    Calls Try.prog 13 #[.slice A 1 c, .int .i64 x] w fun e w' => e = .returned (.tuple #[.int .i64 y, .bool true]) ∧ w = w' := by
  have HR := Lib.hid h
  have HP := Lib.hid hP
  obtain ⟨b, off, y', rfl, hy, hc⟩ := h.ati (show 0 < 1 by omega)
  obtain rfl : y = y' := by simpa using hy
  clear hy h hP
  have hc' : w.cell? ⟨b, off, none⟩ = some (.int .i64 y) := hc
  rcases hD : inB x (-2) 2 with _ | _
  all_goals
    have HD := Lib.hid hD
    clear hD
    go_enter Try.func13, Try.ntmps13
    go_wp2_with (first | (go_at_call 37; refine (specIsPolynomial_any _ _ _ _ _ HR.out (by omega)).mono ?_; rintro e w' ⟨rfl, rfl⟩; rw [HP.out]) | (go_at_call 38; refine (l1In_any _ _ _ _).mono ?_; rintro e w' ⟨rfl, rfl⟩; rw [HD.out]))
    refine wp_loop_rounds 1 ?_
    rw [rounds_succ]
    go_wp2_with fail
    go_ret2
    exact ⟨rfl, rfl⟩

theorem specValueAt_bad (A : Option Addr) (n c : Nat) (xs : List Int) (x : Int) (w : World) (h : Rd w A n (iv xs)) (hn : n ≤ 1000000000) (hb : isPol xs = false ∨ (isPol xs = true ∧ ((1 < n ∧ inB x (-2) 2 = false) ∨ (30 < n ∧ inB x (-2) 2 = true ∧ inB x (-1) 1 = false)))) :
    Calls Try.prog 13 #[.slice A n c, .int .i64 x] w fun e w' => e = .returned (.tuple #[.int .i64 0, .bool false]) ∧ w = w' := by
  have HR := Lib.hid h
  rcases hb with hP | ⟨hP, ⟨h1, hD⟩ | ⟨h1, hD, hD1⟩⟩
  case' inr.inl => have HD := Lib.hid hD; clear hD
  case' inr.inr => have HD := Lib.hid hD; have HD1 := Lib.hid hD1; clear hD hD1
  all_goals
    have HP := Lib.hid hP
    clear h hP
    go_enter Try.func13, Try.ntmps13
    go_wp2_with (first | (go_at_call 37; refine (specIsPolynomial_any _ _ _ _ _ HR.out (by omega)).mono ?_; rintro e w' ⟨rfl, rfl⟩; rw [HP.out]) | (go_at_call 38; refine (l1In_any _ _ _ _).mono ?_; rintro e w' ⟨rfl, rfl⟩; first | rw [HD.out] | rw [HD1.out]))
    go_ret2
    exact ⟨rfl, rfl⟩

theorem specValueAt_any (A : Option Addr) (n c : Nat) (xs : List Int) (x : Int) (w : World) (h : Rd w A n (iv xs)) (hn : n ≤ 1000000000) :
    Calls Try.prog 13 #[.slice A n c, .int .i64 x] w fun e w' => e = .returned (.tuple #[.int .i64 (vaT xs x).1, .bool (vaT xs x).2]) ∧ w = w' := by
  have HL : xs.length = n := by have := h.len; rw [iv_len] at this; exact this
  by_cases hb : isPol xs = false ∨ (isPol xs = true ∧ ((1 < n ∧ inB x (-2) 2 = false) ∨ (30 < n ∧ inB x (-2) 2 = true ∧ inB x (-1) 1 = false)))
  · rw [va_bad HL hb]
    exact specValueAt_bad A n c xs x w h hn hb
  · obtain ⟨e1, hP, h3⟩ := va_good HL hb
    rw [e1]
    have h61 := (isPol_all hP).2
    match xs, HL, hP, h3, h with
    | [], HL, _, _, h =>
      simp at HL
      subst HL
      exact specValueAt_0 A c x w h
    | [y], HL, hP, _, h =>
      simp at HL
      subst HL
      rw [show hor x [y] = y by simp [hor]]
      exact specValueAt_1 A c y x w h hP
    | y :: z :: l, HL, hP, h3, h =>
      have h2 : 2 ≤ n := by rw [← HL]; simp
      obtain ⟨hD, h30⟩ := h3 h2
      have hx := inB_iff.1 hD
      refine specValueAt_good A n c _ x w h (by omega) h2 hP ?_ hD h30
      rcases h30 with h30 | ⟨_, hD1⟩
      · exact fits2 hx (isPol_all hP).1 (by omega)
      · exact fits1 (inB_iff.1 hD1) (isPol_all hP).1 h61

theorem implValueAt_good (A : Option Addr) (n c : Nat) (xs : List Int) (x : Int) (w : World) (h : Rd w A n (iv xs)) (hn : n ≤ 61) (h2 : 2 ≤ n) (hP : isPol xs = true) (hF : Fits x xs) (hD : inB x (-2) 2 = true) (h30 : n ≤ 30 ∨ (30 < n ∧ inB x (-1) 1 = true)) :
    Calls Try.prog 15 #[.slice A n c, .int .i64 x] w fun e w' => e = .returned (.tuple #[.int .i64 (hor x xs), .bool true]) ∧ w = w' := by
  have HR := Lib.hid h
  have HP := Lib.hid hP
  have HF := Lib.hid hF
  have HD := Lib.hid hD
  have HA := Lib.hid (isPol_all hP).1
  have HL := Lib.hid (show xs.length = n by have := h.len; rw [iv_len] at this; exact this)
  clear h hP hF hD
  obtain ⟨b, off, z, rfl, hz, hcz⟩ := HR.out.ati (show n - 1 < n by omega)
  have HZ := Lib.hid (show hor x (xs.drop (n - 1)) = z by
    rw [drop_hor hz, List.drop_of_length_le (by rw [HL.out]; omega)]; simp [hor])
  have hzb := mem_in hz HA.out
  clear hz
  have hnp : 0 < n := by omega
  have hn1 : ((n : Int) == 1) = false := by simp; omega
  have hn0 : ((n : Int) == 0) = false := by simp; omega
  rcases h30 with h30 | ⟨h30, hD1⟩
  case' inr => have HD1 := Lib.hid hD1; clear hD1
  all_goals
    go_enter Try.func15, Try.ntmps15
    go_wp2_with (first | (go_at_call 39; refine (implIsPolynomial_any _ _ _ _ _ HR.out (by omega)).mono ?_; rintro e w' ⟨rfl, rfl⟩; rw [HP.out]) | (go_at_call 40; refine (within_any _ _ _ _).mono ?_; rintro e w' ⟨rfl, rfl⟩; first | rw [HD.out] | rw [HD1.out]))
    go_loop [6, 7] (fun t i => ∃ k : Nat, k + 1 ≤ n ∧ i = .int .i64 ((k : Int) - 1) ∧ t = .int .i64 (hor x (xs.drop k))) (fun _ i => (intOf i + 1).toNat)
    case atStart => exact ⟨n - 1, by omega, by congr 1; omega, by rw [HZ.out]⟩
    case round =>
      obtain ⟨k, hk, rfl, rfl⟩ := hrel
      by_cases hk0 : 0 < k
      · obtain ⟨j, rfl⟩ : ∃ j, k = j + 1 := ⟨k - 1, by omega⟩
        obtain ⟨b', off', y, hA, hy, hc⟩ := HR.out.ati (show j < n by omega)
        cases hA
        have HY := Lib.hid (drop_hor (x := x) hy)
        have hyb := mem_in hy HA.out
        obtain ⟨f1, f2, f3, f4⟩ := HF.out (j + 1) (by omega)
        obtain ⟨H, hH⟩ : ∃ H, H = hor x (xs.drop (j + 1)) := ⟨_, rfl⟩
        rw [← hH] at f1 f2 f3 f4 ⊢
        have HH := Lib.hid hH
        clear hH hy
        have ej : ((j + 1 : Nat) : Int) - 1 = (j : Int) := by omega
        rw [ej]
        have hj0 : (0 : Int) ≤ (j : Int) := by omega
        clear ej
        go_wp2_with fail
        go_round
        case rel => exact ⟨j, by omega, by go_num, by rw [HY.out, HH.out]⟩
        case measure => simp [intOf] <;> omega
      · obtain rfl : k = 0 := by omega
        have ej : ((0 : Nat) : Int) - 1 = -1 := by omega
        rw [ej]
        clear ej
        go_wp2_with fail
        go_ret2
        exact ⟨rfl, rfl⟩

theorem implValueAt_0 (A : Option Addr) (c : Nat) (x : Int) (w : World) (h : Rd w A 0 (iv [])) :
    Calls Try.prog 15 #[.slice A 0 c, .int .i64 x] w fun e w' => e = .returned (.tuple #[.int .i64 0, .bool true]) ∧ w = w' := by
  have HR := Lib.hid h
  have HP := Lib.hid (show isPol [] = true by decide)
  rcases hD : inB x (-2) 2 with _ | _
  all_goals
    have HD := Lib.hid hD
    clear hD
    go_enter Try.func15, Try.ntmps15
    go_wp2_with (first | (go_at_call 39; refine (implIsPolynomial_any _ _ _ _ _ HR.out (by omega)).mono ?_; rintro e w' ⟨rfl, rfl⟩; rw [HP.out]) | (go_at_call 40; refine (within_any _ _ _ _).mono ?_; rintro e w' ⟨rfl, rfl⟩; rw [HD.out]))
    go_ret2
    exact ⟨rfl, rfl⟩

theorem implValueAt_1 (A : Option Addr) (c : Nat) (y x : Int) (w : World) (h : Rd w A 1 (iv [y])) (hP : isPol [y] = true) :
    Calls Try.prog 15 #[.slice A 1 c, .int .i64 x] w fun e w' => e = .returned (.tuple #[.int .i64 y, .bool true]) ∧ w = w' := by
  have HR := Lib.hid h
  have HP := Lib.hid hP
  obtain ⟨b, off, y', rfl, hy, hc⟩ := h.ati (show 0 < 1 by omega)
  obtain rfl : y = y' := by simpa using hy
  clear hy h hP
  have hc' : w.cell? ⟨b, off, none⟩ = some (.int .i64 y) := hc
  rcases hD : inB x (-2) 2 with _ | _
  all_goals
    have HD := Lib.hid hD
    clear hD
    go_enter Try.func15, Try.ntmps15
    go_wp2_with (first | (go_at_call 39; refine (implIsPolynomial_any _ _ _ _ _ HR.out (by omega)).mono ?_; rintro e w' ⟨rfl, rfl⟩; rw [HP.out]) | (go_at_call 40; refine (within_any _ _ _ _).mono ?_; rintro e w' ⟨rfl, rfl⟩; rw [HD.out]))
    refine wp_loop_rounds 1 ?_
    rw [rounds_succ]
    go_wp2_with fail
    go_ret2
    exact ⟨rfl, rfl⟩

theorem implValueAt_bad (A : Option Addr) (n c : Nat) (xs : List Int) (x : Int) (w : World) (h : Rd w A n (iv xs)) (hn : n ≤ 1000000000) (hb : isPol xs = false ∨ (isPol xs = true ∧ ((1 < n ∧ inB x (-2) 2 = false) ∨ (30 < n ∧ inB x (-2) 2 = true ∧ inB x (-1) 1 = false)))) :
    Calls Try.prog 15 #[.slice A n c, .int .i64 x] w fun e w' => e = .returned (.tuple #[.int .i64 0, .bool false]) ∧ w = w' := by
  have HR := Lib.hid h
  rcases hb with hP | ⟨hP, ⟨h1, hD⟩ | ⟨h1, hD, hD1⟩⟩
  case' inr.inl => have HD := Lib.hid hD; clear hD
  case' inr.inr => have HD := Lib.hid hD; have HD1 := Lib.hid hD1; clear hD hD1
  all_goals
    have HP := Lib.hid hP
    clear h hP
    go_enter Try.func15, Try.ntmps15
    go_wp2_with (first | (go_at_call 39; refine (implIsPolynomial_any _ _ _ _ _ HR.out (by omega)).mono ?_; rintro e w' ⟨rfl, rfl⟩; rw [HP.out]) | (go_at_call 40; refine (within_any _ _ _ _).mono ?_; rintro e w' ⟨rfl, rfl⟩; first | rw [HD.out] | rw [HD1.out]))
    go_ret2
    exact ⟨rfl, rfl⟩

theorem implValueAt_any (A : Option Addr) (n c : Nat) (xs : List Int) (x : Int) (w : World) (h : Rd w A n (iv xs)) (hn : n ≤ 1000000000) :
    Calls Try.prog 15 #[.slice A n c, .int .i64 x] w fun e w' => e = .returned (.tuple #[.int .i64 (vaT xs x).1, .bool (vaT xs x).2]) ∧ w = w' := by
  have HL : xs.length = n := by have := h.len; rw [iv_len] at this; exact this
  by_cases hb : isPol xs = false ∨ (isPol xs = true ∧ ((1 < n ∧ inB x (-2) 2 = false) ∨ (30 < n ∧ inB x (-2) 2 = true ∧ inB x (-1) 1 = false)))
  · rw [va_bad HL hb]
    exact implValueAt_bad A n c xs x w h hn hb
  · obtain ⟨e1, hP, h3⟩ := va_good HL hb
    rw [e1]
    have h61 := (isPol_all hP).2
    match xs, HL, hP, h3, h with
    | [], HL, _, _, h =>
      simp at HL
      subst HL
      exact implValueAt_0 A c x w h
    | [y], HL, hP, _, h =>
      simp at HL
      subst HL
      rw [show hor x [y] = y by simp [hor]]
      exact implValueAt_1 A c y x w h hP
    | y :: z :: l, HL, hP, h3, h =>
      have h2 : 2 ≤ n := by rw [← HL]; simp
      obtain ⟨hD, h30⟩ := h3 h2
      have hx := inB_iff.1 hD
      refine implValueAt_good A n c _ x w h (by omega) h2 hP ?_ hD h30
      rcases h30 with h30 | ⟨_, hD1⟩
      · exact fits2 hx (isPol_all hP).1 (by omega)
      · exact fits1 (inB_iff.1 hD1) (isPol_all hP).1 h61

end Go.Proofs.Ytlpabdpaolmpfaa
