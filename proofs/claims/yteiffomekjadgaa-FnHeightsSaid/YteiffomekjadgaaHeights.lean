/- l18Fit, samePaths; IsBelow, DistanceBetween, RankOfPath of both sides. -/
import Derived.Test.YteiffomekjadgaaDyck
namespace Go.Proofs.Yteiffomekjadgaa
open Go.RowKit

/-- Two paths of one size. -/
def fitB (a b : List UInt8) : Bool := dyck a && dyck b && (a.length == b.length)
theorem fitB_true {a b : List UInt8} (h : fitB a b = true) : dyck a = true ∧ dyck b = true ∧ a.length = b.length := by
  simpa [fitB, and_assoc] using h
def leTo (a b : List UInt8) : Nat → Bool
  | 0 => true
  | k + 1 => leTo a b k && decide (hat a k ≤ hat b k)
def belowB (a b : List UInt8) : Bool := fitB a b && leTo a b (a.length + 1)
theorem leTo_false {a b : List UInt8} {k n : Nat} (h : hat b k < hat a k) (hk : k < n) : leTo a b n = false := by
  induction n with
  | zero => omega
  | succ n ih =>
    rcases Nat.lt_or_ge k n with h1 | h1
    · simp [leTo, ih h1]
    · obtain rfl : k = n := by omega
      simp [leTo]; intro _; omega
def dsum (a b : List UInt8) : Nat → Int
  | 0 => 0
  | k + 1 => dsum a b k + max (hat a k - hat b k) (hat b k - hat a k)
def distB (a b : List UInt8) : Int := if fitB a b then dsum a b (a.length + 1) / 2 else -1
theorem max_if (p q : Int) : max p q = if p < q then q else p := by split <;> omega
theorem dsum_bd (a b : List UInt8) : ∀ k : Nat, k ≤ 17 → 0 ≤ dsum a b k ∧ dsum a b k ≤ 34 * k
  | 0, _ => by simp [dsum]
  | k + 1, h => by
    have h1 := dsum_bd a b k (by omega)
    have h2 := hat_bd a k
    have h3 := hat_bd b k
    simp only [dsum]
    omega

theorem l18Fit_any (a b : List UInt8) (w : World) (ha : a.length ≤ 1000000000) (hb : b.length ≤ 1000000000) :
    Calls Try.prog 89 #[.string (bs a), .string (bs b)] w fun e w' => e = .returned (.bool (fitB a b)) ∧ w = w' := by
  rcases h1 : dyck a with _ | _
  · have HF := Lib.hid (show fitB a b = false by simp [fitB, h1])
    have H1 := Lib.hid h1
    clear h1
    go_enter Try.func89, Try.ntmps89
    go_wp2_with fail
    refine (specIsDyck_any _ _ ha).mono ?_
    rintro e w' ⟨rfl, rfl⟩
    rw [H1.out]
    go_wp2_with fail
    go_ret
    exact ⟨ret_bool (by rw [HF.out]), rfl⟩
  · rcases h2 : dyck b with _ | _
    · have HF := Lib.hid (show fitB a b = false by simp [fitB, h2])
      have H1 := Lib.hid h1
      have H2 := Lib.hid h2
      clear h1 h2
      go_enter Try.func89, Try.ntmps89
      go_wp2_with fail
      refine (specIsDyck_any _ _ ha).mono ?_
      rintro e w' ⟨rfl, rfl⟩
      rw [H1.out]
      go_wp2_with fail
      refine (specIsDyck_any _ _ hb).mono ?_
      rintro e w' ⟨rfl, rfl⟩
      rw [H2.out]
      go_wp2_with fail
      go_ret
      exact ⟨ret_bool (by rw [HF.out]), rfl⟩
    · have HF := Lib.hid (show fitB a b = (((a.length : Nat) : Int) == (b.length : Int)) by simp [fitB, h1, h2]; rw [Bool.eq_iff_iff]; simp; omega)
      have H1 := Lib.hid h1
      have H2 := Lib.hid h2
      clear h1 h2
      go_enter Try.func89, Try.ntmps89
      go_wp2_with fail
      refine (specIsDyck_any _ _ ha).mono ?_
      rintro e w' ⟨rfl, rfl⟩
      rw [H1.out]
      go_wp2_with fail
      refine (specIsDyck_any _ _ hb).mono ?_
      rintro e w' ⟨rfl, rfl⟩
      rw [H2.out]
      go_wp2_with fail
      go_ret
      exact ⟨ret_bool (by rw [HF.out]), rfl⟩
theorem samePaths_any (a b : List UInt8) (w : World) (ha : a.length ≤ 1000000000) (hb : b.length ≤ 1000000000) :
    Calls Try.prog 87 #[.string (bs a), .string (bs b)] w fun e w' => e = .returned (.bool (fitB a b)) ∧ Below w.heap.size w w' := by
  rcases h1 : dyck a with _ | _
  · have HF := Lib.hid (show fitB a b = false by simp [fitB, h1])
    have H1 := Lib.hid h1
    clear h1
    go_enter Try.func87, Try.ntmps87
    go_wp2_with fail
    refine (implIsDyck_any _ _ ha).mono ?_
    rintro e w1 ⟨rfl, hb1⟩
    rw [H1.out]
    go_wp2_with fail
    go_ret
    exact ⟨ret_bool (by rw [HF.out]), hb1⟩
  · rcases h2 : dyck b with _ | _
    · have HF := Lib.hid (show fitB a b = false by simp [fitB, h2])
      have H1 := Lib.hid h1
      have H2 := Lib.hid h2
      clear h1 h2
      go_enter Try.func87, Try.ntmps87
      go_wp2_with fail
      refine (implIsDyck_any _ _ ha).mono ?_
      rintro e w1 ⟨rfl, hb1⟩
      rw [H1.out]
      go_wp2_with fail
      refine (implIsDyck_any _ _ hb).mono ?_
      rintro e w2 ⟨rfl, hb2⟩
      rw [H2.out]
      go_wp2_with fail
      go_ret
      exact ⟨ret_bool (by rw [HF.out]), hb1.trans (hb2.mono hb1.size)⟩
    · have HF := Lib.hid (show fitB a b = (((a.length : Nat) : Int) == (b.length : Int)) by simp [fitB, h1, h2]; rw [Bool.eq_iff_iff]; simp; omega)
      have H1 := Lib.hid h1
      have H2 := Lib.hid h2
      clear h1 h2
      go_enter Try.func87, Try.ntmps87
      go_wp2_with fail
      refine (implIsDyck_any _ _ ha).mono ?_
      rintro e w1 ⟨rfl, hb1⟩
      rw [H1.out]
      go_wp2_with fail
      refine (implIsDyck_any _ _ hb).mono ?_
      rintro e w2 ⟨rfl, hb2⟩
      rw [H2.out]
      go_wp2_with fail
      go_ret
      exact ⟨ret_bool (by rw [HF.out]), hb1.trans (hb2.mono hb1.size)⟩
theorem l18Fit_w (a b : List UInt8) (w : World) (ha : a.length ≤ 1000000000) (hb : b.length ≤ 1000000000) :
    Calls Try.prog 89 #[.string (bs a), .string (bs b)] w fun e w' => e = .returned (.bool (fitB a b)) ∧ Below w.heap.size w w' :=
  (l18Fit_any a b w ha hb).mono fun _ _ ⟨he, hw⟩ => ⟨he, by subst hw; exact Below.refl _ _⟩
theorem htsD_of {l : List UInt8} (h : dyck l = true) : htsD l = hts l := by simp [htsD, h]
theorem htsD_len {l : List UInt8} (h : dyck l = true) : (htsD l).length = l.length + 1 := by rw [htsD_of h, hts_len]

set_option maxHeartbeats 800000 in
theorem specIsBelow_any (a b : List UInt8) (w : World) (ha : a.length ≤ 1000000000) (hb : b.length ≤ 1000000000) :
    Calls Try.prog 45 #[.string (bs a), .string (bs b)] w fun e w' => e = .returned (.bool (belowB a b)) ∧ Below w.heap.size w w' := by
  rcases hf : fitB a b with _ | _
  · have HF := Lib.hid (show belowB a b = false by simp [belowB, hf])
    have H1 := Lib.hid hf
    clear hf
    go_enter Try.func45, Try.ntmps45
    go_wp2_with fail
    refine (l18Fit_w _ _ _ ha hb).mono ?_
    rintro e w0 ⟨rfl, hb0⟩
    rw [H1.out]
    go_wp2_with fail
    go_ret
    exact ⟨ret_bool (by rw [HF.out]), hb0⟩
  · obtain ⟨da, db, hab⟩ := fitB_true hf
    have h16 := (dyck_pathB da).1
    have HF := Lib.hid (show belowB a b = leTo a b (a.length + 1) by simp [belowB, hf])
    have H1 := Lib.hid hf
    have LA := Lib.hid (htsD_len da)
    have LB := Lib.hid (htsD_len db)
    have EA := Lib.hid (htsD_of da)
    have EB := Lib.hid (htsD_of db)
    have HAB := Lib.hid hab
    clear hf da db hab
    go_enter Try.func45, Try.ntmps45
    go_wp2_with fail
    refine (l18Fit_w _ _ _ ha hb).mono ?_
    rintro e w0 ⟨rfl, hb0⟩
    rw [H1.out]
    go_wp2_with fail
    refine (specHeightsOf_any _ _ ha).mono ?_
    rintro e w1 ⟨A1, n1, c1, hn1, rfl, ho1, hb1⟩
    have R1 := Lib.hid ho1.rd
    have N1 := Lib.hid (show n1 = a.length + 1 from hn1.trans (LA.out))
    clear hn1 ho1
    have HB1 := Lib.hid (hb0.trans (hb1.mono hb0.size))
    clear hb0 hb1
    go_wp2_with fail
    refine (specHeightsOf_any _ _ hb).mono ?_
    rintro e w2 ⟨A2, n2, c2, hn2, rfl, ho2, hb2⟩
    have R2 := Lib.hid ho2.rd
    have hn2' : n1 = n2 := N1.out.trans (Eq.symm (hn2.trans (LB.out.trans (by rw [HAB.out]))))
    have R1 := Lib.hid (R1.out.below hb2)
    have HB2 := Lib.hid (HB1.out.trans (hb2.mono HB1.out.size))
    clear hn2 ho2 hb2 HB1
    subst hn2'
    have hn17 : n1 ≤ 17 := by have := N1.out; omega
    go_wp2_with fail
    go_loopw [7] (fun i wr => ∃ k m : Nat, k ≤ n1 ∧ i = .int .i64 k ∧ wr = w2.drewN m ∧ Hid (leTo a b k = true)) (fun i _ => n1 - (intOf i).toNat)
    case atStart => exact ⟨0, 0, Nat.zero_le _, rfl, rfl, rfl⟩
    case round =>
      obtain ⟨k, m, hk, rfl, rfl, HT⟩ := hrel
      by_cases hlt : k < n1
      · obtain ⟨b1, o1, x, hA1, hx, hc1⟩ := R1.out.ati hlt
        obtain ⟨b2, o2, y, hA2, hy, hc2⟩ := R2.out.ati hlt
        cases hA1
        cases hA2
        rw [EA.out] at hx
        rw [EB.out] at hy
        have HX := Lib.hid (hts_at hx).1
        have HY := Lib.hid (hts_at hy).1
        have bx := hat_bd a k
        have by' := hat_bd b k
        rw [← HX.out] at bx
        rw [← HY.out] at by'
        clear hx hy
        have hk0 : (0 : Int) ≤ (k : Int) := by omega
        have hk1 : (k : Int) < (n1 : Int) := by omega

        by_cases hxy : y < x
        · have HF2 := Lib.hid (show belowB a b = false by rw [HF.out]; exact leTo_false (k := k) (by rw [← HX.out, ← HY.out]; exact hxy) (by have := N1.out; omega))
          go_wp2_with fail
          go_quiet (fail)
          go_wp2_with fail
          go_ret
          exact ⟨ret_bool (by rw [HF2.out]), (by repeat (first | exact HB2.out | apply below_drewN'))⟩
        · have hyx : x ≤ y := by omega
          clear hxy
          go_wp2_with fail
          go_quiet (fail)
          go_wp2_with fail
          go_roundw
          case rel => exact ⟨k + 1, _, by omega, by go_num, rfl, by simp only [leTo, HT.out, Bool.true_and, decide_eq_true_eq]; rw [← HX.out, ← HY.out]; exact hyx⟩
          case measure => simp [intOf]; omega
      · have hkn : k = n1 := by omega
        have HF2 := Lib.hid (show belowB a b = true by rw [HF.out, ← N1.out, ← hkn]; exact HT.out)
        clear hkn
        go_wp2_with fail
        go_ret
        exact ⟨ret_bool (by rw [HF2.out]), (by repeat (first | exact HB2.out | apply below_drewN'))⟩
set_option maxHeartbeats 800000 in
theorem implIsBelow_any (a b : List UInt8) (w : World) (ha : a.length ≤ 1000000000) (hb : b.length ≤ 1000000000) :
    Calls Try.prog 36 #[.string (bs a), .string (bs b)] w fun e w' => e = .returned (.bool (belowB a b)) ∧ Below w.heap.size w w' := by
  rcases hf : fitB a b with _ | _
  · have HF := Lib.hid (show belowB a b = false by simp [belowB, hf])
    have H1 := Lib.hid hf
    clear hf
    go_enter Try.func36, Try.ntmps36
    go_wp2_with fail
    refine (samePaths_any _ _ _ ha hb).mono ?_
    rintro e w0 ⟨rfl, hb0⟩
    rw [H1.out]
    go_wp2_with fail
    go_ret
    exact ⟨ret_bool (by rw [HF.out]), hb0⟩
  · obtain ⟨da, db, hab⟩ := fitB_true hf
    have h16 := (dyck_pathB da).1
    have HF := Lib.hid (show belowB a b = leTo a b (a.length + 1) by simp [belowB, hf])
    have H1 := Lib.hid hf
    have LA := Lib.hid (htsD_len da)
    have LB := Lib.hid (htsD_len db)
    have EA := Lib.hid (htsD_of da)
    have EB := Lib.hid (htsD_of db)
    have HAB := Lib.hid hab
    clear hf da db hab
    go_enter Try.func36, Try.ntmps36
    go_wp2_with fail
    refine (samePaths_any _ _ _ ha hb).mono ?_
    rintro e w0 ⟨rfl, hb0⟩
    rw [H1.out]
    go_wp2_with fail
    refine (implHeightsOf_any _ _ ha).mono ?_
    rintro e w1 ⟨A1, n1, c1, hn1, rfl, ho1, hb1⟩
    have R1 := Lib.hid ho1.rd
    have N1 := Lib.hid (show n1 = a.length + 1 from hn1.trans (LA.out))
    clear hn1 ho1
    have HB1 := Lib.hid (hb0.trans (hb1.mono hb0.size))
    clear hb0 hb1
    go_wp2_with fail
    refine (implHeightsOf_any _ _ hb).mono ?_
    rintro e w2 ⟨A2, n2, c2, hn2, rfl, ho2, hb2⟩
    have R2 := Lib.hid ho2.rd
    have hn2' : n1 = n2 := N1.out.trans (Eq.symm (hn2.trans (LB.out.trans (by rw [HAB.out]))))
    have R1 := Lib.hid (R1.out.below hb2)
    have HB2 := Lib.hid (HB1.out.trans (hb2.mono HB1.out.size))
    clear hn2 ho2 hb2 HB1
    subst hn2'
    have hn17 : n1 ≤ 17 := by have := N1.out; omega
    go_wp2_with fail
    go_loopw [7, 18] (fun _ i wr => ∃ k m : Nat, k ≤ n1 ∧ i = .int .i64 k ∧ wr = w2.drewN m ∧ Hid (leTo a b k = true)) (fun _ i _ => n1 - (intOf i).toNat)
    case atStart => exact ⟨0, 0, Nat.zero_le _, rfl, rfl, rfl⟩
    case round =>
      obtain ⟨k, m, hk, rfl, rfl, HT⟩ := hrel
      by_cases hlt : k < n1
      · obtain ⟨b1, o1, x, hA1, hx, hc1⟩ := R1.out.ati hlt
        obtain ⟨b2, o2, y, hA2, hy, hc2⟩ := R2.out.ati hlt
        cases hA1
        cases hA2
        rw [EA.out] at hx
        rw [EB.out] at hy
        have HX := Lib.hid (hts_at hx).1
        have HY := Lib.hid (hts_at hy).1
        have bx := hat_bd a k
        have by' := hat_bd b k
        rw [← HX.out] at bx
        rw [← HY.out] at by'
        clear hx hy
        have hk0 : (0 : Int) ≤ (k : Int) := by omega
        have hk1 : (k : Int) < (n1 : Int) := by omega

        by_cases hxy : y < x
        · have HF2 := Lib.hid (show belowB a b = false by rw [HF.out]; exact leTo_false (k := k) (by rw [← HX.out, ← HY.out]; exact hxy) (by have := N1.out; omega))
          go_wp2_with fail
          go_quiet (fail)
          go_wp2_with fail
          go_ret
          exact ⟨ret_bool (by rw [HF2.out]), (by repeat (first | exact HB2.out | apply below_drewN'))⟩
        · have hyx : x ≤ y := by omega
          clear hxy
          go_wp2_with fail
          go_quiet (fail)
          go_wp2_with fail
          go_roundw
          case rel => exact ⟨k + 1, _, by omega, by go_num, rfl, by simp only [leTo, HT.out, Bool.true_and, decide_eq_true_eq]; rw [← HX.out, ← HY.out]; exact hyx⟩
          case measure => simp [intOf]; omega
      · have hkn : k = n1 := by omega
        have HF2 := Lib.hid (show belowB a b = true by rw [HF.out, ← N1.out, ← hkn]; exact HT.out)
        clear hkn
        go_wp2_with fail
        go_ret
        exact ⟨ret_bool (by rw [HF2.out]), (by repeat (first | exact HB2.out | apply below_drewN'))⟩
set_option maxHeartbeats 800000 in
theorem specDistanceBetween_any (a b : List UInt8) (w : World) (ha : a.length ≤ 1000000000) (hb : b.length ≤ 1000000000) :
    Calls Try.prog 35 #[.string (bs a), .string (bs b)] w fun e w' => e = .returned (.int .i64 (distB a b)) ∧ Below w.heap.size w w' := by
  rcases hf : fitB a b with _ | _
  · have HF := Lib.hid (show distB a b = -1 by simp [distB, hf])
    have H1 := Lib.hid hf
    clear hf
    go_enter Try.func35, Try.ntmps35
    go_wp2_with fail
    refine (l18Fit_w _ _ _ ha hb).mono ?_
    rintro e w0 ⟨rfl, hb0⟩
    rw [H1.out]
    go_wp2_with fail
    go_ret
    exact ⟨ret_int (by rw [HF.out]), hb0⟩
  · obtain ⟨da, db, hab⟩ := fitB_true hf
    have h16 := (dyck_pathB da).1
    have HF := Lib.hid (show distB a b = dsum a b (a.length + 1) / 2 by simp [distB, hf])
    have H1 := Lib.hid hf
    have LA := Lib.hid (htsD_len da)
    have LB := Lib.hid (htsD_len db)
    have EA := Lib.hid (htsD_of da)
    have EB := Lib.hid (htsD_of db)
    have HAB := Lib.hid hab
    clear hf da db hab
    go_enter Try.func35, Try.ntmps35
    go_wp2_with fail
    refine (l18Fit_w _ _ _ ha hb).mono ?_
    rintro e w0 ⟨rfl, hb0⟩
    rw [H1.out]
    go_wp2_with fail
    refine (specHeightsOf_any _ _ ha).mono ?_
    rintro e w1 ⟨A1, n1, c1, hn1, rfl, ho1, hb1⟩
    have R1 := Lib.hid ho1.rd
    have N1 := Lib.hid (show n1 = a.length + 1 from hn1.trans (LA.out))
    clear hn1 ho1
    have HB1 := Lib.hid (hb0.trans (hb1.mono hb0.size))
    clear hb0 hb1
    go_wp2_with fail
    refine (specHeightsOf_any _ _ hb).mono ?_
    rintro e w2 ⟨A2, n2, c2, hn2, rfl, ho2, hb2⟩
    have R2 := Lib.hid ho2.rd
    have hn2' : n1 = n2 := N1.out.trans (Eq.symm (hn2.trans (LB.out.trans (by rw [HAB.out]))))
    have R1 := Lib.hid (R1.out.below hb2)
    have HB2 := Lib.hid (HB1.out.trans (hb2.mono HB1.out.size))
    clear hn2 ho2 hb2 HB1
    subst hn2'
    have hn17 : n1 ≤ 17 := by have := N1.out; omega
    go_wp2_with fail
    go_loopw [7, 8] (fun t i wr => ∃ k m : Nat, k ≤ n1 ∧ i = .int .i64 k ∧ t = .int .i64 (dsum a b k) ∧ wr = w2.drewN m) (fun t i _ => n1 - (intOf i).toNat)
    case atStart => exact ⟨0, 0, Nat.zero_le _, rfl, rfl, rfl⟩
    case round =>
      obtain ⟨k, m, hk, rfl, rfl, rfl⟩ := hrel
      obtain ⟨bd1, bd2⟩ := dsum_bd a b k (by omega)
      obtain ⟨D, hD⟩ : ∃ D, D = dsum a b k := ⟨_, rfl⟩
      rw [← hD] at bd1 bd2 ⊢
      have HD := Lib.hid hD
      clear hD
      by_cases hlt : k < n1
      · obtain ⟨b1, o1, x, hA1, hx, hc1⟩ := R1.out.ati hlt
        obtain ⟨b2, o2, y, hA2, hy, hc2⟩ := R2.out.ati hlt
        cases hA1
        cases hA2
        rw [EA.out] at hx
        rw [EB.out] at hy
        have HX := Lib.hid (hts_at hx).1
        have HY := Lib.hid (hts_at hy).1
        have bx := hat_bd a k
        have by' := hat_bd b k
        rw [← HX.out] at bx
        rw [← HY.out] at by'
        clear hx hy
        have hk0 : (0 : Int) ≤ (k : Int) := by omega
        have hk1 : (k : Int) < (n1 : Int) := by omega

        have e1 : IntKind.i64.wrap (x - y) = x - y := IntWalk.i64_in _ (by omega)
        have e2 : IntKind.i64.wrap (y - x) = y - x := IntWalk.i64_in _ (by omega)
        have e3 : IntKind.i64.wrap (D + max (x - y) (y - x)) = D + max (x - y) (y - x) := IntWalk.i64_in _ (by omega)
        go_wp2_with fail
        go_quiet (fail)
        clear e1 e2 e3
        go_wp2_with fail
        go_roundw
        case rel => exact ⟨k + 1, _, by omega, by go_num, by rw [dsum, ← HD.out, ← HX.out, ← HY.out, max_if], rfl⟩
        case measure => simp [intOf]; omega
      · have hkn : k = n1 := by omega
        have HF2 := Lib.hid (show distB a b = D / 2 by rw [HF.out, ← N1.out, ← hkn, HD.out])
        clear hkn
        go_wp2_with fail
        go_ret
        exact ⟨ret_int (by rw [HF2.out]), (by repeat (first | exact HB2.out | apply below_drewN'))⟩
set_option maxHeartbeats 800000 in
theorem implDistanceBetween_any (a b : List UInt8) (w : World) (ha : a.length ≤ 1000000000) (hb : b.length ≤ 1000000000) :
    Calls Try.prog 34 #[.string (bs a), .string (bs b)] w fun e w' => e = .returned (.int .i64 (distB a b)) ∧ Below w.heap.size w w' := by
  rcases hf : fitB a b with _ | _
  · have HF := Lib.hid (show distB a b = -1 by simp [distB, hf])
    have H1 := Lib.hid hf
    clear hf
    go_enter Try.func34, Try.ntmps34
    go_wp2_with fail
    refine (samePaths_any _ _ _ ha hb).mono ?_
    rintro e w0 ⟨rfl, hb0⟩
    rw [H1.out]
    go_wp2_with fail
    go_ret
    exact ⟨ret_int (by rw [HF.out]), hb0⟩
  · obtain ⟨da, db, hab⟩ := fitB_true hf
    have h16 := (dyck_pathB da).1
    have HF := Lib.hid (show distB a b = dsum a b (a.length + 1) / 2 by simp [distB, hf])
    have H1 := Lib.hid hf
    have LA := Lib.hid (htsD_len da)
    have LB := Lib.hid (htsD_len db)
    have EA := Lib.hid (htsD_of da)
    have EB := Lib.hid (htsD_of db)
    have HAB := Lib.hid hab
    clear hf da db hab
    go_enter Try.func34, Try.ntmps34
    go_wp2_with fail
    refine (samePaths_any _ _ _ ha hb).mono ?_
    rintro e w0 ⟨rfl, hb0⟩
    rw [H1.out]
    go_wp2_with fail
    refine (implHeightsOf_any _ _ hb).mono ?_
    rintro e w1 ⟨A1, n1, c1, hn1, rfl, ho1, hb1⟩
    have R1 := Lib.hid ho1.rd
    have N1 := Lib.hid (show n1 = a.length + 1 from hn1.trans (LB.out.trans (by rw [HAB.out])))
    clear hn1 ho1
    have HB1 := Lib.hid (hb0.trans (hb1.mono hb0.size))
    clear hb0 hb1
    go_wp2_with fail
    refine (implHeightsOf_any _ _ ha).mono ?_
    rintro e w2 ⟨A2, n2, c2, hn2, rfl, ho2, hb2⟩
    have R2 := Lib.hid ho2.rd
    have hn2' : n1 = n2 := N1.out.trans (Eq.symm (hn2.trans (LA.out)))
    have R1 := Lib.hid (R1.out.below hb2)
    have HB2 := Lib.hid (HB1.out.trans (hb2.mono HB1.out.size))
    clear hn2 ho2 hb2 HB1
    subst hn2'
    have hn17 : n1 ≤ 17 := by have := N1.out; omega
    go_wp2_with fail
    go_loopw [5, 7, 8, 18] (fun t _ _ i wr => ∃ k m : Nat, k ≤ n1 ∧ i = .int .i64 k ∧ t = .int .i64 (dsum a b k) ∧ wr = w2.drewN m) (fun t _ _ i _ => n1 - (intOf i).toNat)
    case atStart => exact ⟨0, 0, Nat.zero_le _, rfl, rfl, rfl⟩
    case round =>
      obtain ⟨k, m, hk, rfl, rfl, rfl⟩ := hrel
      obtain ⟨bd1, bd2⟩ := dsum_bd a b k (by omega)
      obtain ⟨D, hD⟩ : ∃ D, D = dsum a b k := ⟨_, rfl⟩
      rw [← hD] at bd1 bd2 ⊢
      have HD := Lib.hid hD
      clear hD
      by_cases hlt : k < n1
      · obtain ⟨b1, o1, x, hA1, hx, hc1⟩ := R2.out.ati hlt
        obtain ⟨b2, o2, y, hA2, hy, hc2⟩ := R1.out.ati hlt
        cases hA1
        cases hA2
        rw [EA.out] at hx
        rw [EB.out] at hy
        have HX := Lib.hid (hts_at hx).1
        have HY := Lib.hid (hts_at hy).1
        have bx := hat_bd a k
        have by' := hat_bd b k
        rw [← HX.out] at bx
        rw [← HY.out] at by'
        clear hx hy
        have hk0 : (0 : Int) ≤ (k : Int) := by omega
        have hk1 : (k : Int) < (n1 : Int) := by omega

        have e1 : IntKind.i64.wrap (x - y) = x - y := IntWalk.i64_in _ (by omega)
        have e2 : IntKind.i64.wrap (y - x) = y - x := IntWalk.i64_in _ (by omega)
        have e3 : IntKind.i64.wrap (D + max (x - y) (y - x)) = D + max (x - y) (y - x) := IntWalk.i64_in _ (by omega)
        go_wp2_with fail
        go_quiet (fail)
        clear e1 e2 e3
        go_wp2_with fail
        go_roundw
        case rel => exact ⟨k + 1, _, by omega, by go_num, by rw [dsum, ← HD.out, ← HX.out, ← HY.out, max_if], rfl⟩
        case measure => simp [intOf]; omega
      · have hkn : k = n1 := by omega
        have HF2 := Lib.hid (show distB a b = D / 2 by rw [HF.out, ← N1.out, ← hkn, HD.out])
        clear hkn
        go_wp2_with fail
        go_ret
        exact ⟨ret_int (by rw [HF2.out]), (by repeat (first | exact HB2.out | apply below_drewN'))⟩

end Go.Proofs.Yteiffomekjadgaa
