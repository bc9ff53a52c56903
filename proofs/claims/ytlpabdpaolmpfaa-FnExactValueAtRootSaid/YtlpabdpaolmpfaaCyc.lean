/- Cyclotomic polynomials of both sides. -/
import Derived.Test.YtlpabdpaolmpfaaDivQuiet
import Derived.Test.YtlpabdpaolmpfaaDivSpec
import Derived.Test.YtlpabdpaolmpfaaNum
import Derived.Test.YtlpabdpaolmpfaaCycT
namespace Go.Proofs.Ytlpabdpaolmpfaa
open Go.RowKit

def cycS (d : Nat) : List Int := ((List.replicate (d + 1) 0).set 0 (-1)).set d 1
def cycF (d : Nat) : Nat → List Int
  | 0 => cycS d
  | t + 1 => if d % (t + 1) = 0 then (match divQ (cycF d t) (cycT (t + 1)) with
    | some (q, _) => trimL q
    | none => []) else cycF d t
def cycOk (d : Nat) : Bool := (cycF d (d - 1) == cycT d) && (List.range (d - 1)).all fun t => (d % (t + 1) != 0) || (isFac (cycF d t) && isDiv (cycT (t + 1)) && (divQ (cycF d t) (cycT (t + 1))).isSome)
theorem cycOk_16 : ∀ d : Nat, d < 17 → 1 ≤ d → cycOk d = true := by decide +kernel
theorem cyc_end {d : Nat} (h : d < 17) (h1 : 1 ≤ d) : cycF d (d - 1) = cycT d := by
  have := cycOk_16 d h h1
  unfold cycOk at this
  simp only [Bool.and_eq_true, beq_iff_eq] at this
  exact this.1
theorem cyc_step {d t : Nat} (h : d < 17) (ht : t + 1 < d) (hd : d % (t + 1) = 0) : isFac (cycF d t) = true ∧ isDiv (cycT (t + 1)) = true ∧ ∃ q r, divQ (cycF d t) (cycT (t + 1)) = some (q, r) ∧ cycF d (t + 1) = trimL q := by
  have h0 := cycOk_16 d h (by omega)
  unfold cycOk at h0
  simp only [Bool.and_eq_true, List.all_eq_true] at h0
  have h2 := h0.2 t (List.mem_range.2 (by omega))
  rw [hd] at h2
  simp only [bne_self_eq_false, Bool.false_or, Bool.and_eq_true] at h2
  obtain ⟨⟨a, b⟩, c⟩ := h2
  rcases hq : divQ (cycF d t) (cycT (t + 1)) with _ | ⟨q, r⟩
  · rw [hq] at c; cases c
  · exact ⟨a, b, q, r, rfl, by rw [cycF, if_pos hd, hq]⟩
theorem cycS_len (d : Nat) : (cycS d).length = d + 1 := by simp [cycS]
theorem cycT_len {d : Nat} (h : d < 17) : (cycT d).length ≤ 17 := by
  have : ∀ d : Nat, d < 17 → (cycT d).length ≤ 17 := by decide
  exact this d h

set_option maxHeartbeats 2000000 in
theorem speccyc_any (d : Nat) : ∀ w : World, 1 ≤ d → d < 17 → Calls Try.prog 45 #[.int .i64 d] w (RetI w (cycT d)) := by
  induction d using Nat.strongRecOn with
  | ind d ih =>
    intro w hd1 hd
    have IH := Lib.hid ih
    clear ih
    have hmk := mkI (d + 1) (by omega) w
    rw [show ((d + 1 : Nat) : Int) = (d : Int) + 1 by omega] at hmk
    have hown0 := Own.made w 3 (.int .i64 0) (d + 1) (by unfold maxLen; omega)
    rw [iv_rep] at hown0
    obtain ⟨w1, hw1⟩ : ∃ w1, w1 = w.alloc (.cells (madeCells #[.int .i64 0] (d + 1)) 3) := ⟨_, rfl⟩
    rw [← hw1] at hmk hown0
    have hbw : Below w.heap.size w w1 := by rw [hw1]; exact (Below.refl _ _).alloc (Nat.le_refl _) _
    have hsw : w.heap.size < w1.heap.size := by rw [hw1]; simp
    clear hw1
    obtain ⟨g0, z0, hg0, _, hgs0, hz0, hcz0, hfz0⟩ := hown0.ati (show 0 < d + 1 by omega)
    cases hg0
    obtain ⟨g2, z2, hg2, _, hgs2, hz2, hcz2, hfz2⟩ := hown0.ati (show d < d + 1 by omega)
    cases hg2
    have hown1 := hown0.puti 0 (-1)
    obtain ⟨g1, z1, hg1, _, hgs1, hz1, hcz1, hfz1⟩ := hown1.ati (show d < d + 1 by omega)
    cases hg1
    have HOS := Lib.hid (show Own _ 3 w.heap.size _ (d + 1) (d + 1) (iv (cycS d)) from hown1.puti d 1)
    have d0 : ¬ d = 0 := by omega
    have d0' : ¬ 0 = d := by omega
    clear hown0 hown1 hz0 hz1 hz2
    go_enter Try.func45, Try.ntmps45
    go_wp2_with fail
    go_loopw [3, 4] (fun p i wr => ∃ (t n : Nat) (A : Option Addr) (c : Nat), t ≤ d - 1 ∧ i = .int .i64 ((t : Int) + 1) ∧ p = .slice A n c ∧ Hid (n = (cycF d t).length) ∧ Own wr 3 w.heap.size A n c (iv (cycF d t)) ∧ Below w.heap.size w wr) (fun _ i _ => d - (intOf i).toNat)
    case atStart => exact ⟨0, d + 1, _, _, Nat.zero_le _, rfl, rfl, Lib.hid (cycS_len d).symm, HOS.out, (hbw.setCell (p := ⟨w.heap.size, 0, none⟩) (Nat.le_refl _) _).setCell (p := ⟨w.heap.size, d, none⟩) (Nat.le_refl _) _⟩
    case round =>
      obtain ⟨t, n, A, c, ht, rfl, rfl, HN, ho, hb⟩ := hrel
      clear hmk HOS hcz0 hfz0 hcz1 hfz1 hcz2 hfz2 hgs0 hgs1 hgs2 hbw hsw
      clear w1
      obtain ⟨w1, rfl⟩ : ∃ W, W = wr := ⟨wr, rfl⟩
      have HO := Lib.hid ho
      have hs1 := hb.size
      clear ho
      by_cases hlt : t + 1 < d
      · have et : Int.tmod (d : Int) ((t : Int) + 1) = ((d % (t + 1) : Nat) : Int) := rfl
        have et' : (d : Int) % ((t : Int) + 1) = ((d % (t + 1) : Nat) : Int) := rfl
        have t0 : ¬ (t : Int) + 1 = 0 := by omega
        have t0' : ((t : Int) + 1 == 0) = false := by simp; omega
        by_cases hm : d % (t + 1) = 0
        · have e1 : (Int.tmod (d : Int) ((t : Int) + 1) == 0) = true := by rw [et, hm]; rfl
          have e2 : ((d : Int) % ((t : Int) + 1) == 0) = true := by rw [et', hm]; rfl
          obtain ⟨hfa, hdv, q, r, hdq, hcf⟩ := cyc_step hd hlt hm
          have HA := Lib.hid hfa
          have HV := Lib.hid hdv
          have HQ := Lib.hid hdq
          have HC := Lib.hid hcf
          have HI := Lib.hid (IH.out (t + 1) hlt w1 (by omega) (by omega))
          rw [show ((t + 1 : Nat) : Int) = (t : Int) + 1 by omega] at HI
          clear hfa hdv hdq hcf hm et et'
          go_wp2_with fail
          refine HI.out.mono ?_
          rintro e w2 ⟨A2, n2, c2, hn2, rfl, ho2, hb2⟩
          have HO2 := Lib.hid ho2
          have HO1 := Lib.hid (HO.out.below hb2)
          have hs2 := hb2.size
          clear hn2 ho2
          go_wp2_with fail
          refine (l14Divide_any _ _ _ (cycF d t) _ _ _ (cycT (t + 1)) q r _ HO1.out.rd HO2.out.rd (isFac_iff7 HA.out) HV.out HQ.out).mono ?_
          rintro e w3 ⟨R0, m0, d0, R1, m1, d1, hm0, _, rfl, ho3, _, hb3⟩
          have HO3 := Lib.hid ho3
          have HM0 := Lib.hid hm0
          clear hm0 ho3
          go_wp2_with fail
          go_roundw
          case rel => exact ⟨t + 1, m0, R0, d0, by omega, by go_num, rfl, by rw [HC.out]; exact HM0.out, by rw [HC.out]; exact HO3.out.mono (by omega), hb.trans ((hb2.mono hs1).trans (hb3.mono (by omega)))⟩
          case measure => simp [intOf]; omega
        · have e1 : (Int.tmod (d : Int) ((t : Int) + 1) == 0) = false := by rw [et]; simp; omega
          have e2 : ((d : Int) % ((t : Int) + 1) == 0) = false := by rw [et']; simp; omega
          have HC := Lib.hid (show cycF d (t + 1) = cycF d t by rw [cycF, if_neg hm])
          clear hm et et'
          go_wp2_with fail
          go_roundw
          case rel => exact ⟨t + 1, n, A, c, by omega, by go_num, rfl, by rw [HC.out]; exact HN.out, by rw [HC.out]; exact HO.out, hb⟩
          case measure => simp [intOf]; omega
      · have HC := Lib.hid (show cycF d t = cycT d by rw [← cyc_end hd hd1]; congr 1; omega)
        go_wp2_with fail
        go_ret
        exact ⟨A, n, c, by rw [← HC.out]; exact HN.out, rfl, by rw [← HC.out]; exact HO.out, hb⟩

set_option maxHeartbeats 2000000 in
theorem implcyc_any (d : Nat) : ∀ w : World, 1 ≤ d → d < 17 → Calls Try.prog 46 #[.int .i64 d] w (RetI w (cycT d)) := by
  induction d using Nat.strongRecOn with
  | ind d ih =>
    intro w hd1 hd
    have IH := Lib.hid ih
    clear ih
    have hmk := mkI (d + 1) (by omega) w
    rw [show ((d + 1 : Nat) : Int) = (d : Int) + 1 by omega] at hmk
    have hown0 := Own.made w 3 (.int .i64 0) (d + 1) (by unfold maxLen; omega)
    rw [iv_rep] at hown0
    obtain ⟨w1, hw1⟩ : ∃ w1, w1 = w.alloc (.cells (madeCells #[.int .i64 0] (d + 1)) 3) := ⟨_, rfl⟩
    rw [← hw1] at hmk hown0
    have hbw : Below w.heap.size w w1 := by rw [hw1]; exact (Below.refl _ _).alloc (Nat.le_refl _) _
    have hsw : w.heap.size < w1.heap.size := by rw [hw1]; simp
    clear hw1
    obtain ⟨g0, z0, hg0, _, hgs0, hz0, hcz0, hfz0⟩ := hown0.ati (show 0 < d + 1 by omega)
    cases hg0
    obtain ⟨g2, z2, hg2, _, hgs2, hz2, hcz2, hfz2⟩ := hown0.ati (show d < d + 1 by omega)
    cases hg2
    have hown1 := hown0.puti 0 (-1)
    obtain ⟨g1, z1, hg1, _, hgs1, hz1, hcz1, hfz1⟩ := hown1.ati (show d < d + 1 by omega)
    cases hg1
    have HOS := Lib.hid (show Own _ 3 w.heap.size _ (d + 1) (d + 1) (iv (cycS d)) from hown1.puti d 1)
    have d0 : ¬ d = 0 := by omega
    have d0' : ¬ 0 = d := by omega
    clear hown0 hown1 hz0 hz1 hz2
    go_enter Try.func46, Try.ntmps46
    go_wp2_with fail
    go_loopw [3, 4] (fun p i wr => ∃ (t n : Nat) (A : Option Addr) (c : Nat), t ≤ d - 1 ∧ i = .int .i64 ((t : Int) + 1) ∧ p = .slice A n c ∧ Hid (n = (cycF d t).length) ∧ Own wr 3 w.heap.size A n c (iv (cycF d t)) ∧ Below w.heap.size w wr) (fun _ i _ => d - (intOf i).toNat)
    case atStart => exact ⟨0, d + 1, _, _, Nat.zero_le _, rfl, rfl, Lib.hid (cycS_len d).symm, HOS.out, (hbw.setCell (p := ⟨w.heap.size, 0, none⟩) (Nat.le_refl _) _).setCell (p := ⟨w.heap.size, d, none⟩) (Nat.le_refl _) _⟩
    case round =>
      obtain ⟨t, n, A, c, ht, rfl, rfl, HN, ho, hb⟩ := hrel
      clear hmk HOS hcz0 hfz0 hcz1 hfz1 hcz2 hfz2 hgs0 hgs1 hgs2 hbw hsw
      clear w1
      obtain ⟨w1, rfl⟩ : ∃ W, W = wr := ⟨wr, rfl⟩
      have HO := Lib.hid ho
      have hs1 := hb.size
      clear ho
      by_cases hlt : t + 1 < d
      · have et : Int.tmod (d : Int) ((t : Int) + 1) = ((d % (t + 1) : Nat) : Int) := rfl
        have et' : (d : Int) % ((t : Int) + 1) = ((d % (t + 1) : Nat) : Int) := rfl
        have t0 : ¬ (t : Int) + 1 = 0 := by omega
        have t0' : ((t : Int) + 1 == 0) = false := by simp; omega
        by_cases hm : d % (t + 1) = 0
        · have e1 : (Int.tmod (d : Int) ((t : Int) + 1) == 0) = true := by rw [et, hm]; rfl
          have e2 : ((d : Int) % ((t : Int) + 1) == 0) = true := by rw [et', hm]; rfl
          obtain ⟨hfa, hdv, q, r, hdq, hcf⟩ := cyc_step hd hlt hm
          have HA := Lib.hid hfa
          have HV := Lib.hid hdv
          have HQ := Lib.hid hdq
          have HC := Lib.hid hcf
          have HI := Lib.hid (IH.out (t + 1) hlt w1 (by omega) (by omega))
          rw [show ((t + 1 : Nat) : Int) = (t : Int) + 1 by omega] at HI
          clear hfa hdv hdq hcf hm et et'
          go_wp2_with fail
          refine HI.out.mono ?_
          rintro e w2 ⟨A2, n2, c2, hn2, rfl, ho2, hb2⟩
          have HO2 := Lib.hid ho2
          have HO1 := Lib.hid (HO.out.below hb2)
          have hs2 := hb2.size
          clear hn2 ho2
          go_wp2_with fail
          refine (divide_any _ _ _ (cycF d t) _ _ _ (cycT (t + 1)) _ HO1.out.rd HO2.out.rd (isFac_iff7 HA.out) HV.out).mono ?_
          rw [HQ.out]
          rintro e w3 ⟨R0, m0, d0, R1, m1, d1, hm0, _, rfl, ho3, _, _, hb3⟩
          have HO3 := Lib.hid ho3
          have HM0 := Lib.hid hm0
          clear hm0 ho3
          go_wp2_with fail
          go_roundw
          case rel => exact ⟨t + 1, m0, R0, d0, by omega, by go_num, rfl, by rw [HC.out]; exact HM0.out, by rw [HC.out]; exact HO3.out.mono (by omega), hb.trans ((hb2.mono hs1).trans (hb3.mono (by omega)))⟩
          case measure => simp [intOf]; omega
        · have e1 : (Int.tmod (d : Int) ((t : Int) + 1) == 0) = false := by rw [et]; simp; omega
          have e2 : ((d : Int) % ((t : Int) + 1) == 0) = false := by rw [et']; simp; omega
          have HC := Lib.hid (show cycF d (t + 1) = cycF d t by rw [cycF, if_neg hm])
          clear hm et et'
          go_wp2_with fail
          go_roundw
          case rel => exact ⟨t + 1, n, A, c, by omega, by go_num, rfl, by rw [HC.out]; exact HN.out, by rw [HC.out]; exact HO.out, hb⟩
          case measure => simp [intOf]; omega
      · have HC := Lib.hid (show cycF d t = cycT d by rw [← cyc_end hd hd1]; congr 1; omega)
        go_wp2_with fail
        go_ret
        exact ⟨A, n, c, by rw [← HC.out]; exact HN.out, rfl, by rw [← HC.out]; exact HO.out, hb⟩

def cycP (n : Int) : List Int × Bool := if inB n 1 16 then (cycT n.toNat, true) else ([], false)
theorem cycP_len (n : Int) : (cycP n).1.length ≤ 1048576 := by
  unfold cycP
  split
  · next h => have := inB_iff.1 h; have := cycT_len (d := n.toNat) (by omega); show (cycT n.toNat).length ≤ _; omega
  · simp

set_option maxHeartbeats 800000 in
theorem specCyclotomicPolynomial_any (n : Int) (w : World) : Calls Try.prog 23 #[.int .i64 n] w (RetIB w (cycP n).1 (cycP n).2) := by
  unfold RetIB
  rcases h1 : inB n 1 16 with _ | _
  · have HF := Lib.hid (show cycP n = ([], false) by simp [cycP, h1])
    have H1 := Lib.hid h1
    clear h1
    go_enter Try.func23, Try.ntmps23
    go_wp2_with fail
    refine (l1In_any _ _ _ _).mono ?_
    rintro e w' ⟨rfl, rfl⟩
    rw [H1.out]
    go_wp2_with fail
    go_ret2
    rw [HF.out]
    exact ⟨_, 0, 0, rfl, rfl, own_empty w, (Below.refl _ _).alloc (Nat.le_refl _) _⟩
  have g1 := inB_iff.1 h1
  obtain ⟨N, rfl⟩ := Int.eq_ofNat_of_zero_le (show 0 ≤ n by omega)
  have HF := Lib.hid (show cycP N = (cycT N, true) by simp [cycP, h1])
  have H1 := Lib.hid h1
  clear h1
  go_enter Try.func23, Try.ntmps23
  go_wp2_with fail
  refine (l1In_any _ _ _ _).mono ?_
  rintro e w' ⟨rfl, rfl⟩
  rw [H1.out]
  go_wp2_with fail
  refine (speccyc_any N w (by omega) (by omega)).mono ?_
  rintro e w1 ⟨A, m, c, hm, rfl, ho, hb⟩
  have HM := Lib.hid hm
  have HO := Lib.hid ho
  clear hm ho
  go_wp2_with fail
  go_ret2
  rw [HF.out]
  exact ⟨A, m, c, HM.out, rfl, HO.out, hb⟩

set_option maxHeartbeats 800000 in
theorem implCyclotomicPolynomial_any (n : Int) (w : World) : Calls Try.prog 24 #[.int .i64 n] w (RetIB w (cycP n).1 (cycP n).2) := by
  unfold RetIB
  rcases h1 : inB n 1 16 with _ | _
  · have HF := Lib.hid (show cycP n = ([], false) by simp [cycP, h1])
    have H1 := Lib.hid h1
    clear h1
    go_enter Try.func24, Try.ntmps24
    go_wp2_with fail
    refine (within_any _ _ _ _).mono ?_
    rintro e w' ⟨rfl, rfl⟩
    rw [H1.out]
    go_wp2_with fail
    go_ret2
    rw [HF.out]
    exact ⟨_, 0, 0, rfl, rfl, own_empty w, (Below.refl _ _).alloc (Nat.le_refl _) _⟩
  have g1 := inB_iff.1 h1
  obtain ⟨N, rfl⟩ := Int.eq_ofNat_of_zero_le (show 0 ≤ n by omega)
  have HF := Lib.hid (show cycP N = (cycT N, true) by simp [cycP, h1])
  have H1 := Lib.hid h1
  clear h1
  go_enter Try.func24, Try.ntmps24
  go_wp2_with fail
  refine (within_any _ _ _ _).mono ?_
  rintro e w' ⟨rfl, rfl⟩
  rw [H1.out]
  go_wp2_with fail
  refine (implcyc_any N w (by omega) (by omega)).mono ?_
  rintro e w1 ⟨A, m, c, hm, rfl, ho, hb⟩
  have HM := Lib.hid hm
  have HO := Lib.hid ho
  clear hm ho
  go_wp2_with fail
  go_ret2
  rw [HF.out]
  exact ⟨A, m, c, HM.out, rfl, HO.out, hb⟩

end Go.Proofs.Ytlpabdpaolmpfaa
