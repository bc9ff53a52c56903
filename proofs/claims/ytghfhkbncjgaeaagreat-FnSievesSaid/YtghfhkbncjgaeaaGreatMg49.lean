/- Merged: Catalan CycT Cyc. -/
import Derived.Test.YtghfhkbncjgaeaaGreatMg48
import Derived.Test.YtghfhkbncjgaeaaGreatMg1
import Derived.Test.YtghfhkbncjgaeaaGreatMg47
import Derived.Test.YtghfhkbncjgaeaaGreatMg3

namespace Go.Proofs.YtghfhkbncjgaeaaGreat
open Go.RowKit

set_option maxHeartbeats 1000000 in
theorem specCatalanPolynomial_any (n : Int) (w : World) : Calls Tryz.prog 37 #[.int .i64 n] w (RetIB w (catP n).1 (catP n).2) := by
  unfold RetIB
  rcases h1 : inB n 0 7 with _ | _
  · have HF := Lib.hid (show catP n = ([], false) by simp [catP, h1])
    have H1 := Lib.hid h1
    clear h1
    go_enter Tryz.func37, Tryz.ntmps37
    go_wp2_with fail
    refine (l1In_any _ _ _ _).mono ?_
    rintro e w' ⟨rfl, rfl⟩
    rw [H1.out]
    go_wp2_with fail
    go_ret2
    rw [HF.out]
    exact ⟨_, 0, 0, rfl, rfl, own_empty w, (Below.refl _ _).alloc (Nat.le_refl _) _⟩
  have g1 := inB_iff.1 h1
  obtain ⟨N, rfl⟩ := Int.eq_ofNat_of_zero_le g1.1
  have hN : N < 8 := by omega
  obtain ⟨hfa, hdv, q, r, hdq, hdp⟩ := cat_div hN
  have HF := Lib.hid (show catP N = (trimL q, true) by simp [catP, h1, hdp])
  have H1 := Lib.hid h1
  have HB := Lib.hid (fun W => l14Binomial_any (2 * N) N W (by omega) (by omega))
  rw [show ((2 * N : Nat) : Int) = 2 * (N : Int) by omega] at HB
  have HM := Lib.hid (fun W => l14Number_any (N + 1) (by omega) W)
  rw [show ((N + 1 : Nat) : Int) = (N : Int) + 1 by omega] at HM
  have HA := Lib.hid hfa
  have HV := Lib.hid hdv
  have HQ := Lib.hid hdq
  clear h1 hfa hdv hdq hdp
  go_enter Tryz.func37, Tryz.ntmps37
  go_wp2_with fail
  refine (l1In_any _ _ _ _).mono ?_
  rintro e w' ⟨rfl, rfl⟩
  rw [H1.out]
  go_wp2_with fail
  refine (HB.out _).mono ?_
  rintro e w1 ⟨A1, n1, c1, hn1, rfl, ho1, hb1⟩
  have HO1 := Lib.hid ho1
  have hs1 := hb1.size
  clear ho1 hn1
  go_wp2_with fail
  refine (HM.out _).mono ?_
  rintro e w2 ⟨A2, c2, rfl, ho2, hb2⟩
  have HO2 := Lib.hid ho2
  have HO1' := Lib.hid (HO1.out.below hb2)
  have hs2 := hb2.size
  clear ho2
  go_wp2_with fail
  refine (l14Divide_any _ _ _ (catA N) _ _ _ (catB N) q r _ HO1'.out.rd HO2.out.rd (isFac_iff7 HA.out) HV.out HQ.out).mono ?_
  rintro e w3 ⟨R0, m0, d0, R1, m1, d1, hm0, hm1, rfl, ho3, _, hb3⟩
  have HM0 := Lib.hid hm0
  have HO3 := Lib.hid ho3
  clear hm0 hm1 ho3
  go_wp2_with fail
  go_ret2
  rw [HF.out]
  exact ⟨R0, m0, d0, HM0.out, rfl, HO3.out.mono (by omega), hb1.trans ((hb2.mono hs1).trans (hb3.mono (by omega)))⟩

set_option maxHeartbeats 1000000 in
theorem implCatalanPolynomial_any (n : Int) (w : World) : Calls Tryz.prog 35 #[.int .i64 n] w (RetIB w (catP n).1 (catP n).2) := by
  unfold RetIB
  rcases h1 : inB n 0 7 with _ | _
  · have HF := Lib.hid (show catP n = ([], false) by simp [catP, h1])
    have H1 := Lib.hid h1
    clear h1
    go_enter Tryz.func35, Tryz.ntmps35
    go_wp2_with fail
    refine (within_any _ _ _ _).mono ?_
    rintro e w' ⟨rfl, rfl⟩
    rw [H1.out]
    go_wp2_with fail
    go_ret2
    rw [HF.out]
    exact ⟨_, 0, 0, rfl, rfl, own_empty w, (Below.refl _ _).alloc (Nat.le_refl _) _⟩
  have g1 := inB_iff.1 h1
  obtain ⟨N, rfl⟩ := Int.eq_ofNat_of_zero_le g1.1
  have hN : N < 8 := by omega
  obtain ⟨hfa, hdv, q, r, hdq, hdp⟩ := cat_div hN
  have HF := Lib.hid (show catP N = (trimL q, true) by simp [catP, h1, hdp])
  have H1 := Lib.hid h1
  have eb : binP (2 * (N : Int)) N = (catA N, true) := by
    unfold binP
    rw [if_pos (by simp only [Bool.and_eq_true]; exact ⟨inB_iff.2 (by omega), inB_iff.2 (by omega)⟩)]
    rw [show (2 * (N : Int)).toNat = 2 * N by omega]; rfl
  have en : numP ((N : Int) + 1) = (catB N, true) := by
    unfold numP
    rw [if_pos (inB_iff.2 (by omega)), show ((N : Int) + 1).toNat = N + 1 by omega]; rfl
  have HB := Lib.hid (fun W => implBinomialPolynomial_any (2 * (N : Int)) N W)
  rw [eb] at HB
  have HM := Lib.hid (fun W => implNumberPolynomial_any ((N : Int) + 1) W)
  rw [en] at HM
  have HDP := Lib.hid hdp
  have ha : (catA N).length ≤ 61 := (isFac_iff hfa).1
  have hbl : (catB N).length ≤ 61 := by simp [catB]; omega
  have HAL := Lib.hid ha
  have HBL := Lib.hid hbl
  clear h1 hfa hdv hdq hdp eb en ha hbl
  go_enter Tryz.func35, Tryz.ntmps35
  go_wp2_with fail
  refine (within_any _ _ _ _).mono ?_
  rintro e w' ⟨rfl, rfl⟩
  rw [H1.out]
  go_wp2_with fail
  refine (HB.out _).mono ?_
  rintro e w1 ⟨A1, n1, c1, hn1, rfl, ho1, hb1⟩
  have HO1 := Lib.hid ho1
  have l1 : n1 ≤ 61 := by rw [hn1]; exact HAL.out
  have hs1 := hb1.size
  clear ho1 hn1
  go_wp2_with fail
  refine (HM.out _).mono ?_
  rintro e w2 ⟨A2, n2, c2, hn2, rfl, ho2, hb2⟩
  have HO2 := Lib.hid ho2
  have l2 : n2 ≤ 61 := by rw [hn2]; exact HBL.out
  have HO1' := Lib.hid (HO1.out.below hb2)
  have hs2 := hb2.size
  clear ho2 hn2
  go_wp2_with fail
  refine (implDividePolynomials_any _ _ _ (catA N) _ _ _ (catB N) _ HO1'.out.rd HO2.out.rd (by omega) (by omega)).mono ?_
  rw [HDP.out]
  rintro e w3 ⟨R0, m0, d0, R1, m1, d1, p0, q0, p1, q1, hm0, hm1, rfl, ho3, _, ⟨t1, _, _, _, _⟩, hb3⟩
  have HM0 := Lib.hid hm0
  have HO3 := Lib.hid ho3.1
  clear hm0 hm1 ho3
  go_wp2_with fail
  go_ret2
  rw [HF.out]
  exact ⟨R0, m0, d0, HM0.out, rfl, HO3.out.mono (by omega), hb1.trans ((hb2.mono hs1).trans (hb3.mono (by omega)))⟩

end Go.Proofs.YtghfhkbncjgaeaaGreat

namespace Go.Proofs.YtghfhkbncjgaeaaGreat

def cycT (d : Nat) : List Int :=
  ([[], [-1, 1], [1, 1], [1, 1, 1], [1, 0, 1], [1, 1, 1, 1, 1], [1, -1, 1], [1, 1, 1, 1, 1, 1, 1], [1, 0, 0, 0, 1], [1, 0, 0, 1, 0, 0, 1], [1, -1, 1, -1, 1],
    [1, 1, 1, 1, 1, 1, 1, 1, 1, 1, 1], [1, 0, -1, 0, 1], [1, 1, 1, 1, 1, 1, 1, 1, 1, 1, 1, 1, 1], [1, -1, 1, -1, 1, -1, 1], [1, -1, 0, 1, -1, 1, 0, -1, 1], [1, 0, 0, 0, 0, 0, 0, 0, 1]] : List (List Int)).getD d []

end Go.Proofs.YtghfhkbncjgaeaaGreat

namespace Go.Proofs.YtghfhkbncjgaeaaGreat
open Go.RowKit

def cycS (d : Nat) : List Int := ((List.replicate (d + 1) 0).set 0 (-1)).set d 1
def cycF (d : Nat) : Nat → List Int
  | 0 => cycS d
  | t + 1 => if d % (t + 1) = 0 then (match divQ (cycF d t) (cycT (t + 1)) with
    | some (q, _) => trimL q
    | none => []) else cycF d t
def cycOk (d : Nat) : Bool := (cycF d (d - 1) == cycT d) && (List.range (d - 1)).all fun t => (d % (t + 1) != 0) || (isFac (cycF d t) && isDiv (cycT (t + 1)) && (divQ (cycF d t) (cycT (t + 1))).isSome)
theorem cycOk_16 : ∀ d : Nat, d < 17 → 1 ≤ d → cycOk d = true := by decide +kernel
theorem cyc_end {d : Nat} (h : d < 17) (h1 : 1 ≤ d) : cycF d (d - 1) = cycT d := by
  have := cycOk_16 d h h1
  unfold cycOk at this
  simp only [Bool.and_eq_true, beq_iff_eq] at this
  exact this.1
theorem cyc_step {d t : Nat} (h : d < 17) (ht : t + 1 < d) (hd : d % (t + 1) = 0) : isFac (cycF d t) = true ∧ isDiv (cycT (t + 1)) = true ∧ ∃ q r, divQ (cycF d t) (cycT (t + 1)) = some (q, r) ∧ cycF d (t + 1) = trimL q := by
  have h0 := cycOk_16 d h (by omega)
  unfold cycOk at h0
  simp only [Bool.and_eq_true, List.all_eq_true] at h0
  have h2 := h0.2 t (List.mem_range.2 (by omega))
  rw [hd] at h2
  simp only [bne_self_eq_false, Bool.false_or, Bool.and_eq_true] at h2
  obtain ⟨⟨a, b⟩, c⟩ := h2
  rcases hq : divQ (cycF d t) (cycT (t + 1)) with _ | ⟨q, r⟩
  · rw [hq] at c; cases c
  · exact ⟨a, b, q, r, rfl, by rw [cycF, if_pos hd, hq]⟩
theorem cycS_len (d : Nat) : (cycS d).length = d + 1 := by simp [cycS]
theorem cycT_len {d : Nat} (h : d < 17) : (cycT d).length ≤ 17 := by
  have : ∀ d : Nat, d < 17 → (cycT d).length ≤ 17 := by decide
  exact this d h

set_option maxHeartbeats 2000000 in
theorem speccyc_any (d : Nat) : ∀ w : World, 1 ≤ d → d < 17 → Calls Tryz.prog 48 #[.int .i64 d] w (RetI w (cycT d)) := by
  induction d using Nat.strongRecOn with
  | ind d ih =>
    intro w hd1 hd
    have IH := Lib.hid ih
    clear ih
    have hmk := mkI (d + 1) (by omega) w
    rw [show ((d + 1 : Nat) : Int) = (d : Int) + 1 by omega] at hmk
    have hown0 := Own.made w 3 (.int .i64 0) (d + 1) (by unfold maxLen; omega)
    rw [iv_rep] at hown0
    obtain ⟨w1, hw1⟩ : ∃ w1, w1 = w.alloc (.cells (madeCells #[.int .i64 0] (d + 1)) 3) := ⟨_, rfl⟩
    rw [← hw1] at hmk hown0
    have hbw : Below w.heap.size w w1 := by rw [hw1]; exact (Below.refl _ _).alloc (Nat.le_refl _) _
    have hsw : w.heap.size < w1.heap.size := by rw [hw1]; simp
    clear hw1
    obtain ⟨g0, z0, hg0, _, hgs0, hz0, hcz0, hfz0⟩ := hown0.ati (show 0 < d + 1 by omega)
    cases hg0
    obtain ⟨g2, z2, hg2, _, hgs2, hz2, hcz2, hfz2⟩ := hown0.ati (show d < d + 1 by omega)
    cases hg2
    have hown1 := hown0.puti 0 (-1)
    obtain ⟨g1, z1, hg1, _, hgs1, hz1, hcz1, hfz1⟩ := hown1.ati (show d < d + 1 by omega)
    cases hg1
    have HOS := Lib.hid (show Own _ 3 w.heap.size _ (d + 1) (d + 1) (iv (cycS d)) from hown1.puti d 1)
    have d0 : ¬ d = 0 := by omega
    have d0' : ¬ 0 = d := by omega
    clear hown0 hown1 hz0 hz1 hz2
    go_enter Tryz.func48, Tryz.ntmps48
    go_wp2_with fail
    go_loopw [3, 4] (fun p i wr => ∃ (t n : Nat) (A : Option Addr) (c : Nat), t ≤ d - 1 ∧ i = .int .i64 ((t : Int) + 1) ∧ p = .slice A n c ∧ Hid (n = (cycF d t).length) ∧ Own wr 3 w.heap.size A n c (iv (cycF d t)) ∧ Below w.heap.size w wr) (fun _ i _ => d - (intOf i).toNat)
    case atStart => exact ⟨0, d + 1, _, _, Nat.zero_le _, rfl, rfl, Lib.hid (cycS_len d).symm, HOS.out, (hbw.setCell (p := ⟨w.heap.size, 0, none⟩) (Nat.le_refl _) _).setCell (p := ⟨w.heap.size, d, none⟩) (Nat.le_refl _) _⟩
    case round =>
      obtain ⟨t, n, A, c, ht, rfl, rfl, HN, ho, hb⟩ := hrel
      clear hmk HOS hcz0 hfz0 hcz1 hfz1 hcz2 hfz2 hgs0 hgs1 hgs2 hbw hsw
      clear w1
      obtain ⟨w1, rfl⟩ : ∃ W, W = wr := ⟨wr, rfl⟩
      have HO := Lib.hid ho
      have hs1 := hb.size
      clear ho
      by_cases hlt : t + 1 < d
      · have et : Int.tmod (d : Int) ((t : Int) + 1) = ((d % (t + 1) : Nat) : Int) := rfl
        have et' : (d : Int) % ((t : Int) + 1) = ((d % (t + 1) : Nat) : Int) := rfl
        have t0 : ¬ (t : Int) + 1 = 0 := by omega
        have t0' : ((t : Int) + 1 == 0) = false := by simp; omega
        by_cases hm : d % (t + 1) = 0
        · have e1 : (Int.tmod (d : Int) ((t : Int) + 1) == 0) = true := by rw [et, hm]; rfl
          have e2 : ((d : Int) % ((t : Int) + 1) == 0) = true := by rw [et', hm]; rfl
          obtain ⟨hfa, hdv, q, r, hdq, hcf⟩ := cyc_step hd hlt hm
          have HA := Lib.hid hfa
          have HV := Lib.hid hdv
          have HQ := Lib.hid hdq
          have HC := Lib.hid hcf
          have HI := Lib.hid (IH.out (t + 1) hlt w1 (by omega) (by omega))
          rw [show ((t + 1 : Nat) : Int) = (t : Int) + 1 by omega] at HI
          clear hfa hdv hdq hcf hm et et'
          go_wp2_with fail
          refine HI.out.mono ?_
          rintro e w2 ⟨A2, n2, c2, hn2, rfl, ho2, hb2⟩
          have HO2 := Lib.hid ho2
          have HO1 := Lib.hid (HO.out.below hb2)
          have hs2 := hb2.size
          clear hn2 ho2
          go_wp2_with fail
          refine (l14Divide_any _ _ _ (cycF d t) _ _ _ (cycT (t + 1)) q r _ HO1.out.rd HO2.out.rd (isFac_iff7 HA.out) HV.out HQ.out).mono ?_
          rintro e w3 ⟨R0, m0, d0, R1, m1, d1, hm0, _, rfl, ho3, _, hb3⟩
          have HO3 := Lib.hid ho3
          have HM0 := Lib.hid hm0
          clear hm0 ho3
          go_wp2_with fail
          go_roundw
          case rel => exact ⟨t + 1, m0, R0, d0, by omega, by go_num, rfl, by rw [HC.out]; exact HM0.out, by rw [HC.out]; exact HO3.out.mono (by omega), hb.trans ((hb2.mono hs1).trans (hb3.mono (by omega)))⟩
          case measure => simp [intOf]; omega
        · have e1 : (Int.tmod (d : Int) ((t : Int) + 1) == 0) = false := by rw [et]; simp; omega
          have e2 : ((d : Int) % ((t : Int) + 1) == 0) = false := by rw [et']; simp; omega
          have HC := Lib.hid (show cycF d (t + 1) = cycF d t by rw [cycF, if_neg hm])
          clear hm et et'
          go_wp2_with fail
          go_roundw
          case rel => exact ⟨t + 1, n, A, c, by omega, by go_num, rfl, by rw [HC.out]; exact HN.out, by rw [HC.out]; exact HO.out, hb⟩
          case measure => simp [intOf]; omega
      · have HC := Lib.hid (show cycF d t = cycT d by rw [← cyc_end hd hd1]; congr 1; omega)
        go_wp2_with fail
        go_ret
        exact ⟨A, n, c, by rw [← HC.out]; exact HN.out, rfl, by rw [← HC.out]; exact HO.out, hb⟩

set_option maxHeartbeats 2000000 in
theorem implcyc_any (d : Nat) : ∀ w : World, 1 ≤ d → d < 17 → Calls Tryz.prog 47 #[.int .i64 d] w (RetI w (cycT d)) := by
  induction d using Nat.strongRecOn with
  | ind d ih =>
    intro w hd1 hd
    have IH := Lib.hid ih
    clear ih
    have hmk := mkI (d + 1) (by omega) w
    rw [show ((d + 1 : Nat) : Int) = (d : Int) + 1 by omega] at hmk
    have hown0 := Own.made w 3 (.int .i64 0) (d + 1) (by unfold maxLen; omega)
    rw [iv_rep] at hown0
    obtain ⟨w1, hw1⟩ : ∃ w1, w1 = w.alloc (.cells (madeCells #[.int .i64 0] (d + 1)) 3) := ⟨_, rfl⟩
    rw [← hw1] at hmk hown0
    have hbw : Below w.heap.size w w1 := by rw [hw1]; exact (Below.refl _ _).alloc (Nat.le_refl _) _
    have hsw : w.heap.size < w1.heap.size := by rw [hw1]; simp
    clear hw1
    obtain ⟨g0, z0, hg0, _, hgs0, hz0, hcz0, hfz0⟩ := hown0.ati (show 0 < d + 1 by omega)
    cases hg0
    obtain ⟨g2, z2, hg2, _, hgs2, hz2, hcz2, hfz2⟩ := hown0.ati (show d < d + 1 by omega)
    cases hg2
    have hown1 := hown0.puti 0 (-1)
    obtain ⟨g1, z1, hg1, _, hgs1, hz1, hcz1, hfz1⟩ := hown1.ati (show d < d + 1 by omega)
    cases hg1
    have HOS := Lib.hid (show Own _ 3 w.heap.size _ (d + 1) (d + 1) (iv (cycS d)) from hown1.puti d 1)
    have d0 : ¬ d = 0 := by omega
    have d0' : ¬ 0 = d := by omega
    clear hown0 hown1 hz0 hz1 hz2
    go_enter Tryz.func47, Tryz.ntmps47
    go_wp2_with fail
    go_loopw [3, 4] (fun p i wr => ∃ (t n : Nat) (A : Option Addr) (c : Nat), t ≤ d - 1 ∧ i = .int .i64 ((t : Int) + 1) ∧ p = .slice A n c ∧ Hid (n = (cycF d t).length) ∧ Own wr 3 w.heap.size A n c (iv (cycF d t)) ∧ Below w.heap.size w wr) (fun _ i _ => d - (intOf i).toNat)
    case atStart => exact ⟨0, d + 1, _, _, Nat.zero_le _, rfl, rfl, Lib.hid (cycS_len d).symm, HOS.out, (hbw.setCell (p := ⟨w.heap.size, 0, none⟩) (Nat.le_refl _) _).setCell (p := ⟨w.heap.size, d, none⟩) (Nat.le_refl _) _⟩
    case round =>
      obtain ⟨t, n, A, c, ht, rfl, rfl, HN, ho, hb⟩ := hrel
      clear hmk HOS hcz0 hfz0 hcz1 hfz1 hcz2 hfz2 hgs0 hgs1 hgs2 hbw hsw
      clear w1
      obtain ⟨w1, rfl⟩ : ∃ W, W = wr := ⟨wr, rfl⟩
      have HO := Lib.hid ho
      have hs1 := hb.size
      clear ho
      by_cases hlt : t + 1 < d
      · have et : Int.tmod (d : Int) ((t : Int) + 1) = ((d % (t + 1) : Nat) : Int) := rfl
        have et' : (d : Int) % ((t : Int) + 1) = ((d % (t + 1) : Nat) : Int) := rfl
        have t0 : ¬ (t : Int) + 1 = 0 := by omega
        have t0' : ((t : Int) + 1 == 0) = false := by simp; omega
        by_cases hm : d % (t + 1) = 0
        · have e1 : (Int.tmod (d : Int) ((t : Int) + 1) == 0) = true := by rw [et, hm]; rfl
          have e2 : ((d : Int) % ((t : Int) + 1) == 0) = true := by rw [et', hm]; rfl
          obtain ⟨hfa, hdv, q, r, hdq, hcf⟩ := cyc_step hd hlt hm
          have HA := Lib.hid hfa
          have HV := Lib.hid hdv
          have HQ := Lib.hid hdq
          have HC := Lib.hid hcf
          have HI := Lib.hid (IH.out (t + 1) hlt w1 (by omega) (by omega))
          rw [show ((t + 1 : Nat) : Int) = (t : Int) + 1 by omega] at HI
          clear hfa hdv hdq hcf hm et et'
          go_wp2_with fail
          refine HI.out.mono ?_
          rintro e w2 ⟨A2, n2, c2, hn2, rfl, ho2, hb2⟩
          have HO2 := Lib.hid ho2
          have HO1 := Lib.hid (HO.out.below hb2)
          have hs2 := hb2.size
          clear hn2 ho2
          go_wp2_with fail
          refine (divide_any _ _ _ (cycF d t) _ _ _ (cycT (t + 1)) _ HO1.out.rd HO2.out.rd (isFac_iff7 HA.out) HV.out).mono ?_
          rw [HQ.out]
          rintro e w3 ⟨R0, m0, d0, R1, m1, d1, hm0, _, rfl, ho3, _, _, hb3⟩
          have HO3 := Lib.hid ho3
          have HM0 := Lib.hid hm0
          clear hm0 ho3
          go_wp2_with fail
          go_roundw
          case rel => exact ⟨t + 1, m0, R0, d0, by omega, by go_num, rfl, by rw [HC.out]; exact HM0.out, by rw [HC.out]; exact HO3.out.mono (by omega), hb.trans ((hb2.mono hs1).trans (hb3.mono (by omega)))⟩
          case measure => simp [intOf]; omega
        · have e1 : (Int.tmod (d : Int) ((t : Int) + 1) == 0) = false := by rw [et]; simp; omega
          have e2 : ((d : Int) % ((t : Int) + 1) == 0) = false := by rw [et']; simp; omega
          have HC := Lib.hid (show cycF d (t + 1) = cycF d t by rw [cycF, if_neg hm])
          clear hm et et'
          go_wp2_with fail
          go_roundw
          case rel => exact ⟨t + 1, n, A, c, by omega, by go_num, rfl, by rw [HC.out]; exact HN.out, by rw [HC.out]; exact HO.out, hb⟩
          case measure => simp [intOf]; omega
      · have HC := Lib.hid (show cycF d t = cycT d by rw [← cyc_end hd hd1]; congr 1; omega)
        go_wp2_with fail
        go_ret
        exact ⟨A, n, c, by rw [← HC.out]; exact HN.out, rfl, by rw [← HC.out]; exact HO.out, hb⟩

def cycP (n : Int) : List Int × Bool := if inB n 1 16 then (cycT n.toNat, true) else ([], false)
theorem cycP_len (n : Int) : (cycP n).1.length ≤ 1048576 := by
  unfold cycP
  split
  · next h => have := inB_iff.1 h; have := cycT_len (d := n.toNat) (by omega); show (cycT n.toNat).length ≤ _; omega
  · simp

set_option maxHeartbeats 800000 in
theorem specCyclotomicPolynomial_any (n : Int) (w : World) : Calls Tryz.prog 21 #[.int .i64 n] w (RetIB w (cycP n).1 (cycP n).2) := by
  unfold RetIB
  rcases h1 : inB n 1 16 with _ | _
  · have HF := Lib.hid (show cycP n = ([], false) by simp [cycP, h1])
    have H1 := Lib.hid h1
    clear h1
    go_enter Tryz.func21, Tryz.ntmps21
    go_wp2_with fail
    refine (l1In_any _ _ _ _).mono ?_
    rintro e w' ⟨rfl, rfl⟩
    rw [H1.out]
    go_wp2_with fail
    go_ret2
    rw [HF.out]
    exact ⟨_, 0, 0, rfl, rfl, own_empty w, (Below.refl _ _).alloc (Nat.le_refl _) _⟩
  have g1 := inB_iff.1 h1
  obtain ⟨N, rfl⟩ := Int.eq_ofNat_of_zero_le (show 0 ≤ n by omega)
  have HF := Lib.hid (show cycP N = (cycT N, true) by simp [cycP, h1])
  have H1 := Lib.hid h1
  clear h1
  go_enter Tryz.func21, Tryz.ntmps21
  go_wp2_with fail
  refine (l1In_any _ _ _ _).mono ?_
  rintro e w' ⟨rfl, rfl⟩
  rw [H1.out]
  go_wp2_with fail
  refine (speccyc_any N w (by omega) (by omega)).mono ?_
  rintro e w1 ⟨A, m, c, hm, rfl, ho, hb⟩
  have HM := Lib.hid hm
  have HO := Lib.hid ho
  clear hm ho
  go_wp2_with fail
  go_ret2
  rw [HF.out]
  exact ⟨A, m, c, HM.out, rfl, HO.out, hb⟩

set_option maxHeartbeats 800000 in
theorem implCyclotomicPolynomial_any (n : Int) (w : World) : Calls Tryz.prog 20 #[.int .i64 n] w (RetIB w (cycP n).1 (cycP n).2) := by
  unfold RetIB
  rcases h1 : inB n 1 16 with _ | _
  · have HF := Lib.hid (show cycP n = ([], false) by simp [cycP, h1])
    have H1 := Lib.hid h1
    clear h1
    go_enter Tryz.func20, Tryz.ntmps20
    go_wp2_with fail
    refine (within_any _ _ _ _).mono ?_
    rintro e w' ⟨rfl, rfl⟩
    rw [H1.out]
    go_wp2_with fail
    go_ret2
    rw [HF.out]
    exact ⟨_, 0, 0, rfl, rfl, own_empty w, (Below.refl _ _).alloc (Nat.le_refl _) _⟩
  have g1 := inB_iff.1 h1
  obtain ⟨N, rfl⟩ := Int.eq_ofNat_of_zero_le (show 0 ≤ n by omega)
  have HF := Lib.hid (show cycP N = (cycT N, true) by simp [cycP, h1])
  have H1 := Lib.hid h1
  clear h1
  go_enter Tryz.func20, Tryz.ntmps20
  go_wp2_with fail
  refine (within_any _ _ _ _).mono ?_
  rintro e w' ⟨rfl, rfl⟩
  rw [H1.out]
  go_wp2_with fail
  refine (implcyc_any N w (by omega) (by omega)).mono ?_
  rintro e w1 ⟨A, m, c, hm, rfl, ho, hb⟩
  have HM := Lib.hid hm
  have HO := Lib.hid ho
  clear hm ho
  go_wp2_with fail
  go_ret2
  rw [HF.out]
  exact ⟨A, m, c, HM.out, rfl, HO.out, hb⟩

end Go.Proofs.YtghfhkbncjgaeaaGreat
