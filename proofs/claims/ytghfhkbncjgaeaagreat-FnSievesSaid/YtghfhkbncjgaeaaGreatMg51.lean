/- Merged: Root. -/
import Derived.Test.YtghfhkbncjgaeaaGreatMg49
import Derived.Test.YtghfhkbncjgaeaaGreatMg50
import Derived.StillTailTactics

namespace Go.Proofs.YtghfhkbncjgaeaaGreat
open Go.RowKit

theorem vrP_bad1 {xs : List Int} {x : Int} (h : isFac xs = false) : vrP xs x = (0, false) := by simp [vrP, h]
theorem vrP_bad2 {xs : List Int} {x : Int} (h : inB x 1 16 = false) : vrP xs x = (0, false) := by simp [vrP, h]
theorem cycT_div {d : Nat} (h : d < 17) (h1 : 1 ≤ d) : isDiv (cycT d) = true := by
  have : ∀ d : Nat, d < 17 → 1 ≤ d → isDiv (cycT d) = true := by decide +kernel
  exact this d h h1

set_option maxHeartbeats 1000000 in
theorem specValueAtRoot_any (A : Option Addr) (n c : Nat) (xs : List Int) (x : Int) (w : World) (h : Rd w A n (iv xs)) (hn : n ≤ 1000000000) :
    Calls Tryz.prog 24 #[.slice A n c, .int .i64 x] w fun e w' => e = .returned (.tuple #[.int .i64 (vrP xs x).1, .bool (vrP xs x).2]) ∧ Below w.heap.size w w' := by
  have HR := Lib.hid h
  clear h
  rcases hf : isFac xs with _ | _
  · have HV := Lib.hid (vrP_bad1 (x := x) hf)
    have HF := Lib.hid hf
    clear hf
    go_enter Tryz.func24, Tryz.ntmps24
    go_wp2_with fail
    refine (l14Small_any _ _ _ _ _ HR.out hn).mono ?_
    rintro e w' ⟨rfl, rfl⟩
    rw [HF.out]
    go_wp2_with fail
    go_ret2
    exact ⟨by rw [HV.out]; rfl, Below.refl _ _⟩
  rcases hd : inB x 1 16 with _ | _
  · have HV := Lib.hid (vrP_bad2 (xs := xs) hd)
    have HF := Lib.hid hf
    have HD := Lib.hid hd
    clear hf hd
    go_enter Tryz.func24, Tryz.ntmps24
    go_wp2_with fail
    refine (l14Small_any _ _ _ _ _ HR.out hn).mono ?_
    rintro e w' ⟨rfl, rfl⟩
    rw [HF.out]
    go_wp2_with fail
    refine (l1In_any _ _ _ _).mono ?_
    rintro e w' ⟨rfl, rfl⟩
    rw [HD.out]
    go_wp2_with fail
    go_ret2
    exact ⟨by rw [HV.out]; rfl, Below.refl _ _⟩
  have gd := inB_iff.1 hd
  obtain ⟨N, rfl⟩ := Int.eq_ofNat_of_zero_le (show 0 ≤ x by omega)
  obtain ⟨q, r, hq, hr⟩ := div_fac hf (d := N) (by omega) (by omega)
  have hv : vrP xs (N : Int) = vr1 (trimL r) := by simp [vrP, hf, hd, hr]
  have HA := Lib.hid (isFac_iff7 hf)
  have HDV := Lib.hid (cycT_div (d := N) (by omega) (by omega))
  have HQ := Lib.hid hq
  have HF := Lib.hid hf
  have HD := Lib.hid hd
  clear hf hd hq hr
  rcases ht : trimL r with _ | ⟨y, _ | ⟨y', l⟩⟩
  all_goals
    have HT := Lib.hid ht
    have HV := Lib.hid (show vrP xs (N : Int) = vr1 _ by rw [hv, ht])
    clear ht hv
    go_enter Tryz.func24, Tryz.ntmps24
    go_wp2_with fail
    refine (l14Small_any _ _ _ _ _ HR.out hn).mono ?_
    rintro e w' ⟨rfl, rfl⟩
    rw [HF.out]
    go_wp2_with fail
    refine (l1In_any _ _ _ _).mono ?_
    rintro e w' ⟨rfl, rfl⟩
    rw [HD.out]
    go_wp2_with fail
    refine (speccyc_any N w (by omega) (by omega)).mono ?_
    rintro e w1 ⟨A1, m1, c1, -, rfl, ho1, hb1⟩
    have HO1 := Lib.hid ho1
    have HR1 := Lib.hid (HR.out.below hb1)
    clear ho1
    go_wp2_with fail
    refine (l14Divide_any _ _ _ xs _ _ _ (cycT N) q r _ HR1.out HO1.out.rd HA.out HDV.out HQ.out).mono ?_
    rintro e w2 ⟨R0, m0, d0, R1, m2, d1, -, hm2, rfl, -, ho2, hb2⟩
    rw [HT.out] at hm2 ho2
    have HB := Lib.hid (hb1.trans (hb2.mono hb1.size))
  · subst hm2
    clear ho2
    go_wp2_with fail
    go_ret2
    exact ⟨by rw [HV.out]; rfl, HB.out⟩
  · subst hm2
    obtain ⟨b, off, z, rfl, hz, hc⟩ := ho2.rd.ati (show 0 < [y].length by simp)
    obtain rfl : y = z := by simpa using hz
    clear hz ho2
    simp only [List.length_cons, List.length_nil, Nat.zero_add, Nat.add_zero] at hc ⊢
    go_wp2_with fail
    go_ret2
    exact ⟨by rw [HV.out]; rfl, HB.out⟩
  · have e0 : ((m2 : Int) == 0) = false := by rw [beq_eq_false_iff_ne]; simp at hm2; omega
    have e1 : ((m2 : Int) == 1) = false := by rw [beq_eq_false_iff_ne]; simp at hm2; omega
    clear ho2 hm2
    go_wp2_with fail
    go_ret2
    exact ⟨by rw [HV.out]; rfl, HB.out⟩

set_option maxRecDepth 20000 in
set_option maxHeartbeats 4000000 in
theorem implValueAtRoot_any (A : Option Addr) (n c : Nat) (xs : List Int) (x : Int) (w : World) (h : Rd w A n (iv xs)) (hn : n ≤ 1000000000) :
    Calls Tryz.prog 22 #[.slice A n c, .int .i64 x] w fun e w' => e = .returned (.tuple #[.int .i64 (vrP xs x).1, .bool (vrP xs x).2]) ∧ Below w.heap.size w w' := by
  have HR := Lib.hid h
  have HL := Lib.hid (show xs.length = n by have := h.len; rw [iv_len] at this; exact this)
  clear h
  rcases hf : isFac xs with _ | _
  · have HV := Lib.hid (vrP_bad1 (x := x) hf)
    have HF := Lib.hid hf
    clear hf
    go_enter Tryz.func22, Tryz.ntmps22
    go_wp2_with fail
    refine (isFactor_any _ _ _ _ _ HR.out hn).mono ?_
    rintro e w' ⟨rfl, rfl⟩
    rw [HF.out]
    go_wp2_with fail
    go_ret2
    exact ⟨by rw [HV.out]; rfl, Below.refl _ _⟩
  rcases hd : inB x 1 16 with _ | _
  · have HV := Lib.hid (vrP_bad2 (xs := xs) hd)
    have HF := Lib.hid hf
    have HD := Lib.hid hd
    clear hf hd
    go_enter Tryz.func22, Tryz.ntmps22
    go_wp2_with fail
    refine (isFactor_any _ _ _ _ _ HR.out hn).mono ?_
    rintro e w' ⟨rfl, rfl⟩
    rw [HF.out]
    go_wp2_with fail
    refine (within_any _ _ _ _).mono ?_
    rintro e w' ⟨rfl, rfl⟩
    rw [HD.out]
    go_wp2_with fail
    go_ret2
    exact ⟨by rw [HV.out]; rfl, Below.refl _ _⟩
  have gd := inB_iff.1 hd
  obtain ⟨N, rfl⟩ := Int.eq_ofNat_of_zero_le (show 0 ≤ x by omega)
  have hfd := fac_getD hf
  have h61 : n ≤ 61 := by have := (isFac_iff hf).1; rw [HL.out] at this; exact this
  have HG := Lib.hid hfd
  have HBD := Lib.hid (fun k j => foldP_bd (p := xs) (d := N) (by omega) hfd k j)
  obtain ⟨q, r, hq, hr⟩ := div_fold hf (d := N) (by omega) (by omega)
  have HVV := Lib.hid (show vrP xs (N : Int) = vr1 (trimL r) by simp [vrP, hf, hd, hr])
  have HA := Lib.hid (show (foldP xs N n).length ≤ 61 ∧ ∀ x ∈ foldP xs N n, -10000000 ≤ x ∧ x ≤ 10000000 from ⟨by rw [foldP_len]; omega, fun x hx => by rw [← HL.out] at hx; have := foldP_mem hf (d := N) (by omega) x hx; omega⟩)
  have HDV := Lib.hid (cycT_div (d := N) (by omega) (by omega))
  rw [HL.out] at hq
  have HQ := Lib.hid hq
  have HF := Lib.hid hf
  have HD := Lib.hid hd
  clear hf hd hq hr hfd
  have hmk := mkI N (by omega) w
  have hown0 := Own.made w 3 (.int .i64 0) N (by unfold maxLen; omega)
  rw [iv_rep] at hown0
  obtain ⟨w0, hw0⟩ : ∃ W, W = w.alloc (.cells (madeCells #[.int .i64 0] N) 3) := ⟨_, rfl⟩
  rw [← hw0] at hmk hown0
  have hb0 : Below w.heap.size w w0 := by rw [hw0]; exact (Below.refl _ _).alloc (Nat.le_refl _) _
  have HO0 := Lib.hid hown0
  have HRR := Lib.hid (HR.out.below hb0)
  clear hw0 hown0
  go_enter Tryz.func22, Tryz.ntmps22
  go_wp2_with fail
  refine (isFactor_any _ _ _ _ _ HR.out hn).mono ?_
  rintro e w' ⟨rfl, rfl⟩
  rw [HF.out]
  go_wp2_with fail
  refine (within_any _ _ _ _).mono ?_
  rintro e w' ⟨rfl, rfl⟩
  rw [HD.out]
  go_wp2_with fail
  have n0 : ((N : Int) == 0) = false := by rw [beq_eq_false_iff_ne]; omega
  have n0' : ¬ (N : Int) = 0 := by omega
  go_loopw [7, 8, 24] (fun _ _ i wr => ∃ k : Nat, k ≤ n ∧ i = .int .i64 k ∧ Own wr 3 w.heap.size (some ⟨w.heap.size, 0, none⟩) N N (iv (foldP xs N k)) ∧ Below w.heap.size w wr) (fun _ _ i _ => n - (intOf i).toNat)
  case atStart => exact ⟨0, Nat.zero_le _, rfl, HO0.out, hb0⟩
  case round =>
    obtain ⟨k, hk, rfl, ho, hb⟩ := hrel
    clear hmk HO0 HRR hb0
    clear w0
    have hsz := hb.size
    by_cases hlt : k < n
    · obtain ⟨b, off, x, rfl, hx, hc⟩ := (HR.out.below hb).ati hlt
      obtain ⟨j, hj⟩ : ∃ j, j = k % N := ⟨_, rfl⟩
      have hjN : j < N := by rw [hj]; exact Nat.mod_lt _ (by omega)
      obtain ⟨g, y, hg, _, hgs, hy, hcy, hfy⟩ := ho.ati hjN
      cases hg
      have hxb := HG.out k
      rw [getD_ofQ hx] at hxb
      have hyb := HBD.out k j
      rw [getD_ofQ hy] at hyb
      have HN := Lib.hid (show (foldP xs N k).set j (y + x) = foldP xs N (k + 1) by rw [foldP, ← hj, getD_ofQ hy, getD_ofQ hx])
      have m1 : Int.tmod (k : Int) (N : Int) = (j : Int) := by rw [hj]; rfl
      have m2 : (k : Int) % (N : Int) = (j : Int) := by rw [hj]; rfl
      have j0 : (0 : Int) ≤ (j : Int) := by omega
      have j1 : (j : Int) < (N : Int) := by omega
      have je : ((j : Int)).toNat = j := by omega
      have w2 : IntKind.i64.wrap (y + x) = y + x := IntWalk.i64_in _ (by omega)
      have w3 : IntKind.i64.wrap (j : Int) = (j : Int) := IntWalk.i64_in _ (by omega)
      have n0'' : ¬ N = 0 := by omega
      have HO := Lib.hid ho
      clear hx hy ho hj hxb hyb
      go_wp2_with fail
      go_still_tail 13, (by kernel_rfl)
      change wpList _ _ _ _ _ wr.drew
      go_wp2_with fail
      go_roundw
      case rel => exact ⟨k + 1, by omega, by go_num, by rw [← HN.out]; exact HO.out.puti j (y + x), (hb.setCell (p := ⟨w.heap.size, j, none⟩) (Nat.le_refl _) _).drew⟩
      case measure => simp [intOf]; omega
    · have HO := Lib.hid (show Own wr 3 w.heap.size (some ⟨w.heap.size, 0, none⟩) N N (iv (foldP xs N n)) by rw [show n = k by omega]; exact ho)
      clear ho
      rcases ht : trimL r with _ | ⟨y, _ | ⟨y', l⟩⟩
      all_goals
        have HT := Lib.hid ht
        have HV := Lib.hid (show vrP xs (N : Int) = vr1 _ by rw [HVV.out, ht])
        clear ht
        go_wp2_with fail
        refine (implcyc_any N wr (by omega) (by omega)).mono ?_
        rintro e w1 ⟨A1, m1, c1, -, rfl, ho1, hb1⟩
        have HO1 := Lib.hid ho1
        have HR1 := Lib.hid (HO.out.below hb1)
        clear ho1
        go_wp2_with fail
        refine (divide_any _ _ _ (foldP xs N n) _ _ _ (cycT N) _ HR1.out.rd HO1.out.rd HA.out HDV.out).mono ?_
        rw [HQ.out]
        rintro e w2 ⟨R0, m0, d0, R1, m2, d1, -, hm2, rfl, -, ho2, -, hb2⟩
        rw [HT.out] at hm2 ho2
        have HB := Lib.hid (hb.trans ((hb1.trans (hb2.mono hb1.size)).mono hsz))
      · subst hm2
        clear ho2
        go_wp2_with fail
        go_ret2
        exact ⟨by rw [HV.out]; rfl, HB.out⟩
      · subst hm2
        obtain ⟨b, off, z, rfl, hz, hc⟩ := ho2.rd.ati (show 0 < [y].length by simp)
        obtain rfl : y = z := by simpa using hz
        clear hz ho2
        simp only [List.length_cons, List.length_nil, Nat.zero_add, Nat.add_zero] at hc ⊢
        go_wp2_with fail
        go_ret2
        exact ⟨by rw [HV.out]; rfl, HB.out⟩
      · have e0 : ((m2 : Int) == 0) = false := by rw [beq_eq_false_iff_ne]; simp at hm2; omega
        have e1 : ((m2 : Int) == 1) = false := by rw [beq_eq_false_iff_ne]; simp at hm2; omega
        clear ho2 hm2
        go_wp2_with fail
        go_ret2
        exact ⟨by rw [HV.out]; rfl, HB.out⟩

end Go.Proofs.YtghfhkbncjgaeaaGreat
