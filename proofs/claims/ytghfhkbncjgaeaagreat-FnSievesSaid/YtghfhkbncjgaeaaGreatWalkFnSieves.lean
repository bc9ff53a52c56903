/- laws.FnSieves returns true at every input. -/
import Derived.Test.YtghfhkbncjgaeaaGreatMh53
import Derived.Test.YtghfhkbncjgaeaaGreatMh52
import Derived.Deep.DeepCutAuto
namespace Go.Proofs.YtghfhkbncjgaeaaGreat
set_option linter.unusedVariables false
open Go.RowKit

theorem catP_len2 (d : Int) : (cycP d).1.length ≤ 1000000000 := by
  unfold cycP
  rcases h : inB d 1 16 with _ | _
  · exact Nat.zero_le _
  · obtain ⟨h1, h2⟩ := inB_iff.1 h
    obtain ⟨D, rfl⟩ := Int.eq_ofNat_of_zero_le (show 0 ≤ d by omega)
    have h3 : ∀ D : Nat, D < 17 → (cycT D).length ≤ 1000 := by decide +kernel
    have := h3 D (by omega)
    show (cycT ((D : Int)).toNat).length ≤ 1000000000
    rw [Int.toNat_natCast]; omega
theorem cy_ok {d : Int} (h : (cycP d).2 = true) : vrP (cycP d).1 d = (0, true) := by
  unfold cycP at h ⊢
  rcases hb : inB d 1 16 with _ | _
  · rw [hb] at h; cases h
  · obtain ⟨h1, h2⟩ := inB_iff.1 hb
    obtain ⟨D, rfl⟩ := Int.eq_ofNat_of_zero_le (show 0 ≤ d by omega)
    show vrP (cycT ((D : Int)).toNat) _ = _
    rw [Int.toNat_natCast]
    exact cy_at (by omega) (by omega)

set_option maxRecDepth 100000 in
set_option maxHeartbeats 16000000 in
theorem walk_FnSieves (a0 : Option Addr) (len0 cap0 : Nat) (z0 : List Int) (w : World) (w0 : IsRow .u8 w a0 len0 cap0 z0) :
    Calls Tryz.prog 3 #[.slice a0 len0 cap0] w fun e w' => e = .returned (.bool true) ∧ Below w.heap.size w w' := by
  have v0 := w0.len_leu
  obtain ⟨hrd, hzb⟩ := w0.rdu
  by_cases q0 : len0 ≤ 1048576
  case neg =>
    go_enter Tryz.func3, Tryz.ntmps3
    go_wp2_with fail
    refine (big_yes _ _ _ _ (by omega)).mono ?_
    rintro e w' ⟨rfl, rfl⟩
    go_wp2_with fail
    go_ret
    exact ⟨rfl, Below.refl _ _⟩
  have hn9 : len0 ≤ 1000000000 := by omega
  have HR := Lib.hid hrd
  have HZ := Lib.hid hzb
  have HB := Lib.hid (Below.refl w.heap.size w)
  clear hrd hzb w0 v0
  go_enter Tryz.func3, Tryz.ntmps3
  go_wp2_with fail
  refine (big_no _ _ _ _ q0).mono ?_
  rintro e w' ⟨rfl, rfl⟩
  go_wp2_with fail
  refine (DrawSieveHolds_any _ _ _ _ _ HR.out hn9 HZ.out).mono ?_
  rintro e w1 ⟨f, n, hf, hn0, hn1, rfl, hb⟩
  replace HB := Lib.hid (HB.out.trans (hb.mono HB.out.size))
  replace HR := Lib.hid (HR.out.below hb)
  clear hb
  have HOD := Lib.hid (ordT_cases f n)
  have HSVB := Lib.hid (show svT f n = decide (0 < ordT f n) from rfl)
  obtain ⟨O, hO⟩ : ∃ O, O = ordT f n := ⟨_, rfl⟩
  obtain ⟨SV, hSV⟩ : ∃ O, O = svT f n := ⟨_, rfl⟩
  rw [← hO, ← hSV] at HSVB
  have HO := Lib.hid hO.symm
  have HSV := Lib.hid hSV.symm
  have t1 : (O != O) = false := by simp
  have t2 : (SV != SV) = false := by simp
  clear hO hSV
  go_wp2_with fail
  refine (implOrderOfTurn_any f n _).mono ?_
  rintro e w2 ⟨rfl, rfl⟩
  rw [HO.out]
  go_upto_region 5 with fail
  go_cut [62] (fun s62 wx => s62 = .bool false ∧ Rd wx a0 len0 (uv (z0.take len0)) ∧ Below w.heap.size w wx)
  case first => as_aux_lemma =>
    go_wp2_with fail
    refine (specOrderOfTurn_any f n _).mono ?_
    rintro e w3 ⟨rfl, rfl⟩
    rw [HO.out]
    go_wp2_with fail
    refine (implSieveHolds_any f n _).mono ?_
    rintro e w4 ⟨rfl, hb⟩
    replace HB := Lib.hid (HB.out.trans (hb.mono HB.out.size))
    replace HR := Lib.hid (HR.out.below hb)
    rw [HSV.out]
    clear hb
    go_wp2_with fail
    refine (specSieveHolds_any f n _).mono ?_
    rintro e w5 ⟨rfl, hb⟩
    replace HB := Lib.hid (HB.out.trans (hb.mono HB.out.size))
    replace HR := Lib.hid (HR.out.below hb)
    rw [HSV.out]
    clear hb
    by_cases h0 : 0 < O
    · have HSVT := Lib.hid (show SV = true by rw [HSVB.out]; exact decide_eq_true h0)
      go_wp2_with fail
      refine (implSieveHolds_any f n _).mono ?_
      rintro e w6 ⟨rfl, hb⟩
      replace HB := Lib.hid (HB.out.trans (hb.mono HB.out.size))
      replace HR := Lib.hid (HR.out.below hb)
      rw [HSV.out, HSVT.out]
      clear hb
      go_wp2_with fail
      go_meet
      exact ⟨rfl, HR.out, HB.out⟩
    · go_wp2_with fail
      go_meet
      exact ⟨rfl, HR.out, HB.out⟩
  clear HR HB
  obtain ⟨rfl, hrd, hbl⟩ := hcut
  have HR := Lib.hid hrd
  have HB := Lib.hid hbl
  clear hrd hbl
  go_wp2_with fail
  refine (implOrbitSizes_any f n _).mono ?_
  rintro e w7 ⟨Al, nl, cl, hnl, rfl, hol, hb⟩
  replace HB := Lib.hid (HB.out.trans (hb.mono HB.out.size))
  replace HR := Lib.hid (HR.out.below hb)
  have HL := Lib.hid hol.rd
  have HNL := Lib.hid hnl
  have hnl9 : nl ≤ 1048576 := by rw [hnl]; exact orbT_len f n
  clear hol hnl
  clear hb
  go_wp2_with fail
  refine (specOrbitSizes_any f n _).mono ?_
  rintro e w8 ⟨Am, nm, cm, hnm, rfl, hom, hb⟩
  replace HB := Lib.hid (HB.out.trans (hb.mono HB.out.size))
  replace HR := Lib.hid (HR.out.below hb)
  replace HL := Lib.hid (HL.out.below hb)
  have HM := Lib.hid hom.rd
  obtain rfl : nl = nm := by rw [hnm]; exact HNL.out
  clear hom hnm
  clear hb
  obtain ⟨b, hb⟩ : ∃ b, b = (orbT f n).2 := ⟨_, rfl⟩
  rw [← hb]
  have HBQ := Lib.hid hb.symm
  have t3 : (b != b) = false := by simp
  clear hb
  go_wp2_with fail
  refine (sameInts_eq _ _ _ _ _ (orbT f n).1 _ HL.out HM.out (by omega)).mono ?_
  rintro e wsm ⟨rfl, hb⟩
  replace HB := Lib.hid (HB.out.trans (hb.mono HB.out.size))
  replace HR := Lib.hid (HR.out.below hb)
  replace HM := Lib.hid (HM.out.below hb)
  clear hb HL
  go_upto_if 84 with fail
  go_cut [10] (fun s10 wx => Rd wx a0 len0 (uv (z0.take len0)) ∧ Below w.heap.size w wx)
  case first => as_aux_lemma =>
    rcases b with _ | _
    · go_wp2_with fail
      go_meet
      exact ⟨HR.out, HB.out⟩
    · skip
      rcases HOD.out with h1 | ⟨N, hNn, hN1, hN5, hf3, ho, ho1, ho2⟩
      · exfalso
        have h2 := HBQ.out
        rw [orbT_no h1] at h2
        cases h2
      subst hNn
      obtain ⟨R, hR⟩ := orb_ok hf3 hN5
      have HSL := Lib.hid (slOk hf3 hN1 hN5 hR)
      have hres : (orbT f N).1 = R.2 := by unfold orbT; rw [if_neg (by omega), Int.toNat_natCast, hR]; rfl
      have HFX := Lib.hid (fun (k : Nat) (hk : k < ordN f N) => show fixT f N k = (fixTo (nxT f N) k (paths N).length : Int) by unfold fixT; rw [ho, inB_iff.2 (by omega), Int.toNat_natCast, Int.toNat_natCast]; rfl)
      rw [hres] at HM HNL
      have hlen : nl ≤ 100 := by rw [HNL.out]; have := orb_len hR; have := paths_5 hN5; omega
      have h42 := paths_5 hN5
      obtain ⟨nx, hnx⟩ : ∃ nx, nx = nxT f N := ⟨_, rfl⟩
      obtain ⟨m, hm⟩ : ∃ m, m = (paths N).length := ⟨_, rfl⟩
      obtain ⟨od, hod⟩ : ∃ od, od = ordN f N := ⟨_, rfl⟩
      obtain ⟨OR, hOR⟩ : ∃ o, o = R.2 := ⟨_, rfl⟩
      rw [← hnx, ← hm, ← hod, ← hOR] at HSL
      rw [← hnx, ← hm, ← hod] at HFX
      rw [← hOR] at HM HNL
      rw [← hod] at ho ho1 ho2
      rw [← hm] at h42
      obtain rfl : O = (od : Int) := by rw [← HO.out]; exact ho
      clear hnx hm hod hOR hR hres hf3
      have HFB := Lib.hid (fun k => fxS_le nx m k)
      have i0 : (0 : Int) < (od : Int) := by omega
      go_wp2_with fail
      go_loopw [10, 11] (fun s kx wr => ∃ (k : Nat), k ≤ od ∧ kx = .int .i64 k ∧ s = .int .i64 (fxS nx m k : Nat) ∧ Rd wr Am nl (iv OR) ∧ Rd wr a0 len0 (uv (z0.take len0)) ∧ Below w.heap.size w wr) (fun _ kx _ => od - (intOf kx).toNat)
      case atStart => exact ⟨0, Nat.zero_le _, rfl, rfl, HM.out, HR.out, HB.out⟩
      case round =>
        obtain ⟨k, hk, rfl, rfl, hm, hrd, hbl⟩ := hrel
        obtain ⟨wl, rfl⟩ : ∃ W, W = wr := ⟨wr, rfl⟩
        clear HM HR HB
        have HM := Lib.hid hm
        have HR := Lib.hid hrd
        have HB := Lib.hid hbl
        clear hm hrd hbl
        have hS : fxS nx m k ≤ 420 := Nat.le_trans (HFB.out k) (Nat.mul_le_mul (show k ≤ 10 by omega) h42)
        obtain ⟨S, hSd⟩ : ∃ S, S = fxS nx m k := ⟨_, rfl⟩
        rw [← hSd] at hS ⊢
        have HS := Lib.hid hSd
        clear hSd
        by_cases hlt : k < od
        · skip
          have hfl := fixTo_le nx k m
          obtain ⟨X, hX⟩ : ∃ X, X = fixTo nx k m := ⟨_, rfl⟩
          rw [← hX] at hfl
          have HX := Lib.hid (show fixT f N k = (X : Int) by rw [HFX.out k hlt, hX])
          have HN := Lib.hid (show fxS nx m (k + 1) = S + X by rw [fxS, HS.out, hX])
          clear hX
          go_wp2_with fail
          refine (implFixedByTurn_any f N k _).mono ?_
          rintro e w10 ⟨rfl, hb⟩
          replace HB := Lib.hid (HB.out.trans (hb.mono HB.out.size))
          replace HR := Lib.hid (HR.out.below hb)
          replace HM := Lib.hid (HM.out.below hb)
          rw [HX.out]
          clear hb
          go_wp2_with fail
          go_roundw
          case rel => exact ⟨k + 1, by omega, by go_num, by rw [HN.out]; go_num, HM.out, HR.out, HB.out⟩
          case measure => simp [intOf]; omega
        · skip
          obtain rfl : k = od := by omega
          have HT := Lib.hid (show smI OR nl = catN N by rw [HNL.out]; exact HSL.out.tot)
          have HSE := Lib.hid (show S = k * nl by rw [HS.out, HNL.out]; exact HSL.out.sum)
          have hmul : k * nl ≤ 1000 := Nat.mul_le_mul (show k ≤ 10 by omega) hlen
          have wm : IntKind.i64.wrap ((k : Int) * (nl : Int)) = (k : Int) * (nl : Int) := by rw [← Int.natCast_mul]; exact IntWalk.i64_in _ (by omega)
          have e4 : ((S : Int) != (k : Int) * (nl : Int)) = false := by rw [HSE.out, Int.natCast_mul]; simp
          obtain ⟨C, hC⟩ : ∃ C, C = catN N := ⟨_, rfl⟩
          rw [← hC] at HT
          have HC := Lib.hid hC.symm
          have e5 : (C != C) = false := by simp
          clear hC
          go_wp2_with fail
          refine (total_any _ _ _ OR _ HM.out (by omega) (smI_bdE (fun i x h => ⟨(HSL.out.ok i x h).1, (HSL.out.ok i x h).2.1⟩) (by have := HNL.out; omega))).mono ?_
          rintro e w11 ⟨rfl, rfl⟩
          rw [HT.out]
          go_wp2_with fail
          refine (implCatalanNumber_any (N : Int) _).mono ?_
          rintro e w12 ⟨rfl, hb⟩
          replace HB := Lib.hid (HB.out.trans (hb.mono HB.out.size))
          replace HR := Lib.hid (HR.out.below hb)
          replace HM := Lib.hid (HM.out.below hb)
          rw [HC.out]
          clear hb
          go_wp2_with fail
          go_loopw [12] (fun ix wr => ∃ (i : Nat), i ≤ nl ∧ ix = .int .i64 i ∧ Rd wr Am nl (iv OR) ∧ Rd wr a0 len0 (uv (z0.take len0)) ∧ Below w.heap.size w wr) (fun ix _ => nl - (intOf ix).toNat)
          case atStart => exact ⟨0, Nat.zero_le _, rfl, HM.out, HR.out, HB.out⟩
          case round =>
            obtain ⟨i, hi, rfl, hm, hrd, hbl⟩ := hrel
            obtain ⟨wl, rfl⟩ : ∃ W, W = wr := ⟨wr, rfl⟩
            clear HM HR HB
            have HM := Lib.hid hm
            have HR := Lib.hid hrd
            have HB := Lib.hid hbl
            clear hm hrd hbl
            by_cases hit : i < nl
            · obtain ⟨bl, off, y, rfl, hy, hcy⟩ := HM.out.ati hit
              obtain ⟨y1, y2, y3⟩ := HSL.out.ok i y hy
              have n0 : (y == 0) = false := by rw [beq_eq_false_iff_ne]; omega
              have n2 : ¬ y = 0 := by omega
              have j1 : (0 : Int) ≤ (i : Int) := by omega
              have j2 : (i : Int) < (nl : Int) := by omega
              clear hy
              go_wp2_with fail
              go_roundw
              case rel => exact ⟨i + 1, by omega, by go_num, HM.out, HR.out, HB.out⟩
              case measure => simp [intOf]; omega
            · go_wp2_with fail
              go_meet
              exact ⟨HR.out, HB.out⟩
  clear HR HB HM HNL HBQ HOD HSVB HO HSV t1 t2 t3 hnl9
  obtain ⟨hrd, hbl⟩ := hcut
  have HR := Lib.hid hrd
  have HB := Lib.hid hbl
  clear hrd hbl
  go_wp2_with fail
  refine (DrawFixedByTurn_any _ _ _ _ _ HR.out hn9 HZ.out).mono ?_
  rintro e w13 ⟨a, u, v, ha, hu0, hu1, hv0, hv1, rfl, hb⟩
  replace HB := Lib.hid (HB.out.trans (hb.mono HB.out.size))
  replace HR := Lib.hid (HR.out.below hb)
  clear hb
  go_wp2_with fail
  refine (DrawCyclotomicPolynomial_any _ _ _ _ _ HR.out hn9 HZ.out).mono ?_
  rintro e w14 ⟨d, hd0, hd1, rfl, hb⟩
  replace HB := Lib.hid (HB.out.trans (hb.mono HB.out.size))
  replace HR := Lib.hid (HR.out.below hb)
  have HCY := Lib.hid (cy_ok (d := d))
  have hcl := catP_len2 d
  clear hb
  go_wp2_with fail
  refine (implCyclotomicPolynomial_any d _).mono ?_
  rintro e w15 ⟨Al, nl, cl, hnl, rfl, hol, hb⟩
  replace HB := Lib.hid (HB.out.trans (hb.mono HB.out.size))
  replace HR := Lib.hid (HR.out.below hb)
  have HL := Lib.hid hol.rd
  have HNL := Lib.hid hnl
  clear hol hnl
  clear hb
  go_wp2_with fail
  refine (specCyclotomicPolynomial_any d _).mono ?_
  rintro e w16 ⟨Am, nm, cm, hnm, rfl, hom, hb⟩
  replace HB := Lib.hid (HB.out.trans (hb.mono HB.out.size))
  replace HR := Lib.hid (HR.out.below hb)
  replace HL := Lib.hid (HL.out.below hb)
  have HM := Lib.hid hom.rd
  obtain rfl : nl = nm := by rw [hnm]; exact HNL.out
  clear hom hnm
  clear hb
  have hnl9 : nl ≤ 1000000000 := by rw [HNL.out]; exact hcl
  obtain ⟨b, hb⟩ : ∃ b, b = (cycP d).2 := ⟨_, rfl⟩
  obtain ⟨CY, hc⟩ : ∃ b, b = (cycP d).1 := ⟨_, rfl⟩
  rw [← hb, ← hc] at HCY
  rw [← hb]
  rw [← hc] at HL HM
  have t3 : (b != b) = false := by simp
  clear hb hc HNL hcl
  go_wp2_with fail
  refine (sameInts_eq _ _ _ _ _ CY _ HL.out HM.out (by omega)).mono ?_
  rintro e wsn ⟨rfl, hb⟩
  replace HB := Lib.hid (HB.out.trans (hb.mono HB.out.size))
  replace HR := Lib.hid (HR.out.below hb)
  replace HM := Lib.hid (HM.out.below hb)
  clear hb HL
  go_upto_if 149 with fail
  go_cut [21] (fun s21 wx => Rd wx a0 len0 (uv (z0.take len0)) ∧ Below w.heap.size w wx)
  case first => as_aux_lemma =>
    rcases b with _ | _
    · go_wp2_with fail
      go_meet
      exact ⟨HR.out, HB.out⟩
    · have HV := Lib.hid (HCY.out rfl)
      go_wp2_with fail
      refine (implValueAtRoot_any _ _ _ CY d _ HM.out (by omega)).mono ?_
      rintro e wv ⟨rfl, hb⟩
      replace HB := Lib.hid (HB.out.trans (hb.mono HB.out.size))
      replace HR := Lib.hid (HR.out.below hb)
      clear hb
      rw [HV.out]
      go_wp2_with fail
      go_meet
      exact ⟨HR.out, HB.out⟩
  clear HR HB HM HCY t3
  obtain ⟨hrd, hbl⟩ := hcut
  have HR := Lib.hid hrd
  have HB := Lib.hid hbl
  clear hrd hbl
  go_wp2_with fail
  refine (DrawValueAtRoot_any _ _ _ _ _ HR.out hn9 HZ.out).mono ?_
  rintro e w17 ⟨Ae, ne, ce, ys, g, hne, rfl, hoe, hb⟩
  replace HB := Lib.hid (HB.out.trans (hb.mono HB.out.size))
  replace HR := Lib.hid (HR.out.below hb)
  have HE := Lib.hid hoe.rd
  clear hoe
  clear hb
  go_wp2_with fail
  obtain ⟨x, hx⟩ : ∃ x, x = (vrP ys g).1 := ⟨_, rfl⟩
  obtain ⟨t, ht⟩ : ∃ x, x = (vrP ys g).2 := ⟨_, rfl⟩
  have HX := Lib.hid hx.symm
  have HT := Lib.hid ht.symm
  have t3 : (x == x) = true := by simp
  have t4 : (t == t) = true := by simp
  clear hx ht
  refine (implValueAtRoot_any _ _ _ ys g _ HE.out (by omega)).mono ?_
  rintro e w18 ⟨rfl, hb⟩
  replace HB := Lib.hid (HB.out.trans (hb.mono HB.out.size))
  replace HR := Lib.hid (HR.out.below hb)
  replace HE := Lib.hid (HE.out.below hb)
  rw [HX.out, HT.out]
  clear hb
  go_wp2_with fail
  refine (specValueAtRoot_any _ _ _ ys g _ HE.out (by omega)).mono ?_
  rintro e w19 ⟨rfl, hb⟩
  replace HB := Lib.hid (HB.out.trans (hb.mono HB.out.size))
  replace HR := Lib.hid (HR.out.below hb)
  replace HE := Lib.hid (HE.out.below hb)
  rw [HX.out, HT.out]
  clear hb
  obtain ⟨F, hF⟩ : ∃ x, x = fixT a u v := ⟨_, rfl⟩
  have HF := Lib.hid hF.symm
  have t5 : (F == F) = true := by simp
  clear hF HE
  go_wp2_with fail
  refine (implFixedByTurn_any a u v _).mono ?_
  rintro e w20 ⟨rfl, hb⟩
  replace HB := Lib.hid (HB.out.trans (hb.mono HB.out.size))
  replace HR := Lib.hid (HR.out.below hb)
  rw [HF.out]
  clear hb
  go_wp2_with fail
  refine (specFixedByTurn_any a u v _).mono ?_
  rintro e w21 ⟨rfl, hb⟩
  replace HB := Lib.hid (HB.out.trans (hb.mono HB.out.size))
  replace HR := Lib.hid (HR.out.below hb)
  rw [HF.out]
  clear hb
  go_wp2_with fail
  refine (implFamilyNames_any _).mono ?_
  rintro e w22 ⟨Ra, da, rfl, hoa, hb⟩
  replace HB := Lib.hid (HB.out.trans (hb.mono HB.out.size))
  replace HR := Lib.hid (HR.out.below hb)
  have HA := Lib.hid hoa.rd
  clear hoa
  clear hb
  go_wp2_with fail
  refine (specFamilyNames_any _).mono ?_
  rintro e w23 ⟨Rb, db, rfl, hob, hb⟩
  replace HB := Lib.hid (HB.out.trans (hb.mono HB.out.size))
  replace HR := Lib.hid (HR.out.below hb)
  replace HA := Lib.hid (HA.out.below hb)
  have HBB := Lib.hid hob.rd
  clear hob
  clear hb
  go_wp2_with fail
  refine (sameWords_eq _ _ _ _ _ fams _ HA.out HBB.out (by omega)).mono ?_
  rintro e w24 ⟨rfl, hb⟩
  replace HB := Lib.hid (HB.out.trans (hb.mono HB.out.size))
  replace HR := Lib.hid (HR.out.below hb)
  clear hb
  go_wp2_with fail
  go_ret
  exact ⟨rfl, HB.out⟩

end Go.Proofs.YtghfhkbncjgaeaaGreat
