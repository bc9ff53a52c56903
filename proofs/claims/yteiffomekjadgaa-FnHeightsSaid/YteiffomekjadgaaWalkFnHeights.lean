/- laws.FnHeights returns true at every input. -/
import Derived.Test.YteiffomekjadgaaDrawH
import Derived.Test.YteiffomekjadgaaHtL
import Derived.Test.YteiffomekjadgaaCatI
import Derived.Test.YteiffomekjadgaaCntBelow
import Derived.Test.YteiffomekjadgaaSameW
namespace Go.Proofs.Yteiffomekjadgaa
set_option linter.unusedVariables false
open Go.RowKit

theorem rankB_bd (l : List UInt8) : -1 ≤ rankB l ∧ rankB l ≤ 145 := by
  unfold rankB
  split
  · next h =>
    obtain ⟨h1, h2, h3⟩ := dyck_pathB h
    have := rsum_bd (l := l) (l.length + 1) (by omega) (fun j hj => okB_mono h2 (by omega))
    omega
  · omega
theorem cb_cat (n : Int) (h1 : -1 ≤ n) (h2 : n ≤ 5) : cbB n < 0 ∨ cbB n = catN n * catN (n + 2) - catN (n + 1) * catN (n + 1) := by
  have h : n = -1 ∨ n = 0 ∨ n = 1 ∨ n = 2 ∨ n = 3 ∨ n = 4 ∨ n = 5 := by omega
  rcases h with rfl | rfl | rfl | rfl | rfl | rfl | rfl
  · left; decide
  all_goals right; decide +kernel
theorem cov_le {l : List UInt8} (h : l.length ≤ 1000) : (coversB l).length ≤ 1000 := by
  unfold coversB
  split
  · have := cov_len l (l.length - 1); omega
  · simp
theorem mul_bd429 {x y : Int} (h : -1 ≤ x ∧ x ≤ 429) (h' : -1 ≤ y ∧ y ≤ 429) : -200000 ≤ x * y ∧ x * y ≤ 200000 := by
  have h1 : (x + 1) * (y + 1) ≤ 430 * 430 := Int.mul_le_mul (by omega) (by omega) (by omega) (by omega)
  have h2 : 0 ≤ (x + 1) * (y + 1) := Int.mul_nonneg (by omega) (by omega)
  rw [Int.add_mul, Int.mul_add] at h1 h2
  omega
theorem cat_bd (n : Int) (h1 : -1 ≤ n) (h2 : n ≤ 7) : -1 ≤ catN n ∧ catN n ≤ 429 := by
  have h : n = -1 ∨ n = 0 ∨ n = 1 ∨ n = 2 ∨ n = 3 ∨ n = 4 ∨ n = 5 ∨ n = 6 ∨ n = 7 := by omega
  rcases h with rfl | rfl | rfl | rfl | rfl | rfl | rfl | rfl | rfl <;> decide +kernel

set_option maxRecDepth 100000 in
set_option maxHeartbeats 8000000 in
theorem walk_FnHeights (a0 : Option Addr) (len0 cap0 : Nat) (z0 : List Int) (w : World) (w0 : IsRow .u8 w a0 len0 cap0 z0) :
    Calls Try.prog 4 #[.slice a0 len0 cap0] w fun e w' => e = .returned (.bool true) ∧ Below w.heap.size w w' := by
  have v0 := w0.len_leu
  obtain ⟨hrd, hzb⟩ := w0.rdu
  by_cases q0 : len0 ≤ 1048576
  case neg =>
    go_enter Try.func4, Try.ntmps4
    go_wp2_with fail
    refine (big_yes _ _ _ _ (by omega)).mono ?_
    rintro e w' ⟨rfl, rfl⟩
    go_wp2_with fail
    go_ret
    exact ⟨rfl, Below.refl _ _⟩
  have hn9 : len0 ≤ 1000000000 := by omega
  have HR := Lib.hid hrd
  have HZ := Lib.hid hzb
  have HB := Lib.hid (Below.refl w.heap.size w)
  clear hrd hzb w0 v0
  go_enter Try.func4, Try.ntmps4
  go_wp2_with fail
  refine (big_no _ _ _ _ q0).mono ?_
  rintro e w' ⟨rfl, rfl⟩
  go_wp2_with fail
  refine (DrawLowerPath_any _ _ _ _ _ HR.out hn9 HZ.out).mono ?_
  rintro e w1 ⟨a, b, ha, hb9, rfl, hb⟩
  replace HB := Lib.hid (HB.out.trans (hb.mono HB.out.size))
  replace HR := Lib.hid (HR.out.below hb)
  clear hb
  have ha9 : a.length ≤ 1000000000 := by omega
  have hb8 : b.length ≤ 1000000000 := by omega
  go_wp2_with fail
  rcases hf : fitB a b with _ | _
  · skip
    have HM := Lib.hid (show betwB mn a b = ([], false) by unfold betwB; rw [hf]; rfl)
    have HV := Lib.hid (show betwB mx a b = ([], false) by unfold betwB; rw [hf]; rfl)
    have HD := Lib.hid (show distB a b = -1 by unfold distB; rw [hf]; rfl)
    clear hf
    refine (implLowerPath_any a b _ ha9 hb8).mono ?_
    rintro e w2 ⟨rfl, hb⟩
    replace HB := Lib.hid (HB.out.trans (hb.mono HB.out.size))
    replace HR := Lib.hid (HR.out.below hb)
    clear hb
    rw [HM.out]
    go_wp2_with fail
    refine (specLowerPath_any a b _ ha9 hb8).mono ?_
    rintro e w3 ⟨rfl, hb⟩
    replace HB := Lib.hid (HB.out.trans (hb.mono HB.out.size))
    replace HR := Lib.hid (HR.out.below hb)
    clear hb
    rw [HM.out]
    go_wp2_with fail
    refine (implUpperPath_any a b _ ha9 hb8).mono ?_
    rintro e w4 ⟨rfl, hb⟩
    replace HB := Lib.hid (HB.out.trans (hb.mono HB.out.size))
    replace HR := Lib.hid (HR.out.below hb)
    clear hb
    rw [HV.out]
    go_wp2_with fail
    refine (specUpperPath_any a b _ ha9 hb8).mono ?_
    rintro e w5 ⟨rfl, hb⟩
    replace HB := Lib.hid (HB.out.trans (hb.mono HB.out.size))
    replace HR := Lib.hid (HR.out.below hb)
    clear hb
    rw [HV.out]
    go_wp2_with fail
    refine (implDistanceBetween_any a b _ ha9 hb8).mono ?_
    rintro e w6 ⟨rfl, hb⟩
    replace HB := Lib.hid (HB.out.trans (hb.mono HB.out.size))
    replace HR := Lib.hid (HR.out.below hb)
    clear hb
    rw [HD.out]
    go_wp2_with fail
    refine (specDistanceBetween_any a b _ ha9 hb8).mono ?_
    rintro e w7 ⟨rfl, hb⟩
    replace HB := Lib.hid (HB.out.trans (hb.mono HB.out.size))
    replace HR := Lib.hid (HR.out.below hb)
    clear hb
    rw [HD.out]
    go_wp2_with fail
    refine (DrawCoversOf_any _ _ _ _ _ HR.out hn9 HZ.out).mono ?_
    rintro e w8 ⟨x0, hx0, rfl, hb⟩
    replace HB := Lib.hid (HB.out.trans (hb.mono HB.out.size))
    replace HR := Lib.hid (HR.out.below hb)
    clear hb
    have hx9 : x0.length ≤ 1000000000 := by omega
    have HX0 := Lib.hid hx0
    clear hx0
    go_wp2_with fail
    refine (implCoversOf_any x0 _ hx9).mono ?_
    rintro e w9 ⟨Ai, ni, ci, hni, rfl, hoi, hb⟩
    replace HB := Lib.hid (HB.out.trans (hb.mono HB.out.size))
    replace HR := Lib.hid (HR.out.below hb)
    clear hb
    have HCI := Lib.hid hoi.1
    have HNI := Lib.hid hni
    have hni9 : ni ≤ 1000 := by rw [hni]; exact cov_le HX0.out
    clear hni hoi
    go_wp2_with fail
    refine (specCoversOf_any x0 _ hx9).mono ?_
    rintro e w10 ⟨Aj, nj, cj, hnj, rfl, hoj, hb⟩
    replace HB := Lib.hid (HB.out.trans (hb.mono HB.out.size))
    replace HR := Lib.hid (HR.out.below hb)
    replace HCI := Lib.hid (HCI.out.below hb)
    clear hb
    have HCJ := Lib.hid hoj.1
    obtain rfl : ni = nj := by rw [hnj]; exact HNI.out
    clear hnj hoj
    go_wp2_with fail
    refine (sameWords_eq _ _ _ _ _ (coversB x0) _ HCI.out.rd HCJ.out.rd (by omega)).mono ?_
    rintro e w11 ⟨rfl, hb⟩
    replace HB := Lib.hid (HB.out.trans (hb.mono HB.out.size))
    replace HR := Lib.hid (HR.out.below hb)
    replace HCI := Lib.hid (HCI.out.below hb)
    clear hb
    go_wp2_with fail
    clear HCJ
    have HRD := Lib.hid HCI.out.rd
    clear HCI
    obtain ⟨CL, hCL⟩ : ∃ L, L = coversB x0 := ⟨_, rfl⟩
    rw [← hCL] at HRD HNI
    have HCL := Lib.hid hCL
    clear hCL
    go_loopw [16] (fun ix wr => ∃ i : Nat, i ≤ ni ∧ ix = .int .i64 i ∧ Rd wr Ai ni (sv CL) ∧ Rd wr a0 len0 (uv (z0.take len0)) ∧ Below w.heap.size w wr) (fun ix _ => ni - (intOf ix).toNat)
    case atStart => exact ⟨0, Nat.zero_le _, rfl, HRD.out, HR.out, HB.out⟩
    case round =>
      obtain ⟨i, hi, rfl, hcl, hrd, hbl⟩ := hrel
      obtain ⟨wl, rfl⟩ : ∃ W, W = wr := ⟨wr, rfl⟩
      clear HRD HR HB
      have HRD := Lib.hid hcl
      have HR := Lib.hid hrd
      have HB := Lib.hid hbl
      clear hcl hrd hbl
      by_cases hlt : i < ni
      · obtain ⟨bl, off, y, rfl, hy, hcy⟩ := HRD.out.ats hlt
        have hym := List.mem_of_getElem? hy
        rw [HCL.out] at hym
        have hdx : dyck x0 = true := by
          rcases hd : dyck x0 with _ | _
          · unfold coversB at hym; rw [hd] at hym; simp at hym
          · rfl
        have hco := cov_ok hdx hym
        have hy9 : y.length ≤ 1000000000 := by rw [hco.len]; omega
        obtain ⟨R, hR⟩ : ∃ R, R = rankB x0 := ⟨_, rfl⟩
        have hRb := rankB_bd x0
        rw [← hR] at hRb
        have s1 : IntKind.i64.wrap (R + 1) = R + 1 := IntWalk.i64_in _ (by omega)
        have HBE := Lib.hid hco.be
        have HRY := Lib.hid (show rankB y = R + 1 by rw [hR]; exact hco.rk)
        have HRX := Lib.hid hR.symm
        have HDS := Lib.hid hco.ds
        have i1 : (0 : Int) ≤ (i : Int) := by omega
        have i2 : (i : Int) < (ni : Int) := by omega
        have hbl9 : bl < wl.heap.size := World.block_lt_of_cell? _ _ hcy
        clear hy hym hdx hco hR
        go_wp2_with fail
        refine (implIsBelow_any x0 y _ hx9 hy9).mono ?_
        rintro e w12 ⟨rfl, hb⟩
        have hcy12 : w12.cell? ⟨bl, off + i, none⟩ = some (.string (bs y)) := (hb.cell (p := ⟨bl, off + i, none⟩) hbl9).trans hcy
        have hblk12 : bl < w12.heap.size := Nat.lt_of_lt_of_le hbl9 hb.size
        replace HRD := Lib.hid (HRD.out.below hb)
        replace HR := Lib.hid (HR.out.below hb)
        replace HB := Lib.hid (HB.out.trans (hb.mono HB.out.size))
        clear hb
        rw [HBE.out]
        go_wp2_with fail
        refine (implRankOfPath_any y _ hy9).mono ?_
        rintro e w13 ⟨rfl, hb⟩
        have hcy13 : w13.cell? ⟨bl, off + i, none⟩ = some (.string (bs y)) := (hb.cell (p := ⟨bl, off + i, none⟩) hblk12).trans hcy12
        have hblk13 : bl < w13.heap.size := Nat.lt_of_lt_of_le hblk12 hb.size
        replace HRD := Lib.hid (HRD.out.below hb)
        replace HR := Lib.hid (HR.out.below hb)
        replace HB := Lib.hid (HB.out.trans (hb.mono HB.out.size))
        clear hb
        rw [HRY.out]
        go_wp2_with fail
        refine (implRankOfPath_any x0 _ hx9).mono ?_
        rintro e w14 ⟨rfl, hb⟩
        have hcy14 : w14.cell? ⟨bl, off + i, none⟩ = some (.string (bs y)) := (hb.cell (p := ⟨bl, off + i, none⟩) hblk13).trans hcy13
        have hblk14 : bl < w14.heap.size := Nat.lt_of_lt_of_le hblk13 hb.size
        replace HRD := Lib.hid (HRD.out.below hb)
        replace HR := Lib.hid (HR.out.below hb)
        replace HB := Lib.hid (HB.out.trans (hb.mono HB.out.size))
        clear hb
        rw [HRX.out]
        go_wp2_with fail
        refine (implDistanceBetween_any x0 y _ hx9 hy9).mono ?_
        rintro e w15 ⟨rfl, hb⟩
        have hcy15 : w15.cell? ⟨bl, off + i, none⟩ = some (.string (bs y)) := (hb.cell (p := ⟨bl, off + i, none⟩) hblk14).trans hcy14
        have hblk15 : bl < w15.heap.size := Nat.lt_of_lt_of_le hblk14 hb.size
        replace HRD := Lib.hid (HRD.out.below hb)
        replace HR := Lib.hid (HR.out.below hb)
        replace HB := Lib.hid (HB.out.trans (hb.mono HB.out.size))
        clear hb
        rw [HDS.out]
        go_wp2_with fail
        go_roundw
        case rel => exact ⟨i + 1, by omega, by go_num, HRD.out, HR.out, HB.out⟩
        case measure => simp [intOf]; omega
      · go_wp2_with fail
        refine (DrawCountBelow_any _ _ _ _ _ HR.out hn9 HZ.out).mono ?_
        rintro e w16 ⟨N, hN1, hN2, rfl, hb⟩
        replace HB := Lib.hid (HB.out.trans (hb.mono HB.out.size))
        replace HR := Lib.hid (HR.out.below hb)
        clear hb
        have HCC := Lib.hid (cb_cat N hN1 hN2)
        have hc0 := cat_bd N hN1 (by omega)
        have hc1 := cat_bd (N + 1) (by omega) (by omega)
        have hc2 := cat_bd (N + 2) (by omega) (by omega)
        obtain ⟨K, hK⟩ : ∃ K, K = cbB N := ⟨_, rfl⟩
        obtain ⟨C0, hC0⟩ : ∃ K, K = catN N := ⟨_, rfl⟩
        obtain ⟨C1, hC1⟩ : ∃ K, K = catN (N + 1) := ⟨_, rfl⟩
        obtain ⟨C2, hC2⟩ : ∃ K, K = catN (N + 2) := ⟨_, rfl⟩
        rw [← hK, ← hC0, ← hC1, ← hC2] at HCC
        rw [← hC0] at hc0
        rw [← hC1] at hc1
        rw [← hC2] at hc2
        have HK := Lib.hid hK.symm
        have HC0 := Lib.hid hC0.symm
        have HC1 := Lib.hid hC1.symm
        have HC2 := Lib.hid hC2.symm
        have u1 : IntKind.i64.wrap (N + 1) = N + 1 := IntWalk.i64_in _ (by omega)
        have u2 : IntKind.i64.wrap (N + 2) = N + 2 := IntWalk.i64_in _ (by omega)
        clear hK hC0 hC1 hC2
        go_wp2_with fail
        refine (implCountBelow_any N _).mono ?_
        rintro e w17 ⟨rfl, hb⟩
        replace HB := Lib.hid (HB.out.trans (hb.mono HB.out.size))
        replace HR := Lib.hid (HR.out.below hb)
        clear hb
        rw [HK.out]
        go_wp2_with fail
        refine (specCountBelow_any N _).mono ?_
        rintro e w18 ⟨rfl, hb⟩
        replace HB := Lib.hid (HB.out.trans (hb.mono HB.out.size))
        replace HR := Lib.hid (HR.out.below hb)
        clear hb
        rw [HK.out]
        by_cases hk0 : 0 ≤ K
        case' pos =>
          have HKE := Lib.hid (show K = C0 * C2 - C1 * C1 by rcases HCC.out with h | h; omega; exact h)
          have p1 : -200000 ≤ C0 * C2 ∧ C0 * C2 ≤ 200000 := mul_bd429 hc0 hc2
          have p2 : -200000 ≤ C1 * C1 ∧ C1 * C1 ≤ 200000 := mul_bd429 hc1 hc1
          have u3 : IntKind.i64.wrap (C0 * C2) = C0 * C2 := IntWalk.i64_in _ (by omega)
          have u4 : IntKind.i64.wrap (C1 * C1) = C1 * C1 := IntWalk.i64_in _ (by omega)
          have u5 : IntKind.i64.wrap (C0 * C2 - C1 * C1) = C0 * C2 - C1 * C1 := IntWalk.i64_in _ (by omega)
          have t9 : (K != (C0 * C2 - C1 * C1)) = false := by rw [HKE.out]; simp
          go_wp2_with fail
          refine (implCatalanNumber_any N _).mono ?_
          rintro e w19 ⟨rfl, hb⟩
          replace HB := Lib.hid (HB.out.trans (hb.mono HB.out.size))
          replace HR := Lib.hid (HR.out.below hb)
          clear hb
          rw [HC0.out]
          go_wp2_with fail
          refine (implCatalanNumber_any (N + 2) _).mono ?_
          rintro e w20 ⟨rfl, hb⟩
          replace HB := Lib.hid (HB.out.trans (hb.mono HB.out.size))
          replace HR := Lib.hid (HR.out.below hb)
          clear hb
          rw [HC2.out]
          go_wp2_with fail
          refine (implCatalanNumber_any (N + 1) _).mono ?_
          rintro e w21 ⟨rfl, hb⟩
          replace HB := Lib.hid (HB.out.trans (hb.mono HB.out.size))
          replace HR := Lib.hid (HR.out.below hb)
          clear hb
          rw [HC1.out]
          go_wp2_with fail
          refine (implCatalanNumber_any (N + 1) _).mono ?_
          rintro e w22 ⟨rfl, hb⟩
          replace HB := Lib.hid (HB.out.trans (hb.mono HB.out.size))
          replace HR := Lib.hid (HR.out.below hb)
          clear hb
          rw [HC1.out]
          go_wp2_with fail
        case' neg => go_wp2_with fail
        all_goals
          refine (DrawIsBelow_any _ _ _ _ _ HR.out hn9 HZ.out).mono ?_
          rintro e w23 ⟨p, q, hp, hq, rfl, hb⟩
          replace HB := Lib.hid (HB.out.trans (hb.mono HB.out.size))
          replace HR := Lib.hid (HR.out.below hb)
          clear hb
          have hp9 : p.length ≤ 1000000000 := by omega
          have hq9 : q.length ≤ 1000000000 := by omega
          go_wp2_with fail
          refine (implIsBelow_any p q _ hp9 hq9).mono ?_
          rintro e w24 ⟨rfl, hb⟩
          replace HB := Lib.hid (HB.out.trans (hb.mono HB.out.size))
          replace HR := Lib.hid (HR.out.below hb)
          clear hb
          go_wp2_with fail
          refine (specIsBelow_any p q _ hp9 hq9).mono ?_
          rintro e w25 ⟨rfl, hb⟩
          replace HB := Lib.hid (HB.out.trans (hb.mono HB.out.size))
          replace HR := Lib.hid (HR.out.below hb)
          clear hb
          go_wp2_with fail
          refine (implRankOfPath_any x0 _ hx9).mono ?_
          rintro e w26 ⟨rfl, hb⟩
          replace HB := Lib.hid (HB.out.trans (hb.mono HB.out.size))
          replace HR := Lib.hid (HR.out.below hb)
          clear hb
          go_wp2_with fail
          refine (specRankOfPath_any x0 _ hx9).mono ?_
          rintro e w27 ⟨rfl, hb⟩
          replace HB := Lib.hid (HB.out.trans (hb.mono HB.out.size))
          replace HR := Lib.hid (HR.out.below hb)
          clear hb
          go_wp2_with fail
          go_ret
          exact ⟨rfl, HB.out⟩
  · skip
    have hbnd := bnd hf
    obtain ⟨m, hm⟩ : ∃ m, m = selW mn a b a.length := ⟨_, rfl⟩
    obtain ⟨v, hv⟩ : ∃ v, v = selW mx a b a.length := ⟨_, rfl⟩
    have HM := Lib.hid (show betwB mn a b = (m, true) by unfold betwB; rw [hf, hm]; rfl)
    have HV := Lib.hid (show betwB mx a b = (v, true) by unfold betwB; rw [hf, hv]; rfl)
    have hm9 : m.length ≤ 1000000000 := by rw [hm, selW_len]; omega
    have hv9 : v.length ≤ 1000000000 := by rw [hv, selW_len]; omega
    rw [← hm, ← hv] at hbnd
    have HBM := Lib.hid hbnd
    obtain ⟨dd, hdd⟩ : ∃ d, d = distB a b := ⟨_, rfl⟩
    obtain ⟨Rm, hRm⟩ : ∃ x, x = rankB m := ⟨_, rfl⟩
    obtain ⟨Rv, hRv⟩ : ∃ x, x = rankB v := ⟨_, rfl⟩
    obtain ⟨Ra, hRa⟩ : ∃ x, x = rankB a := ⟨_, rfl⟩
    obtain ⟨Rb, hRb⟩ : ∃ x, x = rankB b := ⟨_, rfl⟩
    have e1 := hbnd.rk
    have e2 := hbnd.ds
    have b1 := rankB_bd m
    have b2 := rankB_bd v
    have b3 := rankB_bd a
    have b4 := rankB_bd b
    rw [← hRm, ← hRv, ← hRa, ← hRb] at e1
    rw [← hdd, ← hRv, ← hRm] at e2
    rw [← hRm] at b1
    rw [← hRv] at b2
    rw [← hRa] at b3
    rw [← hRb] at b4
    have HE1 := Lib.hid e1
    have t1 : ((Rm + Rv) != (Ra + Rb)) = false := by simp [e1]
    have t2 : (dd != (Rv - Rm)) = false := by simp [e2]
    have s1 : IntKind.i64.wrap (Rm + Rv) = Rm + Rv := IntWalk.i64_in _ (by omega)
    have s2 : IntKind.i64.wrap (Ra + Rb) = Ra + Rb := IntWalk.i64_in _ (by omega)
    have s3 : IntKind.i64.wrap (Rv - Rm) = Rv - Rm := IntWalk.i64_in _ (by omega)
    have HD := Lib.hid hdd.symm
    have HRm := Lib.hid hRm.symm
    have HRv := Lib.hid hRv.symm
    have HRa := Lib.hid hRa.symm
    have HRb := Lib.hid hRb.symm
    clear e1 e2 hdd hRm hRv hRa hRb hm hv hbnd hf
    refine (implLowerPath_any a b _ ha9 hb8).mono ?_
    rintro e w2 ⟨rfl, hb⟩
    replace HB := Lib.hid (HB.out.trans (hb.mono HB.out.size))
    replace HR := Lib.hid (HR.out.below hb)
    clear hb
    rw [HM.out]
    go_wp2_with fail
    refine (specLowerPath_any a b _ ha9 hb8).mono ?_
    rintro e w3 ⟨rfl, hb⟩
    replace HB := Lib.hid (HB.out.trans (hb.mono HB.out.size))
    replace HR := Lib.hid (HR.out.below hb)
    clear hb
    rw [HM.out]
    go_wp2_with fail
    refine (implUpperPath_any a b _ ha9 hb8).mono ?_
    rintro e w4 ⟨rfl, hb⟩
    replace HB := Lib.hid (HB.out.trans (hb.mono HB.out.size))
    replace HR := Lib.hid (HR.out.below hb)
    clear hb
    rw [HV.out]
    go_wp2_with fail
    refine (specUpperPath_any a b _ ha9 hb8).mono ?_
    rintro e w5 ⟨rfl, hb⟩
    replace HB := Lib.hid (HB.out.trans (hb.mono HB.out.size))
    replace HR := Lib.hid (HR.out.below hb)
    clear hb
    rw [HV.out]
    go_wp2_with fail
    refine (implDistanceBetween_any a b _ ha9 hb8).mono ?_
    rintro e w6 ⟨rfl, hb⟩
    replace HB := Lib.hid (HB.out.trans (hb.mono HB.out.size))
    replace HR := Lib.hid (HR.out.below hb)
    clear hb
    rw [HD.out]
    go_wp2_with fail
    refine (specDistanceBetween_any a b _ ha9 hb8).mono ?_
    rintro e w7 ⟨rfl, hb⟩
    replace HB := Lib.hid (HB.out.trans (hb.mono HB.out.size))
    replace HR := Lib.hid (HR.out.below hb)
    clear hb
    rw [HD.out]
    go_wp2_with fail
    refine (implIsBelow_any m a _ hm9 ha9).mono ?_
    rintro e w8 ⟨rfl, hb⟩
    replace HB := Lib.hid (HB.out.trans (hb.mono HB.out.size))
    replace HR := Lib.hid (HR.out.below hb)
    clear hb
    rw [HBM.out.ma]
    go_wp2_with fail
    refine (implIsBelow_any m b _ hm9 hb8).mono ?_
    rintro e w9 ⟨rfl, hb⟩
    replace HB := Lib.hid (HB.out.trans (hb.mono HB.out.size))
    replace HR := Lib.hid (HR.out.below hb)
    clear hb
    rw [HBM.out.mb]
    go_wp2_with fail
    refine (implIsBelow_any a v _ ha9 hv9).mono ?_
    rintro e w10 ⟨rfl, hb⟩
    replace HB := Lib.hid (HB.out.trans (hb.mono HB.out.size))
    replace HR := Lib.hid (HR.out.below hb)
    clear hb
    rw [HBM.out.av]
    go_wp2_with fail
    refine (implIsBelow_any b v _ hb8 hv9).mono ?_
    rintro e w11 ⟨rfl, hb⟩
    replace HB := Lib.hid (HB.out.trans (hb.mono HB.out.size))
    replace HR := Lib.hid (HR.out.below hb)
    clear hb
    rw [HBM.out.bv]
    go_wp2_with fail
    refine (implRankOfPath_any m _ hm9).mono ?_
    rintro e w12 ⟨rfl, hb⟩
    replace HB := Lib.hid (HB.out.trans (hb.mono HB.out.size))
    replace HR := Lib.hid (HR.out.below hb)
    clear hb
    rw [HRm.out]
    go_wp2_with fail
    refine (implRankOfPath_any v _ hv9).mono ?_
    rintro e w13 ⟨rfl, hb⟩
    replace HB := Lib.hid (HB.out.trans (hb.mono HB.out.size))
    replace HR := Lib.hid (HR.out.below hb)
    clear hb
    rw [HRv.out]
    go_wp2_with fail
    refine (implRankOfPath_any a _ ha9).mono ?_
    rintro e w14 ⟨rfl, hb⟩
    replace HB := Lib.hid (HB.out.trans (hb.mono HB.out.size))
    replace HR := Lib.hid (HR.out.below hb)
    clear hb
    rw [HRa.out]
    go_wp2_with fail
    refine (implRankOfPath_any b _ hb8).mono ?_
    rintro e w15 ⟨rfl, hb⟩
    replace HB := Lib.hid (HB.out.trans (hb.mono HB.out.size))
    replace HR := Lib.hid (HR.out.below hb)
    clear hb
    rw [HRb.out]
    go_wp2_with fail
    refine (implRankOfPath_any v _ hv9).mono ?_
    rintro e w16 ⟨rfl, hb⟩
    replace HB := Lib.hid (HB.out.trans (hb.mono HB.out.size))
    replace HR := Lib.hid (HR.out.below hb)
    clear hb
    rw [HRv.out]
    go_wp2_with fail
    refine (implRankOfPath_any m _ hm9).mono ?_
    rintro e w17 ⟨rfl, hb⟩
    replace HB := Lib.hid (HB.out.trans (hb.mono HB.out.size))
    replace HR := Lib.hid (HR.out.below hb)
    clear hb
    rw [HRm.out]
    go_wp2_with fail
    have HEQ := Lib.hid HBM.out.eq
    refine (implIsBelow_any a b _ ha9 hb8).mono ?_
    rintro e w18 ⟨rfl, hb⟩
    replace HB := Lib.hid (HB.out.trans (hb.mono HB.out.size))
    replace HR := Lib.hid (HR.out.below hb)
    clear hb
    rw [HEQ.out]
    by_cases hma : m = a
    case' pos => have t3 : (m == a) = true := by rw [beq_iff_eq]; exact hma
    case' neg => have t3 : (m == a) = false := by rw [beq_eq_false_iff_ne]; exact hma
    case' pos => rw [decide_eq_true hma]
    case' neg => rw [decide_eq_false hma]
    all_goals clear hma
    all_goals
      go_wp2_with fail
      refine (DrawCoversOf_any _ _ _ _ _ HR.out hn9 HZ.out).mono ?_
      rintro e w19 ⟨x0, hx0, rfl, hb⟩
      replace HB := Lib.hid (HB.out.trans (hb.mono HB.out.size))
      replace HR := Lib.hid (HR.out.below hb)
      clear hb
      have hx9 : x0.length ≤ 1000000000 := by omega
      have HX0 := Lib.hid hx0
      clear hx0
      go_wp2_with fail
      refine (implCoversOf_any x0 _ hx9).mono ?_
      rintro e w20 ⟨Ai, ni, ci, hni, rfl, hoi, hb⟩
      replace HB := Lib.hid (HB.out.trans (hb.mono HB.out.size))
      replace HR := Lib.hid (HR.out.below hb)
      clear hb
      have HCI := Lib.hid hoi.1
      have HNI := Lib.hid hni
      have hni9 : ni ≤ 1000 := by rw [hni]; exact cov_le HX0.out
      clear hni hoi
      go_wp2_with fail
      refine (specCoversOf_any x0 _ hx9).mono ?_
      rintro e w21 ⟨Aj, nj, cj, hnj, rfl, hoj, hb⟩
      replace HB := Lib.hid (HB.out.trans (hb.mono HB.out.size))
      replace HR := Lib.hid (HR.out.below hb)
      replace HCI := Lib.hid (HCI.out.below hb)
      clear hb
      have HCJ := Lib.hid hoj.1
      obtain rfl : ni = nj := by rw [hnj]; exact HNI.out
      clear hnj hoj
      go_wp2_with fail
      refine (sameWords_eq _ _ _ _ _ (coversB x0) _ HCI.out.rd HCJ.out.rd (by omega)).mono ?_
      rintro e w22 ⟨rfl, hb⟩
      replace HB := Lib.hid (HB.out.trans (hb.mono HB.out.size))
      replace HR := Lib.hid (HR.out.below hb)
      replace HCI := Lib.hid (HCI.out.below hb)
      clear hb
      go_wp2_with fail
      clear HCJ
      have HRD := Lib.hid HCI.out.rd
      clear HCI
      obtain ⟨CL, hCL⟩ : ∃ L, L = coversB x0 := ⟨_, rfl⟩
      rw [← hCL] at HRD HNI
      have HCL := Lib.hid hCL
      clear hCL
      go_loopw [16] (fun ix wr => ∃ i : Nat, i ≤ ni ∧ ix = .int .i64 i ∧ Rd wr Ai ni (sv CL) ∧ Rd wr a0 len0 (uv (z0.take len0)) ∧ Below w.heap.size w wr) (fun ix _ => ni - (intOf ix).toNat)
      case atStart => exact ⟨0, Nat.zero_le _, rfl, HRD.out, HR.out, HB.out⟩
      case round =>
        obtain ⟨i, hi, rfl, hcl, hrd, hbl⟩ := hrel
        obtain ⟨wl, rfl⟩ : ∃ W, W = wr := ⟨wr, rfl⟩
        clear HRD HR HB
        have HRD := Lib.hid hcl
        have HR := Lib.hid hrd
        have HB := Lib.hid hbl
        clear hcl hrd hbl
        by_cases hlt : i < ni
        · obtain ⟨bl, off, y, rfl, hy, hcy⟩ := HRD.out.ats hlt
          have hym := List.mem_of_getElem? hy
          rw [HCL.out] at hym
          have hdx : dyck x0 = true := by
            rcases hd : dyck x0 with _ | _
            · unfold coversB at hym; rw [hd] at hym; simp at hym
            · rfl
          have hco := cov_ok hdx hym
          have hy9 : y.length ≤ 1000000000 := by rw [hco.len]; omega
          obtain ⟨R, hR⟩ : ∃ R, R = rankB x0 := ⟨_, rfl⟩
          have hRb := rankB_bd x0
          rw [← hR] at hRb
          have s1 : IntKind.i64.wrap (R + 1) = R + 1 := IntWalk.i64_in _ (by omega)
          have HBE := Lib.hid hco.be
          have HRY := Lib.hid (show rankB y = R + 1 by rw [hR]; exact hco.rk)
          have HRX := Lib.hid hR.symm
          have HDS := Lib.hid hco.ds
          have i1 : (0 : Int) ≤ (i : Int) := by omega
          have i2 : (i : Int) < (ni : Int) := by omega
          have hbl9 : bl < wl.heap.size := World.block_lt_of_cell? _ _ hcy
          clear hy hym hdx hco hR
          go_wp2_with fail
          refine (implIsBelow_any x0 y _ hx9 hy9).mono ?_
          rintro e w23 ⟨rfl, hb⟩
          have hcy23 : w23.cell? ⟨bl, off + i, none⟩ = some (.string (bs y)) := (hb.cell (p := ⟨bl, off + i, none⟩) hbl9).trans hcy
          have hblk23 : bl < w23.heap.size := Nat.lt_of_lt_of_le hbl9 hb.size
          replace HRD := Lib.hid (HRD.out.below hb)
          replace HR := Lib.hid (HR.out.below hb)
          replace HB := Lib.hid (HB.out.trans (hb.mono HB.out.size))
          clear hb
          rw [HBE.out]
          go_wp2_with fail
          refine (implRankOfPath_any y _ hy9).mono ?_
          rintro e w24 ⟨rfl, hb⟩
          have hcy24 : w24.cell? ⟨bl, off + i, none⟩ = some (.string (bs y)) := (hb.cell (p := ⟨bl, off + i, none⟩) hblk23).trans hcy23
          have hblk24 : bl < w24.heap.size := Nat.lt_of_lt_of_le hblk23 hb.size
          replace HRD := Lib.hid (HRD.out.below hb)
          replace HR := Lib.hid (HR.out.below hb)
          replace HB := Lib.hid (HB.out.trans (hb.mono HB.out.size))
          clear hb
          rw [HRY.out]
          go_wp2_with fail
          refine (implRankOfPath_any x0 _ hx9).mono ?_
          rintro e w25 ⟨rfl, hb⟩
          have hcy25 : w25.cell? ⟨bl, off + i, none⟩ = some (.string (bs y)) := (hb.cell (p := ⟨bl, off + i, none⟩) hblk24).trans hcy24
          have hblk25 : bl < w25.heap.size := Nat.lt_of_lt_of_le hblk24 hb.size
          replace HRD := Lib.hid (HRD.out.below hb)
          replace HR := Lib.hid (HR.out.below hb)
          replace HB := Lib.hid (HB.out.trans (hb.mono HB.out.size))
          clear hb
          rw [HRX.out]
          go_wp2_with fail
          refine (implDistanceBetween_any x0 y _ hx9 hy9).mono ?_
          rintro e w26 ⟨rfl, hb⟩
          have hcy26 : w26.cell? ⟨bl, off + i, none⟩ = some (.string (bs y)) := (hb.cell (p := ⟨bl, off + i, none⟩) hblk25).trans hcy25
          have hblk26 : bl < w26.heap.size := Nat.lt_of_lt_of_le hblk25 hb.size
          replace HRD := Lib.hid (HRD.out.below hb)
          replace HR := Lib.hid (HR.out.below hb)
          replace HB := Lib.hid (HB.out.trans (hb.mono HB.out.size))
          clear hb
          rw [HDS.out]
          go_wp2_with fail
          go_roundw
          case rel => exact ⟨i + 1, by omega, by go_num, HRD.out, HR.out, HB.out⟩
          case measure => simp [intOf]; omega
        · go_wp2_with fail
          refine (DrawCountBelow_any _ _ _ _ _ HR.out hn9 HZ.out).mono ?_
          rintro e w27 ⟨N, hN1, hN2, rfl, hb⟩
          replace HB := Lib.hid (HB.out.trans (hb.mono HB.out.size))
          replace HR := Lib.hid (HR.out.below hb)
          clear hb
          have HCC := Lib.hid (cb_cat N hN1 hN2)
          have hc0 := cat_bd N hN1 (by omega)
          have hc1 := cat_bd (N + 1) (by omega) (by omega)
          have hc2 := cat_bd (N + 2) (by omega) (by omega)
          obtain ⟨K, hK⟩ : ∃ K, K = cbB N := ⟨_, rfl⟩
          obtain ⟨C0, hC0⟩ : ∃ K, K = catN N := ⟨_, rfl⟩
          obtain ⟨C1, hC1⟩ : ∃ K, K = catN (N + 1) := ⟨_, rfl⟩
          obtain ⟨C2, hC2⟩ : ∃ K, K = catN (N + 2) := ⟨_, rfl⟩
          rw [← hK, ← hC0, ← hC1, ← hC2] at HCC
          rw [← hC0] at hc0
          rw [← hC1] at hc1
          rw [← hC2] at hc2
          have HK := Lib.hid hK.symm
          have HC0 := Lib.hid hC0.symm
          have HC1 := Lib.hid hC1.symm
          have HC2 := Lib.hid hC2.symm
          have u1 : IntKind.i64.wrap (N + 1) = N + 1 := IntWalk.i64_in _ (by omega)
          have u2 : IntKind.i64.wrap (N + 2) = N + 2 := IntWalk.i64_in _ (by omega)
          clear hK hC0 hC1 hC2
          go_wp2_with fail
          refine (implCountBelow_any N _).mono ?_
          rintro e w28 ⟨rfl, hb⟩
          replace HB := Lib.hid (HB.out.trans (hb.mono HB.out.size))
          replace HR := Lib.hid (HR.out.below hb)
          clear hb
          rw [HK.out]
          go_wp2_with fail
          refine (specCountBelow_any N _).mono ?_
          rintro e w29 ⟨rfl, hb⟩
          replace HB := Lib.hid (HB.out.trans (hb.mono HB.out.size))
          replace HR := Lib.hid (HR.out.below hb)
          clear hb
          rw [HK.out]
          by_cases hk0 : 0 ≤ K
          case' pos =>
            have HKE := Lib.hid (show K = C0 * C2 - C1 * C1 by rcases HCC.out with h | h; omega; exact h)
            have p1 : -200000 ≤ C0 * C2 ∧ C0 * C2 ≤ 200000 := mul_bd429 hc0 hc2
            have p2 : -200000 ≤ C1 * C1 ∧ C1 * C1 ≤ 200000 := mul_bd429 hc1 hc1
            have u3 : IntKind.i64.wrap (C0 * C2) = C0 * C2 := IntWalk.i64_in _ (by omega)
            have u4 : IntKind.i64.wrap (C1 * C1) = C1 * C1 := IntWalk.i64_in _ (by omega)
            have u5 : IntKind.i64.wrap (C0 * C2 - C1 * C1) = C0 * C2 - C1 * C1 := IntWalk.i64_in _ (by omega)
            have t9 : (K != (C0 * C2 - C1 * C1)) = false := by rw [HKE.out]; simp
            go_wp2_with fail
            refine (implCatalanNumber_any N _).mono ?_
            rintro e w30 ⟨rfl, hb⟩
            replace HB := Lib.hid (HB.out.trans (hb.mono HB.out.size))
            replace HR := Lib.hid (HR.out.below hb)
            clear hb
            rw [HC0.out]
            go_wp2_with fail
            refine (implCatalanNumber_any (N + 2) _).mono ?_
            rintro e w31 ⟨rfl, hb⟩
            replace HB := Lib.hid (HB.out.trans (hb.mono HB.out.size))
            replace HR := Lib.hid (HR.out.below hb)
            clear hb
            rw [HC2.out]
            go_wp2_with fail
            refine (implCatalanNumber_any (N + 1) _).mono ?_
            rintro e w32 ⟨rfl, hb⟩
            replace HB := Lib.hid (HB.out.trans (hb.mono HB.out.size))
            replace HR := Lib.hid (HR.out.below hb)
            clear hb
            rw [HC1.out]
            go_wp2_with fail
            refine (implCatalanNumber_any (N + 1) _).mono ?_
            rintro e w33 ⟨rfl, hb⟩
            replace HB := Lib.hid (HB.out.trans (hb.mono HB.out.size))
            replace HR := Lib.hid (HR.out.below hb)
            clear hb
            rw [HC1.out]
            go_wp2_with fail
          case' neg => go_wp2_with fail
          all_goals
            refine (DrawIsBelow_any _ _ _ _ _ HR.out hn9 HZ.out).mono ?_
            rintro e w34 ⟨p, q, hp, hq, rfl, hb⟩
            replace HB := Lib.hid (HB.out.trans (hb.mono HB.out.size))
            replace HR := Lib.hid (HR.out.below hb)
            clear hb
            have hp9 : p.length ≤ 1000000000 := by omega
            have hq9 : q.length ≤ 1000000000 := by omega
            go_wp2_with fail
            refine (implIsBelow_any p q _ hp9 hq9).mono ?_
            rintro e w35 ⟨rfl, hb⟩
            replace HB := Lib.hid (HB.out.trans (hb.mono HB.out.size))
            replace HR := Lib.hid (HR.out.below hb)
            clear hb
            go_wp2_with fail
            refine (specIsBelow_any p q _ hp9 hq9).mono ?_
            rintro e w36 ⟨rfl, hb⟩
            replace HB := Lib.hid (HB.out.trans (hb.mono HB.out.size))
            replace HR := Lib.hid (HR.out.below hb)
            clear hb
            go_wp2_with fail
            refine (implRankOfPath_any x0 _ hx9).mono ?_
            rintro e w37 ⟨rfl, hb⟩
            replace HB := Lib.hid (HB.out.trans (hb.mono HB.out.size))
            replace HR := Lib.hid (HR.out.below hb)
            clear hb
            go_wp2_with fail
            refine (specRankOfPath_any x0 _ hx9).mono ?_
            rintro e w38 ⟨rfl, hb⟩
            replace HB := Lib.hid (HB.out.trans (hb.mono HB.out.size))
            replace HR := Lib.hid (HR.out.below hb)
            clear hb
            go_wp2_with fail
            go_ret
            exact ⟨rfl, HB.out⟩

end Go.Proofs.Yteiffomekjadgaa
