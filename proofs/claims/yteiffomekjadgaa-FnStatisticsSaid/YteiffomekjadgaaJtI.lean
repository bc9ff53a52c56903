/- JointTable of the program. -/
import Derived.Test.YteiffomekjadgaaJt
namespace Go.Proofs.Yteiffomekjadgaa
set_option linter.unusedVariables false
open Go.RowKit

set_option maxRecDepth 20000 in
set_option maxHeartbeats 8000000 in
theorem implJointTable_any (a b : List UInt8) (n : Int) (h0 : -1 ≤ n) (h6 : n ≤ 6) (w : World) : Calls Try.prog 19 #[.string (bs a), .string (bs b), .int .i64 n] w (RetRB w (jtP a b n).1 (jtP a b n).2) := by
  unfold RetRB
  rcases hall : (inB n 0 6 && hasB snames a && hasB snames b) with _ | _
  · have HF := Lib.hid (show jtP a b n = ([], false) by unfold jtP; rw [hall]; rfl)
    have HAB := Lib.hid (show ((dstP a n).2 && (dstP b n).2) = false by
      unfold dstP
      rcases ha : inB n 0 6 with _ | _ <;> rcases hb : hasB snames a with _ | _ <;> rcases hc : hasB snames b with _ | _ <;> rw [ha, hb, hc] at hall <;> first | rfl | cases hall)
    obtain ⟨ba, hba⟩ : ∃ x, x = (dstP a n).2 := ⟨_, rfl⟩
    obtain ⟨bb, hbb⟩ : ∃ x, x = (dstP b n).2 := ⟨_, rfl⟩
    rw [← hba, ← hbb] at HAB
    have HBA := Lib.hid hba.symm
    have HBB := Lib.hid hbb.symm
    clear hall hba hbb
    go_enter Try.func19, Try.ntmps19
    go_wp2_with fail
    refine (implDistributionOf_any a _ h0 h6 _).mono ?_
    rintro e w1 ⟨A1, n1, c1, hn1, rfl, hown1, hb1⟩
    have hs1 := hb1.size
    rw [HBA.out]
    clear hown1 hn1
    go_wp2_with fail
    refine (implDistributionOf_any b n h0 h6 _).mono ?_
    rintro e w2 ⟨A2, n2, c2, hn2, rfl, hown2, hb2⟩
    rw [HBB.out]
    clear hown2 hn2
    have hb3 := hb1.trans (hb2.mono hs1)
    clear hb1 hb2
    have hs3 := hb3.size
    have E0 := Lib.hid ((O2.empty w2).mono hs3)
    rcases ba with _ | _
    · go_wp2_with fail
      go_ret2
      rw [HF.out]
      exact ⟨_, 0, 0, _, rfl, rfl, E0.out, hb3.alloc hs3 _⟩
    rcases bb with _ | _
    · go_wp2_with fail
      go_ret2
      rw [HF.out]
      exact ⟨_, 0, 0, _, rfl, rfl, E0.out, hb3.alloc hs3 _⟩
    · exact absurd HAB.out (by decide)
  have hall2 := hall
  rw [Bool.and_eq_true, Bool.and_eq_true] at hall2
  obtain ⟨⟨hin, hsa⟩, hsb⟩ := hall2
  obtain ⟨i1, i2⟩ := inB_iff.1 hin
  obtain ⟨N, rfl⟩ := Int.eq_ofNat_of_zero_le i1
  have hN : N ≤ 6 := by omega
  have HF := Lib.hid (show jtP a b N = (jtL a b (paths N) (jtM a b N) (paths N).length, true) by unfold jtP; rw [hall, Int.toNat_natCast]; rfl)
  have HDA := Lib.hid (show dstP a N = (dstL a (paths N) (paths N).length, true) by unfold dstP; rw [hin, hsa, Int.toNat_natCast]; rfl)
  have HDB := Lib.hid (show dstP b N = (dstL b (paths N) (paths N).length, true) by unfold dstP; rw [hin, hsb, Int.toNat_natCast]; rfl)
  have hlenA := dst_len a N
  have hlenB := dst_len b N
  rw [HDA.out] at hlenA
  rw [HDB.out] at hlenB
  have h132 := paths_n132 N (by omega)
  have HW := Lib.hid (fun x (hx : x ∈ paths N) => paths_wd hN hx)
  have HVB := Lib.hid (fun (f : List UInt8) (hf : hasB snames f = true) (j : Nat) (x : List UInt8) (hx : (paths N)[j]? = some x) => show ∃ K : Nat, sttB f x = (K : Int) ∧ K < (dstL f (paths N) (paths N).length).length by
    have hd := (paths_wd hN (List.mem_of_getElem? hx)).1
    have h1 := dst_lt (f := f) hx
    have h2 := stN_nn hd (of_decide_eq_true hf)
    have h3 := sttB_dyck (f := f) hd
    exact ⟨(sttB f x).toNat, by omega, h1⟩)
  have HVA := Lib.hid (HVB.out a hsa)
  have HVB2 := Lib.hid (HVB.out b hsb)
  have HPP := Lib.hid (fun W => implPathsOf_any N W hN)
  have HJ1 := Lib.hid (jtL_len a b (paths N) (jtM a b N))
  have HJ2 := Lib.hid (jtL_row a b (paths N) (jtM a b N))
  have HJ3 := Lib.hid (fun j x (hx : (paths N)[j]? = some x) => jtL_step (a := a) (b := b) (M := jtM a b N) hx)
  obtain ⟨M, hM⟩ : ∃ M, M = jtM a b N := ⟨_, rfl⟩
  have hMd : M = max (dstL a (paths N) (paths N).length).length (dstL b (paths N) (paths N).length).length := hM
  rw [← hM] at HF HJ1 HJ2 HJ3
  obtain ⟨WS, hWS⟩ : ∃ WS, WS = paths N := ⟨_, rfl⟩
  rw [← hWS] at HF HDA HDB hlenA hlenB h132 HW HVA HVB2 HPP HJ1 HJ2 HJ3 hMd
  obtain ⟨la, hla⟩ : ∃ x, x = (dstL a WS WS.length).length := ⟨_, rfl⟩
  obtain ⟨lb, hlb⟩ : ∃ x, x = (dstL b WS WS.length).length := ⟨_, rfl⟩
  have HLA := Lib.hid (show (dstP a N).1.length = la by rw [HDA.out]; exact hla.symm)
  have HLB := Lib.hid (show (dstP b N).1.length = lb by rw [HDB.out]; exact hlb.symm)
  have HTA := Lib.hid (show (dstP a N).2 = true by rw [HDA.out])
  have HTB := Lib.hid (show (dstP b N).2 = true by rw [HDB.out])
  rw [← hla] at HVA hlenA hMd
  rw [← hlb] at HVB2 hlenB hMd
  have hmx : max (la : Int) (lb : Int) = (M : Int) := by omega
  have hM301 : M ≤ 301 := by omega
  have hlaM : la ≤ M := by omega
  have hlbM : lb ≤ M := by omega
  clear hall hin hsa hsb i1 i2 HVB hM hMd hWS hla hlb HDA HDB
  go_enter Try.func19, Try.ntmps19
  go_wp2_with fail
  refine (implDistributionOf_any a _ h0 h6 _).mono ?_
  rintro e w1 ⟨A1, n1, c1, hn1, rfl, hown1, hb1⟩
  have hs1 := hb1.size
  rw [HTA.out]
  rw [HLA.out] at hn1
  subst hn1
  clear hown1
  go_wp2_with fail
  refine (implDistributionOf_any b N h0 h6 _).mono ?_
  rintro e w2 ⟨A2, n2, c2, hn2, rfl, hown2, hb2⟩
  rw [HTB.out]
  rw [HLB.out] at hn2
  subst hn2
  clear hown2
  have hb3 := hb1.trans (hb2.mono hs1)
  clear hb1 hb2
  have hs3 := hb3.size
  have E0 := Lib.hid ((O2.empty w2).mono hs3)
  have hb4 := hb3.alloc hs3 (.cells #[] 29)
  clear hb3
  go_upto_region 5 with fail
  go_cut [12] (fun sM wx => sM = .int .i64 M ∧ wx = w2)
  case first =>
    go_wp2_with fail
    all_goals (go_meet; exact ⟨congrArg (Value.int .i64) (by omega), rfl⟩)
  obtain ⟨rfl, rfl⟩ := hcut
  go_wp2_with fail
  go_loopw [13, 42] (fun tv ix wr => ∃ (t : Nat) (A : Option Addr) (c : Nat) (vs : List Value), t ≤ M ∧ ix = .int .i64 t ∧ tv = .slice A t c ∧ O2 wr w.heap.size A t c vs (zeros M t) ∧ Below w.heap.size w wr) (fun _ ix _ => M - (intOf ix).toNat)
  case atStart => exact ⟨0, _, _, _, Nat.zero_le _, rfl, rfl, E0.out, hb4⟩
  case round =>
    obtain ⟨t, A, c, vs, ht, rfl, rfl, hrows, hb⟩ := hrel
    obtain ⟨w3, rfl⟩ : ∃ W, W = wr := ⟨wr, rfl⟩
    clear E0 hb4
    have HROWS := Lib.hid hrows
    have hs4 := hb.size
    clear hrows
    by_cases hlt : t < M
    · have hmk := mkI M (by omega) w3
      have hbm := (Below.refl w3.heap.size w3).alloc (Nat.le_refl _) (.cells (madeCells #[.int .i64 0] M) 3)
      have HROW := Lib.hid (show Own (w3.alloc (.cells (madeCells #[.int .i64 0] M) 3)) 3 w.heap.size (some ⟨w3.heap.size, 0, none⟩) M M (iv (List.replicate M 0)) by
        have := Own.made w3 3 (.int .i64 0) M (by unfold maxLen; omega)
        rw [iv_rep] at this
        exact this.mono hs4)
      have HRL := Lib.hid (show M = (List.replicate M (0 : Int)).length by simp)
      go_wp2_with (at_builtin; go_loud (refine appRowW _ rfl _ _ rfl w.heap.size A t c vs rfl (((HROWS.out.below hbm).outer.alloc _)) (w3.heap.size + 1) (some ⟨w3.heap.size, 0, none⟩) M M rfl (by simp) (by omega) (by omega) ?_); intro A3 c3 w4 hown3 hgr3 hb4)
      have HP := Lib.hid (HROWS.out.pushxW rfl hbm HROW.out HRL.out _ hgr3 hown3)
      have hbf := (hb.trans ((hbm.mono hs4).alloc (by have := hbm.size; omega) _)).trans hb4
      rw [← zeros_snoc] at HP
      clear hown3 hgr3 hb4 hmk hbm HROW HRL hb hs4
      go_wp2_with fail
      go_roundw
      case rel => exact ⟨t + 1, _, _, _, by omega, by go_num, rfl, HP.out, hbf⟩
      case measure => simp [intOf]; omega
    · obtain rfl : t = M := by omega
      go_wp2_with fail
      refine (HPP.out _).mono ?_
      rintro e w4 ⟨Ap, m, cp, hm, rfl, hown, hb5⟩
      have HM := Lib.hid hm
      have hm132 : m ≤ 132 := by rw [hm]; exact h132
      have T0 := Lib.hid (show Jt w w4 A t c vs (jtL a b WS t 0) Ap m cp WS from ⟨HROWS.out.below hb5, hown.1.mono hs4, hb.trans (hb5.mono hs4)⟩)
      clear hm hown hb5 hb hs4 HROWS
      go_wp2_with fail
      go_loopw [15, 53] (fun _ ix wr => ∃ (j : Nat), j ≤ m ∧ ix = .int .i64 j ∧ Jt w wr A t c vs (jtL a b WS t j) Ap m cp WS) (fun _ ix _ => m - (intOf ix).toNat)
      case atStart => exact ⟨0, Nat.zero_le _, rfl, T0.out⟩
      case round =>
        obtain ⟨j, hj, rfl, ht⟩ := hrel
        obtain ⟨w5, rfl⟩ : ∃ W, W = wr := ⟨wr, rfl⟩
        clear T0
        have T := Lib.hid ht
        have hbs := ht.below.size
        by_cases hjm : j < m
        · obtain ⟨bl, off, x, hA, hx, hc⟩ := ht.inp.rd.ats hjm
          subst hA
          have hxm := List.mem_of_getElem? hx
          obtain ⟨hxd, hxg, hx12⟩ := HW.out x hxm
          obtain ⟨s, hs, hsM⟩ := HVA.out j x hx
          obtain ⟨k, hk, hkM⟩ := HVB2.out j x hx
          have HCA := Lib.hid (fun W => implStatisticOf_any a x W (by omega) (fun _ => hxg))
          have HCB := Lib.hid (fun W => implStatisticOf_any b x W (by omega) (fun _ => hxg))
          rw [hs] at HCA
          rw [hk] at HCB
          have HST := Lib.hid (show jtL a b WS t (j + 1) = upd2 (jtL a b WS t j) s k by rw [HJ3.out j x hx, hs, hk]; rfl)
          obtain ⟨row, hrow⟩ : ∃ r, (jtL a b WS t j)[s]? = some r := ⟨_, List.getElem?_eq_getElem (by have := HJ1.out j; omega)⟩
          obtain ⟨hrl, hrb⟩ := HJ2.out j s row hrow
          have HROW := Lib.hid hrow
          have hst1 : s < t := by omega
          have hkt1 : k < t := by omega
          have j0 : (0 : Int) ≤ (j : Int) := by omega
          have j1 : (j : Int) < (m : Int) := by omega
          have k0 : (0 : Int) ≤ (s : Int) := by omega
          have k1 : (s : Int) < (t : Int) := by omega
          have k2 : (0 : Int) ≤ (k : Int) := by omega
          have k3 : (k : Int) < (t : Int) := by omega
          have hcl : bl < w5.heap.size := World.block_lt_of_cell? _ _ hc
          obtain ⟨g0, Aj, cj, hA, hg0, hg0s, hvj, hcj, hfj, hoj⟩ := ht.o2.head hrow
          subst hA
          rw [hrl] at hcj hoj
          obtain ⟨gt, y, hA, hgt, hgts, hy, hcy, hfy⟩ := hoj.ati hkt1
          subst hA
          have hyb := hrb k
          have hyv : row.getD k 0 = y := by rw [List.getD_eq_getElem?_getD, hy]; rfl
          rw [hyv] at hyb
          have HN := Lib.hid (show jtL a b WS t (j + 1) = (jtL a b WS t j).set s (row.set k (y + 1)) by rw [HST.out, upd2, List.getD_eq_getElem?_getD, hrow]; show _ = _; rw [← hyv]; rfl)
          have HNE := Lib.hid (show gt ≠ g0 from fun e => by subst e; exact own_ne ht.o2.outer hoj (by decide) rfl)
          have HKEEP := Lib.hid (fun (W : World) (v : Value) (h : W.cell? ⟨g0, s, none⟩ = some (.slice (some ⟨gt, 0, none⟩) t cj)) => show (W.setCell ⟨gt, k, none⟩ v).cell? ⟨g0, s, none⟩ = some (.slice (some ⟨gt, 0, none⟩) t cj) from (World.cell?_of_block (w := W) (Below.heap_setCell W ⟨gt, k, none⟩ v g0 (fun e => HNE.out e.symm))).trans h)
          have yw : IntKind.i64.wrap (y + 1) = y + 1 := IntWalk.i64_in _ (by omega)
          clear hx hxm hxd hxg hx12 hs hk hy hoj hyv hrb ht
          go_wp2_with fail
          refine wp_region_held_drew (S := fun w' => w'.cell? ⟨g0, s, none⟩ = some (.slice (some ⟨gt, 0, none⟩) t cj)) (by kernel_rfl) (by exact hcj) (fun hHeld => ?_)
          refine wpAnyH_take (i := 0) (oi := ⟨some 57, _, _, _, _, _⟩) (v := .slice (some ⟨g0, 0, none⟩) t c) rfl (by kernel_rfl) (by kernel_rfl) (by kernel_rfl) (fun _ _ _ h => h) (Or.inl ⟨by rfl, fun w hSw => by (try dsimp only at hSw); first | (go_simp; done) | (go_simp; with_reducible rfl) | (go_simp; rfl)⟩) (by assumption) ?_
          (try simp only [Act.put, List.setIfInBounds_toArray, List.set_cons_zero, List.set_cons_succ])
          refine wpAnyH_take (i := 1) (oi := ⟨some 58, _, _, _, _, _⟩) (v := .string (bs a)) rfl (by kernel_rfl) (by kernel_rfl) (by kernel_rfl) (fun _ _ _ h => h) (Or.inl ⟨by rfl, fun w hSw => by (try dsimp only at hSw); first | (go_simp; done) | (go_simp; with_reducible rfl) | (go_simp; rfl)⟩) (by assumption) ?_
          (try simp only [Act.put, List.setIfInBounds_toArray, List.set_cons_zero, List.set_cons_succ])
          refine wpAnyH_take (i := 2) (oi := ⟨some 59, _, _, _, _, _⟩) (v := .string (bs x)) rfl (by kernel_rfl) (by kernel_rfl) (by kernel_rfl) (fun _ _ _ h => h) (Or.inl ⟨by rfl, fun w hSw => by (try dsimp only at hSw); first | (go_simp; done) | (go_simp; with_reducible rfl) | (go_simp; rfl)⟩) (by assumption) ?_
          (try simp only [Act.put, List.setIfInBounds_toArray, List.set_cons_zero, List.set_cons_succ])
          refine wpAnyH_take (i := 6) (oi := ⟨some 63, _, _, _, _, _⟩) (v := .string (bs b)) rfl (by kernel_rfl) (by kernel_rfl) (by kernel_rfl) (fun _ _ _ h => h) (Or.inl ⟨by rfl, fun w hSw => by (try dsimp only at hSw); first | (go_simp; done) | (go_simp; with_reducible rfl) | (go_simp; rfl)⟩) (by assumption) ?_
          (try simp only [Act.put, List.setIfInBounds_toArray, List.set_cons_zero, List.set_cons_succ])
          refine wpAnyH_take (i := 7) (oi := ⟨some 64, _, _, _, _, _⟩) (v := .string (bs x)) rfl (by kernel_rfl) (by kernel_rfl) (by kernel_rfl) (fun _ _ _ h => h) (Or.inl ⟨by rfl, fun w hSw => by (try dsimp only at hSw); first | (go_simp; done) | (go_simp; with_reducible rfl) | (go_simp; rfl)⟩) (by assumption) ?_
          (try simp only [Act.put, List.setIfInBounds_toArray, List.set_cons_zero, List.set_cons_succ])
          refine wpAnyH_ready (rs := [3]) (by kernel_rfl) (by simp) ?_
          refine AllReadyH.cons (o := ⟨some 60, _, _, _, _, _⟩) rfl (fun K hK => ?_) AllReadyH.nil
          go_simp
          refine (HCA.out _).mono ?_
          rintro e w6 ⟨he, hb6⟩
          subst he
          have hb6' : Below w5.heap.size w5 w6 := ⟨hb6.os, hb6.tape, hb6.output, hb6.size, hb6.block⟩
          have k6 := (hb6'.cell (p := ⟨g0, s, none⟩) hg0s).trans hcj
          refine hK.out _ _ (k6) (fun hHeld => ?_)
          clear hK K
          (try simp only [Act.put, List.setIfInBounds_toArray, List.set_cons_zero, List.set_cons_succ])
          refine wpAnyH_take (i := 4) (oi := ⟨some 61, _, _, _, _, _⟩) (v := .pointer (some ⟨g0, s, none⟩)) rfl (by kernel_rfl) (by kernel_rfl) (by kernel_rfl) (fun _ _ _ h => h) (Or.inl ⟨by rfl, fun w hSw => by (try dsimp only at hSw); first | (go_simp; done) | (go_simp; with_reducible rfl) | (go_simp; rfl)⟩) (by assumption) ?_
          (try simp only [Act.put, List.setIfInBounds_toArray, List.set_cons_zero, List.set_cons_succ])
          refine wpAnyH_take (i := 5) (oi := ⟨some 62, _, _, _, _, _⟩) (v := .slice (some ⟨gt, 0, none⟩) t cj) rfl (by kernel_rfl) (by kernel_rfl) (by kernel_rfl) (fun _ _ _ h => h) (Or.inl ⟨by rfl, fun w hSw => by (try dsimp only at hSw); first | (go_simp; done) | (go_simp; with_reducible rfl) | (go_simp; rfl)⟩) (by assumption) ?_
          (try simp only [Act.put, List.setIfInBounds_toArray, List.set_cons_zero, List.set_cons_succ])
          refine wpAnyH_ready (rs := [8]) (by kernel_rfl) (by simp) ?_
          refine AllReadyH.cons (o := ⟨some 65, _, _, _, _, _⟩) rfl (fun K hK => ?_) AllReadyH.nil
          go_simp
          refine (HCB.out _).mono ?_
          rintro e w7 ⟨he, hb7⟩
          subst he
          have hb7' : Below w6.heap.size w6 w7 := ⟨hb7.os, hb7.tape, hb7.output, hb7.size, hb7.block⟩
          have hb67 := hb6'.trans (hb7'.mono hb6'.size)
          have k7 := (hb67.cell (p := ⟨g0, s, none⟩) hg0s).trans hcj
          have k8 := (hb67.cell (p := ⟨gt, k, none⟩) hgts).trans hcy
          have k9 := (hb67.frozen (p := ⟨gt, k, none⟩) hgts).trans hfy
          refine hK.out _ _ (k7) (fun hHeld => ?_)
          clear hK K
          (try simp only [Act.put, List.setIfInBounds_toArray, List.set_cons_zero, List.set_cons_succ])
          refine wpAnyH_take (i := 9) (oi := ⟨some 66, _, _, _, _, _⟩) (v := .pointer (some ⟨gt, k, none⟩)) rfl (by kernel_rfl) (by kernel_rfl) (by kernel_rfl) (fun _ _ _ h => h) (Or.inl ⟨by rfl, fun w hSw => by (try dsimp only at hSw); first | (go_simp; done) | (go_simp; with_reducible rfl) | (go_simp; rfl)⟩) (by assumption) ?_
          (try simp only [Act.put, List.setIfInBounds_toArray, List.set_cons_zero, List.set_cons_succ])
          refine wpAnyH_ready (rs := [10]) (by kernel_rfl) (by simp) ?_
          refine AllReadyH.cons (o := ⟨some 67, _, _, _, _, _⟩) rfl (fun K hK => ?_) AllReadyH.nil
          go_simp
          refine hK.out _ _ (k7) (fun hHeld => ?_)
          clear hK K
          (try simp only [Act.put, List.setIfInBounds_toArray, List.set_cons_zero, List.set_cons_succ])
          refine wpAnyH_take (i := 11) (oi := ⟨some 68, _, _, _, _, _⟩) (v := .int .i64 (y + 1)) rfl (by kernel_rfl) (by kernel_rfl) (by kernel_rfl) (fun _ _ _ h => h) (Or.inl ⟨by rfl, fun w hSw => by (try dsimp only at hSw); first | (go_simp; done) | (go_simp; with_reducible rfl) | (go_simp; rfl)⟩) (by assumption) ?_
          (try simp only [Act.put, List.setIfInBounds_toArray, List.set_cons_zero, List.set_cons_succ])
          refine wpAnyH_take (i := 12) (oi := ⟨some 69, _, _, _, _, _⟩) (v := .pointer (some ⟨gt, k, none⟩)) rfl (by kernel_rfl) (by kernel_rfl) (by kernel_rfl) (fun _ _ _ h => h) (Or.inl ⟨by rfl, fun w hSw => by (try dsimp only at hSw); first | (go_simp; done) | (go_simp; with_reducible rfl) | (go_simp; rfl)⟩) (by assumption) ?_
          (try simp only [Act.put, List.setIfInBounds_toArray, List.set_cons_zero, List.set_cons_succ])
          refine wpAnyH_ready (rs := [13]) (by kernel_rfl) (by simp) ?_
          refine AllReadyH.cons (o := ⟨none, _, _, _, _, _⟩) rfl (fun K hK => ?_) AllReadyH.nil
          go_simp
          refine hK.out _ _ (HKEEP.out _ _ k7) (fun hHeld => ?_)
          clear hK K
          (try simp only [Act.put, List.setIfInBounds_toArray, List.set_cons_zero, List.set_cons_succ])
          refine wpAnyH_done (by kernel_rfl) ?_ _
          go_wp2_with fail
          go_roundw
          case rel => exact ⟨j + 1, by omega, by go_num, by rw [HN.out]; exact (T.out.by_ hb67).put HROW.out hvj hgt⟩
          case measure => simp [intOf]; omega
        · obtain rfl : j = m := by omega
          have HE := Lib.hid (show jtL a b WS t WS.length = jtL a b WS t j by rw [HM.out])
          have HLN := Lib.hid (HJ1.out j)
          clear ht
          go_wp2_with fail
          go_ret2
          rw [HF.out, HE.out]
          exact ⟨A, t, c, vs, HLN.out.symm, rfl, T.out.o2, T.out.below⟩

end Go.Proofs.Yteiffomekjadgaa
