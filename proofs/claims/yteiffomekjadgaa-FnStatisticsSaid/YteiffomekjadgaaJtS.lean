/- JointTable of the reference. -/
import Derived.Test.YteiffomekjadgaaJt
namespace Go.Proofs.Yteiffomekjadgaa
set_option linter.unusedVariables false
open Go.RowKit

set_option maxRecDepth 20000 in
set_option maxHeartbeats 8000000 in
theorem specJointTable_any (a b : List UInt8) (n : Int) (h0 : -1 ≤ n) (h6 : n ≤ 6) (w : World) : Calls Try.prog 20 #[.string (bs a), .string (bs b), .int .i64 n] w (RetRB w (jtP a b n).1 (jtP a b n).2) := by
  unfold RetRB
  rcases hall : (inB n 0 6 && hasB snames a && hasB snames b) with _ | _
  · have HF := Lib.hid (show jtP a b n = ([], false) by unfold jtP; rw [hall]; rfl)
    have HAB := Lib.hid (show ((dstP a n).2 && (dstP b n).2) = false by
      unfold dstP
      rcases ha : inB n 0 6 with _ | _ <;> rcases hb : hasB snames a with _ | _ <;> rcases hc : hasB snames b with _ | _ <;> rw [ha, hb, hc] at hall <;> first | rfl | cases hall)
    obtain ⟨ba, hba⟩ : ∃ x, x = (dstP a n).2 := ⟨_, rfl⟩
    obtain ⟨bb, hbb⟩ : ∃ x, x = (dstP b n).2 := ⟨_, rfl⟩
    rw [← hba, ← hbb] at HAB
    have HBA := Lib.hid hba.symm
    have HBB := Lib.hid hbb.symm
    clear hall hba hbb
    go_enter Try.func20, Try.ntmps20
    go_wp2_with fail
    refine (specDistributionOf_any a _ h0 h6 _).mono ?_
    rintro e w1 ⟨A1, n1, c1, hn1, rfl, hown1, hb1⟩
    have hs1 := hb1.size
    rw [HBA.out]
    clear hown1 hn1
    go_wp2_with fail
    refine (specDistributionOf_any b n h0 h6 _).mono ?_
    rintro e w2 ⟨A2, n2, c2, hn2, rfl, hown2, hb2⟩
    rw [HBB.out]
    clear hown2 hn2
    have hb3 := hb1.trans (hb2.mono hs1)
    clear hb1 hb2
    have hs3 := hb3.size
    have E0 := Lib.hid ((O2.empty w2).mono hs3)
    rcases ba with _ | _
    · go_wp2_with fail
      go_ret2
      rw [HF.out]
      exact ⟨_, 0, 0, _, rfl, rfl, E0.out, hb3.alloc hs3 _⟩
    rcases bb with _ | _
    · go_wp2_with fail
      go_ret2
      rw [HF.out]
      exact ⟨_, 0, 0, _, rfl, rfl, E0.out, hb3.alloc hs3 _⟩
    · exact absurd HAB.out (by decide)
  have hall2 := hall
  rw [Bool.and_eq_true, Bool.and_eq_true] at hall2
  obtain ⟨⟨hin, hsa⟩, hsb⟩ := hall2
  obtain ⟨i1, i2⟩ := inB_iff.1 hin
  obtain ⟨N, rfl⟩ := Int.eq_ofNat_of_zero_le i1
  have hN : N ≤ 6 := by omega
  have HF := Lib.hid (show jtP a b N = (jtL a b (paths N) (jtM a b N) (paths N).length, true) by unfold jtP; rw [hall, Int.toNat_natCast]; rfl)
  have HDA := Lib.hid (show dstP a N = (dstL a (paths N) (paths N).length, true) by unfold dstP; rw [hin, hsa, Int.toNat_natCast]; rfl)
  have HDB := Lib.hid (show dstP b N = (dstL b (paths N) (paths N).length, true) by unfold dstP; rw [hin, hsb, Int.toNat_natCast]; rfl)
  have hlenA := dst_len a N
  have hlenB := dst_len b N
  rw [HDA.out] at hlenA
  rw [HDB.out] at hlenB
  have h132 := paths_n132 N (by omega)
  have HW := Lib.hid (fun x (hx : x ∈ paths N) => paths_wd hN hx)
  have HVB := Lib.hid (fun (f : List UInt8) (hf : hasB snames f = true) (j : Nat) (x : List UInt8) (hx : (paths N)[j]? = some x) => show ∃ K : Nat, sttB f x = (K : Int) ∧ K < (dstL f (paths N) (paths N).length).length by
    have hd := (paths_wd hN (List.mem_of_getElem? hx)).1
    have h1 := dst_lt (f := f) hx
    have h2 := stN_nn hd (of_decide_eq_true hf)
    have h3 := sttB_dyck (f := f) hd
    exact ⟨(sttB f x).toNat, by omega, h1⟩)
  have HVA := Lib.hid (HVB.out a hsa)
  have HVB2 := Lib.hid (HVB.out b hsb)
  have HPP := Lib.hid (fun W => specPathsOf_any N W hN)
  have HJ1 := Lib.hid (jtL_len a b (paths N) (jtM a b N))
  have HJ2 := Lib.hid (jtL_row a b (paths N) (jtM a b N))
  have HJ3 := Lib.hid (fun j x (hx : (paths N)[j]? = some x) => jtL_step (a := a) (b := b) (M := jtM a b N) hx)
  obtain ⟨M, hM⟩ : ∃ M, M = jtM a b N := ⟨_, rfl⟩
  have hMd : M = max (dstL a (paths N) (paths N).length).length (dstL b (paths N) (paths N).length).length := hM
  rw [← hM] at HF HJ1 HJ2 HJ3
  obtain ⟨WS, hWS⟩ : ∃ WS, WS = paths N := ⟨_, rfl⟩
  rw [← hWS] at HF HDA HDB hlenA hlenB h132 HW HVA HVB2 HPP HJ1 HJ2 HJ3 hMd
  obtain ⟨la, hla⟩ : ∃ x, x = (dstL a WS WS.length).length := ⟨_, rfl⟩
  obtain ⟨lb, hlb⟩ : ∃ x, x = (dstL b WS WS.length).length := ⟨_, rfl⟩
  have HLA := Lib.hid (show (dstP a N).1.length = la by rw [HDA.out]; exact hla.symm)
  have HLB := Lib.hid (show (dstP b N).1.length = lb by rw [HDB.out]; exact hlb.symm)
  have HTA := Lib.hid (show (dstP a N).2 = true by rw [HDA.out])
  have HTB := Lib.hid (show (dstP b N).2 = true by rw [HDB.out])
  rw [← hla] at HVA hlenA hMd
  rw [← hlb] at HVB2 hlenB hMd
  have hmx : max (la : Int) (lb : Int) = (M : Int) := by omega
  have hM301 : M ≤ 301 := by omega
  have hlaM : la ≤ M := by omega
  have hlbM : lb ≤ M := by omega
  clear hall hin hsa hsb i1 i2 HVB hM hMd hWS hla hlb HDA HDB
  go_enter Try.func20, Try.ntmps20
  go_wp2_with fail
  refine (specDistributionOf_any a _ h0 h6 _).mono ?_
  rintro e w1 ⟨A1, n1, c1, hn1, rfl, hown1, hb1⟩
  have hs1 := hb1.size
  rw [HTA.out]
  rw [HLA.out] at hn1
  subst hn1
  clear hown1
  go_wp2_with fail
  refine (specDistributionOf_any b N h0 h6 _).mono ?_
  rintro e w2 ⟨A2, n2, c2, hn2, rfl, hown2, hb2⟩
  rw [HTB.out]
  rw [HLB.out] at hn2
  subst hn2
  clear hown2
  have hb3 := hb1.trans (hb2.mono hs1)
  clear hb1 hb2
  have hs3 := hb3.size
  have E0 := Lib.hid ((O2.empty w2).mono hs3)
  have hb4 := hb3.alloc hs3 (.cells #[] 29)
  clear hb3
  go_upto_region 6 with fail
  go_cut [13] (fun sM wx => sM = .int .i64 M ∧ wx = w2.alloc (.cells #[] 29))
  case first =>
    go_wp2_with fail
    all_goals (go_meet; exact ⟨congrArg (Value.int .i64) (by omega), rfl⟩)
  obtain ⟨rfl, rfl⟩ := hcut
  go_wp2_with fail
  go_loopw [12, 14] (fun tv ix wr => ∃ (t : Nat) (A : Option Addr) (c : Nat) (vs : List Value), t ≤ M ∧ ix = .int .i64 t ∧ tv = .slice A t c ∧ O2 wr w.heap.size A t c vs (zeros M t) ∧ Below w.heap.size w wr) (fun _ ix _ => M - (intOf ix).toNat)
  case atStart => exact ⟨0, _, _, _, Nat.zero_le _, rfl, rfl, E0.out, hb4⟩
  case round =>
    obtain ⟨t, A, c, vs, ht, rfl, rfl, hrows, hb⟩ := hrel
    obtain ⟨w3, rfl⟩ : ∃ W, W = wr := ⟨wr, rfl⟩
    clear E0 hb4
    have HROWS := Lib.hid hrows
    have hs4 := hb.size
    clear hrows
    by_cases hlt : t < M
    · have hmk := mkI M (by omega) w3
      have hbm := (Below.refl w3.heap.size w3).alloc (Nat.le_refl _) (.cells (madeCells #[.int .i64 0] M) 3)
      have HROW := Lib.hid (show Own (w3.alloc (.cells (madeCells #[.int .i64 0] M) 3)) 3 w.heap.size (some ⟨w3.heap.size, 0, none⟩) M M (iv (List.replicate M 0)) by
        have := Own.made w3 3 (.int .i64 0) M (by unfold maxLen; omega)
        rw [iv_rep] at this
        exact this.mono hs4)
      have HRL := Lib.hid (show M = (List.replicate M (0 : Int)).length by simp)
      go_wp2_with (at_builtin; go_loud (refine appRowW _ rfl _ _ rfl w.heap.size A t c vs rfl (((HROWS.out.below hbm).outer.alloc _)) (w3.heap.size + 1) (some ⟨w3.heap.size, 0, none⟩) M M rfl (by simp) (by omega) (by omega) ?_); intro A3 c3 w4 hown3 hgr3 hb4)
      have HP := Lib.hid (HROWS.out.pushxW rfl hbm HROW.out HRL.out _ hgr3 hown3)
      have hbf := (hb.trans ((hbm.mono hs4).alloc (by have := hbm.size; omega) _)).trans hb4
      rw [← zeros_snoc] at HP
      clear hown3 hgr3 hb4 hmk hbm HROW HRL hb hs4
      go_wp2_with fail
      go_roundw
      case rel => exact ⟨t + 1, _, _, _, by omega, by go_num, rfl, HP.out, hbf⟩
      case measure => simp [intOf]; omega
    · obtain rfl : t = M := by omega
      go_wp2_with fail
      refine (HPP.out _).mono ?_
      rintro e w4 ⟨Ap, m, cp, hm, rfl, hown, hb5⟩
      have HM := Lib.hid hm
      have hm132 : m ≤ 132 := by rw [hm]; exact h132
      have T0 := Lib.hid (show Jt w w4 A t c vs (jtL a b WS t 0) Ap m cp WS from ⟨HROWS.out.below hb5, hown.1.mono hs4, hb.trans (hb5.mono hs4)⟩)
      clear hm hown hb5 hb hs4 HROWS
      go_wp2_with fail
      go_loopw [16, 17, 18] (fun ix _ _ wr => ∃ (j : Nat), j ≤ m ∧ ix = .int .i64 j ∧ Jt w wr A t c vs (jtL a b WS t j) Ap m cp WS) (fun ix _ _ _ => m - (intOf ix).toNat)
      case atStart => exact ⟨0, Nat.zero_le _, rfl, T0.out⟩
      case round =>
        obtain ⟨j, hj, rfl, ht⟩ := hrel
        obtain ⟨w5, rfl⟩ : ∃ W, W = wr := ⟨wr, rfl⟩
        clear T0
        have T := Lib.hid ht
        have hbs := ht.below.size
        by_cases hjm : j < m
        · obtain ⟨bl, off, x, hA, hx, hc⟩ := ht.inp.rd.ats hjm
          subst hA
          have hxm := List.mem_of_getElem? hx
          obtain ⟨hxd, hxg, hx12⟩ := HW.out x hxm
          obtain ⟨s, hs, hsM⟩ := HVA.out j x hx
          obtain ⟨k, hk, hkM⟩ := HVB2.out j x hx
          have HCA := Lib.hid (fun W => specStatisticOf_any a x W (by omega) (fun _ => hxg))
          have HCB := Lib.hid (fun W => specStatisticOf_any b x W (by omega) (fun _ => hxg))
          rw [hs] at HCA
          rw [hk] at HCB
          have HST := Lib.hid (show jtL a b WS t (j + 1) = upd2 (jtL a b WS t j) s k by rw [HJ3.out j x hx, hs, hk]; rfl)
          obtain ⟨row, hrow⟩ : ∃ r, (jtL a b WS t j)[s]? = some r := ⟨_, List.getElem?_eq_getElem (by have := HJ1.out j; omega)⟩
          obtain ⟨hrl, hrb⟩ := HJ2.out j s row hrow
          have HROW := Lib.hid hrow
          have hst1 : s < t := by omega
          have hkt1 : k < t := by omega
          have j0 : (0 : Int) ≤ (j : Int) := by omega
          have j1 : (j : Int) < (m : Int) := by omega
          have k0 : (0 : Int) ≤ (s : Int) := by omega
          have k1 : (s : Int) < (t : Int) := by omega
          have k2 : (0 : Int) ≤ (k : Int) := by omega
          have k3 : (k : Int) < (t : Int) := by omega
          have hcl : bl < w5.heap.size := World.block_lt_of_cell? _ _ hc
          clear hx hxm hxd hxg hx12 hs hk ht hrow
          go_wp2_with fail
          refine (HCA.out _).mono ?_
          rintro e w6 ⟨rfl, hb6⟩
          have T6 := Lib.hid (T.out.by_ hb6)
          have hc6 : w6.cell? ⟨bl, off + j, none⟩ = some (.string (bs x)) := (hb6.cell (p := ⟨bl, off + j, none⟩) hcl).trans hc
          have hcl6 : bl < w6.heap.size := Nat.lt_of_lt_of_le hcl hb6.size
          clear hb6
          go_wp2_with fail
          refine (HCB.out _).mono ?_
          rintro e w7 ⟨rfl, hb7⟩
          have T7 := Lib.hid (T6.out.by_ hb7)
          clear hb7 hc hc6 hcl hcl6
          obtain ⟨g0, Aj, cj, hA, hg0, hg0s, hvj, hcj, hfj, hoj⟩ := T7.out.o2.head HROW.out
          subst hA
          rw [hrl] at hcj hoj
          obtain ⟨gt, y, hA, hgt, hgts, hy, hcy, hfy⟩ := hoj.ati hkt1
          subst hA
          have hyb := hrb k
          have hyv : row.getD k 0 = y := by rw [List.getD_eq_getElem?_getD, hy]; rfl
          rw [hyv] at hyb
          have HN := Lib.hid (show jtL a b WS t (j + 1) = (jtL a b WS t j).set s (row.set k (y + 1)) by rw [HST.out, upd2, List.getD_eq_getElem?_getD, HROW.out]; show _ = _; rw [← hyv]; rfl)
          have T8 := Lib.hid (T7.out.put (t := k) (x := y + 1) HROW.out hvj hgt)
          rw [← HN.out] at T8
          clear hy hoj hvj hyv hrb HN
          go_wp2_with fail
          go_still_tail 14, (by kernel_rfl)
          change wpList _ _ _ _ _ w7.drew
          go_wp2_with fail
          go_roundw
          case rel => exact ⟨j + 1, by omega, by go_num, T8.out.drew⟩
          case measure => simp [intOf]; omega
        · obtain rfl : j = m := by omega
          have HE := Lib.hid (show jtL a b WS t WS.length = jtL a b WS t j by rw [HM.out])
          have HLN := Lib.hid (HJ1.out j)
          clear ht
          go_wp2_with fail
          go_ret2
          rw [HF.out, HE.out]
          exact ⟨A, t, c, vs, HLN.out.symm, rfl, T.out.o2, T.out.below⟩

end Go.Proofs.Yteiffomekjadgaa
