/- laws.FnRotations returns true at every input. -/
import Derived.Test.YtiebaoglcdbopaaDrawT
import Derived.Test.YtiebaoglcdbopaaRtL
import Derived.Test.YtiebaoglcdbopaaNbI
import Derived.Test.YtiebaoglcdbopaaNbS
import Derived.Test.YtiebaoglcdbopaaRotI
import Derived.Test.YtiebaoglcdbopaaRotS
import Derived.Test.YtiebaoglcdbopaaTamI
import Derived.Test.YtiebaoglcdbopaaWtI2
import Derived.Test.YtiebaoglcdbopaaSameW
import Derived.Test.YtiebaoglcdbopaaTreeI2
import Derived.Deep.DeepCutAuto
namespace Go.Proofs.Ytiebaoglcdbopaa
set_option linter.unusedVariables false
open Go.RowKit

theorem sb_rr (l : List UInt8) (v : Int) (w : World) (hl : l.length ≤ 1000000000) :
    Calls Try.prog 35 #[.string (bs l), .int .i64 v] w fun e w' => e = .returned (.tuple #[.string (bs (rotRB l v).1), .bool (rotRB l v).2]) ∧ Below w.heap.size w w' :=
  (specRotateRight_any l v w hl).mono fun _ _ ⟨h, hk⟩ => ⟨h, below_of_drewN hk⟩
theorem sb_rl (l : List UInt8) (v : Int) (w : World) (hl : l.length ≤ 1000000000) :
    Calls Try.prog 37 #[.string (bs l), .int .i64 v] w fun e w' => e = .returned (.tuple #[.string (bs (rotLB l v).1), .bool (rotLB l v).2]) ∧ Below w.heap.size w w' :=
  (specRotateLeft_any l v w hl).mono fun _ _ ⟨h, hk⟩ => ⟨h, below_of_drewN hk⟩
theorem sb_lc (n : Int) (w : World) :
    Calls Try.prog 55 #[.int .i64 n] w fun e w' => e = .returned (.tuple #[.string (bs (lcB n).1), .bool (lcB n).2]) ∧ Below w.heap.size w w' :=
  (specLeftComb_any n w).mono fun _ _ ⟨h, hk⟩ => ⟨h, below_of_drewN hk⟩
theorem sb_cr (l : List UInt8) (w : World) (hl : l.length ≤ 1000000000) :
    Calls Try.prog 58 #[.string (bs l)] w fun e w' => e = .returned (.int .i64 (crB l)) ∧ Below w.heap.size w w' :=
  (specCountRight_any l w hl).mono fun _ _ ⟨h, hk⟩ => ⟨h, below_of_drewN hk⟩
theorem sb_rc (n : Int) (w : World) :
    Calls Try.prog 53 #[.int .i64 n] w fun e w' => e = .returned (.tuple #[.string (bs (rcB n).1), .bool (rcB n).2]) ∧ Below w.heap.size w w' :=
  (specRightComb_any n w).mono fun _ _ ⟨h, hk⟩ => ⟨h, by rw [← hk]; exact Below.refl _ _⟩
theorem sb_is (l : List UInt8) (w : World) (hl : l.length ≤ 1000000000) :
    Calls Try.prog 43 #[.string (bs l)] w fun e w' => e = .returned (.bool (isB l)) ∧ Below w.heap.size w w' :=
  (specIsBinary_any l w hl).mono fun _ _ ⟨h, hk⟩ => ⟨h, by rw [← hk]; exact Below.refl _ _⟩
theorem sb_no (l : List UInt8) (w : World) (hl : l.length ≤ 1000000000) :
    Calls Try.prog 13 #[.string (bs l)] w fun e w' => e = .returned (.int .i64 (nodesB l)) ∧ Below w.heap.size w w' :=
  (specNodesOf_any l w hl).mono fun _ _ ⟨h, hk⟩ => ⟨h, by rw [← hk]; exact Below.refl _ _⟩
theorem sb_na (l : List UInt8) (v : Int) (w : World) (hl : l.length ≤ 1000000000) :
    Calls Try.prog 50 #[.string (bs l), .int .i64 v] w fun e w' => e = .returned (.tuple #[.string (bs (nodeAtB l v).1), .bool (nodeAtB l v).2]) ∧ Below w.heap.size w w' :=
  (specNodeAt_any l v w hl).mono fun _ _ ⟨h, hk⟩ => ⟨h, by rw [← hk]; exact Below.refl _ _⟩

set_option maxRecDepth 100000 in
set_option maxHeartbeats 16000000 in
theorem walk_FnRotations (a0 : Option Addr) (len0 cap0 : Nat) (z0 : List Int) (w : World) (w0 : IsRow .u8 w a0 len0 cap0 z0) :
    Calls Try.prog 4 #[.slice a0 len0 cap0] w fun e w' => e = .returned (.bool true) ∧ Below w.heap.size w w' := by
  have v0 := w0.len_leu
  obtain ⟨hrd, hzb⟩ := w0.rdu
  by_cases q0 : len0 ≤ 1048576
  case neg =>
    go_enter Try.func4, Try.ntmps4
    go_wp2_with fail
    refine (big_yes _ _ _ _ (by omega)).mono ?_
    rintro e w' ⟨rfl, rfl⟩
    go_wp2_with fail
    go_ret
    exact ⟨rfl, Below.refl _ _⟩
  have hn9 : len0 ≤ 1000000000 := by omega
  have HR := Lib.hid hrd
  have HZ := Lib.hid hzb
  have HB := Lib.hid (Below.refl w.heap.size w)
  clear hrd hzb w0 v0
  go_enter Try.func4, Try.ntmps4
  go_wp2_with fail
  refine (big_no _ _ _ _ q0).mono ?_
  rintro e w' ⟨rfl, rfl⟩
  go_wp2_with fail
  refine (DrawRotateRight_any _ _ _ _ _ HR.out hn9 HZ.out).mono ?_
  rintro e w1 ⟨l, v, hl, hv1, hv2, rfl, hb⟩
  replace HB := Lib.hid (HB.out.trans (hb.mono HB.out.size))
  replace HR := Lib.hid (HR.out.below hb)
  have hl9 : l.length ≤ 1000000000 := by omega
  clear hb
  obtain ⟨x, is, hx⟩ : ∃ x is, rotRB l v = (x, is) := ⟨_, _, rfl⟩
  obtain ⟨z, one, hz⟩ : ∃ x is, rotLB l v = (x, is) := ⟨_, _, rfl⟩
  have HX := Lib.hid hx
  have HZZ := Lib.hid hz
  clear hx hz
  go_wp2_with fail
  refine (implRotateRight_any l v _ hl9 (by omega)).mono ?_
  rintro e w2 ⟨rfl, hb⟩
  replace HB := Lib.hid (HB.out.trans (hb.mono HB.out.size))
  replace HR := Lib.hid (HR.out.below hb)
  rw [HX.out]
  clear hb
  go_wp2_with fail
  refine (sb_rr l v _ hl9).mono ?_
  rintro e w3 ⟨rfl, hb⟩
  replace HB := Lib.hid (HB.out.trans (hb.mono HB.out.size))
  replace HR := Lib.hid (HR.out.below hb)
  rw [HX.out]
  clear hb
  go_wp2_with fail
  refine (implRotateLeft_any l v _ hl9 (by omega)).mono ?_
  rintro e w4 ⟨rfl, hb⟩
  replace HB := Lib.hid (HB.out.trans (hb.mono HB.out.size))
  replace HR := Lib.hid (HR.out.below hb)
  rw [HZZ.out]
  clear hb
  go_wp2_with fail
  refine (sb_rl l v _ hl9).mono ?_
  rintro e w5 ⟨rfl, hb⟩
  replace HB := Lib.hid (HB.out.trans (hb.mono HB.out.size))
  replace HR := Lib.hid (HR.out.below hb)
  rw [HZZ.out]
  clear hb
  have e1 : (x != x) = false := by simp
  have e2 : (z != z) = false := by simp
  have e5 : (is != is) = false := by simp
  have e6 : (one != one) = false := by simp
  go_upto_if 89 with fail
  go_cut [13] (fun s13 wx => Rd wx a0 len0 (uv (z0.take len0)) ∧ Below w.heap.size w wx)
  case first => as_aux_lemma =>
    rcases is with _ | _
    · go_wp2_with fail
      go_meet
      exact ⟨HR.out, HB.out⟩
    · skip
      have HRR := Lib.hid (show RR l x by have h := rr_of (l := l) (v := v) (by rw [HX.out]); rw [HX.out] at h; exact h)
      have hx9 : x.length ≤ 1000000000 := by have := HRR.out.len; omega
      have e3 := HRR.out.ne
      go_wp2_with fail
      refine (implIsBinary_any x _ hx9).mono ?_
      rintro e w6 ⟨rfl, hb⟩
      replace HB := Lib.hid (HB.out.trans (hb.mono HB.out.size))
      replace HR := Lib.hid (HR.out.below hb)
      rw [HRR.out.bin]
      clear hb
      go_wp2_with fail
      refine (implIsTamariLess_any l x _ hl9 hx9).mono ?_
      rintro e w7 ⟨rfl, hb⟩
      replace HB := Lib.hid (HB.out.trans (hb.mono HB.out.size))
      replace HR := Lib.hid (HR.out.below hb)
      rw [HRR.out.less]
      clear hb
      go_wp2_with fail
      refine (implNeighboursOf_any x _ hx9).mono ?_
      rintro e w8 ⟨Al, nl, cl, hnl, rfl, hol, hb⟩
      replace HB := Lib.hid (HB.out.trans (hb.mono HB.out.size))
      replace HR := Lib.hid (HR.out.below hb)
      have HNR := Lib.hid hol.1.rd
      have HNL := Lib.hid hnl
      have hnl9 : nl ≤ 1000000000 := by rw [hnl]; have := nb_len x; omega
      clear hol hnl
      clear hb
      go_wp2_with fail
      obtain ⟨YS, hYS⟩ : ∃ L, L = nbB x := ⟨_, rfl⟩
      have HMY := Lib.hid (show l ∈ YS by rw [hYS]; exact HRR.out.nb)
      rw [← hYS] at HNR HNL
      clear hYS
      go_loopw [13, 15] (fun fv ix wr => ∃ (i : Nat) (f : Bool), i ≤ nl ∧ ix = .int .i64 i ∧ fv = .bool f ∧ Hid (f = true ↔ l ∈ YS.take i) ∧ Rd wr Al nl (sv YS) ∧ Rd wr a0 len0 (uv (z0.take len0)) ∧ Below w.heap.size w wr) (fun _ ix _ => nl - (intOf ix).toNat)
      case atStart => exact ⟨0, false, Nat.zero_le _, rfl, rfl, Lib.hid (by simp), HNR.out, HR.out, HB.out⟩
      case round =>
        obtain ⟨i, f, hi, rfl, rfl, hf, hcl, hrd, hbl⟩ := hrel
        obtain ⟨wl, rfl⟩ : ∃ W, W = wr := ⟨wr, rfl⟩
        clear HNR HR HB
        have HNR := Lib.hid hcl
        have HR := Lib.hid hrd
        have HB := Lib.hid hbl
        clear hcl hrd hbl
        by_cases hlt : i < nl
        · skip
          obtain ⟨bl, off, y, rfl, hy, hcy⟩ := HNR.out.ats hlt
          have i1 : (0 : Int) ≤ (i : Int) := by omega
          have i2 : (i : Int) < (nl : Int) := by omega
          have HTK := Lib.hid (show YS.take (i + 1) = YS.take i ++ [y] by rw [List.take_add_one, hy]; rfl)
          clear hy
          rcases f with _ | _
          · by_cases hyl : y = l
            · have t1 : (y == l) = true := by rw [beq_iff_eq]; exact hyl
              have HYL := Lib.hid hyl
              clear hyl
              go_wp2_with fail
              go_roundw
              case rel => exact ⟨i + 1, true, by omega, by go_num, rfl, Lib.hid (by rw [HTK.out, HYL.out]; simp), HNR.out, HR.out, HB.out⟩
              case measure => simp [intOf]; omega
            · have t1 : (y == l) = false := by rw [beq_eq_false_iff_ne]; exact hyl
              have HYL := Lib.hid hyl
              clear hyl
              go_wp2_with fail
              go_roundw
              case rel => exact ⟨i + 1, false, by omega, by go_num, rfl, Lib.hid (by rw [HTK.out, List.mem_append, ← hf.out]; simp; exact fun h => HYL.out h.symm), HNR.out, HR.out, HB.out⟩
              case measure => simp [intOf]; omega
          · go_wp2_with fail
            go_roundw
            case rel => exact ⟨i + 1, true, by omega, by go_num, rfl, Lib.hid (by rw [HTK.out, List.mem_append, ← hf.out]; simp), HNR.out, HR.out, HB.out⟩
            case measure => simp [intOf]; omega
        · skip
          obtain rfl : f = true := hf.out.2 (by rw [List.take_of_length_le (by have := HNL.out; omega)]; exact HMY.out)
          clear hf HNR
          go_wp2_with fail
          go_meet
          exact ⟨HR.out, HB.out⟩
  clear HR HB e1 e2 e5 e6
  obtain ⟨hrd, hbl⟩ := hcut
  have HR := Lib.hid hrd
  have HB := Lib.hid hbl
  clear hrd hbl
  go_upto_region 21 with fail
  go_cut [129] (fun s129 wx => s129 = .bool false ∧ Rd wx a0 len0 (uv (z0.take len0)) ∧ Below w.heap.size w wx)
  case first => as_aux_lemma =>
    rcases one with _ | _
    · go_wp2_with fail
      go_meet
      exact ⟨rfl, HR.out, HB.out⟩
    · skip
      have HRL := Lib.hid (show tlessB z l = true by have h := (rl_of (l := l) (v := v) (by rw [HZZ.out])).1; rw [HZZ.out] at h; exact h)
      have hz9 : z.length ≤ 1000000000 := by have h := (rl_of (l := l) (v := v) (by rw [HZZ.out])).2; rw [HZZ.out] at h; have h2 : z.length ≤ 1000 := h; omega
      go_wp2_with fail
      refine (implIsTamariLess_any z l _ hz9 hl9).mono ?_
      rintro e w9 ⟨rfl, hb⟩
      replace HB := Lib.hid (HB.out.trans (hb.mono HB.out.size))
      replace HR := Lib.hid (HR.out.below hb)
      rw [HRL.out]
      clear hb
      go_wp2_with fail
      go_meet
      exact ⟨rfl, HR.out, HB.out⟩
  clear HR HB
  obtain ⟨rfl, hrd, hbl⟩ := hcut
  have HR := Lib.hid hrd
  have HB := Lib.hid hbl
  clear hrd hbl
  go_wp2_with fail
  refine (implWeightsOf_any l _ hl9).mono ?_
  rintro e w10 ⟨Aw, nw, cw, hnw, rfl, how, hb⟩
  replace HB := Lib.hid (HB.out.trans (hb.mono HB.out.size))
  replace HR := Lib.hid (HR.out.below hb)
  have HW := Lib.hid how.rd
  have HNW := Lib.hid hnw
  have hnw9 : nw ≤ 1000000000 := by rw [hnw]; have := wtsB_len l; omega
  clear how hnw
  clear hb
  go_wp2_with fail
  refine (specWeightsOf_any l _ hl9).mono ?_
  rintro e w11 ⟨Ax, nx, cx, hnx, rfl, hox, hb⟩
  replace HB := Lib.hid (HB.out.trans (hb.mono HB.out.size))
  replace HR := Lib.hid (HR.out.below hb)
  replace HW := Lib.hid (HW.out.below hb)
  have HV := Lib.hid hox.rd
  obtain rfl : nw = nx := by rw [hnx]; exact HNW.out
  clear hox hnx
  clear hb
  go_wp2_with fail
  refine (sameInts_eq _ _ _ _ _ (wtsB l) _ HW.out HV.out hnw9).mono ?_
  rintro e w12 ⟨rfl, hb⟩
  replace HB := Lib.hid (HB.out.trans (hb.mono HB.out.size))
  replace HR := Lib.hid (HR.out.below hb)
  replace HW := Lib.hid (HW.out.below hb)
  clear HV
  clear hb
  go_wp2_with fail
  refine (sb_is l _ hl9).mono ?_
  rintro e w13 ⟨rfl, hb⟩
  replace HB := Lib.hid (HB.out.trans (hb.mono HB.out.size))
  replace HR := Lib.hid (HR.out.below hb)
  replace HW := Lib.hid (HW.out.below hb)
  clear hb
  obtain ⟨bi, hbi⟩ : ∃ b, b = isB l := ⟨_, rfl⟩
  rw [← hbi]
  have HBQ := Lib.hid hbi.symm
  clear hbi
  go_upto_if 138 with fail
  go_cut [17] (fun s17 wx => Rd wx a0 len0 (uv (z0.take len0)) ∧ Below w.heap.size w wx)
  case first => as_aux_lemma =>
    rcases bi with _ | _
    · go_wp2_with fail
      go_meet
      exact ⟨HR.out, HB.out⟩
    · skip
      obtain ⟨N, hbi⟩ := bi_of HBQ.out
      have HBI := Lib.hid hbi
      have hN8 := hbi.n8
      clear hbi
      go_wp2_with fail
      refine (implBinaryOfWeights_any _ _ _ (wtsB l) _ HW.out hnw9).mono ?_
      rintro e w14 ⟨rfl, hb⟩
      replace HB := Lib.hid (HB.out.trans (hb.mono HB.out.size))
      replace HR := Lib.hid (HR.out.below hb)
      replace HW := Lib.hid (HW.out.below hb)
      rw [HBI.out.back]
      clear hb
      go_wp2_with fail
      have e3 : (l != l) = false := by simp
      have ux : IntKind.i64.wrap ((N : Int) - 1) = (N : Int) - 1 := IntWalk.i64_in _ (by omega)
      have hcr := HBI.out.cr
      have hcl := crB_lo l
      obtain ⟨C, hC⟩ : ∃ C, C = crB l := ⟨_, rfl⟩
      rw [← hC] at hcr hcl
      have HC := Lib.hid hC.symm
      clear hC
      refine (sb_no l _ hl9).mono ?_
      rintro e w15 ⟨rfl, hb⟩
      replace HB := Lib.hid (HB.out.trans (hb.mono HB.out.size))
      replace HR := Lib.hid (HR.out.below hb)
      replace HW := Lib.hid (HW.out.below hb)
      rw [HBI.out.nod]
      clear hb
      by_cases hN : 0 < N
      · skip
        have i3 : (0 : Int) < (N : Int) := by omega
        go_wp2_with fail
        refine (implNeighboursOf_any l _ hl9).mono ?_
        rintro e w16 ⟨Ag, ng, cg, hng, rfl, hog, hb⟩
        replace HB := Lib.hid (HB.out.trans (hb.mono HB.out.size))
        replace HR := Lib.hid (HR.out.below hb)
        replace HW := Lib.hid (HW.out.below hb)
        have hng2 : ng = N - 1 := by rw [hng]; exact HBI.out.cnt hN
        have i4 : (ng : Int) = (N : Int) - 1 := by omega
        have e4 : ((ng : Int) != ((N : Int) - 1)) = false := by rw [i4]; simp
        have HI4 := Lib.hid i4
        clear hng hog i4 hng2
        clear hb
        go_wp2_with fail
        refine (implCountRight_any l _ hl9).mono ?_
        rintro e w17 ⟨rfl, hb⟩
        replace HB := Lib.hid (HB.out.trans (hb.mono HB.out.size))
        replace HR := Lib.hid (HR.out.below hb)
        replace HW := Lib.hid (HW.out.below hb)
        rw [HC.out]
        clear hb
        go_wp2_with fail
        go_meet
        exact ⟨HR.out, HB.out⟩
      · skip
        have i3 : ¬ ((0 : Int) < (N : Int)) := by omega
        go_wp2_with fail
        refine (implCountRight_any l _ hl9).mono ?_
        rintro e w18 ⟨rfl, hb⟩
        replace HB := Lib.hid (HB.out.trans (hb.mono HB.out.size))
        replace HR := Lib.hid (HR.out.below hb)
        replace HW := Lib.hid (HW.out.below hb)
        rw [HC.out]
        clear hb
        go_wp2_with fail
        go_meet
        exact ⟨HR.out, HB.out⟩
  clear HR HB HW
  obtain ⟨hrd, hbl⟩ := hcut
  have HR := Lib.hid hrd
  have HB := Lib.hid hbl
  clear hrd hbl
  as_aux_lemma =>
    go_wp2_with fail
    refine (DrawBinaryOfWeights_any _ _ _ _ _ HR.out hn9 HZ.out).mono ?_
    rintro e w19 ⟨Aa, na, ca, ya, hna, hnc, hca, rfl, hoa, hb⟩
    replace HB := Lib.hid (HB.out.trans (hb.mono HB.out.size))
    replace HR := Lib.hid (HR.out.below hb)
    have HY := Lib.hid hoa.rd
    have hna9 : na ≤ 1000000000 := by omega
    clear hoa
    clear hb
    go_wp2_with fail
    refine (implBinaryOfWeights_any _ _ _ ya _ HY.out hna9).mono ?_
    rintro e w20 ⟨rfl, hb⟩
    replace HB := Lib.hid (HB.out.trans (hb.mono HB.out.size))
    replace HR := Lib.hid (HR.out.below hb)
    replace HY := Lib.hid (HY.out.below hb)
    clear hb
    go_wp2_with fail
    refine (specBinaryOfWeights_any _ _ _ ya _ HY.out hna9 hnc hca).mono ?_
    rintro e w21 ⟨rfl, hb⟩
    replace HB := Lib.hid (HB.out.trans (hb.mono HB.out.size))
    replace HR := Lib.hid (HR.out.below hb)
    replace HY := Lib.hid (HY.out.below hb)
    clear hb
    go_wp2_with fail
    refine (DrawNodeAt_any _ _ _ _ _ HR.out hn9 HZ.out).mono ?_
    rintro e w22 ⟨d, k, hd, hk1, hk2, rfl, hb⟩
    replace HB := Lib.hid (HB.out.trans (hb.mono HB.out.size))
    replace HR := Lib.hid (HR.out.below hb)
    have hd9 : d.length ≤ 1000000000 := by omega
    clear HY
    clear hb
    go_wp2_with fail
    refine (implNodeAt_any d k _ hd9 (by omega)).mono ?_
    rintro e w23 ⟨rfl, hb⟩
    replace HB := Lib.hid (HB.out.trans (hb.mono HB.out.size))
    replace HR := Lib.hid (HR.out.below hb)
    clear hb
    go_wp2_with fail
    refine (sb_na d k _ hd9).mono ?_
    rintro e w24 ⟨rfl, hb⟩
    replace HB := Lib.hid (HB.out.trans (hb.mono HB.out.size))
    replace HR := Lib.hid (HR.out.below hb)
    clear hb
    go_wp2_with fail
    refine (DrawRightComb_any _ _ _ _ _ HR.out hn9 HZ.out).mono ?_
    rintro e w25 ⟨m, hm1, hm2, rfl, hb⟩
    replace HB := Lib.hid (HB.out.trans (hb.mono HB.out.size))
    replace HR := Lib.hid (HR.out.below hb)
    have HLR := Lib.hid (lc_rc m)
    have hlc9 : (lcB m).1.length ≤ 1000000000 := by have := lcB_len m; omega
    have hrc9 : (rcB m).1.length ≤ 1000000000 := by have := rcB_len m; omega
    clear hb
    go_wp2_with fail
    refine (implRightComb_any m _).mono ?_
    rintro e w26 ⟨rfl, hb⟩
    replace HB := Lib.hid (HB.out.trans (hb.mono HB.out.size))
    replace HR := Lib.hid (HR.out.below hb)
    clear hb
    go_wp2_with fail
    refine (sb_rc m _).mono ?_
    rintro e w27 ⟨rfl, hb⟩
    replace HB := Lib.hid (HB.out.trans (hb.mono HB.out.size))
    replace HR := Lib.hid (HR.out.below hb)
    clear hb
    go_wp2_with fail
    refine (implLeftComb_any m _).mono ?_
    rintro e w28 ⟨rfl, hb⟩
    replace HB := Lib.hid (HB.out.trans (hb.mono HB.out.size))
    replace HR := Lib.hid (HR.out.below hb)
    clear hb
    go_wp2_with fail
    refine (sb_lc m _).mono ?_
    rintro e w29 ⟨rfl, hb⟩
    replace HB := Lib.hid (HB.out.trans (hb.mono HB.out.size))
    replace HR := Lib.hid (HR.out.below hb)
    clear hb
    obtain ⟨p1, p2, hp⟩ : ∃ p q, bwB ya = (p, q) := ⟨_, _, rfl⟩
    obtain ⟨q1, q2, hq⟩ : ∃ p q, nodeAtB d k = (p, q) := ⟨_, _, rfl⟩
    obtain ⟨r1, r2, hr⟩ : ∃ p q, rcB m = (p, q) := ⟨_, _, rfl⟩
    obtain ⟨s1, s2, hs⟩ : ∃ p q, lcB m = (p, q) := ⟨_, _, rfl⟩
    rw [hr, hs] at HLR
    rw [hs] at hlc9
    rw [hr] at hrc9
    simp only [hp, hq, hr, hs]
    clear hp hq hr hs
    have f1 : (p1 == p1) = true := by simp
    have f2 : (p2 == p2) = true := by simp
    have f3 : (q1 == q1) = true := by simp
    have f4 : (q2 == q2) = true := by simp
    have f5 : (r1 == r1) = true := by simp
    have f6 : (r2 == r2) = true := by simp
    have f7 : (s1 == s1) = true := by simp
    have f8 : (s2 == s2) = true := by simp
    rcases r2 with _ | _
    · skip
      go_wp2_with fail
      refine (implNeighboursOf_any d _ hd9).mono ?_
      rintro e w30 ⟨Ah, nh, ch, hnh, rfl, hoh, hb⟩
      replace HB := Lib.hid (HB.out.trans (hb.mono HB.out.size))
      replace HR := Lib.hid (HR.out.below hb)
      have HH := Lib.hid hoh.1.rd
      have HNH := Lib.hid hnh
      have hnh9 : nh ≤ 1000000000 := by rw [hnh]; have := nb_len d; omega
      clear hoh hnh
      clear hb
      go_wp2_with fail
      refine (specNeighboursOf_any d _ hd9).mono ?_
      rintro e w31 ⟨Aj, nj, cj, hnj, rfl, hoj, hb⟩
      replace HB := Lib.hid (HB.out.trans (hb.mono HB.out.size))
      replace HR := Lib.hid (HR.out.below hb)
      replace HH := Lib.hid (HH.out.below hb)
      have HJ := Lib.hid hoj.1.rd
      obtain rfl : nh = nj := by rw [hnj]; exact HNH.out
      clear hoj hnj
      clear hb
      go_wp2_with fail
      refine (sameWords_eq _ _ _ _ _ (nbB d) _ HH.out HJ.out hnh9).mono ?_
      rintro e w32 ⟨rfl, hb⟩
      replace HB := Lib.hid (HB.out.trans (hb.mono HB.out.size))
      replace HR := Lib.hid (HR.out.below hb)
      clear HH HJ
      clear hb
      go_wp2_with fail
      refine (implCountRight_any d _ hd9).mono ?_
      rintro e w33 ⟨rfl, hb⟩
      replace HB := Lib.hid (HB.out.trans (hb.mono HB.out.size))
      replace HR := Lib.hid (HR.out.below hb)
      clear hb
      go_wp2_with fail
      refine (sb_cr d _ hd9).mono ?_
      rintro e w34 ⟨rfl, hb⟩
      replace HB := Lib.hid (HB.out.trans (hb.mono HB.out.size))
      replace HR := Lib.hid (HR.out.below hb)
      clear hb
      obtain ⟨Q, hQ⟩ : ∃ Q, Q = crB d := ⟨_, rfl⟩
      rw [← hQ]
      clear hQ
      have f9 : (Q == Q) = true := by simp
      go_wp2_with fail
      go_ret
      exact ⟨rfl, HB.out⟩
    · skip
      go_wp2_with fail
      refine (implIsTamariLess_any s1 r1 _ hlc9 hrc9).mono ?_
      rintro e w35 ⟨rfl, hb⟩
      replace HB := Lib.hid (HB.out.trans (hb.mono HB.out.size))
      replace HR := Lib.hid (HR.out.below hb)
      rw [show tlessB s1 r1 = true by first | exact HLR.out trivial | exact HLR.out rfl | simpa using HLR.out]
      clear hb
      go_wp2_with fail
      refine (implNeighboursOf_any d _ hd9).mono ?_
      rintro e w36 ⟨Ah, nh, ch, hnh, rfl, hoh, hb⟩
      replace HB := Lib.hid (HB.out.trans (hb.mono HB.out.size))
      replace HR := Lib.hid (HR.out.below hb)
      have HH := Lib.hid hoh.1.rd
      have HNH := Lib.hid hnh
      have hnh9 : nh ≤ 1000000000 := by rw [hnh]; have := nb_len d; omega
      clear hoh hnh
      clear hb
      go_wp2_with fail
      refine (specNeighboursOf_any d _ hd9).mono ?_
      rintro e w37 ⟨Aj, nj, cj, hnj, rfl, hoj, hb⟩
      replace HB := Lib.hid (HB.out.trans (hb.mono HB.out.size))
      replace HR := Lib.hid (HR.out.below hb)
      replace HH := Lib.hid (HH.out.below hb)
      have HJ := Lib.hid hoj.1.rd
      obtain rfl : nh = nj := by rw [hnj]; exact HNH.out
      clear hoj hnj
      clear hb
      go_wp2_with fail
      refine (sameWords_eq _ _ _ _ _ (nbB d) _ HH.out HJ.out hnh9).mono ?_
      rintro e w38 ⟨rfl, hb⟩
      replace HB := Lib.hid (HB.out.trans (hb.mono HB.out.size))
      replace HR := Lib.hid (HR.out.below hb)
      clear HH HJ
      clear hb
      go_wp2_with fail
      refine (implCountRight_any d _ hd9).mono ?_
      rintro e w39 ⟨rfl, hb⟩
      replace HB := Lib.hid (HB.out.trans (hb.mono HB.out.size))
      replace HR := Lib.hid (HR.out.below hb)
      clear hb
      go_wp2_with fail
      refine (sb_cr d _ hd9).mono ?_
      rintro e w40 ⟨rfl, hb⟩
      replace HB := Lib.hid (HB.out.trans (hb.mono HB.out.size))
      replace HR := Lib.hid (HR.out.below hb)
      clear hb
      obtain ⟨Q, hQ⟩ : ∃ Q, Q = crB d := ⟨_, rfl⟩
      rw [← hQ]
      clear hQ
      have f9 : (Q == Q) = true := by simp
      go_wp2_with fail
      go_ret
      exact ⟨rfl, HB.out⟩

end Go.Proofs.Ytiebaoglcdbopaa
