/- laws.FnStatistics returns true at every input. -/
import Derived.Test.YteiffomekjadgaaDrawW
import Derived.Test.YteiffomekjadgaaJtA
import Derived.Test.YteiffomekjadgaaJtY
import Derived.Test.YteiffomekjadgaaSameL
import Derived.Test.YteiffomekjadgaaSameW
import Derived.Test.YteiffomekjadgaaAt
import Derived.Deep.DeepCutAuto
namespace Go.Proofs.Yteiffomekjadgaa
set_option linter.unusedVariables false
open Go.RowKit

theorem law_all {M : Nat} (h : M < 6) : areP nRise' nFall' (M : Int) = true ∧ areP nRise' nRet' (M : Int) = true ∧ isjP nRise' nRet' (M : Int) = true ∧ isjP nRise' nFall' (M : Int) = true := by
  have h1 := List.all_eq_true.1 law_stat M (List.mem_range.2 h)
  rw [Bool.and_eq_true, Bool.and_eq_true, Bool.and_eq_true] at h1
  exact ⟨h1.1, h1.2.1, h1.2.2.1, h1.2.2.2⟩
theorem stt_lv {l : List UInt8} (h : l ≠ []) : sttB [108, 101, 97, 118, 101, 115] l = sttB [112, 101, 97, 107, 115] l := by
  unfold sttB
  split
  · rw [stN_leaves, stN_peaks]; unfold lvN; rw [if_neg h]
  · rfl
theorem stt_bl (l : List UInt8) : sttB [98, 108, 111, 99, 107, 115] l = sttB [112, 101, 97, 107, 115] l := by
  unfold sttB
  rw [stN_blocks, stN_peaks]
theorem smI_leT {r : List Int} {B : Nat} (h : ∀ k, 0 ≤ r.getD k 0 ∧ r.getD k 0 ≤ B) : ∀ i : Nat, 0 ≤ smI r i ∧ smI r i ≤ (i * B : Nat)
  | 0 => by simp [smI]
  | i + 1 => by
    have h1 := smI_leT h i
    have h2 := h i
    rw [smI, Nat.add_mul, Nat.one_mul]
    omega
structure Tb (R : List (List Int)) (M : Nat) : Prop where
  len : M = R.length
  le : M ≤ 301
  sq : ∀ (i : Nat) (r : List Int), R[i]? = some r → r.length = M
  bd : ∀ (i : Nat) (r : List Int), R[i]? = some r → ∀ k, 0 ≤ smI r k ∧ smI r k ≤ 40000
  sm : ∀ i, i ≤ M → 0 ≤ smR R M i ∧ smR R M i ≤ (i * 40000 : Nat)
theorem jt_tb (a b : List UInt8) (n : Int) : Tb (jtP a b n).1 (jtP a b n).1.length := by
  have hsq := jt_sq a b n
  have hle := jt_len a b n
  have hbd : ∀ (i : Nat) (r : List Int), (jtP a b n).1[i]? = some r → ∀ k, 0 ≤ smI r k ∧ smI r k ≤ 40000 := by
    intro i r hr k
    have hrl := hsq i r hr
    have he : ∀ k, 0 ≤ r.getD k 0 ∧ r.getD k 0 ≤ (132 : Nat) := by
      unfold jtP at hr
      split at hr
      · next hc =>
        rw [Bool.and_eq_true, Bool.and_eq_true] at hc
        obtain ⟨h1, h2⟩ := inB_iff.1 hc.1.1
        obtain ⟨N, rfl⟩ := Int.eq_ofNat_of_zero_le h1
        rw [Int.toNat_natCast] at hr
        have h3 := paths_n132 N (by omega)
        intro k
        have := (jtL_row _ _ _ _ _ _ _ hr).2 k
        omega
      · next hc => simp at hr
    have h1 := smI_leT he
    rcases Nat.lt_or_ge k r.length with h | h
    · have := h1 k
      have h2 : k * 132 ≤ 301 * 132 := Nat.mul_le_mul_right _ (by omega)
      omega
    · rw [smI_ge r k h]
      have := h1 r.length
      have h2 : r.length * 132 ≤ 301 * 132 := Nat.mul_le_mul_right _ (by omega)
      omega
  refine ⟨rfl, hle, hsq, hbd, fun i => ?_⟩
  induction i with
  | zero => intro _; simp [smR]
  | succ i ih =>
    intro hi
    have h1 := ih (by omega)
    obtain ⟨r, hr⟩ : ∃ r, (jtP a b n).1[i]? = some r := ⟨_, List.getElem?_eq_getElem (by omega)⟩
    have h2 := hbd i r hr (jtP a b n).1.length
    have h3 : (jtP a b n).1.getD i [] = r := by rw [List.getD_eq_getElem?_getD, hr]; rfl
    rw [smR, h3, Nat.add_mul, Nat.one_mul]
    omega
theorem jt_sum {a b : List UInt8} {n : Int} (h : (jtP a b n).2 = true) : smR (jtP a b n).1 (jtP a b n).1.length (jtP a b n).1.length = catN n := by
  unfold jtP at h ⊢
  split at h
  · next hc =>
    rw [if_pos hc]
    rw [Bool.and_eq_true, Bool.and_eq_true] at hc
    obtain ⟨h1, h2⟩ := inB_iff.1 hc.1.1
    obtain ⟨N, rfl⟩ := Int.eq_ofNat_of_zero_le h1
    rw [Int.toNat_natCast]
    show smR (jtL _ _ _ _ _) (jtL _ _ _ _ _).length (jtL _ _ _ _ _).length = _
    rw [jtL_len, jtL_sum _ (Nat.le_refl _), paths_cat N (by omega)]
  · cases h

set_option maxRecDepth 100000 in
set_option maxHeartbeats 16000000 in
theorem walk_FnStatistics (a0 : Option Addr) (len0 cap0 : Nat) (z0 : List Int) (w : World) (w0 : IsRow .u8 w a0 len0 cap0 z0) :
    Calls Try.prog 3 #[.slice a0 len0 cap0] w fun e w' => e = .returned (.bool true) ∧ Below w.heap.size w w' := by
  have v0 := w0.len_leu
  obtain ⟨hrd, hzb⟩ := w0.rdu
  by_cases q0 : len0 ≤ 1048576
  case neg =>
    go_enter Try.func3, Try.ntmps3
    go_wp2_with fail
    refine (big_yes _ _ _ _ (by omega)).mono ?_
    rintro e w' ⟨rfl, rfl⟩
    go_wp2_with fail
    go_ret
    exact ⟨rfl, Below.refl _ _⟩
  have hn9 : len0 ≤ 1000000000 := by omega
  have HR := Lib.hid hrd
  have HZ := Lib.hid hzb
  have HB := Lib.hid (Below.refl w.heap.size w)
  clear hrd hzb w0 v0
  go_enter Try.func3, Try.ntmps3
  go_wp2_with fail
  refine (big_no _ _ _ _ q0).mono ?_
  rintro e w' ⟨rfl, rfl⟩
  go_wp2_with fail
  refine (DrawStatisticOf_any _ _ _ _ _ HR.out hn9 HZ.out).mono ?_
  rintro e w1 ⟨f, l, hl, rfl, hb⟩
  replace HB := Lib.hid (HB.out.trans (hb.mono HB.out.size))
  replace HR := Lib.hid (HR.out.below hb)
  clear hb
  have HG := Lib.hid (fun hd => good_drawn hl.1 hd)
  have hl9 : l.length ≤ 1000000000 := by have := hl.2; omega
  obtain ⟨V, hV⟩ : ∃ V, V = sttB f l := ⟨_, rfl⟩
  obtain ⟨P, hP⟩ : ∃ V, V = sttB [112, 101, 97, 107, 115] l := ⟨_, rfl⟩
  have HV := Lib.hid hV.symm
  have HP := Lib.hid hP.symm
  have HBL := Lib.hid (show sttB [98, 108, 111, 99, 107, 115] l = P by rw [stt_bl, hP])
  have HLV := Lib.hid (show l ≠ [] → sttB [108, 101, 97, 118, 101, 115] l = P from fun h => by rw [stt_lv h, hP])
  have t1 : (V != V) = false := by simp
  have t2 : (P != P) = false := by simp
  clear hV hP hl
  go_upto_region 4 with fail
  go_cut [58] (fun s58 wx => s58 = .bool false ∧ Rd wx a0 len0 (uv (z0.take len0)) ∧ Below w.heap.size w wx)
  case first => as_aux_lemma =>
    go_wp2_with fail
    refine (implStatisticOf_any f l _ hl9 HG.out).mono ?_
    rintro e w2 ⟨rfl, hb⟩
    replace HB := Lib.hid (HB.out.trans (hb.mono HB.out.size))
    replace HR := Lib.hid (HR.out.below hb)
    rw [HV.out]
    clear hb
    go_wp2_with fail
    refine (specStatisticOf_any f l _ hl9 HG.out).mono ?_
    rintro e w3 ⟨rfl, hb⟩
    replace HB := Lib.hid (HB.out.trans (hb.mono HB.out.size))
    replace HR := Lib.hid (HR.out.below hb)
    rw [HV.out]
    clear hb
    go_wp2_with fail
    refine (implStatisticOf_any [112, 101, 97, 107, 115] l _ hl9 HG.out).mono ?_
    rintro e w4 ⟨rfl, hb⟩
    replace HB := Lib.hid (HB.out.trans (hb.mono HB.out.size))
    replace HR := Lib.hid (HR.out.below hb)
    rw [HP.out]
    clear hb
    go_wp2_with fail
    refine (implStatisticOf_any [98, 108, 111, 99, 107, 115] l _ hl9 HG.out).mono ?_
    rintro e w5 ⟨rfl, hb⟩
    replace HB := Lib.hid (HB.out.trans (hb.mono HB.out.size))
    replace HR := Lib.hid (HR.out.below hb)
    rw [HBL.out]
    clear hb
    by_cases h0 : l = []
    · subst h0
      go_wp2_with fail
      go_meet
      exact ⟨rfl, HR.out, HB.out⟩
    · have t3 : (l == []) = false := by rw [beq_eq_false_iff_ne]; exact h0
      have t4 : (l != []) = true := by rw [bne_iff_ne]; exact h0
      have HLP := Lib.hid (HLV.out h0)
      go_wp2_with fail
      refine (implStatisticOf_any [112, 101, 97, 107, 115] l _ hl9 HG.out).mono ?_
      rintro e w6 ⟨rfl, hb⟩
      replace HB := Lib.hid (HB.out.trans (hb.mono HB.out.size))
      replace HR := Lib.hid (HR.out.below hb)
      rw [HP.out]
      clear hb
      go_wp2_with fail
      refine (implStatisticOf_any [108, 101, 97, 118, 101, 115] l _ hl9 HG.out).mono ?_
      rintro e w7 ⟨rfl, hb⟩
      replace HB := Lib.hid (HB.out.trans (hb.mono HB.out.size))
      replace HR := Lib.hid (HR.out.below hb)
      rw [HLP.out]
      clear hb
      go_wp2_with fail
      go_meet
      exact ⟨rfl, HR.out, HB.out⟩
  clear HR HB HG HV HP HBL HLV t1 t2 hl9
  obtain ⟨rfl, hrd, hbl⟩ := hcut
  have HR := Lib.hid hrd
  have HB := Lib.hid hbl
  clear hrd hbl
  go_wp2_with fail
  refine (DrawDistributionOf_any _ _ _ _ _ HR.out hn9 HZ.out).mono ?_
  rintro e w8 ⟨a, d, hd0, hd1, rfl, hb⟩
  replace HB := Lib.hid (HB.out.trans (hb.mono HB.out.size))
  replace HR := Lib.hid (HR.out.below hb)
  clear hb
  go_wp2_with fail
  refine (implDistributionOf_any a d hd0 hd1 _).mono ?_
  rintro e w9 ⟨Al, nl, cl, hnl, rfl, hol, hb⟩
  replace HB := Lib.hid (HB.out.trans (hb.mono HB.out.size))
  replace HR := Lib.hid (HR.out.below hb)
  have HL := Lib.hid hol.rd
  have HNL := Lib.hid hnl
  have hnl9 : nl ≤ 1000000000 := by rw [hnl]; have := dst_len a d; omega
  clear hol hnl
  clear hb
  go_wp2_with fail
  refine (specDistributionOf_any a d hd0 hd1 _).mono ?_
  rintro e w10 ⟨Am, nm, cm, hnm, rfl, hom, hb⟩
  replace HB := Lib.hid (HB.out.trans (hb.mono HB.out.size))
  replace HR := Lib.hid (HR.out.below hb)
  replace HL := Lib.hid (HL.out.below hb)
  have HM := Lib.hid hom.rd
  obtain rfl : nl = nm := by rw [hnm]; exact HNL.out
  clear hom hnm
  clear hb
  have HTT := Lib.hid (dst_tot (f := a) (n := d))
  have HSB := Lib.hid (show ∀ i, -1000000000000 ≤ smI (dstP a d).1 i ∧ smI (dstP a d).1 i ≤ 1000000000000 from fun i => by have := dst_smI a d i; omega)
  rw [← HNL.out] at HTT
  obtain ⟨D, hD⟩ : ∃ b, b = (dstP a d).1 := ⟨_, rfl⟩
  obtain ⟨b, hb⟩ : ∃ b, b = (dstP a d).2 := ⟨_, rfl⟩
  obtain ⟨C, hC⟩ : ∃ b, b = catN d := ⟨_, rfl⟩
  rw [← hb, ← hD, ← hC] at HTT
  rw [← hD] at HL HM HSB
  rw [← hb]
  have HC := Lib.hid hC.symm
  have t3 : (b != b) = false := by simp
  have t4 : (C != C) = false := by simp
  clear hb hD hC HNL
  go_upto_region 9 with fail
  go_cut [94] (fun s94 wx => s94 = .bool false ∧ Rd wx a0 len0 (uv (z0.take len0)) ∧ Below w.heap.size w wx)
  case first => as_aux_lemma =>
    go_wp2_with fail
    refine (sameInts_q _ _ _ _ _ D _ HL.out HM.out hnl9).mono ?_
    rintro e wsm ⟨rfl, kq, rfl⟩
    replace HB := Lib.hid (below_drewN' HB.out kq)
    replace HR := Lib.hid (HR.out.drewN kq)
    replace HM := Lib.hid (HM.out.drewN kq)
    clear HL
    rcases b with _ | _
    · go_wp2_with fail
      go_meet
      exact ⟨rfl, HR.out, HB.out⟩
    · have HT := Lib.hid (HTT.out rfl)
      go_wp2_with fail
      refine (total_any _ _ _ D _ HM.out hnl9 HSB.out).mono ?_
      rintro e w11 ⟨rfl, rfl⟩
      rw [HT.out]
      go_wp2_with fail
      refine (implCatalanNumber_any d _).mono ?_
      rintro e w12 ⟨rfl, hb⟩
      replace HB := Lib.hid (HB.out.trans (hb.mono HB.out.size))
      replace HR := Lib.hid (HR.out.below hb)
      rw [HC.out]
      clear hb
      go_wp2_with fail
      go_meet
      exact ⟨rfl, HR.out, HB.out⟩
  clear HR HB HL HM HTT HSB HC t3 t4 hnl9
  obtain ⟨rfl, hrd, hbl⟩ := hcut
  have HR := Lib.hid hrd
  have HB := Lib.hid hbl
  clear hrd hbl
  go_wp2_with fail
  refine (at_any _ _ _ 1 _ _ HR.out hn9 (by omega) HZ.out).mono ?_
  rintro e w13 ⟨z, hz0, hz1, rfl, hb⟩
  replace HB := Lib.hid (HB.out.trans (hb.mono HB.out.size))
  replace HR := Lib.hid (HR.out.below hb)
  clear hb
  obtain ⟨m, hm⟩ : ∃ m : Nat, z.tmod 6 = (m : Int) := Int.eq_ofNat_of_zero_le (Int.tmod_nonneg _ hz0)
  have hm6 : m < 6 := by rw [Int.tmod_eq_emod_of_nonneg hz0] at hm; omega
  have um : IntKind.i64.wrap (m : Int) = (m : Int) := IntWalk.i64_in _ (by omega)
  have HA := Lib.hid (law_all hm6)
  go_wp2_with fail
  refine (implAreEquidistributed_any nRise' nFall' (m : Int) (by omega) (by omega) _).mono ?_
  rintro e w14 ⟨rfl, hb⟩
  replace HB := Lib.hid (HB.out.trans (hb.mono HB.out.size))
  replace HR := Lib.hid (HR.out.below hb)
  rw [HA.out.1]
  clear hb
  go_wp2_with fail
  refine (implAreEquidistributed_any nRise' nRet' (m : Int) (by omega) (by omega) _).mono ?_
  rintro e w15 ⟨rfl, hb⟩
  replace HB := Lib.hid (HB.out.trans (hb.mono HB.out.size))
  replace HR := Lib.hid (HR.out.below hb)
  rw [HA.out.2.1]
  clear hb
  go_wp2_with fail
  refine (implIsJointlySymmetric_any nRise' nRet' (m : Int) (by omega) (by omega) _).mono ?_
  rintro e w16 ⟨rfl, hb⟩
  replace HB := Lib.hid (HB.out.trans (hb.mono HB.out.size))
  replace HR := Lib.hid (HR.out.below hb)
  rw [HA.out.2.2.1]
  clear hb
  go_wp2_with fail
  refine (implIsJointlySymmetric_any nRise' nFall' (m : Int) (by omega) (by omega) _).mono ?_
  rintro e w17 ⟨rfl, hb⟩
  replace HB := Lib.hid (HB.out.trans (hb.mono HB.out.size))
  replace HR := Lib.hid (HR.out.below hb)
  rw [HA.out.2.2.2]
  clear hb
  go_wp2_with fail
  clear HA
  refine (DrawJointTable_any _ _ _ _ _ HR.out hn9 HZ.out).mono ?_
  rintro e w18 ⟨b, c, k, hk0, hk1, rfl, hb⟩
  replace HB := Lib.hid (HB.out.trans (hb.mono HB.out.size))
  replace HR := Lib.hid (HR.out.below hb)
  clear hb
  go_wp2_with fail
  refine (implJointTable_any b c k (by omega) (by omega) _).mono ?_
  rintro e w19 ⟨Al, nl, cl, vs, hnl, rfl, hol, hb⟩
  replace HB := Lib.hid (HB.out.trans (hb.mono HB.out.size))
  replace HR := Lib.hid (HR.out.below hb)
  have HL := Lib.hid hol
  have HNL := Lib.hid hnl
  clear hol hnl
  clear hb
  go_wp2_with fail
  refine (specJointTable_any b c k (by omega) (by omega) _).mono ?_
  rintro e w20 ⟨Am, nm, cm, us, hnm, rfl, hom, hb⟩
  replace HB := Lib.hid (HB.out.trans (hb.mono HB.out.size))
  replace HR := Lib.hid (HR.out.below hb)
  replace HL := Lib.hid (HL.out.below hb)
  have HM := Lib.hid hom
  obtain rfl : nl = nm := by rw [hnm]; exact HNL.out
  clear hom hnm
  clear hb
  have HTB := Lib.hid (jt_tb b c k)
  have HSM := Lib.hid (jt_sum (a := b) (b := c) (n := k))
  rw [← HNL.out] at HTB HSM
  obtain ⟨R, hR⟩ : ∃ x, x = (jtP b c k).1 := ⟨_, rfl⟩
  obtain ⟨o, ho⟩ : ∃ o, o = (jtP b c k).2 := ⟨_, rfl⟩
  obtain ⟨C, hC⟩ : ∃ b, b = catN k := ⟨_, rfl⟩
  rw [← hR, ← ho, ← hC] at HSM
  rw [← hR] at HTB HL HM
  rw [← ho]
  have HC := Lib.hid hC.symm
  have t3 : (o != o) = false := by simp
  have hnl : nl ≤ 301 := HTB.out.le
  clear ho hR hC HNL
  go_wp2_with fail
  refine (sameLists_eq _ _ _ _ _ _ _ _ _ R _ HL.out HM.out (by omega) (fun r hr => by obtain ⟨i, hi, hir⟩ := List.mem_iff_getElem.1 hr; have := HTB.out.sq i r (by rw [List.getElem?_eq_getElem hi, hir]); omega)).mono ?_
  rintro e wsm ⟨rfl, kq, rfl⟩
  replace HB := Lib.hid (below_drewN' HB.out kq)
  replace HR := Lib.hid (HR.out.drewN kq)
  replace HM := Lib.hid (HM.out.drewN kq)
  clear HL
  obtain ⟨wl, hwl⟩ : ∃ W, W = w20.drewN kq := ⟨_, rfl⟩
  rw [← hwl] at HB HR HM ⊢
  clear hwl
  go_wp2_with fail
  go_loop [19, 20] (fun s ix => ∃ i : Nat, i ≤ nl ∧ ix = .int .i64 i ∧ s = .int .i64 (smR R nl i)) (fun _ ix => nl - (intOf ix).toNat)
  case atStart => exact ⟨0, Nat.zero_le _, rfl, rfl⟩
  case round =>
    obtain ⟨i, hi, rfl, rfl⟩ := hrel
    have hsb := HTB.out.sm i hi
    have h40 : i * 40000 ≤ 301 * 40000 := Nat.mul_le_mul_right _ (by omega)
    obtain ⟨S, hS⟩ : ∃ S, S = smR R nl i := ⟨_, rfl⟩
    rw [← hS] at hsb ⊢
    have HS := Lib.hid hS
    clear hS
    by_cases hlt : i < nl
    · obtain ⟨r, hri⟩ : ∃ r, R[i]? = some r := ⟨_, List.getElem?_eq_getElem (by have := HTB.out.len; omega)⟩
      have hrl := HTB.out.sq i r hri
      obtain ⟨g0, Ai, ci, rfl, _, _, _, hci, _, hoi⟩ := HM.out.head hri
      rw [hrl] at hci hoi
      have HOI := Lib.hid hoi
      have hxb := HTB.out.bd i r hri nl
      have HXB := Lib.hid (show ∀ k, -1000000000000 ≤ smI r k ∧ smI r k ≤ 1000000000000 from fun k => by have := HTB.out.bd i r hri k; omega)
      obtain ⟨X, hX⟩ : ∃ X, X = smI r nl := ⟨_, rfl⟩
      rw [← hX] at hxb
      have HX := Lib.hid hX.symm
      have HN := Lib.hid (show smR R nl (i + 1) = S + X by rw [smR, ← HS.out, List.getD_eq_getElem?_getD, hri, hX]; rfl)
      have i1 : (0 : Int) ≤ (i : Int) := by omega
      have i2 : (i : Int) < (nl : Int) := by omega
      clear hri hoi hX
      go_wp2_with fail
      refine (total_any _ _ _ r _ HOI.out.rd (by omega) HXB.out).mono ?_
      rintro e wt ⟨rfl, rfl⟩
      rw [HX.out]
      go_wp2_with fail
      go_round
      case rel => exact ⟨i + 1, by omega, by go_num, by rw [HN.out]⟩
      case measure => simp [intOf]; omega
    · skip
      obtain rfl : i = nl := by omega
      have HSC := Lib.hid (show o = true → S = C from fun h => by rw [HS.out]; exact HSM.out h)
      clear HM HTB HSM HS
      go_wp2_with fail
      refine (DrawAreEquidistributed_any _ _ _ _ _ HR.out hn9 HZ.out).mono ?_
      rintro e w21 ⟨f1, g1, h1, hh0, hh1, rfl, hb⟩
      replace HB := Lib.hid (HB.out.trans (hb.mono HB.out.size))
      replace HR := Lib.hid (HR.out.below hb)
      clear hb
      go_wp2_with fail
      refine (DrawIsJointlySymmetric_any _ _ _ _ _ HR.out hn9 HZ.out).mono ?_
      rintro e w22 ⟨f2, g2, h2, hk2, hk3, rfl, hb⟩
      replace HB := Lib.hid (HB.out.trans (hb.mono HB.out.size))
      replace HR := Lib.hid (HR.out.below hb)
      clear hb
      obtain ⟨x, hx⟩ : ∃ x, x = areP f1 g1 h1 := ⟨_, rfl⟩
      obtain ⟨y, hy⟩ : ∃ x, x = isjP f2 g2 h2 := ⟨_, rfl⟩
      have HX := Lib.hid hx.symm
      have HY := Lib.hid hy.symm
      have t5 : (x == x) = true := by simp
      have t6 : (y == y) = true := by simp
      have t7 : (C == C) = true := by simp
      clear hx hy
      go_upto_region 26 with fail
      rcases o with _ | _
      · as_aux_lemma =>
          go_wp2_with fail
          refine (implAreEquidistributed_any f1 g1 h1 (by omega) (by omega) _).mono ?_
          rintro e w23 ⟨rfl, hb⟩
          replace HB := Lib.hid (HB.out.trans (hb.mono HB.out.size))
          replace HR := Lib.hid (HR.out.below hb)
          rw [HX.out]
          clear hb
          go_wp2_with fail
          refine (specAreEquidistributed_any f1 g1 h1 (by omega) (by omega) _).mono ?_
          rintro e w24 ⟨rfl, hb⟩
          replace HB := Lib.hid (HB.out.trans (hb.mono HB.out.size))
          replace HR := Lib.hid (HR.out.below hb)
          rw [HX.out]
          clear hb
          go_wp2_with fail
          refine (implIsJointlySymmetric_any f2 g2 h2 (by omega) (by omega) _).mono ?_
          rintro e w25 ⟨rfl, hb⟩
          replace HB := Lib.hid (HB.out.trans (hb.mono HB.out.size))
          replace HR := Lib.hid (HR.out.below hb)
          rw [HY.out]
          clear hb
          go_wp2_with fail
          refine (specIsJointlySymmetric_any f2 g2 h2 (by omega) (by omega) _).mono ?_
          rintro e w26 ⟨rfl, hb⟩
          replace HB := Lib.hid (HB.out.trans (hb.mono HB.out.size))
          replace HR := Lib.hid (HR.out.below hb)
          rw [HY.out]
          clear hb
          go_wp2_with fail
          refine (implStatisticNames_any _).mono ?_
          rintro e w27 ⟨Ra, da, rfl, hoa, hb⟩
          replace HB := Lib.hid (HB.out.trans (hb.mono HB.out.size))
          replace HR := Lib.hid (HR.out.below hb)
          have HA := Lib.hid hoa.rd
          clear hoa
          clear hb
          go_wp2_with fail
          refine (specStatisticNames_any _).mono ?_
          rintro e w28 ⟨Rb, db, rfl, hob, hb⟩
          replace HB := Lib.hid (HB.out.trans (hb.mono HB.out.size))
          replace HR := Lib.hid (HR.out.below hb)
          replace HA := Lib.hid (HA.out.below hb)
          have HBB := Lib.hid hob.rd
          clear hob
          clear hb
          go_wp2_with fail
          refine (sameWords_eq _ _ _ _ _ snames _ HA.out HBB.out (by omega)).mono ?_
          rintro e w29 ⟨rfl, hb⟩
          replace HB := Lib.hid (HB.out.trans (hb.mono HB.out.size))
          replace HR := Lib.hid (HR.out.below hb)
          clear hb
          go_wp2_with fail
          go_ret
          exact ⟨rfl, HB.out⟩
      · as_aux_lemma =>
          obtain rfl : S = C := HSC.out rfl
          go_wp2_with fail
          refine (implCatalanNumber_any k _).mono ?_
          rintro e w30 ⟨rfl, hb⟩
          replace HB := Lib.hid (HB.out.trans (hb.mono HB.out.size))
          replace HR := Lib.hid (HR.out.below hb)
          rw [HC.out]
          clear hb
          go_wp2_with fail
          refine (implAreEquidistributed_any f1 g1 h1 (by omega) (by omega) _).mono ?_
          rintro e w31 ⟨rfl, hb⟩
          replace HB := Lib.hid (HB.out.trans (hb.mono HB.out.size))
          replace HR := Lib.hid (HR.out.below hb)
          rw [HX.out]
          clear hb
          go_wp2_with fail
          refine (specAreEquidistributed_any f1 g1 h1 (by omega) (by omega) _).mono ?_
          rintro e w32 ⟨rfl, hb⟩
          replace HB := Lib.hid (HB.out.trans (hb.mono HB.out.size))
          replace HR := Lib.hid (HR.out.below hb)
          rw [HX.out]
          clear hb
          go_wp2_with fail
          refine (implIsJointlySymmetric_any f2 g2 h2 (by omega) (by omega) _).mono ?_
          rintro e w33 ⟨rfl, hb⟩
          replace HB := Lib.hid (HB.out.trans (hb.mono HB.out.size))
          replace HR := Lib.hid (HR.out.below hb)
          rw [HY.out]
          clear hb
          go_wp2_with fail
          refine (specIsJointlySymmetric_any f2 g2 h2 (by omega) (by omega) _).mono ?_
          rintro e w34 ⟨rfl, hb⟩
          replace HB := Lib.hid (HB.out.trans (hb.mono HB.out.size))
          replace HR := Lib.hid (HR.out.below hb)
          rw [HY.out]
          clear hb
          go_wp2_with fail
          refine (implStatisticNames_any _).mono ?_
          rintro e w35 ⟨Ra, da, rfl, hoa, hb⟩
          replace HB := Lib.hid (HB.out.trans (hb.mono HB.out.size))
          replace HR := Lib.hid (HR.out.below hb)
          have HA := Lib.hid hoa.rd
          clear hoa
          clear hb
          go_wp2_with fail
          refine (specStatisticNames_any _).mono ?_
          rintro e w36 ⟨Rb, db, rfl, hob, hb⟩
          replace HB := Lib.hid (HB.out.trans (hb.mono HB.out.size))
          replace HR := Lib.hid (HR.out.below hb)
          replace HA := Lib.hid (HA.out.below hb)
          have HBB := Lib.hid hob.rd
          clear hob
          clear hb
          go_wp2_with fail
          refine (sameWords_eq _ _ _ _ _ snames _ HA.out HBB.out (by omega)).mono ?_
          rintro e w37 ⟨rfl, hb⟩
          replace HB := Lib.hid (HB.out.trans (hb.mono HB.out.size))
          replace HR := Lib.hid (HR.out.below hb)
          clear hb
          go_wp2_with fail
          go_ret
          exact ⟨rfl, HB.out⟩

end Go.Proofs.Yteiffomekjadgaa
