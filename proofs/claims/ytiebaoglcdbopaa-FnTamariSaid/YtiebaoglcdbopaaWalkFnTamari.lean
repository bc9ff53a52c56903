/- laws.FnTamari returns true at every input. -/
import Derived.Test.YtiebaoglcdbopaaTamC
import Derived.Test.YtiebaoglcdbopaaTamA
import Derived.Test.YtiebaoglcdbopaaTamB
import Derived.Test.YtiebaoglcdbopaaTamI
import Derived.Test.YtiebaoglcdbopaaTamS
import Derived.Test.YtiebaoglcdbopaaSameW
import Derived.Deep.DeepCutAuto
namespace Go.Proofs.Ytiebaoglcdbopaa
set_option linter.unusedVariables false
open Go.RowKit

theorem lat3 (a b : List UInt8) : ∃ (n k : List UInt8) (is : Bool), meetB a b = (n, is) ∧ joinB a b = (k, is) ∧ (is = true → LT a b n k) := by
  rcases lattice a b with ⟨h1, h2⟩ | ⟨n, k, h1, h2, h3⟩
  · exact ⟨[], [], false, h1, h2, fun h => by cases h⟩
  · exact ⟨n, k, true, h1, h2, fun _ => h3⟩
theorem sb_noT (l : List UInt8) (w : World) (hl : l.length ≤ 1000000000) :
    Calls Try.prog 13 #[.string (bs l)] w fun e w' => e = .returned (.int .i64 (nodesB l)) ∧ Below w.heap.size w w' :=
  (specNodesOf_any l w hl).mono fun _ _ ⟨h, hk⟩ => ⟨h, by rw [← hk]; exact Below.refl _ _⟩
theorem sb_ifI (n : Int) (w : World) : Calls Try.prog 25 #[.int .i64 n] w fun e w' => e = .returned (.int .i64 (ifI n)) ∧ Below w.heap.size w w' :=
  (implIntervalFormula_any n w).mono fun _ _ ⟨h, hk⟩ => ⟨h, by rw [← hk]; exact Below.refl _ _⟩
theorem sb_ifS (n : Int) (w : World) : Calls Try.prog 32 #[.int .i64 n] w fun e w' => e = .returned (.int .i64 (ifI n)) ∧ Below w.heap.size w w' :=
  (specIntervalFormula_any n w).mono fun _ _ ⟨h, hk⟩ => ⟨h, by rw [← hk]; exact Below.refl _ _⟩
theorem zc_bd {z C : Int} (h0 : 0 ≤ z) (h1 : z ≤ 255) (h2 : 1 ≤ C) (h3 : C ≤ 1430) : 0 ≤ z * C ∧ z * C ≤ 255 * C := by
  have := Int.mul_le_mul_of_nonneg_right h1 (show 0 ≤ C by omega)
  have := Int.mul_nonneg h0 (show 0 ≤ C by omega)
  omega

theorem specTam_b (a b : List UInt8) (w : World) (ha : a.length ≤ 1000000000) (hb : b.length ≤ 1000000000) :
    Calls Try.prog 31 #[.string (bs a), .string (bs b)] w fun e w' => e = .returned (.bool (tlessB a b)) ∧ Below w.heap.size w w' :=
  specIsTamariLess_any a b w ha hb
set_option maxRecDepth 100000 in
set_option maxHeartbeats 16000000 in
theorem walk_FnTamari (a0 : Option Addr) (len0 cap0 : Nat) (z0 : List Int) (w : World) (w0 : IsRow .u8 w a0 len0 cap0 z0) :
    Calls Try.prog 3 #[.slice a0 len0 cap0] w fun e w' => e = .returned (.bool true) ∧ Below w.heap.size w w' := by
  have v0 := w0.len_leu
  obtain ⟨hrd, hzb⟩ := w0.rdu
  by_cases q0 : len0 ≤ 1048576
  case neg =>
    go_enter Try.func3, Try.ntmps3
    go_wp2_with fail
    refine (big_yes _ _ _ _ (by omega)).mono ?_
    rintro e w' ⟨rfl, rfl⟩
    go_wp2_with fail
    go_ret
    exact ⟨rfl, Below.refl _ _⟩
  have hn9 : len0 ≤ 1000000000 := by omega
  have HR := Lib.hid hrd
  have HZ := Lib.hid hzb
  have HB := Lib.hid (Below.refl w.heap.size w)
  clear hrd hzb w0 v0
  go_enter Try.func3, Try.ntmps3
  go_wp2_with fail
  refine (big_no _ _ _ _ q0).mono ?_
  rintro e w' ⟨rfl, rfl⟩
  go_wp2_with fail
  refine (DrawTamariMeet_any _ _ _ _ _ HR.out hn9 HZ.out).mono ?_
  rintro e w1 ⟨a, b, ha, hb8, rfl, hb⟩
  replace HB := Lib.hid (HB.out.trans (hb.mono HB.out.size))
  replace HR := Lib.hid (HR.out.below hb)
  have ha9 : a.length ≤ 1000000000 := by omega
  have hb9 : b.length ≤ 1000000000 := by omega
  clear ha hb8
  clear hb
  obtain ⟨N, K, is, hm, hj, hL⟩ := lat3 a b
  have HM := Lib.hid hm
  have HJ := Lib.hid hj
  have HL := Lib.hid hL
  clear hm hj hL
  go_wp2_with fail
  refine (implTamariMeet_any a b _ ha9 hb9).mono ?_
  rintro e w2 ⟨rfl, hb⟩
  replace HB := Lib.hid (HB.out.trans (hb.mono HB.out.size))
  replace HR := Lib.hid (HR.out.below hb)
  rw [HM.out]
  clear hb
  go_wp2_with fail
  refine (specTamariMeet_any a b _ ha9 hb9).mono ?_
  rintro e w3 ⟨rfl, hb⟩
  replace HB := Lib.hid (HB.out.trans (hb.mono HB.out.size))
  replace HR := Lib.hid (HR.out.below hb)
  rw [HM.out]
  clear hb
  go_wp2_with fail
  refine (implTamariJoin_any a b _ ha9 hb9).mono ?_
  rintro e w4 ⟨rfl, hb⟩
  replace HB := Lib.hid (HB.out.trans (hb.mono HB.out.size))
  replace HR := Lib.hid (HR.out.below hb)
  rw [HJ.out]
  clear hb
  go_wp2_with fail
  refine (specTamariJoin_any a b _ ha9 hb9).mono ?_
  rintro e w5 ⟨rfl, hb⟩
  replace HB := Lib.hid (HB.out.trans (hb.mono HB.out.size))
  replace HR := Lib.hid (HR.out.below hb)
  rw [HJ.out]
  clear hb
  have e1 : (N != N) = false := by simp
  have e2 : (K != K) = false := by simp
  have e5 : (is != is) = false := by simp
  go_upto_if 87 with fail
  go_cut [13] (fun s13 wx => Rd wx a0 len0 (uv (z0.take len0)) ∧ Below w.heap.size w wx)
  case first => as_aux_lemma =>
    rcases is with _ | _
    · go_wp2_with fail
      go_meet
      exact ⟨HR.out, HB.out⟩
    · skip
      have L0 := HL.out rfl
      have LT_ := Lib.hid L0
      have hN9 : N.length ≤ 1000000000 := by have := L0.nlen; omega
      have hK9 : K.length ≤ 1000000000 := by have := L0.klen; omega
      obtain ⟨M, hM, hM8⟩ := L0.nod
      have HMM := Lib.hid hM
      obtain ⟨C, hC⟩ : ∃ C, C = balV M M := ⟨_, rfl⟩
      have hcb := bal_bd (Nat.le_refl M) hM8
      rw [← hC] at hcb
      have HC := Lib.hid hC.symm
      have e3 : (a != a) = false := by simp
      clear L0 hM hC HM HJ HL
      go_wp2_with fail
      refine (implTamariMeet_any a K _ ha9 hK9).mono ?_
      rintro e w6 ⟨rfl, hb⟩
      replace HB := Lib.hid (HB.out.trans (hb.mono HB.out.size))
      replace HR := Lib.hid (HR.out.below hb)
      rw [LT_.out.c]
      clear hb
      go_wp2_with fail
      refine (implTamariJoin_any a N _ ha9 hN9).mono ?_
      rintro e w7 ⟨rfl, hb⟩
      replace HB := Lib.hid (HB.out.trans (hb.mono HB.out.size))
      replace HR := Lib.hid (HR.out.below hb)
      rw [LT_.out.d]
      clear hb
      go_wp2_with fail
      refine (implIsTamariLess_any N a _ hN9 ha9).mono ?_
      rintro e w8 ⟨rfl, hb⟩
      replace HB := Lib.hid (HB.out.trans (hb.mono HB.out.size))
      replace HR := Lib.hid (HR.out.below hb)
      rw [LT_.out.na]
      clear hb
      go_wp2_with fail
      refine (implIsTamariLess_any N b _ hN9 hb9).mono ?_
      rintro e w9 ⟨rfl, hb⟩
      replace HB := Lib.hid (HB.out.trans (hb.mono HB.out.size))
      replace HR := Lib.hid (HR.out.below hb)
      rw [LT_.out.nb]
      clear hb
      go_wp2_with fail
      refine (implIsTamariLess_any a K _ ha9 hK9).mono ?_
      rintro e w10 ⟨rfl, hb⟩
      replace HB := Lib.hid (HB.out.trans (hb.mono HB.out.size))
      replace HR := Lib.hid (HR.out.below hb)
      rw [LT_.out.ak]
      clear hb
      go_wp2_with fail
      refine (implIsTamariLess_any b K _ hb9 hK9).mono ?_
      rintro e w11 ⟨rfl, hb⟩
      replace HB := Lib.hid (HB.out.trans (hb.mono HB.out.size))
      replace HR := Lib.hid (HR.out.below hb)
      rw [LT_.out.bk]
      clear hb
      go_wp2_with fail
      as_aux_lemma =>
        skip
        refine (sb_noT a _ ha9).mono ?_
        rintro e w12 ⟨rfl, hb⟩
        replace HB := Lib.hid (HB.out.trans (hb.mono HB.out.size))
        replace HR := Lib.hid (HR.out.below hb)
        rw [HMM.out]
        clear hb
        go_wp2_with fail
        have hcall := at_any a0 len0 cap0 3 (z0.take len0) _ HR.out hn9 (by omega) HZ.out
        rw [show ((3 : Nat) : Int) = 3 from rfl] at hcall
        refine hcall.mono ?_
        clear hcall
        rintro e w13 ⟨z, hz0, hz1, rfl, hb⟩
        replace HB := Lib.hid (HB.out.trans (hb.mono HB.out.size))
        replace HR := Lib.hid (HR.out.below hb)
        have hzc := zc_bd hz0 hz1 hcb.1 hcb.2
        have uz : IntKind.i64.wrap (z * C) = z * C := IntWalk.i64_in _ (by omega)
        have hq : 0 ≤ (z * C).tdiv 256 ∧ (z * C).tdiv 256 < C := by rw [Int.tdiv_eq_ediv_of_nonneg hzc.1]; omega
        have uq : IntKind.i64.wrap ((z * C).tdiv 256) = (z * C).tdiv 256 := IntWalk.i64_in _ (by omega)
        have HQ := Lib.hid hq
        clear hq hzc
        clear hb
        go_wp2_with fail
        refine (sb_noT a _ ha9).mono ?_
        rintro e w14 ⟨rfl, hb⟩
        replace HB := Lib.hid (HB.out.trans (hb.mono HB.out.size))
        replace HR := Lib.hid (HR.out.below hb)
        rw [HMM.out]
        clear hb
        go_wp2_with fail
        refine (specCatalanNumber_any M hM8 _).mono ?_
        rintro e w15 ⟨rfl, hb⟩
        replace HB := Lib.hid (HB.out.trans (hb.mono HB.out.size))
        replace HR := Lib.hid (HR.out.below hb)
        rw [HC.out]
        clear hb
        go_wp2_with fail
        refine (specUnrankPath_any M hM8 _ HQ.out.1 (by rw [HC.out]; exact HQ.out.2) _).mono ?_
        rintro e w16 ⟨x, hx, rfl, hb⟩
        replace HB := Lib.hid (HB.out.trans (hb.mono HB.out.size))
        replace HR := Lib.hid (HR.out.below hb)
        have HXP := Lib.hid hx
        clear hx
        clear hb
        go_wp2_with fail
        refine (specBinaryOf_path M hM8 x HXP.out _).mono ?_
        rintro e w17 ⟨t, ht, rfl, hb⟩
        replace HB := Lib.hid (HB.out.trans (hb.mono HB.out.size))
        replace HR := Lib.hid (HR.out.below hb)
        have ht9 : t.length ≤ 1000000000 := by omega
        clear ht
        clear hb
        rcases h1 : tlessB t a with _ | _
        · skip
          rcases h3 : tlessB a t with _ | _
          · skip
            have H1 := Lib.hid h1
            have H3 := Lib.hid h3
            clear h1  h3 
            as_aux_lemma =>
              go_wp2_with fail
              refine (implIsTamariLess_any t a _ ht9 ha9).mono ?_
              rintro e w18 ⟨rfl, hb⟩
              replace HB := Lib.hid (HB.out.trans (hb.mono HB.out.size))
              replace HR := Lib.hid (HR.out.below hb)
              rw [H1.out]
              clear hb
              go_wp2_with fail
              refine (implIsTamariLess_any a t _ ha9 ht9).mono ?_
              rintro e w19 ⟨rfl, hb⟩
              replace HB := Lib.hid (HB.out.trans (hb.mono HB.out.size))
              replace HR := Lib.hid (HR.out.below hb)
              rw [H3.out]
              clear hb
              go_wp2_with fail
              go_meet
              exact ⟨HR.out, HB.out⟩
          · skip
            rcases h4 : tlessB b t with _ | _
            · skip
              have H1 := Lib.hid h1
              have H3 := Lib.hid h3
              have H4 := Lib.hid h4
              clear h1  h3 h4
              as_aux_lemma =>
                go_wp2_with fail
                refine (implIsTamariLess_any t a _ ht9 ha9).mono ?_
                rintro e w18 ⟨rfl, hb⟩
                replace HB := Lib.hid (HB.out.trans (hb.mono HB.out.size))
                replace HR := Lib.hid (HR.out.below hb)
                rw [H1.out]
                clear hb
                go_wp2_with fail
                refine (implIsTamariLess_any a t _ ha9 ht9).mono ?_
                rintro e w19 ⟨rfl, hb⟩
                replace HB := Lib.hid (HB.out.trans (hb.mono HB.out.size))
                replace HR := Lib.hid (HR.out.below hb)
                rw [H3.out]
                clear hb
                go_wp2_with fail
                refine (implIsTamariLess_any b t _ hb9 ht9).mono ?_
                rintro e w20 ⟨rfl, hb⟩
                replace HB := Lib.hid (HB.out.trans (hb.mono HB.out.size))
                replace HR := Lib.hid (HR.out.below hb)
                rw [H4.out]
                clear hb
                go_wp2_with fail
                go_meet
                exact ⟨HR.out, HB.out⟩
            · skip
              have H1 := Lib.hid h1
              have H3 := Lib.hid h3
              have H4 := Lib.hid h4
              clear h1  h3 h4
              as_aux_lemma =>
                go_wp2_with fail
                refine (implIsTamariLess_any t a _ ht9 ha9).mono ?_
                rintro e w18 ⟨rfl, hb⟩
                replace HB := Lib.hid (HB.out.trans (hb.mono HB.out.size))
                replace HR := Lib.hid (HR.out.below hb)
                rw [H1.out]
                clear hb
                go_wp2_with fail
                refine (implIsTamariLess_any a t _ ha9 ht9).mono ?_
                rintro e w19 ⟨rfl, hb⟩
                replace HB := Lib.hid (HB.out.trans (hb.mono HB.out.size))
                replace HR := Lib.hid (HR.out.below hb)
                rw [H3.out]
                clear hb
                go_wp2_with fail
                refine (implIsTamariLess_any b t _ hb9 ht9).mono ?_
                rintro e w20 ⟨rfl, hb⟩
                replace HB := Lib.hid (HB.out.trans (hb.mono HB.out.size))
                replace HR := Lib.hid (HR.out.below hb)
                rw [H4.out]
                clear hb
                go_wp2_with fail
                refine (implIsTamariLess_any K t _ hK9 ht9).mono ?_
                rintro e w21 ⟨rfl, hb⟩
                replace HB := Lib.hid (HB.out.trans (hb.mono HB.out.size))
                replace HR := Lib.hid (HR.out.below hb)
                rw [LT_.out.lub t H3.out H4.out]
                clear hb
                go_wp2_with fail
                go_meet
                exact ⟨HR.out, HB.out⟩
        · skip
          rcases h2 : tlessB t b with _ | _
          · skip
            rcases h3 : tlessB a t with _ | _
            · skip
              have H1 := Lib.hid h1
              have H2 := Lib.hid h2
              have H3 := Lib.hid h3
              clear h1 h2 h3 
              as_aux_lemma =>
                go_wp2_with fail
                refine (implIsTamariLess_any t a _ ht9 ha9).mono ?_
                rintro e w18 ⟨rfl, hb⟩
                replace HB := Lib.hid (HB.out.trans (hb.mono HB.out.size))
                replace HR := Lib.hid (HR.out.below hb)
                rw [H1.out]
                clear hb
                go_wp2_with fail
                refine (implIsTamariLess_any t b _ ht9 hb9).mono ?_
                rintro e w19 ⟨rfl, hb⟩
                replace HB := Lib.hid (HB.out.trans (hb.mono HB.out.size))
                replace HR := Lib.hid (HR.out.below hb)
                rw [H2.out]
                clear hb
                go_wp2_with fail
                refine (implIsTamariLess_any a t _ ha9 ht9).mono ?_
                rintro e w20 ⟨rfl, hb⟩
                replace HB := Lib.hid (HB.out.trans (hb.mono HB.out.size))
                replace HR := Lib.hid (HR.out.below hb)
                rw [H3.out]
                clear hb
                go_wp2_with fail
                go_meet
                exact ⟨HR.out, HB.out⟩
            · skip
              rcases h4 : tlessB b t with _ | _
              · skip
                have H1 := Lib.hid h1
                have H2 := Lib.hid h2
                have H3 := Lib.hid h3
                have H4 := Lib.hid h4
                clear h1 h2 h3 h4
                as_aux_lemma =>
                  go_wp2_with fail
                  refine (implIsTamariLess_any t a _ ht9 ha9).mono ?_
                  rintro e w18 ⟨rfl, hb⟩
                  replace HB := Lib.hid (HB.out.trans (hb.mono HB.out.size))
                  replace HR := Lib.hid (HR.out.below hb)
                  rw [H1.out]
                  clear hb
                  go_wp2_with fail
                  refine (implIsTamariLess_any t b _ ht9 hb9).mono ?_
                  rintro e w19 ⟨rfl, hb⟩
                  replace HB := Lib.hid (HB.out.trans (hb.mono HB.out.size))
                  replace HR := Lib.hid (HR.out.below hb)
                  rw [H2.out]
                  clear hb
                  go_wp2_with fail
                  refine (implIsTamariLess_any a t _ ha9 ht9).mono ?_
                  rintro e w20 ⟨rfl, hb⟩
                  replace HB := Lib.hid (HB.out.trans (hb.mono HB.out.size))
                  replace HR := Lib.hid (HR.out.below hb)
                  rw [H3.out]
                  clear hb
                  go_wp2_with fail
                  refine (implIsTamariLess_any b t _ hb9 ht9).mono ?_
                  rintro e w21 ⟨rfl, hb⟩
                  replace HB := Lib.hid (HB.out.trans (hb.mono HB.out.size))
                  replace HR := Lib.hid (HR.out.below hb)
                  rw [H4.out]
                  clear hb
                  go_wp2_with fail
                  go_meet
                  exact ⟨HR.out, HB.out⟩
              · skip
                have H1 := Lib.hid h1
                have H2 := Lib.hid h2
                have H3 := Lib.hid h3
                have H4 := Lib.hid h4
                clear h1 h2 h3 h4
                as_aux_lemma =>
                  go_wp2_with fail
                  refine (implIsTamariLess_any t a _ ht9 ha9).mono ?_
                  rintro e w18 ⟨rfl, hb⟩
                  replace HB := Lib.hid (HB.out.trans (hb.mono HB.out.size))
                  replace HR := Lib.hid (HR.out.below hb)
                  rw [H1.out]
                  clear hb
                  go_wp2_with fail
                  refine (implIsTamariLess_any t b _ ht9 hb9).mono ?_
                  rintro e w19 ⟨rfl, hb⟩
                  replace HB := Lib.hid (HB.out.trans (hb.mono HB.out.size))
                  replace HR := Lib.hid (HR.out.below hb)
                  rw [H2.out]
                  clear hb
                  go_wp2_with fail
                  refine (implIsTamariLess_any a t _ ha9 ht9).mono ?_
                  rintro e w20 ⟨rfl, hb⟩
                  replace HB := Lib.hid (HB.out.trans (hb.mono HB.out.size))
                  replace HR := Lib.hid (HR.out.below hb)
                  rw [H3.out]
                  clear hb
                  go_wp2_with fail
                  refine (implIsTamariLess_any b t _ hb9 ht9).mono ?_
                  rintro e w21 ⟨rfl, hb⟩
                  replace HB := Lib.hid (HB.out.trans (hb.mono HB.out.size))
                  replace HR := Lib.hid (HR.out.below hb)
                  rw [H4.out]
                  clear hb
                  go_wp2_with fail
                  refine (implIsTamariLess_any K t _ hK9 ht9).mono ?_
                  rintro e w22 ⟨rfl, hb⟩
                  replace HB := Lib.hid (HB.out.trans (hb.mono HB.out.size))
                  replace HR := Lib.hid (HR.out.below hb)
                  rw [LT_.out.lub t H3.out H4.out]
                  clear hb
                  go_wp2_with fail
                  go_meet
                  exact ⟨HR.out, HB.out⟩
          · skip
            rcases h3 : tlessB a t with _ | _
            · skip
              have H1 := Lib.hid h1
              have H2 := Lib.hid h2
              have H3 := Lib.hid h3
              clear h1 h2 h3 
              as_aux_lemma =>
                go_wp2_with fail
                refine (implIsTamariLess_any t a _ ht9 ha9).mono ?_
                rintro e w18 ⟨rfl, hb⟩
                replace HB := Lib.hid (HB.out.trans (hb.mono HB.out.size))
                replace HR := Lib.hid (HR.out.below hb)
                rw [H1.out]
                clear hb
                go_wp2_with fail
                refine (implIsTamariLess_any t b _ ht9 hb9).mono ?_
                rintro e w19 ⟨rfl, hb⟩
                replace HB := Lib.hid (HB.out.trans (hb.mono HB.out.size))
                replace HR := Lib.hid (HR.out.below hb)
                rw [H2.out]
                clear hb
                go_wp2_with fail
                refine (implIsTamariLess_any t N _ ht9 hN9).mono ?_
                rintro e w20 ⟨rfl, hb⟩
                replace HB := Lib.hid (HB.out.trans (hb.mono HB.out.size))
                replace HR := Lib.hid (HR.out.below hb)
                rw [LT_.out.glb t H1.out H2.out]
                clear hb
                go_wp2_with fail
                refine (implIsTamariLess_any a t _ ha9 ht9).mono ?_
                rintro e w21 ⟨rfl, hb⟩
                replace HB := Lib.hid (HB.out.trans (hb.mono HB.out.size))
                replace HR := Lib.hid (HR.out.below hb)
                rw [H3.out]
                clear hb
                go_wp2_with fail
                go_meet
                exact ⟨HR.out, HB.out⟩
            · skip
              rcases h4 : tlessB b t with _ | _
              · skip
                have H1 := Lib.hid h1
                have H2 := Lib.hid h2
                have H3 := Lib.hid h3
                have H4 := Lib.hid h4
                clear h1 h2 h3 h4
                as_aux_lemma =>
                  go_wp2_with fail
                  refine (implIsTamariLess_any t a _ ht9 ha9).mono ?_
                  rintro e w18 ⟨rfl, hb⟩
                  replace HB := Lib.hid (HB.out.trans (hb.mono HB.out.size))
                  replace HR := Lib.hid (HR.out.below hb)
                  rw [H1.out]
                  clear hb
                  go_wp2_with fail
                  refine (implIsTamariLess_any t b _ ht9 hb9).mono ?_
                  rintro e w19 ⟨rfl, hb⟩
                  replace HB := Lib.hid (HB.out.trans (hb.mono HB.out.size))
                  replace HR := Lib.hid (HR.out.below hb)
                  rw [H2.out]
                  clear hb
                  go_wp2_with fail
                  refine (implIsTamariLess_any t N _ ht9 hN9).mono ?_
                  rintro e w20 ⟨rfl, hb⟩
                  replace HB := Lib.hid (HB.out.trans (hb.mono HB.out.size))
                  replace HR := Lib.hid (HR.out.below hb)
                  rw [LT_.out.glb t H1.out H2.out]
                  clear hb
                  go_wp2_with fail
                  refine (implIsTamariLess_any a t _ ha9 ht9).mono ?_
                  rintro e w21 ⟨rfl, hb⟩
                  replace HB := Lib.hid (HB.out.trans (hb.mono HB.out.size))
                  replace HR := Lib.hid (HR.out.below hb)
                  rw [H3.out]
                  clear hb
                  go_wp2_with fail
                  refine (implIsTamariLess_any b t _ hb9 ht9).mono ?_
                  rintro e w22 ⟨rfl, hb⟩
                  replace HB := Lib.hid (HB.out.trans (hb.mono HB.out.size))
                  replace HR := Lib.hid (HR.out.below hb)
                  rw [H4.out]
                  clear hb
                  go_wp2_with fail
                  go_meet
                  exact ⟨HR.out, HB.out⟩
              · skip
                have H1 := Lib.hid h1
                have H2 := Lib.hid h2
                have H3 := Lib.hid h3
                have H4 := Lib.hid h4
                clear h1 h2 h3 h4
                as_aux_lemma =>
                  go_wp2_with fail
                  refine (implIsTamariLess_any t a _ ht9 ha9).mono ?_
                  rintro e w18 ⟨rfl, hb⟩
                  replace HB := Lib.hid (HB.out.trans (hb.mono HB.out.size))
                  replace HR := Lib.hid (HR.out.below hb)
                  rw [H1.out]
                  clear hb
                  go_wp2_with fail
                  refine (implIsTamariLess_any t b _ ht9 hb9).mono ?_
                  rintro e w19 ⟨rfl, hb⟩
                  replace HB := Lib.hid (HB.out.trans (hb.mono HB.out.size))
                  replace HR := Lib.hid (HR.out.below hb)
                  rw [H2.out]
                  clear hb
                  go_wp2_with fail
                  refine (implIsTamariLess_any t N _ ht9 hN9).mono ?_
                  rintro e w20 ⟨rfl, hb⟩
                  replace HB := Lib.hid (HB.out.trans (hb.mono HB.out.size))
                  replace HR := Lib.hid (HR.out.below hb)
                  rw [LT_.out.glb t H1.out H2.out]
                  clear hb
                  go_wp2_with fail
                  refine (implIsTamariLess_any a t _ ha9 ht9).mono ?_
                  rintro e w21 ⟨rfl, hb⟩
                  replace HB := Lib.hid (HB.out.trans (hb.mono HB.out.size))
                  replace HR := Lib.hid (HR.out.below hb)
                  rw [H3.out]
                  clear hb
                  go_wp2_with fail
                  refine (implIsTamariLess_any b t _ hb9 ht9).mono ?_
                  rintro e w22 ⟨rfl, hb⟩
                  replace HB := Lib.hid (HB.out.trans (hb.mono HB.out.size))
                  replace HR := Lib.hid (HR.out.below hb)
                  rw [H4.out]
                  clear hb
                  go_wp2_with fail
                  refine (implIsTamariLess_any K t _ hK9 ht9).mono ?_
                  rintro e w23 ⟨rfl, hb⟩
                  replace HB := Lib.hid (HB.out.trans (hb.mono HB.out.size))
                  replace HR := Lib.hid (HR.out.below hb)
                  rw [LT_.out.lub t H3.out H4.out]
                  clear hb
                  go_wp2_with fail
                  go_meet
                  exact ⟨HR.out, HB.out⟩
  clear e1 e2 e5 HM HJ HL
  clear HR HB
  obtain ⟨hrd, hbl⟩ := hcut
  have HR := Lib.hid hrd
  have HB := Lib.hid hbl
  clear hrd hbl
  go_wp2_with fail
  refine (DrawLongestChain_any _ _ _ _ _ HR.out hn9 HZ.out).mono ?_
  rintro e w24 ⟨p, q, hp, hq, rfl, hb⟩
  replace HB := Lib.hid (HB.out.trans (hb.mono HB.out.size))
  replace HR := Lib.hid (HR.out.below hb)
  have hp9 : p.length ≤ 1000000000 := by omega
  have hq9 : q.length ≤ 1000000000 := by omega
  clear hp hq
  clear hb
  obtain ⟨l, hl⟩ : ∃ l, l = chB true p q := ⟨_, rfl⟩
  obtain ⟨s, hs⟩ : ∃ s, s = chB false p q := ⟨_, rfl⟩
  have hlaw := ch_law p q
  rw [← hl, ← hs] at hlaw
  have HLAW := Lib.hid hlaw.2
  have hsl : ¬ l < s := by omega
  have hb1 : decide (l < s) = false := decide_eq_false hsl
  have HLL := Lib.hid hl.symm
  have HSS := Lib.hid hs.symm
  have e7 : (l != l) = false := by simp
  have e8 : (s != s) = false := by simp
  clear hlaw hl hs
  go_wp2_with fail
  refine (implLongestChain_any p q _ hp9 hq9).mono ?_
  rintro e w25 ⟨rfl, hb⟩
  replace HB := Lib.hid (HB.out.trans (hb.mono HB.out.size))
  replace HR := Lib.hid (HR.out.below hb)
  rw [HLL.out]
  clear hb
  go_wp2_with fail
  refine (implShortestChain_any p q _ hp9 hq9).mono ?_
  rintro e w26 ⟨rfl, hb⟩
  replace HB := Lib.hid (HB.out.trans (hb.mono HB.out.size))
  replace HR := Lib.hid (HR.out.below hb)
  rw [HSS.out]
  clear hb
  go_upto_region 22 with fail
  go_cut [229] (fun s229 wx => s229 = .bool false ∧ Rd wx a0 len0 (uv (z0.take len0)) ∧ Below w.heap.size w wx)
  case first => as_aux_lemma =>
    skip
    go_wp2_with fail
    refine (specLongestChain_any p q _ hp9 hq9).mono ?_
    rintro e w27 ⟨rfl, hb⟩
    replace HB := Lib.hid (HB.out.trans (hb.mono HB.out.size))
    replace HR := Lib.hid (HR.out.below hb)
    rw [HLL.out]
    clear hb
    go_wp2_with fail
    refine (specShortestChain_any p q _ hp9 hq9).mono ?_
    rintro e w28 ⟨rfl, hb⟩
    replace HB := Lib.hid (HB.out.trans (hb.mono HB.out.size))
    replace HR := Lib.hid (HR.out.below hb)
    rw [HSS.out]
    clear hb
    go_wp2_with fail
    obtain ⟨NP, hNP⟩ : ∃ x, x = nodesB p := ⟨_, rfl⟩
    rw [← hNP] at HLAW
    have HNP := Lib.hid hNP.symm
    clear hNP
    refine (sb_noT p _ hp9).mono ?_
    rintro e w29 ⟨rfl, hb⟩
    replace HB := Lib.hid (HB.out.trans (hb.mono HB.out.size))
    replace HR := Lib.hid (HR.out.below hb)
    rw [HNP.out]
    clear hb
    by_cases g4 : NP ≤ 4
    case' neg => go_wp2_with fail
    case' neg => go_meet
    case neg => exact ⟨by first | rfl | (rw [hb1]) | (rw [hb1, hb2]; rfl) | simp [hb1, hb2] | simp [*], HR.out, HB.out⟩
    go_wp2_with fail
    refine (sb_noT p _ hp9).mono ?_
    rintro e w30 ⟨rfl, hb⟩
    replace HB := Lib.hid (HB.out.trans (hb.mono HB.out.size))
    replace HR := Lib.hid (HR.out.below hb)
    rw [HNP.out]
    clear hb
    by_cases g5 : 0 ≤ NP
    case' neg => go_wp2_with fail
    case' neg => go_meet
    case neg => exact ⟨by first | rfl | (rw [hb1]) | (rw [hb1, hb2]; rfl) | simp [hb1, hb2] | simp [*], HR.out, HB.out⟩
    by_cases g6 : 0 ≤ l
    · skip
      have HTL := Lib.hid (show tlessB p q = true by rw [← HLAW.out g4]; exact decide_eq_true g6)
      have hb2 : decide (0 ≤ l) = true := decide_eq_true g6
      go_wp2_with fail
      refine (implIsTamariLess_any p q _ hp9 hq9).mono ?_
      rintro e w31 ⟨rfl, hb⟩
      replace HB := Lib.hid (HB.out.trans (hb.mono HB.out.size))
      replace HR := Lib.hid (HR.out.below hb)
      rw [HTL.out]
      clear hb
      go_wp2_with fail
      go_meet
      exact ⟨by first | rfl | (rw [hb1]) | (rw [hb1, hb2]; rfl) | simp [hb1, hb2] | simp [*], HR.out, HB.out⟩
    · skip
      have HTL := Lib.hid (show tlessB p q = false by rw [← HLAW.out g4]; exact decide_eq_false g6)
      have hb2 : decide (0 ≤ l) = false := decide_eq_false g6
      go_wp2_with fail
      refine (implIsTamariLess_any p q _ hp9 hq9).mono ?_
      rintro e w31 ⟨rfl, hb⟩
      replace HB := Lib.hid (HB.out.trans (hb.mono HB.out.size))
      replace HR := Lib.hid (HR.out.below hb)
      rw [HTL.out]
      clear hb
      go_wp2_with fail
      go_meet
      exact ⟨by first | rfl | (rw [hb1]) | (rw [hb1, hb2]; rfl) | simp [hb1, hb2] | simp [*], HR.out, HB.out⟩
  clear HR HB
  obtain ⟨rfl, hrd, hbl⟩ := hcut
  have HR := Lib.hid hrd
  have HB := Lib.hid hbl
  clear hrd hbl
  go_wp2_with fail
  refine (DrawCountIntervals_any _ _ _ _ _ HR.out hn9 HZ.out).mono ?_
  rintro e w33 ⟨E, hE1, hE2, rfl, hb⟩
  replace HB := Lib.hid (HB.out.trans (hb.mono HB.out.size))
  replace HR := Lib.hid (HR.out.below hb)
  have HCI := Lib.hid (ci_if E hE1 hE2)
  obtain ⟨F, hF⟩ : ∃ F, F = ciB E := ⟨_, rfl⟩
  rw [← hF] at HCI
  have HF := Lib.hid hF.symm
  have f0 : (F != F) = false := by simp
  clear hF
  clear hb
  go_wp2_with fail
  refine (implCountIntervals_any E _).mono ?_
  rintro e w34 ⟨rfl, hb⟩
  replace HB := Lib.hid (HB.out.trans (hb.mono HB.out.size))
  replace HR := Lib.hid (HR.out.below hb)
  rw [HF.out]
  clear hb
  go_upto_region 26 with fail
  go_cut [247] (fun s247 wx => s247 = .bool false ∧ Rd wx a0 len0 (uv (z0.take len0)) ∧ Below w.heap.size w wx)
  case first => as_aux_lemma =>
    skip
    go_wp2_with fail
    refine (specCountIntervals_any E _).mono ?_
    rintro e w35 ⟨rfl, hb⟩
    replace HB := Lib.hid (HB.out.trans (hb.mono HB.out.size))
    replace HR := Lib.hid (HR.out.below hb)
    rw [HF.out]
    clear hb
    by_cases g7 : 0 ≤ F
    case' neg => go_wp2_with fail
    case' neg => go_meet
    case neg => exact ⟨rfl, HR.out, HB.out⟩
    have HIF := Lib.hid (show ifI E = F by rcases HCI.out with h | h; omega; exact h.symm)
    go_wp2_with fail
    refine (sb_ifI E _).mono ?_
    rintro e w36 ⟨rfl, hb⟩
    replace HB := Lib.hid (HB.out.trans (hb.mono HB.out.size))
    replace HR := Lib.hid (HR.out.below hb)
    rw [HIF.out]
    clear hb
    go_wp2_with fail
    go_meet
    exact ⟨rfl, HR.out, HB.out⟩
  clear HR HB
  obtain ⟨rfl, hrd, hbl⟩ := hcut
  have HR := Lib.hid hrd
  have HB := Lib.hid hbl
  clear hrd hbl
  as_aux_lemma =>
    go_wp2_with fail
    refine (DrawIntervalSize_any _ _ _ _ _ HR.out hn9 HZ.out).mono ?_
    rintro e w37 ⟨g, h, hg, hh, rfl, hb⟩
    replace HB := Lib.hid (HB.out.trans (hb.mono HB.out.size))
    replace HR := Lib.hid (HR.out.below hb)
    have hg9 : g.length ≤ 1000000000 := by omega
    have hh9 : h.length ≤ 1000000000 := by omega
    have HIZ := Lib.hid (isz_law g h)
    obtain ⟨I, hI⟩ : ∃ I, I = iszB g h := ⟨_, rfl⟩
    rw [← hI] at HIZ
    have HI := Lib.hid hI.symm
    have f1 : (I == I) = true := by simp
    clear hI hg hh
    clear hb
    go_wp2_with fail
    refine (implIntervalSize_any g h _ hg9 hh9).mono ?_
    rintro e w38 ⟨rfl, hb⟩
    replace HB := Lib.hid (HB.out.trans (hb.mono HB.out.size))
    replace HR := Lib.hid (HR.out.below hb)
    rw [HI.out]
    clear hb
    go_wp2_with fail
    refine (DrawIsTamariLess_any _ _ _ _ _ HR.out hn9 HZ.out).mono ?_
    rintro e w39 ⟨U, V, hU, hV, rfl, hb⟩
    replace HB := Lib.hid (HB.out.trans (hb.mono HB.out.size))
    replace HR := Lib.hid (HR.out.below hb)
    have hU9 : U.length ≤ 1000000000 := by omega
    have hV9 : V.length ≤ 1000000000 := by omega
    obtain ⟨B, hB⟩ : ∃ B, B = tlessB U V := ⟨_, rfl⟩
    have HBB := Lib.hid hB.symm
    have f2 : (B == B) = true := by simp
    clear hB hU hV
    clear hb
    go_wp2_with fail
    refine (DrawIntervalFormula_any _ _ _ _ _ HR.out hn9 HZ.out).mono ?_
    rintro e w40 ⟨W, hW1, hW2, rfl, hb⟩
    replace HB := Lib.hid (HB.out.trans (hb.mono HB.out.size))
    replace HR := Lib.hid (HR.out.below hb)
    obtain ⟨G, hG⟩ : ∃ G, G = ifI W := ⟨_, rfl⟩
    have HG := Lib.hid hG.symm
    have f3 : (G == G) = true := by simp
    clear hG
    clear hb
    go_wp2_with fail
    refine (specIntervalSize_any g h _ hg9 hh9).mono ?_
    rintro e w41 ⟨rfl, hb⟩
    replace HB := Lib.hid (HB.out.trans (hb.mono HB.out.size))
    replace HR := Lib.hid (HR.out.below hb)
    rw [HI.out]
    clear hb
    by_cases g8 : I < 0
    · skip
      have g8b : decide (I < 0) = true := decide_eq_true g8
      go_wp2_with fail
      refine (implIsTamariLess_any U V _ hU9 hV9).mono ?_
      rintro e w42 ⟨rfl, hb⟩
      replace HB := Lib.hid (HB.out.trans (hb.mono HB.out.size))
      replace HR := Lib.hid (HR.out.below hb)
      rw [HBB.out]
      clear hb
      go_wp2_with fail
      refine (specTam_b U V _ hU9 hV9).mono ?_
      rintro e w43 ⟨rfl, hb⟩
      replace HB := Lib.hid (HB.out.trans (hb.mono HB.out.size))
      replace HR := Lib.hid (HR.out.below hb)
      rw [HBB.out]
      clear hb
      go_wp2_with fail
      refine (sb_ifI W _).mono ?_
      rintro e w44 ⟨rfl, hb⟩
      replace HB := Lib.hid (HB.out.trans (hb.mono HB.out.size))
      replace HR := Lib.hid (HR.out.below hb)
      rw [HG.out]
      clear hb
      go_wp2_with fail
      refine (sb_ifS W _).mono ?_
      rintro e w45 ⟨rfl, hb⟩
      replace HB := Lib.hid (HB.out.trans (hb.mono HB.out.size))
      replace HR := Lib.hid (HR.out.below hb)
      rw [HG.out]
      clear hb
      go_wp2_with fail
      go_ret
      refine ⟨?_, HB.out⟩
      first | rfl | (simp only [g8b, g9b]; rfl) | simp [g8b, g9b] | simp [g8b] | simp [*]
    · skip
      by_cases g9 : 0 < I
      · skip
        have g8b : decide (I < 0) = false := decide_eq_false g8
        have g9b : decide (0 < I) = true := decide_eq_true g9
        have HTG := Lib.hid (show tlessB g h = true by rcases HIZ.out with x | x; omega; rw [← x.2]; exact decide_eq_true g9)
        go_wp2_with fail
        refine (implIsTamariLess_any g h _ hg9 hh9).mono ?_
        rintro e w42 ⟨rfl, hb⟩
        replace HB := Lib.hid (HB.out.trans (hb.mono HB.out.size))
        replace HR := Lib.hid (HR.out.below hb)
        rw [HTG.out]
        clear hb
        go_wp2_with fail
        refine (implIsTamariLess_any U V _ hU9 hV9).mono ?_
        rintro e w43 ⟨rfl, hb⟩
        replace HB := Lib.hid (HB.out.trans (hb.mono HB.out.size))
        replace HR := Lib.hid (HR.out.below hb)
        rw [HBB.out]
        clear hb
        go_wp2_with fail
        refine (specTam_b U V _ hU9 hV9).mono ?_
        rintro e w44 ⟨rfl, hb⟩
        replace HB := Lib.hid (HB.out.trans (hb.mono HB.out.size))
        replace HR := Lib.hid (HR.out.below hb)
        rw [HBB.out]
        clear hb
        go_wp2_with fail
        refine (sb_ifI W _).mono ?_
        rintro e w45 ⟨rfl, hb⟩
        replace HB := Lib.hid (HB.out.trans (hb.mono HB.out.size))
        replace HR := Lib.hid (HR.out.below hb)
        rw [HG.out]
        clear hb
        go_wp2_with fail
        refine (sb_ifS W _).mono ?_
        rintro e w46 ⟨rfl, hb⟩
        replace HB := Lib.hid (HB.out.trans (hb.mono HB.out.size))
        replace HR := Lib.hid (HR.out.below hb)
        rw [HG.out]
        clear hb
        go_wp2_with fail
        go_ret
        refine ⟨?_, HB.out⟩
        first | rfl | (simp only [g8b, g9b]; rfl) | simp [g8b, g9b] | simp [g8b] | simp [*]
      · skip
        have g8b : decide (I < 0) = false := decide_eq_false g8
        have g9b : decide (0 < I) = false := decide_eq_false g9
        have HTG := Lib.hid (show tlessB g h = false by rcases HIZ.out with x | x; omega; rw [← x.2]; exact decide_eq_false g9)
        go_wp2_with fail
        refine (implIsTamariLess_any g h _ hg9 hh9).mono ?_
        rintro e w42 ⟨rfl, hb⟩
        replace HB := Lib.hid (HB.out.trans (hb.mono HB.out.size))
        replace HR := Lib.hid (HR.out.below hb)
        rw [HTG.out]
        clear hb
        go_wp2_with fail
        refine (implIsTamariLess_any U V _ hU9 hV9).mono ?_
        rintro e w43 ⟨rfl, hb⟩
        replace HB := Lib.hid (HB.out.trans (hb.mono HB.out.size))
        replace HR := Lib.hid (HR.out.below hb)
        rw [HBB.out]
        clear hb
        go_wp2_with fail
        refine (specTam_b U V _ hU9 hV9).mono ?_
        rintro e w44 ⟨rfl, hb⟩
        replace HB := Lib.hid (HB.out.trans (hb.mono HB.out.size))
        replace HR := Lib.hid (HR.out.below hb)
        rw [HBB.out]
        clear hb
        go_wp2_with fail
        refine (sb_ifI W _).mono ?_
        rintro e w45 ⟨rfl, hb⟩
        replace HB := Lib.hid (HB.out.trans (hb.mono HB.out.size))
        replace HR := Lib.hid (HR.out.below hb)
        rw [HG.out]
        clear hb
        go_wp2_with fail
        refine (sb_ifS W _).mono ?_
        rintro e w46 ⟨rfl, hb⟩
        replace HB := Lib.hid (HB.out.trans (hb.mono HB.out.size))
        replace HR := Lib.hid (HR.out.below hb)
        rw [HG.out]
        clear hb
        go_wp2_with fail
        go_ret
        refine ⟨?_, HB.out⟩
        first | rfl | (simp only [g8b, g9b]; rfl) | simp [g8b, g9b] | simp [g8b] | simp [*]

end Go.Proofs.Ytiebaoglcdbopaa
