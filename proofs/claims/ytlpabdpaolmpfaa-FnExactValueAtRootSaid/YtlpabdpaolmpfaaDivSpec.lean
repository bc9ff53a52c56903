/- DividePolynomials of the spec side. -/
import Derived.Test.YtlpabdpaolmpfaaDivMain
import Derived.StillTailTactics
namespace Go.Proofs.Ytlpabdpaolmpfaa
open Go.RowKit

set_option maxHeartbeats 4000000 in
set_option maxRecDepth 4000 in
theorem specDividePolynomials_any (A1 : Option Addr) (n1 c1 : Nat) (xs : List Int) (A2 : Option Addr) (n2 c2 : Nat) (ys : List Int) (w : World) (h1 : Rd w A1 n1 (iv xs)) (h2 : Rd w A2 n2 (iv ys)) (hn1 : n1 ≤ 1000000000) (hn2 : n2 ≤ 1000000000) :
    Calls Try.prog 29 #[.slice A1 n1 c1, .slice A2 n2 c2] w (RetIIB w (divP xs ys).1 (divP xs ys).2.1 (divP xs ys).2.2) := by
  have HR1 := Lib.hid h1
  have HR2 := Lib.hid h2
  have HL1 := Lib.hid (show xs.length = n1 by have := h1.len; rw [iv_len] at this; exact this)
  have HL2 := Lib.hid (show ys.length = n2 by have := h2.len; rw [iv_len] at this; exact this)
  clear h1 h2
  rcases hp : isFac xs with _ | _
  · have HF := Lib.hid (divP_bad1 (ys := ys) hp)
    have HP := Lib.hid hp
    clear hp
    go_enter Try.func29, Try.ntmps29
    go_wp2_with fail
    refine (l14Small_any _ _ _ _ _ HR1.out hn1).mono ?_
    rintro e w' ⟨rfl, rfl⟩
    rw [HP.out]
    go_wp2_with fail
    go_ret3
    rw [HF.out]
    exact RetIIB.empty (Below.refl _ _)
  rcases ho : isPol ys with _ | _
  · have HF := Lib.hid (divP_bad2 (xs := xs) (ys := ys) (by rcases hd : isDiv ys with _ | _; rfl; rw [isDiv_pol hd] at ho; cases ho))
    have HP := Lib.hid hp
    have HO := Lib.hid ho
    clear hp ho
    go_enter Try.func29, Try.ntmps29
    go_wp2_with fail
    refine (l14Small_any _ _ _ _ _ HR1.out hn1).mono ?_
    rintro e w' ⟨rfl, rfl⟩
    rw [HP.out]
    go_wp2_with fail
    refine (specIsPolynomial_any _ _ _ _ _ HR2.out hn2).mono ?_
    rintro e w' ⟨rfl, rfl⟩
    rw [HO.out]
    go_wp2_with fail
    go_ret3
    rw [HF.out]
    exact RetIIB.empty (Below.refl _ _)
  rcases hq : inB n2 1 13 with _ | _
  · have HF := Lib.hid (divP_bad2 (xs := xs) (isDiv_bad1 (ys := ys) (by rw [HL2.out]; exact hq)))
    have HP := Lib.hid hp
    have HO := Lib.hid ho
    have HQ := Lib.hid hq
    clear hp hq ho
    go_enter Try.func29, Try.ntmps29
    go_wp2_with fail
    refine (l14Small_any _ _ _ _ _ HR1.out hn1).mono ?_
    rintro e w' ⟨rfl, rfl⟩
    rw [HP.out]
    go_wp2_with fail
    refine (specIsPolynomial_any _ _ _ _ _ HR2.out hn2).mono ?_
    rintro e w' ⟨rfl, rfl⟩
    rw [HO.out]
    go_wp2_with fail
    refine (l1In_any _ _ _ _).mono ?_
    rintro e w' ⟨rfl, rfl⟩
    rw [HQ.out]
    go_wp2_with fail
    go_ret3
    rw [HF.out]
    exact RetIIB.empty (Below.refl _ _)
  have g2 := inB_iff.1 hq
  obtain ⟨b0, off0, y, hA, hy, hcy⟩ := HR2.out.ati (show n2 - 1 < n2 by omega)
  subst hA
  have HY := Lib.hid (last_of0 hy (by rw [HL2.out]; omega))
  have i0 : (0 : Int) ≤ (n2 : Int) - 1 := by omega
  have i1 : (n2 : Int) - 1 < (n2 : Int) := by omega
  have i2 : ((n2 : Int) - 1).toNat = n2 - 1 := by omega
  clear hy
  by_cases h1 : y = 1
  case neg =>
    have HF := Lib.hid (divP_bad2 (xs := xs) (isDiv_bad2 HY.out h1))
    have e1 : (y != 1) = true := by simpa using h1
    have HP := Lib.hid hp
    have HO := Lib.hid ho
    have HQ := Lib.hid hq
    clear hp hq h1 ho
    go_enter Try.func29, Try.ntmps29
    go_wp2_with fail
    refine (l14Small_any _ _ _ _ _ HR1.out hn1).mono ?_
    rintro e w' ⟨rfl, rfl⟩
    rw [HP.out]
    go_wp2_with fail
    refine (specIsPolynomial_any _ _ _ _ _ HR2.out hn2).mono ?_
    rintro e w' ⟨rfl, rfl⟩
    rw [HO.out]
    go_wp2_with fail
    refine (l1In_any _ _ _ _).mono ?_
    rintro e w' ⟨rfl, rfl⟩
    rw [HQ.out]
    go_wp2_with fail
    go_ret3
    rw [HF.out]
    exact RetIIB.empty (Below.refl _ _)
  have e1 : (y != 1) = false := by simpa using h1
  have HP := Lib.hid hp
  have HO := Lib.hid ho
  have HQ := Lib.hid hq
  have HY1 := Lib.hid (show ys.getLastD 0 = 1 by rw [HY.out, h1])
  obtain ⟨b1, bx⟩ := isFac_iff hp
  rw [HL1.out] at b1
  have BX := Lib.hid bx
  clear hp hq h1 ho bx
  go_enter Try.func29, Try.ntmps29
  go_wp2_with fail
  refine (l14Small_any _ _ _ _ _ HR1.out hn1).mono ?_
  rintro e w' ⟨rfl, rfl⟩
  rw [HP.out]
  go_wp2_with fail
  refine (specIsPolynomial_any _ _ _ _ _ HR2.out hn2).mono ?_
  rintro e w' ⟨rfl, rfl⟩
  rw [HO.out]
  go_wp2_with fail
  refine (l1In_any _ _ _ _).mono ?_
  rintro e w' ⟨rfl, rfl⟩
  rw [HQ.out]
  go_wp2_with fail
  go_loop [7] (fun i => ∃ k : Nat, k ≤ n2 ∧ i = .int .i64 k ∧ Hid ((ys.take k).all inU = true)) (fun i => n2 - (intOf i).toNat)
  case atStart => exact ⟨0, Nat.zero_le _, rfl, Lib.hid rfl⟩
  case round =>
    obtain ⟨k, hk, rfl, HA⟩ := hrel
    by_cases hlt : k < n2
    · obtain ⟨b, off, x, hA, hx, hc⟩ := HR2.out.ati hlt
      cases hA
      have HX := Lib.hid hx
      clear hx
      rcases hin : inU x with _ | _
      · have HF := Lib.hid (divP_bad2 (xs := xs) (isDiv_bad3 (not_all HX.out hin)))
        have HI := Lib.hid hin
        clear hin
        go_wp2_with fail
        refine (l1In_any _ _ _ _).mono ?_
        rintro e w' ⟨rfl, rfl⟩
        rw [show inB x (-1) 1 = false from HI.out]
        go_wp2_with fail
        go_ret3
        rw [HF.out]
        exact RetIIB.empty (Below.refl _ _)
      · have HI := Lib.hid hin
        clear hin
        go_wp2_with fail
        refine (l1In_any _ _ _ _).mono ?_
        rintro e w' ⟨rfl, rfl⟩
        rw [show inB x (-1) 1 = true from HI.out]
        go_wp2_with fail
        go_round
        case rel => exact ⟨k + 1, by omega, by go_num, Lib.hid (take_all HA.out HX.out HI.out)⟩
        case measure => simp [intOf]; omega
    · have hkn : k = n2 := by omega
      subst hkn
      have hdv : isDiv ys = true := by
        unfold isDiv
        rw [HL2.out, HQ.out, HY1.out, all_of_take HA.out (by rw [HL2.out]; omega)]; rfl
      have HF0 := Lib.hid (show divP xs ys = match divQ xs ys with
        | none => ([], [], false)
        | some (q, r) => if isPol (trimL q) && isPol (trimL r) then (trimL q, trimL r, true) else ([], [], false) by unfold divP; rw [HP.out, hdv]; rfl)
      obtain ⟨b2, b3, _, by'⟩ := isDiv_iff hdv
      rw [HL2.out] at b2 b3
      have BY := Lib.hid by'
      clear hdv by' e1 hcy i0 i1 i2 g2 hlt hk HA
      go_wp2_with (at_builtin; refine appAll' _ rfl _ _ rfl w.heap.size (some ⟨w.heap.size, 0, none⟩) 0 0 (iv []) rfl (own_empty w) A1 n1 c1 xs rfl (HR1.out.alloc _) (by omega) (by simp) ?_; intro Al cl w1 hown1 hg1 hb1; have hb1 := ((Below.refl w.heap.size w).alloc (Nat.le_refl _) (.cells #[] 3)).trans hb1; have hs1 := hb1.size; have HOL := Lib.hid (show Own w1 3 w.heap.size Al n1 cl (iv xs) by simpa [iv] using hown1); have hgne : ∀ g : Nat, Al = some ⟨g, 0, none⟩ → g ≠ w1.heap.size := (fun g hg => by have := (HOL.out.blk g (by rw [hg]; rfl)).2; omega); clear hown1 hg1; obtain ⟨m, hm, hmm⟩ := mkDiv n1 k (by omega) w1; have HM := Lib.hid hm; have hm61 : m ≤ 61 := (by omega); have HO0 := Lib.hid (show Own (w1.alloc (.cells (madeCells #[.int .i64 0] m) 3)) 3 w.heap.size (some ⟨w1.heap.size, 0, none⟩) m m (iv (List.replicate m 0)) by have := Own.made w1 3 (.int .i64 0) m (by unfold maxLen; omega); rw [iv_rep] at this; exact this.mono hs1); clear hm; rcases hmm with ⟨hmx, hmi, hmk⟩ | ⟨hmx, hmi, hmk⟩ <;> clear hmi)
      all_goals
        have HN := Lib.hid (show n1 < n1 + 1 from Nat.lt_succ_self _)
        clear hmx hmk
        go_loopw [10, 11, 12] (fun i _ _ wr => ∃ (z : Nat) (q r : List Int), z ≤ m ∧ i = .int .i64 ((z : Int) - 1) ∧ Hid (divR ys z q r = divQ xs ys) ∧ Hid (∀ j : Nat, -(100000 + ((m : Int) - z) * 1000000000) ≤ r.getD j 0 ∧ r.getD j 0 ≤ 100000 + ((m : Int) - z) * 1000000000) ∧ Own wr 3 w.heap.size (some ⟨w1.heap.size, 0, none⟩) m m (iv q) ∧ Own wr 3 w.heap.size Al n1 cl (iv r) ∧ Below w.heap.size w wr) (fun i _ _ _ => (intOf i + 1).toNat)
        case atStart => exact ⟨m, List.replicate m 0, xs, Nat.le_refl _, rfl, Lib.hid (by unfold divQ; rw [HL1.out, HL2.out, HM.out]), Lib.hid (fun j => by have := getD_bd BX.out j; omega), HO0.out, HOL.out.alloc _, hb1.alloc hs1 _⟩
        case round =>
          obtain ⟨z, q, r, hz, rfl, HD, HB, hoq, hor, hb⟩ := hrel
          rcases z with _ | z
          · have HD' := Lib.hid (show divQ xs ys = some (q, r) from HD.out.symm)
            have HQ := Lib.hid hoq
            have HR := Lib.hid hor
            have hsz := hb.size
            clear hoq hor HD HB
            have zz : ¬ (0 : Int) ≤ ((0 : Nat) : Int) - 1 := by omega
            have hlen := divQ_len (by rw [HL1.out]; exact b1) HD'.out
            have HF1 := Lib.hid (show divP xs ys = if isPol (trimL q) && isPol (trimL r) then (trimL q, trimL r, true) else ([], [], false) by rw [HF0.out, HD'.out])
            have hcl := own_cap HR.out
            go_wp2_with fail
            refine (l14Trim_any _ _ _ _ _ HQ.out.rd (by omega) (Nat.le_refl _) (by unfold maxLen; omega) (by simp)).mono ?_
            rintro e w4 ⟨R0, m0, d0, hm0, rfl, ho0, hb4⟩
            have HM0 := Lib.hid hm0
            have HO0' := Lib.hid ho0
            have l0 : m0 ≤ 62 := by omega
            have hs4 := hb4.size
            clear hm0 ho0
            go_wp2_with fail
            refine (l14Trim_any _ _ _ _ _ (HR.out.below hb4).rd (by omega) hcl.1 (by unfold maxLen; omega) hcl.2.2).mono ?_
            rintro e w5 ⟨R1, m1, d1, hm1, rfl, ho1, hb5⟩
            have HM1 := Lib.hid hm1
            have HO1 := Lib.hid ho1
            have l1 : m1 ≤ 62 := by omega
            have hs5 := hb5.size
            have HO0 := Lib.hid (HO0'.out.below hb5)
            have HNE := Lib.hid (show ∀ k, Value.ownBlock (.slice R0 m0 d0) = some k → Value.ownBlock (.slice R1 m1 d1) ≠ some k from fun k hk hk2 => by
              have h3 := (HO0'.out.blk k hk).2
              have h4 := (HO1.out.blk k hk2).1
              omega)
            have HBB := Lib.hid (hb.trans ((hb4.mono hsz).trans (hb5.mono (by omega))))
            clear hm1 ho1 hlen hcl
            rcases hq1 : isPol (trimL q) with _ | _
            · have HF := Lib.hid (show divP xs ys = ([], [], false) by rw [HF1.out, hq1]; rfl)
              have HI := Lib.hid hq1
              clear hq1
              go_wp2_with fail
              refine (specIsPolynomial_any _ _ _ _ _ HO0.out.rd (by omega)).mono ?_
              rintro e w' ⟨rfl, rfl⟩
              rw [HI.out]
              go_wp2_with fail
              go_ret3
              rw [HF.out]
              exact RetIIB.empty HBB.out
            · rw [hq1] at HF1
              have HI := Lib.hid hq1
              clear hq1
              rcases hr1 : isPol (trimL r) with _ | _
              all_goals
                have HJ := Lib.hid hr1
                rw [hr1] at HF1
                clear hr1
                go_wp2_with fail
                refine (specIsPolynomial_any _ _ _ _ _ HO0.out.rd (by omega)).mono ?_
                rintro e w' ⟨rfl, rfl⟩
                rw [HI.out]
                go_wp2_with fail
                refine (specIsPolynomial_any _ _ _ _ _ HO1.out.rd (by omega)).mono ?_
                rintro e w' ⟨rfl, rfl⟩
                rw [HJ.out]
                go_wp2_with fail
                go_ret3
                rw [HF1.out]
                first
                  | exact RetIIB.empty HBB.out
                  | exact RetIIB.mk HM0.out HM1.out rfl (HO0.out.mono (by omega)) (HO1.out.mono (by omega)) HNE.out HBB.out
          · have ez : ((z + 1 : Nat) : Int) - 1 = (z : Int) := by omega
            rw [ez]
            have hN := HN.out
            have hM := HM.out
            obtain ⟨g, f, hg, hgl, hgs, hf, hcf, hff⟩ := hor.ati (show z + k - 1 < n1 by omega)
            subst hg
            have hgm := hgne g rfl
            have HF := Lib.hid (getD_of hf)
            have HQ := Lib.hid hoq
            have HR := Lib.hid hor
            have i0 : (0 : Int) ≤ (z : Int) + (k : Int) - 1 := by omega
            have i1 : (z : Int) + (k : Int) - 1 < (n1 : Int) := by omega
            have i2 : ((z : Int) + (k : Int) - 1).toNat = z + k - 1 := by omega
            have i3 : IntKind.i64.wrap ((z : Int) + (k : Int) - 1) = (z : Int) + (k : Int) - 1 := IntWalk.i64_in _ (by omega)
            have i4 : IntKind.i64.wrap ((z : Int) + (k : Int)) = (z : Int) + (k : Int) := IntWalk.i64_in _ (by omega)
            clear hf hor hoq ez
            rcases hin : inM f with _ | _
            · have HI := Lib.hid hin
              have HD' := Lib.hid (show divQ xs ys = none by rw [← HD.out, divR, HL2.out, HF.out, if_neg (by rw [hin]; decide)])
              have hsz := hb.size
              clear hin hN hM HB
              go_wp2_with fail
              refine (l1In_any _ _ _ _).mono ?_
              rintro e w' ⟨rfl, rfl⟩
              rw [show inB f (-1000000000) 1000000000 = false from HI.out]
              have HF := Lib.hid (show divP xs ys = ([], [], false) by rw [HF0.out, HD'.out])
              go_wp2_with fail
              go_ret3
              rw [HF.out]
              exact RetIIB.empty hb
            · have HI := Lib.hid hin
              have HD' := Lib.hid (show divR ys z (q.set z f) (upd r (fun k => -(f * ys.getD k 0)) z k) = divQ xs ys by rw [← HD.out, divR, HL2.out, HF.out, if_pos hin])
              have fb := inB_iff.1 (show inB f (-1000000000) 1000000000 = true from hin)
              obtain ⟨gq, fq, hgq, _, hgqs, _, hcq, hfq⟩ := HQ.out.ati (show z < m by omega)
              cases hgq
              have HQ' := Lib.hid (HQ.out.puti z f)
              have HR' := Lib.hid (HR.out.set_far (p := ⟨w1.heap.size, z, none⟩) (fun g' hg' => by cases hg'; exact hgm) (.int .i64 f))
              have hb' := hb.setCell (p := ⟨w1.heap.size, z, none⟩) hs1 (.int .i64 f)
              have zm : (z : Int) < (m : Int) := by omega
              have zb : z + k ≤ n1 := by omega
              clear hin hN hM
              go_wp2_with fail
              refine (l1In_any _ _ _ _).mono ?_
              rintro e w' ⟨rfl, rfl⟩
              rw [show inB f (-1000000000) 1000000000 = true from HI.out]
              go_wp2_with fail
              go_loopw [12] (fun i wr => ∃ j : Nat, j ≤ k ∧ i = .int .i64 j ∧ Own wr 3 w.heap.size (some ⟨w1.heap.size, 0, none⟩) m m (iv (q.set z f)) ∧ Own wr 3 w.heap.size (some ⟨g, 0, none⟩) n1 cl (iv (upd r (fun k => -(f * ys.getD k 0)) z j)) ∧ Below w.heap.size w wr) (fun i _ => k - (intOf i).toNat)
              case atStart => exact ⟨0, Nat.zero_le _, rfl, HQ'.out, HR'.out, hb'⟩
              case round =>
                obtain ⟨j, hj, rfl, hoq, hor, hb2⟩ := hrel
                by_cases hlt2 : j < k
                · obtain ⟨b2, o2, x2, hA2, hx2, hc2⟩ := (HR2.out.below hb2).ati hlt2
                  cases hA2
                  obtain ⟨g', y, hg', _, hgs', hy, hcy, hfy⟩ := hor.ati (show z + j < n1 by omega)
                  cases hg'
                  have HQ2 := Lib.hid hoq
                  have HR3 := Lib.hid hor
                  have ux := getD_unit BY.out j
                  rw [getD_of hx2] at ux
                  have pb := unit_mul fb ux
                  have rl : r.length = n1 := by have := HR.out.len; rw [iv_len] at this; exact this
                  have yb := upd_div_bd (z := z) HB.out fb BY.out j (by omega) (z + j)
                  rw [getD_of hy] at yb
                  have HNN := Lib.hid (show (upd r (fun k => -(f * ys.getD k 0)) z j).set (z + j) (y - f * x2) = upd r (fun k => -(f * ys.getD k 0)) z (j + 1) by
                    show _ = List.set _ _ _
                    rw [getD_of hy]; show _ = List.set _ (z + j) (y + -(f * ys.getD j 0)); rw [getD_of hx2, Int.sub_eq_add_neg])
                  have kk0 : (0 : Int) ≤ (z : Int) + (j : Int) := by omega
                  have kk : (z : Int) + (j : Int) < (n1 : Int) := by omega
                  have ke : ((z : Int) + (j : Int)).toNat = z + j := by omega
                  have v1 : IntKind.i64.wrap (f * x2) = f * x2 := IntWalk.i64_in _ (by omega)
                  have v2 : IntKind.i64.wrap (y - f * x2) = y - f * x2 := IntWalk.i64_in _ (by omega)
                  have v3 : IntKind.i64.wrap ((z : Int) + (j : Int)) = (z : Int) + (j : Int) := IntWalk.i64_in _ (by omega)
                  clear hx2 hy hoq hor yb pb rl ux hcf hff hcq hfq
                  go_wp2_with fail
                  go_still_tail 18, (by kernel_rfl)
                  change wpList _ _ _ _ _ wr.drew
                  go_wp2_with fail
                  go_roundw
                  case rel => exact ⟨j + 1, by omega, by go_num, HQ2.out.set_far (p := ⟨g, z + j, none⟩) (fun g' hg' => by cases hg'; exact fun e => hgm e.symm) _, by rw [← HNN.out]; exact HR3.out.puti (z + j) (y - f * x2), (hb2.setCell (p := ⟨g, z + j, none⟩) hgl _).drew⟩
                  case measure => simp [intOf]; omega
                · have HQ2 := Lib.hid hoq
                  have HR3 := Lib.hid (show Own wr 3 w.heap.size (some ⟨g, 0, none⟩) n1 cl (iv (upd r (fun k => -(f * ys.getD k 0)) z k)) by rw [show k = j by omega]; exact hor)
                  have rl : r.length = n1 := by have := HR.out.len; rw [iv_len] at this; exact this
                  have HB2 := Lib.hid (show ∀ j : Nat, -(100000 + ((m : Int) - z) * 1000000000) ≤ (upd r (fun k => -(f * ys.getD k 0)) z k).getD j 0 ∧ (upd r (fun k => -(f * ys.getD k 0)) z k).getD j 0 ≤ 100000 + ((m : Int) - z) * 1000000000 from fun j => by
                    have := upd_div_bd (z := z) HB.out fb BY.out k (by omega) j
                    omega)
                  clear hoq hor rl
                  go_wp2_with fail
                  go_roundw
                  case rel => exact ⟨z, _, _, by omega, rfl, HD'.out, HB2.out, HQ2.out, HR3.out, hb2⟩
                  case measure => simp [intOf]

end Go.Proofs.Ytlpabdpaolmpfaa
