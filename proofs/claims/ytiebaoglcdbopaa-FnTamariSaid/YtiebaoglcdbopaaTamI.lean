/- The program: alike, IsTamariLess, TamariMeet, TamariJoin. -/
import Derived.Test.YtiebaoglcdbopaaTamL
import Derived.Test.YtiebaoglcdbopaaWtI2
import Derived.Test.YtiebaoglcdbopaaMirI
import Derived.Test.YtiebaoglcdbopaaPut
import Derived.StillTailTactics
namespace Go.Proofs.Ytiebaoglcdbopaa
open Go.RowKit Go.Deep

theorem alike_any (a b : List UInt8) (m : Int) (w : World) (ha : a.length ≤ 1000000000) (hb : b.length ≤ 1000000000) :
    Calls Try.prog 60 #[.string (bs a), .string (bs b), .int .i64 m] w fun e w' => e = .returned (.bool (alikeB a b m)) ∧ Below w.heap.size w w' := by
  rcases isB_cases a with h1 | ⟨s, rfl, hs, _⟩
  · have HF := Lib.hid (alike_no1 (b := b) (m := m) h1)
    have HN := Lib.hid (nodesB_no h1)
    clear h1
    go_enter Try.func60, Try.ntmps60
    go_wp2_with fail
    refine (implNodesOf_any _ _ ha).mono ?_
    rintro e w1 ⟨rfl, hb1⟩
    rw [HN.out]
    go_wp2_with fail
    go_ret
    exact ⟨ret_bool (by rw [HF.out]), hb1⟩
  by_cases hm : (nodes s : Int) ≤ m
  · rcases isB_cases b with h2 | ⟨t, rfl, ht, _⟩
    · have HF := Lib.hid (alike_no2 (a := tx s) (m := m) h2)
      have HN := Lib.hid (nodesB_tx hs)
      have HN2 := Lib.hid (nodesB_no h2)
      have g1 : ¬ (nodes s : Int) < 0 := by omega
      have e1 : ((nodes s : Int) == -1) = false := by rw [beq_eq_false_iff_ne]; omega
      clear h2
      go_enter Try.func60, Try.ntmps60
      go_wp2_with fail
      refine (implNodesOf_any _ _ ha).mono ?_
      rintro e w1 ⟨rfl, hb1⟩
      rw [HN.out]
      go_wp2_with fail
      refine (implNodesOf_any _ _ hb).mono ?_
      rintro e w2 ⟨rfl, hb2⟩
      rw [HN2.out]
      go_wp2_with fail
      go_ret
      exact ⟨ret_bool (by rw [HF.out]), hb1.trans (hb2.mono hb1.size)⟩
    · have hF : alikeB (tx s) (tx t) m = ((nodes s : Int) == (nodes t : Int)) := by
        rw [alike_tx hs ht, Bool.eq_iff_iff]
        simp only [Bool.and_eq_true, decide_eq_true_eq, beq_iff_eq]
        omega
      have HN := Lib.hid (nodesB_tx hs)
      have HN2 := Lib.hid (nodesB_tx ht)
      rcases h3 : ((nodes s : Int) == (nodes t : Int)) with _ | _
      all_goals
        have HF := Lib.hid (hF.trans h3)
        clear hF
        go_enter Try.func60, Try.ntmps60
        go_wp2_with fail
        refine (implNodesOf_any _ _ ha).mono ?_
        rintro e w1 ⟨rfl, hb1⟩
        rw [HN.out]
        go_wp2_with fail
        refine (implNodesOf_any _ _ hb).mono ?_
        rintro e w2 ⟨rfl, hb2⟩
        rw [HN2.out]
        go_wp2_with fail
        go_ret
        exact ⟨ret_bool (by rw [HF.out]), hb1.trans (hb2.mono hb1.size)⟩
  · have HF := Lib.hid (show alikeB (tx s) b m = false by simp [alikeB, nodesB_tx hs, hm])
    have HN := Lib.hid (nodesB_tx hs)
    have hm' : m < (nodes s : Int) := by omega
    clear hm
    go_enter Try.func60, Try.ntmps60
    go_wp2_with fail
    refine (implNodesOf_any _ _ ha).mono ?_
    rintro e w1 ⟨rfl, hb1⟩
    rw [HN.out]
    go_wp2_with fail
    go_ret
    exact ⟨ret_bool (by rw [HF.out]), hb1⟩

set_option maxHeartbeats 1000000 in
theorem implIsTamariLess_any (a b : List UInt8) (w : World) (ha : a.length ≤ 1000000000) (hb : b.length ≤ 1000000000) :
    Calls Try.prog 11 #[.string (bs a), .string (bs b)] w fun e w' => e = .returned (.bool (tlessB a b)) ∧ Below w.heap.size w w' := by
  rcases hf : alikeB a b 8 with _ | _
  · have HF := Lib.hid (show tlessB a b = false by simp [tlessB, hf])
    have H1 := Lib.hid hf
    clear hf
    go_enter Try.func11, Try.ntmps11
    go_wp2_with fail
    refine (alike_any _ _ 8 _ ha hb).mono ?_
    rintro e w0 ⟨rfl, hb0⟩
    rw [H1.out]
    go_wp2_with fail
    go_ret
    exact ⟨ret_bool (by rw [HF.out]), hb0⟩
  · obtain ⟨s, t, rfl, rfl, hs, ht, _, _, hst, _⟩ := alike_yes hf
    have HF := Lib.hid (show tlessB (tx s) (tx t) = wleTo (wts s) (wts t) (nodes s) by unfold tlessB; rw [hf, wtsB_tx hs, wtsB_tx ht, wts_len]; rfl)
    have H1 := Lib.hid hf
    have HA := Lib.hid (wtsB_tx hs)
    have HB := Lib.hid (wtsB_tx ht)
    have hla := wts_len s
    have hlb := wts_len t
    clear hf
    go_enter Try.func11, Try.ntmps11
    go_wp2_with fail
    refine (alike_any _ _ 8 _ ha hb).mono ?_
    rintro e w0 ⟨rfl, hb0⟩
    rw [H1.out]
    go_wp2_with fail
    refine (implWeightsOf_any _ _ ha).mono ?_
    rintro e w1 ⟨A1, n1, c1, hn1, rfl, ho1, hb1⟩
    rw [HA.out] at hn1 ho1
    have R1 := Lib.hid ho1.rd
    have N1 := Lib.hid (hn1.trans hla)
    have HB1 := Lib.hid (hb0.trans (hb1.mono hb0.size))
    clear hn1 ho1 hb0 hb1
    go_wp2_with fail
    refine (implWeightsOf_any _ _ hb).mono ?_
    rintro e w2 ⟨A2, n2, c2, hn2, rfl, ho2, hb2⟩
    rw [HB.out] at hn2 ho2
    have R2 := Lib.hid ho2.rd
    obtain rfl : n1 = n2 := by rw [N1.out, hst, ← hlb, ← hn2]
    have R1 := Lib.hid (R1.out.below hb2)
    have HB2 := Lib.hid (HB1.out.trans (hb2.mono HB1.out.size))
    have hn8 : n1 ≤ 8 := by have := N1.out; omega
    clear hn2 ho2 hb2 HB1 hla hlb hst
    go_wp2_with fail
    go_loopw [7, 18] (fun _ i wr => ∃ k m : Nat, k ≤ n1 ∧ i = .int .i64 k ∧ wr = w2.drewN m ∧ Hid (wleTo (wts s) (wts t) k = true)) (fun _ i _ => n1 - (intOf i).toNat)
    case atStart => exact ⟨0, 0, Nat.zero_le _, rfl, rfl, Lib.hid rfl⟩
    case round =>
      obtain ⟨k, m, hk, rfl, rfl, HT⟩ := hrel
      by_cases hlt : k < n1
      · obtain ⟨b1, o1, x, hA1, hx, hc1⟩ := R1.out.ati hlt
        obtain ⟨b2, o2, y, hA2, hy, hc2⟩ := R2.out.ati hlt
        cases hA1
        cases hA2
        have HX := Lib.hid (getDx hx)
        have HY := Lib.hid (getDx hy)
        have hk0 : (0 : Int) ≤ (k : Int) := by omega
        have hk1 : (k : Int) < (n1 : Int) := by omega
        clear hx hy
        by_cases hxy : y < x
        · have HF2 := Lib.hid (show tlessB (tx s) (tx t) = false by rw [HF.out, ← N1.out]; exact wleTo_false hlt (by rw [HX.out, HY.out]; exact hxy))
          go_wp2_with fail
          go_quiet (fail)
          go_wp2_with fail
          go_ret
          exact ⟨ret_bool (by rw [HF2.out]), (by repeat (first | exact HB2.out | apply below_drewN'))⟩
        · have hyx : x ≤ y := by omega
          clear hxy
          go_wp2_with fail
          go_quiet (fail)
          go_wp2_with fail
          go_roundw
          case rel => exact ⟨k + 1, _, by omega, by go_num, rfl, Lib.hid (by rw [wleTo_succ, HT.out, HX.out, HY.out]; simpa using hyx)⟩
          case measure => simp [intOf]; omega
      · have hkn : k = n1 := by omega
        have HF2 := Lib.hid (show tlessB (tx s) (tx t) = true by rw [HF.out, ← N1.out, ← hkn]; exact HT.out)
        clear hkn
        go_wp2_with fail
        go_ret
        exact ⟨ret_bool (by rw [HF2.out]), (by repeat (first | exact HB2.out | apply below_drewN'))⟩

end Go.Proofs.Ytiebaoglcdbopaa
