/- The reference's TamariMeet and TamariJoin. -/
import Derived.Test.YtmpilfohjledpaaTamS
namespace Go.Proofs.Ytmpilfohjledpaa
open Go.RowKit Go.Deep

set_option maxHeartbeats 2000000 in
theorem specTamariMeet_any (a b : List UInt8) (w : World) (ha : a.length ≤ 1000000000) (hb : b.length ≤ 1000000000) :
    Calls Try.prog 34 #[.string (bs a), .string (bs b)] w fun e w' => e = .returned (.tuple #[.string (bs (meetB a b).1), .bool (meetB a b).2]) ∧ Below w.heap.size w w' := by
  rcases hf : alikeB a b 8 with _ | _
  · have HF := Lib.hid (show meetB a b = ([], false) by simp [meetB, hf])
    have H1 := Lib.hid hf
    clear hf
    go_enter Try.func34, Try.ntmps34
    go_wp2_with fail
    refine (fit_any _ _ _ ha hb).mono ?_
    rintro e w0 ⟨rfl, hb0⟩
    rw [H1.out]
    go_wp2_with fail
    go_ret2
    exact ⟨by rw [HF.out]; rfl, hb0⟩
  · obtain ⟨s, t, rfl, rfl, hs, ht, _, _, hst, _⟩ := alike_yes hf
    have HF := Lib.hid (show meetB (tx s) (tx t) = bwB (minTo (wts s) (wts t) (nodes s)) by unfold meetB; rw [hf, wtsB_tx hs, wtsB_tx ht, wts_len]; rfl)
    have H1 := Lib.hid hf
    have HA := Lib.hid (wtsB_tx hs)
    have HB := Lib.hid (wtsB_tx ht)
    have hla := wts_len s
    have hlb := wts_len t
    clear hf
    go_enter Try.func34, Try.ntmps34
    go_wp2_with fail
    refine (fit_any _ _ _ ha hb).mono ?_
    rintro e w0 ⟨rfl, hb0⟩
    rw [H1.out]
    go_wp2_with fail
    refine (specWeightsOf_any _ _ ha).mono ?_
    rintro e w1 ⟨A1, n1, c1, hn1, rfl, ho1, hb1⟩
    rw [HA.out] at hn1 ho1
    have R1 := Lib.hid ho1.rd
    have N1 := Lib.hid (hn1.trans hla)
    have HB1 := Lib.hid (hb0.trans (hb1.mono hb0.size))
    clear hn1 ho1 hb0 hb1
    go_wp2_with fail
    refine (specWeightsOf_any _ _ hb).mono ?_
    rintro e w2 ⟨A2, n2, c2, hn2, rfl, ho2, hb2⟩
    rw [HB.out] at hn2 ho2
    have R2 := Lib.hid ho2.rd
    obtain rfl : n1 = n2 := by rw [N1.out, hst, ← hlb, ← hn2]
    have R1 := Lib.hid (R1.out.below hb2)
    have HB2 := Lib.hid (HB1.out.trans (hb2.mono HB1.out.size))
    have hs2 : w.heap.size ≤ w2.heap.size := HB2.out.size
    have hn8 : n1 ≤ 8 := by have := N1.out; omega
    clear hn2 ho2 hb2 HB1 hla hlb hst
    go_wp2_with fail
    go_loopw [8, 9] (fun s' i wr => ∃ (k : Nat) (A : Option Addr) (c : Nat), k ≤ n1 ∧ i = .int .i64 k ∧ s' = .slice A k c ∧ Own wr 3 w2.heap.size A k c (iv (minTo (wts s) (wts t) k)) ∧ Below w2.heap.size w2 wr) (fun _ i _ => n1 - (intOf i).toNat)
    case atStart => exact ⟨0, _, _, Nat.zero_le _, rfl, rfl, own_empty w2, (Below.refl _ _).alloc (Nat.le_refl _) _⟩
    case round =>
      obtain ⟨k, A, c, hk, rfl, rfl, ho, hbl⟩ := hrel
      obtain ⟨w3, rfl⟩ : ∃ W, W = wr := ⟨wr, rfl⟩
      have HO := Lib.hid ho
      have hbs := hbl.size
      clear ho
      by_cases hlt : k < n1
      · obtain ⟨b1, o1, x, hA1, hx, hc1⟩ := (R1.out.below hbl).ati hlt
        obtain ⟨b2, o2, y, hA2, hy, hc2⟩ := (R2.out.below hbl).ati hlt
        cases hA1
        cases hA2
        have HS := Lib.hid (show minTo (wts s) (wts t) (k + 1) = minTo (wts s) (wts t) k ++ [if y < x then y else x] by rw [minTo_succ, getDx hx, getDx hy])
        have k0 : (0 : Int) ≤ (k : Int) := by omega
        have k1 : (k : Int) < (n1 : Int) := by omega
        clear hx hy
        by_cases hyx : y < x
        · have HS2 := Lib.hid (show minTo (wts s) (wts t) (k + 1) = minTo (wts s) (wts t) k ++ [y] by rw [HS.out, if_pos hyx])
          go_wp2_with fail
          go_region_law (refine stepI2 _ (by rfl) _ _ (by rfl) w2.heap.size A k c (iv (minTo (wts s) (wts t) k)) (by simp [Act.eval]) ((HO.out.alloc _).drew) w3.heap.size y (by simp [Act.eval]) (by simp) (by omega) hbs ?_; intro A' c' w' hown' hg' hb')
          all_goals
            have HO' := Lib.hid (show Own w' 3 w2.heap.size A' (k + 1) c' (iv (minTo (wts s) (wts t) (k + 1))) by rw [HS2.out, iv_snoc]; exact hown')
            have hb3 := ((hbl.alloc hbs _).drew).trans hb'
            clear hown' hg' hb'
            go_wp2_with fail
            go_roundw
            case rel => exact ⟨k + 1, _, c', by omega, by go_num, rfl, HO'.out, hb3⟩
            case measure => simp [intOf] <;> omega
        · have HS2 := Lib.hid (show minTo (wts s) (wts t) (k + 1) = minTo (wts s) (wts t) k ++ [x] by rw [HS.out, if_neg hyx])
          go_wp2_with fail
          go_region_law (refine stepI2 _ (by rfl) _ _ (by rfl) w2.heap.size A k c (iv (minTo (wts s) (wts t) k)) (by simp [Act.eval]) ((HO.out.alloc _).drew) w3.heap.size x (by simp [Act.eval]) (by simp; omega) (by omega) hbs ?_; intro A' c' w' hown' hg' hb')
          all_goals
            have HO' := Lib.hid (show Own w' 3 w2.heap.size A' (k + 1) c' (iv (minTo (wts s) (wts t) (k + 1))) by rw [HS2.out, iv_snoc]; exact hown')
            have hb3 := ((hbl.alloc hbs _).drew).trans hb'
            clear hown' hg' hb'
            go_wp2_with fail
            go_roundw
            case rel => exact ⟨k + 1, _, c', by omega, by go_num, rfl, HO'.out, hb3⟩
            case measure => simp [intOf] <;> omega
      · obtain rfl : k = n1 := by omega
        clear hlt
        have HF2 := Lib.hid (show meetB (tx s) (tx t) = bwB (minTo (wts s) (wts t) k) by rw [HF.out, N1.out])
        have hcp := HO.out.caps2
        go_wp2_with fail
        refine (specBinaryOfWeights_any _ _ _ _ _ HO.out.rd (by omega) hcp.1 hcp.2).mono ?_
        rintro e w4 ⟨rfl, hb4⟩
        go_wp2_with fail
        go_ret2
        exact ⟨by rw [HF2.out]; rfl, HB2.out.trans ((hbl.trans (hb4.mono hbs)).mono hs2)⟩

set_option maxHeartbeats 1000000 in
theorem specTamariJoin_any (a b : List UInt8) (w : World) (ha : a.length ≤ 1000000000) (hb : b.length ≤ 1000000000) :
    Calls Try.prog 41 #[.string (bs a), .string (bs b)] w fun e w' => e = .returned (.tuple #[.string (bs (joinB a b).1), .bool (joinB a b).2]) ∧ Below w.heap.size w w' := by
  rcases hf : alikeB a b 8 with _ | _
  · have HF := Lib.hid (show joinB a b = ([], false) by
      rcases isB_cases a with h1 | ⟨s, rfl, hs, _⟩
      · exact joinB_no (Or.inl h1)
      rcases isB_cases b with h2 | ⟨t, rfl, ht, _⟩
      · exact joinB_no (Or.inr h2)
      refine joinB_bad hs ht ?_
      rw [alike_tx hs ht] at hf
      have : alikeB (tx (mir s)) (tx (mir t)) 8 = false := by rw [alike_tx (by rw [nodes_mir]; exact hs) (by rw [nodes_mir]; exact ht), nodes_mir, nodes_mir]; exact hf
      simp [meetB, this])
    have H1 := Lib.hid hf
    clear hf
    go_enter Try.func41, Try.ntmps41
    go_wp2_with fail
    refine (fit_any _ _ _ ha hb).mono ?_
    rintro e w0 ⟨rfl, hb0⟩
    rw [H1.out]
    go_wp2_with fail
    go_ret2
    exact ⟨by rw [HF.out]; rfl, hb0⟩
  · obtain ⟨s, t, rfl, rfl, hs, ht, _, _, hst, _⟩ := alike_yes hf
    have H1 := Lib.hid hf
    have hls := tx_len (mir s)
    have hlt := tx_len (mir t)
    rw [nodes_mir] at hls hlt
    have hls9 : (tx (mir s)).length ≤ 1000000000 := by omega
    have hlt9 : (tx (mir t)).length ≤ 1000000000 := by omega
    have hs6 : nodes s ≤ 1000000 := by omega
    have ht6 : nodes t ≤ 1000000 := by omega
    clear hf hls hlt hst
    rcases meetB_form (tx (mir s)) (tx (mir t)) with hm | ⟨m, hm, hm8, hsm, _⟩
    · have HF := Lib.hid (joinB_bad hs ht hm)
      have HM := Lib.hid hm
      clear hm
      go_enter Try.func41, Try.ntmps41
      go_wp2_with fail
      refine (fit_any _ _ _ ha hb).mono ?_
      rintro e w0 ⟨rfl, hb0⟩
      rw [H1.out]
      go_wp2_with fail
      refine (l6Mirror_any s _ hs6).mono ?_
      rintro e w1 ⟨rfl, m1, rfl⟩
      go_wp2_with fail
      refine (l6Mirror_any t _ ht6).mono ?_
      rintro e w1 ⟨rfl, m2, rfl⟩
      go_wp2_with fail
      refine (specTamariMeet_any _ _ _ hls9 hlt9).mono ?_
      rintro e w1 ⟨rfl, hb1⟩
      rw [HM.out]
      go_wp2_with fail
      go_ret2
      exact ⟨by rw [HF.out]; rfl, hb0.trans ((show Below w0.heap.size w0 w1 from ⟨hb1.os, hb1.tape, hb1.output, hb1.size, hb1.block⟩).mono hb0.size)⟩
    · have HF := Lib.hid (joinB_yes hs ht hm8 hm)
      have HM := Lib.hid hm
      clear hm hsm
      go_enter Try.func41, Try.ntmps41
      go_wp2_with fail
      refine (fit_any _ _ _ ha hb).mono ?_
      rintro e w0 ⟨rfl, hb0⟩
      rw [H1.out]
      go_wp2_with fail
      refine (l6Mirror_any s _ hs6).mono ?_
      rintro e w1 ⟨rfl, m1, rfl⟩
      go_wp2_with fail
      refine (l6Mirror_any t _ ht6).mono ?_
      rintro e w1 ⟨rfl, m2, rfl⟩
      go_wp2_with fail
      refine (specTamariMeet_any _ _ _ hls9 hlt9).mono ?_
      rintro e w1 ⟨rfl, hb1⟩
      rw [HM.out]
      go_wp2_with fail
      refine (l6Mirror_any m _ (by omega)).mono ?_
      rintro e w2 ⟨rfl, m3, rfl⟩
      go_wp2_with fail
      go_ret2
      exact ⟨by rw [HF.out]; rfl, below_drewN' (hb0.trans ((show Below w0.heap.size w0 w1 from ⟨hb1.os, hb1.tape, hb1.output, hb1.size, hb1.block⟩).mono hb0.size)) m3⟩

end Go.Proofs.Ytmpilfohjledpaa
