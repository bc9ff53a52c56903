/- The program's TamariMeet and TamariJoin. -/
import Derived.Test.YtmpilfohjledpaaTamI
namespace Go.Proofs.Ytmpilfohjledpaa
open Go.RowKit Go.Deep

set_option maxHeartbeats 2000000 in
theorem implTamariMeet_any (a b : List UInt8) (w : World) (ha : a.length ≤ 1000000000) (hb : b.length ≤ 1000000000) :
    Calls Try.prog 35 #[.string (bs a), .string (bs b)] w fun e w' => e = .returned (.tuple #[.string (bs (meetB a b).1), .bool (meetB a b).2]) ∧ Below w.heap.size w w' := by
  rcases hf : alikeB a b 8 with _ | _
  · have HF := Lib.hid (show meetB a b = ([], false) by simp [meetB, hf])
    have H1 := Lib.hid hf
    clear hf
    go_enter Try.func35, Try.ntmps35
    go_wp2_with fail
    refine (alike_any _ _ 8 _ ha hb).mono ?_
    rintro e w0 ⟨rfl, hb0⟩
    rw [H1.out]
    go_wp2_with fail
    go_ret2
    exact ⟨by rw [HF.out]; rfl, hb0⟩
  · obtain ⟨s, t, rfl, rfl, hs, ht, _, _, hst, _⟩ := alike_yes hf
    have HF := Lib.hid (show meetB (tx s) (tx t) = bwB (minTo (wts s) (wts t) (nodes s)) by unfold meetB; rw [hf, wtsB_tx hs, wtsB_tx ht, wts_len]; rfl)
    have H1 := Lib.hid hf
    have HA := Lib.hid (wtsB_tx hs)
    have HB := Lib.hid (wtsB_tx ht)
    have hla := wts_len s
    have hlb := wts_len t
    clear hf
    go_enter Try.func35, Try.ntmps35
    go_wp2_with fail
    refine (alike_any _ _ 8 _ ha hb).mono ?_
    rintro e w0 ⟨rfl, hb0⟩
    rw [H1.out]
    go_wp2_with fail
    refine (implWeightsOf_any _ _ ha).mono ?_
    rintro e w1 ⟨A1, n1, c1, hn1, rfl, ho1, hb1⟩
    rw [HA.out] at hn1 ho1
    have O1 := Lib.hid ho1
    have hlt1 : ∀ g, A1 = some ⟨g, 0, none⟩ → g < w1.heap.size := fun g h => (ho1.blk g (by rw [h]; rfl)).2
    have HLT := Lib.hid hlt1
    have N1 := Lib.hid (hn1.trans hla)
    have XL := Lib.hid hn1.symm
    have hs01 := hb0.size
    have hs12 := hb1.size
    have HB1 := Lib.hid (hb0.trans (hb1.mono hb0.size))
    clear hn1 ho1 hb0 hb1 hlt1
    go_wp2_with fail
    refine (implWeightsOf_any _ _ hb).mono ?_
    rintro e w2 ⟨A2, n2, c2, hn2, rfl, ho2, hb2⟩
    rw [HB.out] at hn2 ho2
    have O2 := Lib.hid ho2
    have hge : ∀ g, A2 = some ⟨g, 0, none⟩ → w1.heap.size ≤ g := fun g h => (ho2.blk g (by rw [h]; rfl)).1
    have HGE := Lib.hid hge
    obtain rfl : n1 = n2 := by rw [N1.out, hst, ← hlb, ← hn2]
    have O1 := Lib.hid (O1.out.below hb2)
    have HB2 := Lib.hid (HB1.out.trans (hb2.mono HB1.out.size))
    have hs2 : w.heap.size ≤ w2.heap.size := HB2.out.size
    have hn8 : n1 ≤ 8 := by have := N1.out; omega
    clear hn2 ho2 hb2 HB1 hla hlb hst hge
    go_wp2_with fail
    go_loopw [8, 19] (fun _ i wr => ∃ k : Nat, k ≤ n1 ∧ i = .int .i64 k ∧ Own wr 3 w0.heap.size A1 n1 c1 (iv (minTo (wts s) (wts t) k ++ (wts s).drop k)) ∧ Own wr 3 w1.heap.size A2 n1 c2 (iv (wts t)) ∧ Below w.heap.size w wr) (fun _ i _ => n1 - (intOf i).toNat)
    case atStart => exact ⟨0, Nat.zero_le _, rfl, O1.out, O2.out, HB2.out⟩
    case round =>
      obtain ⟨k, hk, rfl, ho1, ho2, hbl⟩ := hrel
      obtain ⟨w3, rfl⟩ : ∃ W, W = wr := ⟨wr, rfl⟩
      by_cases hlt : k < n1
      · obtain ⟨g1, x, hA1, hg1, hgs1, hx, hc1, hf1⟩ := ho1.ati hlt
        obtain ⟨g2, y, hA2, hg2, hgs2, hy, hc2, hf2⟩ := ho2.ati hlt
        have hx' : (wts s)[k]? = some x := by rw [← minTo_at (xs := wts s) (ys := wts t)]; exact hx
        have HS := Lib.hid (minTo_set hx' (getDx hy))
        cases hA1
        cases hA2
        have hg12 : g1 < w1.heap.size := HLT.out g1 rfl
        have hne : ∀ g, (some (⟨g2, 0, none⟩ : Addr)) = some ⟨g, 0, none⟩ → g ≠ g1 := fun g h => by cases h; omega
        have P1 := Lib.hid ho1
        have P2 := Lib.hid ho2
        have k0 : (0 : Int) ≤ (k : Int) := by omega
        have k1 : (k : Int) < (n1 : Int) := by omega
        have hlo : w.heap.size ≤ g1 := by omega
        have HNE := Lib.hid hne
        clear hx hy hx' ho1 ho2 hne
        by_cases hyx : y < x
        · have HS2 := Lib.hid (show (minTo (wts s) (wts t) k ++ (wts s).drop k).set k y = minTo (wts s) (wts t) (k + 1) ++ (wts s).drop (k + 1) by rw [← HS.out, if_pos hyx])
          go_wp2_with fail
          go_still_tail 12, (by kernel_rfl)
          change wpList _ _ _ _ _ w3.drew
          go_wp2_with fail
          go_roundw
          case rel => exact ⟨k + 1, by omega, by go_num, by rw [← HS2.out]; exact P1.out.puti k y, P2.out.set_far (p := ⟨g1, k, none⟩) HNE.out _, (hbl.setCell (p := ⟨g1, k, none⟩) hlo _).drew⟩
          case measure => simp [intOf]; omega
        · have HS2 := Lib.hid (show (minTo (wts s) (wts t) k ++ (wts s).drop k).set k x = minTo (wts s) (wts t) (k + 1) ++ (wts s).drop (k + 1) by rw [← HS.out, if_neg hyx])
          go_wp2_with fail
          go_still_tail 12, (by kernel_rfl)
          change wpList _ _ _ _ _ w3.drew
          go_wp2_with fail
          go_roundw
          case rel => exact ⟨k + 1, by omega, by go_num, by rw [← HS2.out]; exact P1.out.puti k x, P2.out.set_far (p := ⟨g1, k, none⟩) HNE.out _, (hbl.setCell (p := ⟨g1, k, none⟩) hlo _).drew⟩
          case measure => simp [intOf]; omega
      · have hkn : k = n1 := by omega
        have P1 := Lib.hid (show Rd w3 A1 n1 (iv (minTo (wts s) (wts t) (nodes s))) by
          have := ho1.rd
          rw [hkn, minTo_all XL.out] at this
          rw [← N1.out]; exact this)
        have hbs := hbl.size
        clear ho1 ho2 hkn
        go_wp2_with fail
        refine (implBinaryOfWeights_any _ _ _ _ _ P1.out (by omega)).mono ?_
        rintro e w4 ⟨rfl, hb4⟩
        go_wp2_with fail
        go_ret2
        exact ⟨by rw [HF.out]; rfl, hbl.trans (hb4.mono hbs)⟩

theorem isB_nil : isB [] = false := by rfl
set_option maxHeartbeats 1000000 in
theorem implTamariJoin_any (a b : List UInt8) (w : World) (ha : a.length ≤ 1000000000) (hb : b.length ≤ 1000000000) :
    Calls Try.prog 42 #[.string (bs a), .string (bs b)] w fun e w' => e = .returned (.tuple #[.string (bs (joinB a b).1), .bool (joinB a b).2]) ∧ Below w.heap.size w w' := by
  have hla : (mirB a).1.length ≤ 1000000000 := by
    rcases isB_cases a with h1 | ⟨s, rfl, hs, _⟩
    · rw [mirB_no h1]; simp
    · rw [mirB_tx hs]; show (tx (mir s)).length ≤ _; rw [tx_len, nodes_mir]; omega
  have hlb : (mirB b).1.length ≤ 1000000000 := by
    rcases isB_cases b with h1 | ⟨s, rfl, hs, _⟩
    · rw [mirB_no h1]; simp
    · rw [mirB_tx hs]; show (tx (mir s)).length ≤ _; rw [tx_len, nodes_mir]; omega
  have hcase : (meetB (mirB a).1 (mirB b).1 = ([], false) ∧ joinB a b = ([], false)) ∨ ∃ m, meetB (mirB a).1 (mirB b).1 = (tx m, true) ∧ nodes m ≤ 8 ∧ joinB a b = (tx (mir m), true) := by
    rcases isB_cases a with h1 | ⟨s, rfl, hs, _⟩
    · refine Or.inl ⟨?_, joinB_no (Or.inl h1)⟩
      rw [mirB_no h1]
      simp [meetB, alike_no1 isB_nil]
    rcases isB_cases b with h2 | ⟨t, rfl, ht, _⟩
    · refine Or.inl ⟨?_, joinB_no (Or.inr h2)⟩
      rw [mirB_no h2]
      simp [meetB, alike_no2 isB_nil]
    rw [mirB_tx hs, mirB_tx ht]
    rcases meetB_form (tx (mir s)) (tx (mir t)) with hm | ⟨m, hm, hm8, _, _⟩
    · exact Or.inl ⟨hm, joinB_bad hs ht hm⟩
    · exact Or.inr ⟨m, hm, hm8, joinB_yes hs ht hm8 hm⟩
  obtain ⟨X, hX⟩ : ∃ X, X = (mirB a).1 := ⟨_, rfl⟩
  obtain ⟨Y, hY⟩ : ∃ Y, Y = (mirB b).1 := ⟨_, rfl⟩
  rw [← hX] at hla
  rw [← hY] at hlb
  rw [← hX, ← hY] at hcase
  have HX := Lib.hid hX.symm
  have HY := Lib.hid hY.symm
  clear hX hY
  rcases hcase with ⟨hm, hj⟩ | ⟨m, hm, hm8, hj⟩
  all_goals
    have HM := Lib.hid hm
    have HJ := Lib.hid hj
    clear hm hj
    go_enter Try.func42, Try.ntmps42
    go_wp2_with fail
    refine (implMirrorBinary_any _ _ ha).mono ?_
    rintro e w1 ⟨rfl, hb1⟩
    rw [HX.out]
    go_wp2_with fail
    refine (implMirrorBinary_any _ _ hb).mono ?_
    rintro e w2 ⟨rfl, hb2⟩
    rw [HY.out]
    have hb12 := hb1.trans (hb2.mono hb1.size)
    clear hb1 hb2
    go_wp2_with fail
    refine (implTamariMeet_any _ _ _ hla hlb).mono ?_
    rintro e w3 ⟨rfl, hb3⟩
    rw [HM.out]
    have hb13 := hb12.trans (hb3.mono hb12.size)
    clear hb12 hb3
    go_wp2_with fail
  · go_ret2
    exact ⟨by rw [HJ.out]; rfl, hb13⟩
  · have hml := tx_len m
    refine (implMirrorBinary_any (tx m) _ (by omega)).mono ?_
    rintro e w4 ⟨rfl, hb4⟩
    rw [mirB_tx hm8]
    go_wp2_with fail
    go_ret2
    exact ⟨by rw [HJ.out]; rfl, hb13.trans (hb4.mono hb13.size)⟩

end Go.Proofs.Ytmpilfohjledpaa
