/- Merged: TamMI TamMS LatL. -/
import Derived.Test.YtiebaoglcdbopaaTamI
import Derived.Test.YtiebaoglcdbopaaTamS
import Derived.Test.YtiebaoglcdbopaaChnL
namespace Go.Proofs.Ytiebaoglcdbopaa
open Go.RowKit Go.Deep

set_option maxHeartbeats 2000000 in
set_option maxRecDepth 20000 in
theorem implTamariMeet_any (a b : List UInt8) (w : World) (ha : a.length ≤ 1000000000) (hb : b.length ≤ 1000000000) :
    Calls Try.prog 7 #[.string (bs a), .string (bs b)] w fun e w' => e = .returned (.tuple #[.string (bs (meetB a b).1), .bool (meetB a b).2]) ∧ Below w.heap.size w w' := by
  rcases hf : alikeB a b 8 with _ | _
  · have HF := Lib.hid (show meetB a b = ([], false) by simp [meetB, hf])
    have H1 := Lib.hid hf
    clear hf
    go_enter Try.func7, Try.ntmps7
    go_wp2_with fail
    refine (alike_any _ _ 8 _ ha hb).mono ?_
    rintro e w0 ⟨rfl, hb0⟩
    rw [H1.out]
    go_wp2_with fail
    go_ret2
    exact ⟨by rw [HF.out]; rfl, hb0⟩
  · obtain ⟨s, t, rfl, rfl, hs, ht, _, _, hst, _⟩ := alike_yes hf
    have HF := Lib.hid (show meetB (tx s) (tx t) = bwB (minTo (wts s) (wts t) (nodes s)) by unfold meetB; rw [hf, wtsB_tx hs, wtsB_tx ht, wts_len]; rfl)
    have H1 := Lib.hid hf
    have HA := Lib.hid (wtsB_tx hs)
    have HB := Lib.hid (wtsB_tx ht)
    have hla := wts_len s
    have hlb := wts_len t
    clear hf
    go_enter Try.func7, Try.ntmps7
    go_wp2_with fail
    refine (alike_any _ _ 8 _ ha hb).mono ?_
    rintro e w0 ⟨rfl, hb0⟩
    rw [H1.out]
    go_wp2_with fail
    refine (implWeightsOf_any _ _ ha).mono ?_
    rintro e w1 ⟨A1, n1, c1, hn1, rfl, ho1, hb1⟩
    rw [HA.out] at hn1 ho1
    have O1 := Lib.hid ho1
    have hlt1 : ∀ g, A1 = some ⟨g, 0, none⟩ → g < w1.heap.size := fun g h => (ho1.blk g (by rw [h]; rfl)).2
    have HLT := Lib.hid hlt1
    have N1 := Lib.hid (hn1.trans hla)
    have XL := Lib.hid hn1.symm
    have hs01 := hb0.size
    have hs12 := hb1.size
    have HB1 := Lib.hid (hb0.trans (hb1.mono hb0.size))
    clear hn1 ho1 hb0 hb1 hlt1
    go_wp2_with fail
    refine (implWeightsOf_any _ _ hb).mono ?_
    rintro e w2 ⟨A2, n2, c2, hn2, rfl, ho2, hb2⟩
    rw [HB.out] at hn2 ho2
    have O2 := Lib.hid ho2
    have hge : ∀ g, A2 = some ⟨g, 0, none⟩ → w1.heap.size ≤ g := fun g h => (ho2.blk g (by rw [h]; rfl)).1
    have HGE := Lib.hid hge
    obtain rfl : n1 = n2 := by rw [N1.out, hst, ← hlb, ← hn2]
    have O1 := Lib.hid (O1.out.below hb2)
    have HB2 := Lib.hid (HB1.out.trans (hb2.mono HB1.out.size))
    have hs2 : w.heap.size ≤ w2.heap.size := HB2.out.size
    have hn8 : n1 ≤ 8 := by have := N1.out; omega
    clear hn2 ho2 hb2 HB1 hla hlb hst hge
    go_wp2_with fail
    go_loopw [8, 19] (fun _ i wr => ∃ k : Nat, k ≤ n1 ∧ i = .int .i64 k ∧ Own wr 3 w0.heap.size A1 n1 c1 (iv (minTo (wts s) (wts t) k ++ (wts s).drop k)) ∧ Own wr 3 w1.heap.size A2 n1 c2 (iv (wts t)) ∧ Below w.heap.size w wr) (fun _ i _ => n1 - (intOf i).toNat)
    case atStart => exact ⟨0, Nat.zero_le _, rfl, O1.out, O2.out, HB2.out⟩
    case round =>
      obtain ⟨k, hk, rfl, ho1, ho2, hbl⟩ := hrel
      obtain ⟨w3, rfl⟩ : ∃ W, W = wr := ⟨wr, rfl⟩
      by_cases hlt : k < n1
      · obtain ⟨g1, x, hA1, hg1, hgs1, hx, hc1, hf1⟩ := ho1.ati hlt
        obtain ⟨g2, y, hA2, hg2, hgs2, hy, hc2, hf2⟩ := ho2.ati hlt
        have hx' : (wts s)[k]? = some x := by rw [← minTo_at (xs := wts s) (ys := wts t)]; exact hx
        have HS := Lib.hid (minTo_set hx' (getDx hy))
        cases hA1
        cases hA2
        have hg12 : g1 < w1.heap.size := HLT.out g1 rfl
        have hne : ∀ g, (some (⟨g2, 0, none⟩ : Addr)) = some ⟨g, 0, none⟩ → g ≠ g1 := fun g h => by cases h; omega
        have P1 := Lib.hid ho1
        have P2 := Lib.hid ho2
        have k0 : (0 : Int) ≤ (k : Int) := by omega
        have k1 : (k : Int) < (n1 : Int) := by omega
        have hlo : w.heap.size ≤ g1 := by omega
        have HNE := Lib.hid hne
        clear hx hy hx' ho1 ho2 hne
        by_cases hyx : y < x
        · have HS2 := Lib.hid (show (minTo (wts s) (wts t) k ++ (wts s).drop k).set k y = minTo (wts s) (wts t) (k + 1) ++ (wts s).drop (k + 1) by rw [← HS.out, if_pos hyx])
          go_wp2_with fail
          go_still_tail 12, (by kernel_rfl)
          change wpList _ _ _ _ _ w3.drew
          go_wp2_with fail
          go_roundw
          case rel => exact ⟨k + 1, by omega, by go_num, by rw [← HS2.out]; exact P1.out.puti k y, P2.out.set_far (p := ⟨g1, k, none⟩) HNE.out _, (hbl.setCell (p := ⟨g1, k, none⟩) hlo _).drew⟩
          case measure => simp [intOf]; omega
        · have HS2 := Lib.hid (show (minTo (wts s) (wts t) k ++ (wts s).drop k).set k x = minTo (wts s) (wts t) (k + 1) ++ (wts s).drop (k + 1) by rw [← HS.out, if_neg hyx])
          go_wp2_with fail
          go_still_tail 12, (by kernel_rfl)
          change wpList _ _ _ _ _ w3.drew
          go_wp2_with fail
          go_roundw
          case rel => exact ⟨k + 1, by omega, by go_num, by rw [← HS2.out]; exact P1.out.puti k x, P2.out.set_far (p := ⟨g1, k, none⟩) HNE.out _, (hbl.setCell (p := ⟨g1, k, none⟩) hlo _).drew⟩
          case measure => simp [intOf]; omega
      · have hkn : k = n1 := by omega
        have P1 := Lib.hid (show Rd w3 A1 n1 (iv (minTo (wts s) (wts t) (nodes s))) by
          have := ho1.rd
          rw [hkn, minTo_all XL.out] at this
          rw [← N1.out]; exact this)
        have hbs := hbl.size
        clear ho1 ho2 hkn
        go_wp2_with fail
        refine (implBinaryOfWeights_any _ _ _ _ _ P1.out (by omega)).mono ?_
        rintro e w4 ⟨rfl, hb4⟩
        go_wp2_with fail
        go_ret2
        exact ⟨by rw [HF.out]; rfl, hbl.trans (hb4.mono hbs)⟩

theorem isB_nil : isB [] = false := by rfl
set_option maxHeartbeats 1000000 in
theorem implTamariJoin_any (a b : List UInt8) (w : World) (ha : a.length ≤ 1000000000) (hb : b.length ≤ 1000000000) :
    Calls Try.prog 9 #[.string (bs a), .string (bs b)] w fun e w' => e = .returned (.tuple #[.string (bs (joinB a b).1), .bool (joinB a b).2]) ∧ Below w.heap.size w w' := by
  have hla : (mirB a).1.length ≤ 1000000000 := by
    rcases isB_cases a with h1 | ⟨s, rfl, hs, _⟩
    · rw [mirB_no h1]; simp
    · rw [mirB_tx hs]; show (tx (mir s)).length ≤ _; rw [tx_len, nodes_mir]; omega
  have hlb : (mirB b).1.length ≤ 1000000000 := by
    rcases isB_cases b with h1 | ⟨s, rfl, hs, _⟩
    · rw [mirB_no h1]; simp
    · rw [mirB_tx hs]; show (tx (mir s)).length ≤ _; rw [tx_len, nodes_mir]; omega
  have hcase : (meetB (mirB a).1 (mirB b).1 = ([], false) ∧ joinB a b = ([], false)) ∨ ∃ m, meetB (mirB a).1 (mirB b).1 = (tx m, true) ∧ nodes m ≤ 8 ∧ joinB a b = (tx (mir m), true) := by
    rcases isB_cases a with h1 | ⟨s, rfl, hs, _⟩
    · refine Or.inl ⟨?_, joinB_no (Or.inl h1)⟩
      rw [mirB_no h1]
      simp [meetB, alike_no1 isB_nil]
    rcases isB_cases b with h2 | ⟨t, rfl, ht, _⟩
    · refine Or.inl ⟨?_, joinB_no (Or.inr h2)⟩
      rw [mirB_no h2]
      simp [meetB, alike_no2 isB_nil]
    rw [mirB_tx hs, mirB_tx ht]
    rcases meetB_form (tx (mir s)) (tx (mir t)) with hm | ⟨m, hm, hm8, _, _⟩
    · exact Or.inl ⟨hm, joinB_bad hs ht hm⟩
    · exact Or.inr ⟨m, hm, hm8, joinB_yes hs ht hm8 hm⟩
  obtain ⟨X, hX⟩ : ∃ X, X = (mirB a).1 := ⟨_, rfl⟩
  obtain ⟨Y, hY⟩ : ∃ Y, Y = (mirB b).1 := ⟨_, rfl⟩
  rw [← hX] at hla
  rw [← hY] at hlb
  rw [← hX, ← hY] at hcase
  have HX := Lib.hid hX.symm
  have HY := Lib.hid hY.symm
  clear hX hY
  rcases hcase with ⟨hm, hj⟩ | ⟨m, hm, hm8, hj⟩
  all_goals
    have HM := Lib.hid hm
    have HJ := Lib.hid hj
    clear hm hj
    go_enter Try.func9, Try.ntmps9
    go_wp2_with fail
    refine (implMirrorBinary_any _ _ ha).mono ?_
    rintro e w1 ⟨rfl, hb1⟩
    rw [HX.out]
    go_wp2_with fail
    refine (implMirrorBinary_any _ _ hb).mono ?_
    rintro e w2 ⟨rfl, hb2⟩
    rw [HY.out]
    have hb12 := hb1.trans (hb2.mono hb1.size)
    clear hb1 hb2
    go_wp2_with fail
    refine (implTamariMeet_any _ _ _ hla hlb).mono ?_
    rintro e w3 ⟨rfl, hb3⟩
    rw [HM.out]
    have hb13 := hb12.trans (hb3.mono hb12.size)
    clear hb12 hb3
    go_wp2_with fail
  · go_ret2
    exact ⟨by rw [HJ.out]; rfl, hb13⟩
  · have hml := tx_len m
    refine (implMirrorBinary_any (tx m) _ (by omega)).mono ?_
    rintro e w4 ⟨rfl, hb4⟩
    rw [mirB_tx hm8]
    go_wp2_with fail
    go_ret2
    exact ⟨by rw [HJ.out]; rfl, hb13.trans (hb4.mono hb13.size)⟩

end Go.Proofs.Ytiebaoglcdbopaa

namespace Go.Proofs.Ytiebaoglcdbopaa
open Go.RowKit Go.Deep

set_option maxHeartbeats 2000000 in
theorem specTamariMeet_any (a b : List UInt8) (w : World) (ha : a.length ≤ 1000000000) (hb : b.length ≤ 1000000000) :
    Calls Try.prog 8 #[.string (bs a), .string (bs b)] w fun e w' => e = .returned (.tuple #[.string (bs (meetB a b).1), .bool (meetB a b).2]) ∧ Below w.heap.size w w' := by
  rcases hf : alikeB a b 8 with _ | _
  · have HF := Lib.hid (show meetB a b = ([], false) by simp [meetB, hf])
    have H1 := Lib.hid hf
    clear hf
    go_enter Try.func8, Try.ntmps8
    go_wp2_with fail
    refine (fit_any _ _ _ ha hb).mono ?_
    rintro e w0 ⟨rfl, hb0⟩
    rw [H1.out]
    go_wp2_with fail
    go_ret2
    exact ⟨by rw [HF.out]; rfl, hb0⟩
  · obtain ⟨s, t, rfl, rfl, hs, ht, _, _, hst, _⟩ := alike_yes hf
    have HF := Lib.hid (show meetB (tx s) (tx t) = bwB (minTo (wts s) (wts t) (nodes s)) by unfold meetB; rw [hf, wtsB_tx hs, wtsB_tx ht, wts_len]; rfl)
    have H1 := Lib.hid hf
    have HA := Lib.hid (wtsB_tx hs)
    have HB := Lib.hid (wtsB_tx ht)
    have hla := wts_len s
    have hlb := wts_len t
    clear hf
    go_enter Try.func8, Try.ntmps8
    go_wp2_with fail
    refine (fit_any _ _ _ ha hb).mono ?_
    rintro e w0 ⟨rfl, hb0⟩
    rw [H1.out]
    go_wp2_with fail
    refine (specWeightsOf_any _ _ ha).mono ?_
    rintro e w1 ⟨A1, n1, c1, hn1, rfl, ho1, hb1⟩
    rw [HA.out] at hn1 ho1
    have R1 := Lib.hid ho1.rd
    have N1 := Lib.hid (hn1.trans hla)
    have HB1 := Lib.hid (hb0.trans (hb1.mono hb0.size))
    clear hn1 ho1 hb0 hb1
    go_wp2_with fail
    refine (specWeightsOf_any _ _ hb).mono ?_
    rintro e w2 ⟨A2, n2, c2, hn2, rfl, ho2, hb2⟩
    rw [HB.out] at hn2 ho2
    have R2 := Lib.hid ho2.rd
    obtain rfl : n1 = n2 := by rw [N1.out, hst, ← hlb, ← hn2]
    have R1 := Lib.hid (R1.out.below hb2)
    have HB2 := Lib.hid (HB1.out.trans (hb2.mono HB1.out.size))
    have hs2 : w.heap.size ≤ w2.heap.size := HB2.out.size
    have hn8 : n1 ≤ 8 := by have := N1.out; omega
    clear hn2 ho2 hb2 HB1 hla hlb hst
    go_wp2_with fail
    go_loopw [8, 9] (fun s' i wr => ∃ (k : Nat) (A : Option Addr) (c : Nat), k ≤ n1 ∧ i = .int .i64 k ∧ s' = .slice A k c ∧ Own wr 3 w2.heap.size A k c (iv (minTo (wts s) (wts t) k)) ∧ Below w2.heap.size w2 wr) (fun _ i _ => n1 - (intOf i).toNat)
    case atStart => exact ⟨0, _, _, Nat.zero_le _, rfl, rfl, own_empty w2, (Below.refl _ _).alloc (Nat.le_refl _) _⟩
    case round =>
      obtain ⟨k, A, c, hk, rfl, rfl, ho, hbl⟩ := hrel
      obtain ⟨w3, rfl⟩ : ∃ W, W = wr := ⟨wr, rfl⟩
      have HO := Lib.hid ho
      have hbs := hbl.size
      clear ho
      by_cases hlt : k < n1
      · obtain ⟨b1, o1, x, hA1, hx, hc1⟩ := (R1.out.below hbl).ati hlt
        obtain ⟨b2, o2, y, hA2, hy, hc2⟩ := (R2.out.below hbl).ati hlt
        cases hA1
        cases hA2
        have HS := Lib.hid (show minTo (wts s) (wts t) (k + 1) = minTo (wts s) (wts t) k ++ [if y < x then y else x] by rw [minTo_succ, getDx hx, getDx hy])
        have k0 : (0 : Int) ≤ (k : Int) := by omega
        have k1 : (k : Int) < (n1 : Int) := by omega
        clear hx hy
        by_cases hyx : y < x
        · have HS2 := Lib.hid (show minTo (wts s) (wts t) (k + 1) = minTo (wts s) (wts t) k ++ [y] by rw [HS.out, if_pos hyx])
          go_wp2_with fail
          go_region_law (refine stepI2 _ (by rfl) _ _ (by rfl) w2.heap.size A k c (iv (minTo (wts s) (wts t) k)) (by simp [Act.eval]) ((HO.out.alloc _).drew) w3.heap.size y (by simp [Act.eval]) (by simp) (by omega) hbs ?_; intro A' c' w' hown' hg' hb')
          all_goals
            have HO' := Lib.hid (show Own w' 3 w2.heap.size A' (k + 1) c' (iv (minTo (wts s) (wts t) (k + 1))) by rw [HS2.out, iv_snoc]; exact hown')
            have hb3 := ((hbl.alloc hbs _).drew).trans hb'
            clear hown' hg' hb'
            go_wp2_with fail
            go_roundw
            case rel => exact ⟨k + 1, _, c', by omega, by go_num, rfl, HO'.out, hb3⟩
            case measure => simp [intOf] <;> omega
        · have HS2 := Lib.hid (show minTo (wts s) (wts t) (k + 1) = minTo (wts s) (wts t) k ++ [x] by rw [HS.out, if_neg hyx])
          go_wp2_with fail
          go_region_law (refine stepI2 _ (by rfl) _ _ (by rfl) w2.heap.size A k c (iv (minTo (wts s) (wts t) k)) (by simp [Act.eval]) ((HO.out.alloc _).drew) w3.heap.size x (by simp [Act.eval]) (by simp; omega) (by omega) hbs ?_; intro A' c' w' hown' hg' hb')
          all_goals
            have HO' := Lib.hid (show Own w' 3 w2.heap.size A' (k + 1) c' (iv (minTo (wts s) (wts t) (k + 1))) by rw [HS2.out, iv_snoc]; exact hown')
            have hb3 := ((hbl.alloc hbs _).drew).trans hb'
            clear hown' hg' hb'
            go_wp2_with fail
            go_roundw
            case rel => exact ⟨k + 1, _, c', by omega, by go_num, rfl, HO'.out, hb3⟩
            case measure => simp [intOf] <;> omega
      · obtain rfl : k = n1 := by omega
        clear hlt
        have HF2 := Lib.hid (show meetB (tx s) (tx t) = bwB (minTo (wts s) (wts t) k) by rw [HF.out, N1.out])
        have hcp := HO.out.caps2
        go_wp2_with fail
        refine (specBinaryOfWeights_any _ _ _ _ _ HO.out.rd (by omega) hcp.1 hcp.2).mono ?_
        rintro e w4 ⟨rfl, hb4⟩
        go_wp2_with fail
        go_ret2
        exact ⟨by rw [HF2.out]; rfl, HB2.out.trans ((hbl.trans (hb4.mono hbs)).mono hs2)⟩

set_option maxHeartbeats 1000000 in
theorem specTamariJoin_any (a b : List UInt8) (w : World) (ha : a.length ≤ 1000000000) (hb : b.length ≤ 1000000000) :
    Calls Try.prog 10 #[.string (bs a), .string (bs b)] w fun e w' => e = .returned (.tuple #[.string (bs (joinB a b).1), .bool (joinB a b).2]) ∧ Below w.heap.size w w' := by
  rcases hf : alikeB a b 8 with _ | _
  · have HF := Lib.hid (show joinB a b = ([], false) by
      rcases isB_cases a with h1 | ⟨s, rfl, hs, _⟩
      · exact joinB_no (Or.inl h1)
      rcases isB_cases b with h2 | ⟨t, rfl, ht, _⟩
      · exact joinB_no (Or.inr h2)
      refine joinB_bad hs ht ?_
      rw [alike_tx hs ht] at hf
      have : alikeB (tx (mir s)) (tx (mir t)) 8 = false := by rw [alike_tx (by rw [nodes_mir]; exact hs) (by rw [nodes_mir]; exact ht), nodes_mir, nodes_mir]; exact hf
      simp [meetB, this])
    have H1 := Lib.hid hf
    clear hf
    go_enter Try.func10, Try.ntmps10
    go_wp2_with fail
    refine (fit_any _ _ _ ha hb).mono ?_
    rintro e w0 ⟨rfl, hb0⟩
    rw [H1.out]
    go_wp2_with fail
    go_ret2
    exact ⟨by rw [HF.out]; rfl, hb0⟩
  · obtain ⟨s, t, rfl, rfl, hs, ht, _, _, hst, _⟩ := alike_yes hf
    have H1 := Lib.hid hf
    have hls := tx_len (mir s)
    have hlt := tx_len (mir t)
    rw [nodes_mir] at hls hlt
    have hls9 : (tx (mir s)).length ≤ 1000000000 := by omega
    have hlt9 : (tx (mir t)).length ≤ 1000000000 := by omega
    have hs6 : nodes s ≤ 1000000 := by omega
    have ht6 : nodes t ≤ 1000000 := by omega
    clear hf hls hlt hst
    rcases meetB_form (tx (mir s)) (tx (mir t)) with hm | ⟨m, hm, hm8, hsm, _⟩
    · have HF := Lib.hid (joinB_bad hs ht hm)
      have HM := Lib.hid hm
      clear hm
      go_enter Try.func10, Try.ntmps10
      go_wp2_with fail
      refine (fit_any _ _ _ ha hb).mono ?_
      rintro e w0 ⟨rfl, hb0⟩
      rw [H1.out]
      go_wp2_with fail
      refine (l6Mirror_any s _ hs6).mono ?_
      rintro e w1 ⟨rfl, m1, rfl⟩
      go_wp2_with fail
      refine (l6Mirror_any t _ ht6).mono ?_
      rintro e w1 ⟨rfl, m2, rfl⟩
      go_wp2_with fail
      refine (specTamariMeet_any _ _ _ hls9 hlt9).mono ?_
      rintro e w1 ⟨rfl, hb1⟩
      rw [HM.out]
      go_wp2_with fail
      go_ret2
      exact ⟨by rw [HF.out]; rfl, hb0.trans ((show Below w0.heap.size w0 w1 from ⟨hb1.os, hb1.tape, hb1.output, hb1.size, hb1.block⟩).mono hb0.size)⟩
    · have HF := Lib.hid (joinB_yes hs ht hm8 hm)
      have HM := Lib.hid hm
      clear hm hsm
      go_enter Try.func10, Try.ntmps10
      go_wp2_with fail
      refine (fit_any _ _ _ ha hb).mono ?_
      rintro e w0 ⟨rfl, hb0⟩
      rw [H1.out]
      go_wp2_with fail
      refine (l6Mirror_any s _ hs6).mono ?_
      rintro e w1 ⟨rfl, m1, rfl⟩
      go_wp2_with fail
      refine (l6Mirror_any t _ ht6).mono ?_
      rintro e w1 ⟨rfl, m2, rfl⟩
      go_wp2_with fail
      refine (specTamariMeet_any _ _ _ hls9 hlt9).mono ?_
      rintro e w1 ⟨rfl, hb1⟩
      rw [HM.out]
      go_wp2_with fail
      refine (l6Mirror_any m _ (by omega)).mono ?_
      rintro e w2 ⟨rfl, m3, rfl⟩
      go_wp2_with fail
      go_ret2
      exact ⟨by rw [HF.out]; rfl, below_drewN' (hb0.trans ((show Below w0.heap.size w0 w1 from ⟨hb1.os, hb1.tape, hb1.output, hb1.size, hb1.block⟩).mono hb0.size)) m3⟩

end Go.Proofs.Ytiebaoglcdbopaa

namespace Go.Proofs.Ytiebaoglcdbopaa
set_option linter.unusedVariables false
open Go.RowKit Go.Deep

/-- The law of a row of weights. -/
def okV (xs : List Int) : Prop := ∀ i, i < xs.length → 0 ≤ xs.getD i 0 ∧ (i : Int) + xs.getD i 0 < xs.length ∧ ∀ j : Nat, i < j → (j : Int) ≤ i + xs.getD i 0 → (j : Int) + xs.getD j 0 ≤ i + xs.getD i 0
theorem gl {xs ys : List Int} {i : Nat} (h : i < xs.length) : (xs ++ ys).getD i 0 = xs.getD i 0 := by
  rw [List.getD_eq_getElem?_getD, List.getD_eq_getElem?_getD, List.getElem?_append_left h]
theorem gr {xs ys : List Int} {i : Nat} : (xs ++ ys).getD (xs.length + i) 0 = ys.getD i 0 := by
  rw [List.getD_eq_getElem?_getD, List.getD_eq_getElem?_getD, List.getElem?_append_right (by omega), Nat.add_sub_cancel_left]
theorem nd_left {x : Int} {ls rs : List Int} {i : Nat} (h : i < ls.length) : (ls ++ [x] ++ rs).getD i 0 = ls.getD i 0 := by rw [List.append_assoc, gl h]
theorem nd_mid {x : Int} {ls rs : List Int} : (ls ++ [x] ++ rs).getD ls.length 0 = x := by
  have := gr (xs := ls) (ys := [x] ++ rs) (i := 0)
  rw [List.append_assoc]; exact this
theorem nd_right {x : Int} {ls rs : List Int} {i : Nat} : (ls ++ [x] ++ rs).getD (ls.length + 1 + i) 0 = rs.getD i 0 := by
  have := gr (xs := ls ++ [x]) (ys := rs) (i := i)
  rw [List.length_append] at this; exact this
theorem wbd (t : Tr) {i : Nat} (h : i < nodes t) : 0 ≤ (wts t).getD i 0 ∧ (i : Int) + (wts t).getD i 0 < nodes t := by
  have hl := wts_len t
  apply wts_bd t
  rw [List.getD_eq_getElem?_getD, List.getElem?_eq_getElem (by omega)]
  rfl
theorem okV_wts (t : Tr) : okV (wts t) := by
  induction t with
  | nil => intro i h; simp [wts] at h
  | node b o a l r ihl ihr =>
    intro i h
    have hl := wts_len l
    have hr := wts_len r
    have hn := wts_len (.node b o a l r)
    have e : nodes (.node b o a l r) = nodes l + 1 + nodes r := by simp only [nodes]; omega
    have hb := wbd (.node b o a l r) (i := i) (by omega)
    refine ⟨hb.1, by omega, ?_⟩
    intro j h1 h2
    change 0 ≤ (wts l ++ [(nodes r : Int)] ++ wts r).getD i 0 ∧ (i : Int) + (wts l ++ [(nodes r : Int)] ++ wts r).getD i 0 < _ at hb
    change (j : Int) ≤ i + (wts l ++ [(nodes r : Int)] ++ wts r).getD i 0 at h2
    have hbj := wbd (.node b o a l r) (i := j) (by omega)
    change 0 ≤ (wts l ++ [(nodes r : Int)] ++ wts r).getD j 0 ∧ (j : Int) + (wts l ++ [(nodes r : Int)] ++ wts r).getD j 0 < _ at hbj
    show (j : Int) + (wts l ++ [(nodes r : Int)] ++ wts r).getD j 0 ≤ (i : Int) + (wts l ++ [(nodes r : Int)] ++ wts r).getD i 0
    rcases Nat.lt_or_ge i (nodes l) with hi | hi
    · rw [nd_left (i := i) (by omega)] at h2 ⊢
      have hb2 := wbd l hi
      rw [nd_left (i := j) (by omega)]
      exact (ihl i (by omega)).2.2 j h1 h2
    · rcases Nat.eq_or_lt_of_le hi with hi | hi
      · subst hi
        have e1 : (wts l ++ [(nodes r : Int)] ++ wts r).getD (nodes l) 0 = nodes r := by
          have := nd_mid (x := (nodes r : Int)) (ls := wts l) (rs := wts r)
          rw [hl] at this; exact this
        rw [e1] at h2 ⊢
        omega
      · obtain ⟨i', rfl⟩ : ∃ i', i = (wts l).length + 1 + i' := ⟨i - nodes l - 1, by omega⟩
        obtain ⟨j', rfl⟩ : ∃ j', j = (wts l).length + 1 + j' := ⟨j - nodes l - 1, by omega⟩
        rw [nd_right (i := i')] at h2 ⊢
        rw [nd_right (i := j')]
        have := (ihr i' (by omega)).2.2 j' (by omega) (by omega)
        omega
theorem getD_take {xs : List Int} {k i : Nat} (h : i < k) : (xs.take k).getD i 0 = xs.getD i 0 := by
  rw [List.getD_eq_getElem?_getD, List.getD_eq_getElem?_getD, List.getElem?_take, if_pos h]
theorem getD_drop {xs : List Int} {k i : Nat} : (xs.drop k).getD i 0 = xs.getD (k + i) 0 := by
  rw [List.getD_eq_getElem?_getD, List.getD_eq_getElem?_getD, List.getElem?_drop]
theorem least {p : Nat → Prop} (h : ∃ i, p i) : ∃ i, p i ∧ ∀ j, j < i → ¬ p j := by
  obtain ⟨i, hi⟩ := h
  induction i using Nat.strongRecOn with
  | ind i ih =>
    by_cases hc : ∃ j, j < i ∧ p j
    · obtain ⟨j, hj, hp⟩ := hc
      exact ih j hj hp
    · exact ⟨i, hi, fun j hj hp => hc ⟨j, hj, hp⟩⟩
theorem tree_of : ∀ (n : Nat) (xs : List Int), xs.length = n → okV xs → ∃ t : Tr, wts t = xs := by
  intro n
  induction n using Nat.strongRecOn with
  | ind n ih =>
    intro xs hn hv
    rcases Nat.eq_zero_or_pos n with h0 | h0
    · exact ⟨.nil, by have : xs = [] := List.length_eq_zero_iff.1 (by omega); rw [this]; rfl⟩
    · have hex : ∃ i, i < n ∧ (i : Int) + xs.getD i 0 = n - 1 := ⟨n - 1, by omega, by have := hv (n - 1) (by omega); omega⟩
      obtain ⟨i, ⟨hi, hx⟩, hmin⟩ : ∃ i, (i < n ∧ (i : Int) + xs.getD i 0 = n - 1) ∧ ∀ j, j < i → ¬ ((j : Int) + xs.getD j 0 = n - 1) := by
        obtain ⟨i, h1, h2⟩ := least hex
        exact ⟨i, h1, fun j hj h => h2 j hj ⟨by omega, h⟩⟩
      have hlen1 : (xs.take i).length = i := by rw [List.length_take]; omega
      have hlen2 : (xs.drop (i + 1)).length = n - 1 - i := by rw [List.length_drop]; omega
      obtain ⟨l, hl⟩ := ih i hi (xs.take i) hlen1 (by
        intro j hj
        rw [hlen1] at hj
        have h1 := hv j (by omega)
        have h2 := hmin j hj
        rw [getD_take hj, hlen1]
        refine ⟨h1.1, ?_, ?_⟩
        · by_cases h : (j : Int) + xs.getD j 0 < i
          · exact h
          · exfalso
            have := h1.2.2 i hj (by omega)
            omega
        · intro k hk1 hk2
          have hlt : (j : Int) + xs.getD j 0 < i := by
            by_cases h : (j : Int) + xs.getD j 0 < i
            · exact h
            · exfalso
              have := h1.2.2 i hj (by omega)
              omega
          rw [getD_take (by omega)]
          exact h1.2.2 k hk1 hk2)
      obtain ⟨r, hr⟩ := ih (n - 1 - i) (by omega) (xs.drop (i + 1)) hlen2 (by
        intro j hj
        rw [hlen2] at hj
        have h1 := hv (i + 1 + j) (by omega)
        rw [getD_drop, hlen2]
        refine ⟨h1.1, by omega, ?_⟩
        intro k hk1 hk2
        rw [getD_drop]
        have := h1.2.2 (i + 1 + k) (by omega) (by omega)
        omega)
      refine ⟨.node 0 0 () l r, ?_⟩
      have hnr : nodes r = n - 1 - i := by rw [← wts_len, hr, hlen2]
      show wts l ++ [(nodes r : Int)] ++ wts r = xs
      rw [hl, hr, hnr]
      have hxi : ((n - 1 - i : Nat) : Int) = xs.getD i 0 := by omega
      rw [hxi]
      have e : xs.drop i = xs.getD i 0 :: xs.drop (i + 1) := by
        rw [List.drop_eq_getElem_cons (by omega), List.getD_eq_getElem?_getD, List.getElem?_eq_getElem (by omega)]; rfl
      have := List.take_append_drop i xs
      rw [e] at this
      rw [List.append_assoc]
      exact this
theorem getD_min {xs ys : List Int} {n j : Nat} (h : j < n) : (minTo xs ys n).getD j 0 = if ys.getD j 0 < xs.getD j 0 then ys.getD j 0 else xs.getD j 0 := by
  unfold minTo
  rw [List.getD_eq_getElem?_getD, List.getElem?_map, List.getElem?_range h]
  rfl
theorem okV_min {xs ys : List Int} {n : Nat} (hx : xs.length = n) (hy : ys.length = n) (h1 : okV xs) (h2 : okV ys) : okV (minTo xs ys n) := by
  intro i hi
  rw [minTo_len] at hi ⊢
  have a1 := h1 i (by omega)
  have a2 := h2 i (by omega)
  rw [getD_min hi]
  refine ⟨by split <;> omega, by split <;> omega, ?_⟩
  intro j hj hle
  have hjn : j < n := by split at hle <;> omega
  rw [getD_min hjn]
  split at hle
  · next hc =>
    rw [if_pos hc]
    have b2 := a2.2.2 j hj hle
    have b1 := a1.2.2 j hj (by omega)
    split <;> omega
  · next hc =>
    rw [if_neg hc]
    have b2 := a2.2.2 j hj (by omega)
    have b1 := a1.2.2 j hj hle
    split <;> omega
theorem min_tree {s t : Tr} (hs : nodes s ≤ 8) (h : nodes s = nodes t) : ∃ m, bw (minTo (wts s) (wts t) (wts s).length) = some m ∧ wts m = minTo (wts s) (wts t) (nodes s) ∧ nodes m = nodes s ∧ sh m = m := by
  have e := wts_len s
  have e2 := wts_len t
  obtain ⟨m, hm⟩ := tree_of (nodes s) (minTo (wts s) (wts t) (nodes s)) (minTo_len _ _ _) (okV_min e (by omega) (okV_wts s) (okV_wts t))
  have hn : nodes m = nodes s := by rw [← wts_len, hm, minTo_len]
  refine ⟨sh m, ?_, by rw [wts_sh, hm], by rw [nodes_sh, hn], sh_sh m⟩
  rw [e, ← hm, bw_wts (by omega)]
theorem le_min {us xs ys : List Int} {n : Nat} (hx : xs.length = n) (h1 : le2 us xs) (h2 : le2 us ys) : le2 us (minTo xs ys n) := by
  rw [le2_iff] at *
  rw [minTo_len]
  refine ⟨by omega, fun j hj => ?_⟩
  have := h1.2 j hj
  have := h2.2 j hj
  rw [getD_min (by omega)]
  split <;> omega
theorem min_le1 {xs ys : List Int} {n : Nat} (hx : xs.length = n) : le2 (minTo xs ys n) xs := by
  rw [le2_iff, minTo_len]
  refine ⟨by omega, fun j hj => ?_⟩
  rw [getD_min hj]
  split <;> omega
theorem min_le2 {xs ys : List Int} {n : Nat} (hy : ys.length = n) : le2 (minTo xs ys n) ys := by
  rw [le2_iff, minTo_len]
  refine ⟨by omega, fun j hj => ?_⟩
  rw [getD_min hj]
  split <;> omega
theorem le2_anti : ∀ {xs ys : List Int}, le2 xs ys → le2 ys xs → xs = ys
  | [], [], _, _ => rfl
  | x :: xs, y :: ys, h1, h2 => by rw [le2_anti h1.2 h2.2, Int.le_antisymm h1.1 h2.1]

/-- The sizes of the left parts. -/
def lts : Tr → List Int
  | .nil => []
  | .node _ _ _ l r => lts l ++ [(nodes l : Int)] ++ lts r
theorem lts_len (t : Tr) : (lts t).length = nodes t := by
  induction t with
  | nil => rfl
  | node b o a l r ihl ihr => simp [lts, nodes, ihl, ihr]; omega
theorem wts_mir (t : Tr) : wts (mir t) = (lts t).reverse := by
  induction t with
  | nil => rfl
  | node b o a l r ihl ihr => simp [lts, mir, wts, ihl, ihr, nodes_mir]
theorem lts_law (t : Tr) : ∀ j, j < nodes t → (0 ≤ (lts t).getD j 0 ∧ (lts t).getD j 0 ≤ j) ∧ ∀ m : Nat, m ≤ j → ((m : Int) ≤ (lts t).getD j 0 ↔ ∀ k : Nat, j ≤ k + m → k < j → (k : Int) + (wts t).getD k 0 < j) := by
  induction t with
  | nil => intro j h; simp [nodes] at h
  | node b o a l r ihl ihr =>
    intro j h
    have hl := wts_len l
    have hr := wts_len r
    have ll := lts_len l
    have e : nodes (.node b o a l r) = nodes l + 1 + nodes r := by simp only [nodes]; omega
    rw [e] at h
    show (0 ≤ (lts l ++ [(nodes l : Int)] ++ lts r).getD j 0 ∧ (lts l ++ [(nodes l : Int)] ++ lts r).getD j 0 ≤ j) ∧ ∀ m : Nat, m ≤ j → ((m : Int) ≤ (lts l ++ [(nodes l : Int)] ++ lts r).getD j 0 ↔ ∀ k : Nat, j ≤ k + m → k < j → (k : Int) + (wts l ++ [(nodes r : Int)] ++ wts r).getD k 0 < j)
    rcases Nat.lt_or_ge j (nodes l) with hj | hj
    · rw [nd_left (by omega)]
      obtain ⟨h1, h2⟩ := ihl j hj
      refine ⟨h1, fun m hm => ?_⟩
      rw [h2 m hm]
      constructor
      · intro H k k1 k2; rw [nd_left (by omega)]; exact H k k1 k2
      · intro H k k1 k2; have := H k k1 k2; rw [nd_left (by omega)] at this; exact this
    · rcases Nat.eq_or_lt_of_le hj with hj | hj
      · subst hj
        have e1 : (lts l ++ [(nodes l : Int)] ++ lts r).getD (nodes l) 0 = nodes l := by
          have := nd_mid (x := (nodes l : Int)) (ls := lts l) (rs := lts r)
          rw [ll] at this; exact this
        rw [e1]
        refine ⟨by omega, fun m hm => ⟨fun _ k k1 k2 => ?_, fun _ => by omega⟩⟩
        rw [nd_left (by omega)]
        exact (wbd l k2).2
      · obtain ⟨j', rfl⟩ : ∃ j', j = (lts l).length + 1 + j' := ⟨j - nodes l - 1, by omega⟩
        rw [nd_right]
        obtain ⟨h1, h2⟩ := ihr j' (by omega)
        refine ⟨by omega, fun m hm => ?_⟩
        have e1 : (wts l ++ [(nodes r : Int)] ++ wts r).getD (nodes l) 0 = nodes r := by
          have := nd_mid (x := (nodes r : Int)) (ls := wts l) (rs := wts r)
          rw [hl] at this; exact this
        have e2 : ∀ k', (wts l ++ [(nodes r : Int)] ++ wts r).getD (nodes l + 1 + k') 0 = (wts r).getD k' 0 := by
          intro k'
          have := nd_right (x := (nodes r : Int)) (ls := wts l) (rs := wts r) (i := k')
          rw [hl] at this; exact this
        rcases Nat.lt_or_ge j' m with hm2 | hm2
        · constructor
          · intro H; omega
          · intro H
            have := H (nodes l) (by omega) (by omega)
            rw [e1] at this
            omega
        · rw [h2 m hm2]
          constructor
          · intro H k k1 k2
            obtain ⟨k', rfl⟩ : ∃ k', k = nodes l + 1 + k' := ⟨k - nodes l - 1, by omega⟩
            rw [e2]
            have := H k' (by omega) (by omega)
            omega
          · intro H k' k1 k2
            have := H (nodes l + 1 + k') (by omega) (by omega)
            rw [e2] at this
            omega
theorem lts_anti {s t : Tr} (h : le2 (wts s) (wts t)) : le2 (lts t) (lts s) := by
  rw [le2_iff] at *
  rw [wts_len, wts_len] at h
  rw [lts_len, lts_len]
  refine ⟨by omega, fun j hj => ?_⟩
  obtain ⟨a1, a2⟩ := lts_law t j hj
  obtain ⟨b1, b2⟩ := lts_law s j (by omega)
  obtain ⟨m, hm⟩ : ∃ m : Nat, (m : Int) = (lts t).getD j 0 := ⟨((lts t).getD j 0).toNat, by omega⟩
  rw [← hm]
  rw [b2 m (by omega)]
  intro k k1 k2
  have h1 := (a2 m (by omega)).1 (by omega) k k1 k2
  have h2 := h.2 k (by omega)
  omega
theorem le2_rev {xs ys : List Int} (h : le2 xs ys) : le2 xs.reverse ys.reverse := by
  rw [le2_iff] at *
  refine ⟨by simp [h.1], fun j hj => ?_⟩
  simp only [List.length_reverse] at hj
  have := h.2 (xs.length - 1 - j) (by omega)
  rw [List.getD_eq_getElem?_getD, List.getD_eq_getElem?_getD, List.getElem?_reverse hj, List.getElem?_reverse (by omega)]
  rw [List.getD_eq_getElem?_getD, List.getD_eq_getElem?_getD] at this
  rw [h.1] at this ⊢
  exact this
theorem mir_anti {s t : Tr} (h : le2 (wts s) (wts t)) : le2 (wts (mir t)) (wts (mir s)) := by
  rw [wts_mir, wts_mir]; exact le2_rev (lts_anti h)

structure LT (a b n k : List UInt8) : Prop where
  na : tlessB n a = true
  nb : tlessB n b = true
  ak : tlessB a k = true
  bk : tlessB b k = true
  c : meetB a k = (a, true)
  d : joinB a n = (a, true)
  glb : ∀ t, tlessB t a = true → tlessB t b = true → tlessB t n = true
  lub : ∀ t, tlessB a t = true → tlessB b t = true → tlessB k t = true
  nlen : n.length ≤ 25
  klen : k.length ≤ 25
  nod : ∃ N : Nat, nodesB a = N ∧ N ≤ 8
theorem tl_tree {a b : List UInt8} (h : tlessB a b = true) : ∃ s t, a = tx s ∧ b = tx t ∧ nodes s ≤ 8 ∧ nodes t ≤ 8 ∧ sh s = s ∧ sh t = t ∧ le2 (wts s) (wts t) := by
  have h0 := h
  unfold tlessB at h
  rw [Bool.and_eq_true] at h
  obtain ⟨s, t, rfl, rfl, hs, ht, ss, st, _, _⟩ := alike_yes h.1
  exact ⟨s, t, rfl, rfl, hs, ht, ss, st, (tless_iff hs ht).1 h0⟩
theorem meet_tx {s t : Tr} (hs : nodes s ≤ 8) (h : nodes s = nodes t) : ∃ m, meetB (tx s) (tx t) = (tx m, true) ∧ wts m = minTo (wts s) (wts t) (nodes s) ∧ nodes m = nodes s ∧ sh m = m := by
  obtain ⟨m, h1, h2, h3, h4⟩ := min_tree hs h
  refine ⟨m, ?_, h2, h3, h4⟩
  have e : alikeB (tx s) (tx t) 8 = true := by
    rw [alike_tx hs (by omega), Bool.and_eq_true, decide_eq_true_eq, decide_eq_true_eq]
    omega
  unfold meetB
  rw [if_pos e, wtsB_tx hs, wtsB_tx (by omega)]
  unfold bwB
  rw [h1]
  rfl
theorem lattice (a b : List UInt8) : (meetB a b = ([], false) ∧ joinB a b = ([], false)) ∨ ∃ n k, meetB a b = (n, true) ∧ joinB a b = (k, true) ∧ LT a b n k := by
  rcases ha : alikeB a b 8 with _ | _
  · left
    have e1 : meetB a b = ([], false) := by unfold meetB; rw [ha]; rfl
    refine ⟨e1, ?_⟩
    rcases isB_cases a with h | ⟨s, rfl, hs, ss⟩
    · exact joinB_no (Or.inl h)
    · rcases isB_cases b with h | ⟨t, rfl, ht, st⟩
      · exact joinB_no (Or.inr h)
      · apply joinB_bad hs ht
        unfold meetB
        rw [if_neg]
        intro h
        rw [alike_tx (by rw [nodes_mir]; exact hs) (by rw [nodes_mir]; exact ht), nodes_mir, nodes_mir, ← alike_tx hs ht, ha] at h
        cases h
  · right
    obtain ⟨s, t, rfl, rfl, hs, ht, ss, st, hst, _⟩ := alike_yes ha
    obtain ⟨m, m1, m2, m3, m4⟩ := meet_tx hs hst
    have hns : nodes (mir s) = nodes s := nodes_mir s
    have hnt : nodes (mir t) = nodes t := nodes_mir t
    obtain ⟨p, p1, p2, p3, p4⟩ := meet_tx (s := mir s) (t := mir t) (by omega) (by omega)
    have hp := joinB_yes hs ht (by omega) p1
    have hnp : nodes (mir p) = nodes p := nodes_mir p
    have hms : sh (mir (mir s)) = mir (mir s) := sh_mir _
    have mm : ∀ x : Tr, wts (mir (mir x)) = wts x := fun x => by rw [mir_mir, wts_sh]
    have ls := wts_len s
    have lt_ := wts_len t
    have lms := wts_len (mir s)
    have lmt := wts_len (mir t)
    have l1 : le2 (wts m) (wts s) := by rw [m2]; exact min_le1 ls
    have l2 : le2 (wts m) (wts t) := by rw [m2]; exact min_le2 (by omega)
    have q1 : le2 (wts p) (wts (mir s)) := by rw [p2]; exact min_le1 (by omega)
    have q2 : le2 (wts p) (wts (mir t)) := by rw [p2]; exact min_le2 (by omega)
    have k1 : le2 (wts s) (wts (mir p)) := by have := mir_anti q1; rw [mm] at this; exact this
    have k2 : le2 (wts t) (wts (mir p)) := by have := mir_anti q2; rw [mm] at this; exact this
    refine ⟨tx m, tx (mir p), m1, hp, ?_⟩
    constructor
    · exact (tless_iff (by omega) hs).2 l1
    · exact (tless_iff (by omega) ht).2 l2
    · exact (tless_iff hs (by omega)).2 k1
    · exact (tless_iff ht (by omega)).2 k2
    · obtain ⟨c, c1, c2, c3, c4⟩ := meet_tx (s := s) (t := mir p) hs (by omega)
      have : wts c = wts s := le2_anti (by rw [c2]; exact min_le1 ls) (by rw [c2]; exact le_min ls (le2_refl _) k1)
      have := wts_inj this
      rw [c1, tx_of_sh this]
    · obtain ⟨c, c1, c2, c3, c4⟩ := meet_tx (s := mir s) (t := mir m) (by omega) (by rw [nodes_mir, nodes_mir]; omega)
      have hc : wts c = wts (mir s) := le2_anti (by rw [c2]; exact min_le1 (by omega)) (by rw [c2]; exact le_min (by omega) (le2_refl _) (mir_anti l1))
      have hc2 := wts_inj hc
      rw [joinB_yes hs (by omega) (by omega) c1]
      have : mir c = mir (mir s) := by rw [← mir_sh c, hc2, sh_mir]
      rw [this, mir_mir, tx_sh]
    · intro u hu1 hu2
      obtain ⟨x, y, rfl, hy, hx8, _, sx, _, h1⟩ := tl_tree hu1
      have h1 := (tless_iff hx8 hs).1 hu1
      have h2 := (tless_iff hx8 ht).1 hu2
      exact (tless_iff hx8 (by omega)).2 (by rw [m2]; exact le_min ls h1 h2)
    · intro u hu1 hu2
      obtain ⟨y, x, hy, rfl, _, hx8, _, sx, h1⟩ := tl_tree hu1
      have h1 := mir_anti ((tless_iff hs hx8).1 hu1)
      have h2 := mir_anti ((tless_iff ht hx8).1 hu2)
      have h3 := mir_anti (show le2 (wts (mir x)) (wts p) by rw [p2]; exact le_min (by omega) h1 h2)
      rw [mm] at h3
      exact (tless_iff (by omega) hx8).2 h3
    · rw [tx_len]; omega
    · rw [tx_len]; omega
    · exact ⟨nodes s, nodesB_tx hs, hs⟩

end Go.Proofs.Ytiebaoglcdbopaa
