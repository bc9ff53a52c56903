/- The program's WeightsOf, treeOfWeights, BinaryOfWeights. -/
import Derived.Test.YtiebaoglcdbopaaWtI
namespace Go.Proofs.Ytiebaoglcdbopaa
open Go.RowKit Go.Deep

set_option maxHeartbeats 1000000 in
theorem implWeightsOf_any (l : List UInt8) (w : World) (hl : l.length ≤ 1000000000) :
    Calls Try.prog 40 #[.string (bs l)] w (RetI w (wtsB l)) := by
  rcases isB_cases l with hb | ⟨t, rfl, h8, _⟩
  · have HF := Lib.hid (wtsB_no hb)
    have HC := Lib.hid (parseTree_no l w hl hb)
    clear hb
    go_enter Try.func40, Try.ntmps40
    go_wp2_with fail
    refine HC.out.mono ?_
    rintro e w1 ⟨rfl, hb⟩
    have HW := Lib.hid (weights_any .nil w1.heap.size (some ⟨w1.heap.size, 0, none⟩) 0 0 [] (w1.alloc (.cells #[] 3)) trivial (fun x hx => by cases hx) (by simp) (own_empty w1) (by simp [nodes]))
    go_wp2_with fail
    refine HW.out.mono ?_
    rintro e w2 ⟨A, n, c, hn, rfl, ho, hb2⟩
    have HO := Lib.hid ho
    have HN := Lib.hid hn
    clear ho hn
    go_wp2_with fail
    go_ret
    rw [HF.out]
    exact ⟨A, n, c, HN.out, rfl, HO.out.mono hb.size, (hb.alloc hb.size _).trans (hb2.mono hb.size)⟩
  · have HF := Lib.hid (wtsB_tx h8)
    have HC := Lib.hid (parseTree_yes t w h8)
    go_enter Try.func40, Try.ntmps40
    go_wp2_with fail
    refine HC.out.mono ?_
    rintro e w1 ⟨T, p, hs, hq, rfl, ht, hp, hb⟩
    have hn := nodes_of_sh hs
    have HW := Lib.hid (weights_any T w1.heap.size (some ⟨w1.heap.size, 0, none⟩) 0 0 [] (w1.alloc (.cells #[] 3)) (ht.alloc _) (fun x hx => ht.lt x hx) (by simp) (own_empty w1) (by omega))
    have HE := Lib.hid (show wts T = wts t by rw [← wts_sh, hs, wts_sh])
    rw [hq] at HW
    clear hs hq ht hp hn
    go_wp2_with fail
    refine HW.out.mono ?_
    rintro e w2 ⟨A, n, c, hn, rfl, ho, hb2⟩
    have HO := Lib.hid ho
    have HN := Lib.hid hn
    clear ho hn
    go_wp2_with fail
    go_ret
    rw [HF.out]
    have h1 := HN.out
    have h2 := HO.out
    rw [List.nil_append, HE.out] at h1 h2
    exact ⟨A, n, c, h1, rfl, h2.mono hb.size, (hb.alloc hb.size _).trans (hb2.mono hb.size)⟩

/-- A part of a list. -/
def part (xs : List Int) (a b : Nat) : List Int := (xs.drop a).take (b - a)
theorem part_len {xs : List Int} {a b : Nat} (h : b ≤ xs.length) : (part xs a b).length = b - a := by simp [part]; omega
theorem part_getD {xs : List Int} {a b j : Nat} (h : j < b - a) : (part xs a b).getD j 0 = xs.getD (a + j) 0 := by
  rw [part, List.getD_eq_getElem?_getD, List.getElem?_take, if_pos h, List.getElem?_drop, ← List.getD_eq_getElem?_getD]
theorem part_take {xs : List Int} {a b k : Nat} (h : k ≤ b - a) : (part xs a b).take k = part xs a (a + k) := by
  rw [part, List.take_take, part, Nat.min_eq_left h, Nat.add_sub_cancel_left]
theorem part_drop {xs : List Int} {a b k : Nat} : (part xs a b).drop k = part xs (a + k) b := by
  rw [part, List.drop_take, List.drop_drop, part, Nat.sub_sub]

/-- What treeOfWeights hands back. -/
def RetT (t : Tr) (w : World) (e : Ending) (w' : World) : Prop := ∃ M p, sh M = t ∧ M.ptr = .pointer p ∧ e = .returned (.pointer p) ∧ TIn w' M ∧ Below w.heap.size w w'

set_option maxHeartbeats 1000000 in
theorem treeOfWeights_any (A : Option Addr) (n c : Nat) (xs : List Int) (hn : n ≤ 8) : ∀ (f a b : Nat) (w : World), Rd w A n (iv xs) → b ≤ n → a ≤ b → b - a ≤ f →
    Calls Try.prog 87 #[.slice A n c, .int .i64 a, .int .i64 b] w (RetT (bld qI f (part xs a b)) w) := by
  intro f
  induction f with
  | zero =>
    intro a b w h hb hab hf
    have HF := Lib.hid (show bld qI 0 (part xs a b) = .nil from rfl)
    obtain rfl : a = b := by omega
    clear h
    go_enter Try.func87, Try.ntmps87
    go_wp2_with fail
    refine wp_loop_rounds 1 ?_
    rw [rounds_succ]
    go_wp2_with fail
    go_ret
    rw [HF.out]
    exact ⟨.nil, none, rfl, rfl, rfl, trivial, Below.refl _ _⟩
  | succ f ih =>
    intro a b w h hb hab hf
    have HR := Lib.hid h
    have HXL := Lib.hid (show xs.length = n by have := h.len; rw [iv_len] at this; exact this)
    have HL := Lib.hid (show (part xs a b).length = b - a from part_len (by rw [HXL.out]; exact hb))
    have IH := Lib.hid ih
    clear h ih
    go_enter Try.func87, Try.ntmps87
    go_wp2_with fail
    go_loop [7] (fun i => ∃ k : Nat, k ≤ b - a ∧ i = .int .i64 ((a : Int) + k) ∧ Hid (NoQ qI (b - a) (part xs a b) k)) (fun i => b - (intOf i).toNat)
    case atStart => exact ⟨0, Nat.zero_le _, by go_num, Lib.hid (fun j hj => by omega)⟩
    case round =>
      obtain ⟨k, hk, rfl, HQ⟩ := hrel
      by_cases hlt : k < b - a
      · obtain ⟨bb, off, x, hA, hx, hcell⟩ := HR.out.ati (show a + k < n by omega)
        have hD : (part xs a b).getD k 0 = x := by rw [part_getD hlt, getDx hx]
        have hxr : -9223372036854775808 ≤ x ∨ x < -9223372036854775808 := by omega
        have i0 : (0 : Int) ≤ (a : Int) + (k : Int) := by omega
        have i1 : (a : Int) + (k : Int) < (n : Int) := by omega
        have i2 : ((a : Int) + (k : Int)).toNat = a + k := by omega
        by_cases hq : x = (b : Int) - 1 - ((a : Int) + (k : Int))
        · have HF := Lib.hid (bld_at (f := f) HL.out hlt HQ.out (by rw [hD, qI, decide_eq_true_eq]; omega))
          have e1 : (x == (b : Int) - 1 - ((a : Int) + (k : Int))) = true := by rw [beq_iff_eq]; exact hq
          have HI1 := Lib.hid (show ∀ w, Rd w A n (iv xs) → Calls Try.prog 87 #[.slice A n c, .int .i64 a, .int .i64 ((a : Int) + k)] w (RetT (bld qI f ((part xs a b).take k)) w) from fun w h => by
            have := IH.out a (a + k) w h (by omega) (by omega) (by omega)
            rw [part_take (by omega)]
            rwa [show ((a + k : Nat) : Int) = (a : Int) + k by omega] at this)
          have HI2 := Lib.hid (show ∀ w, Rd w A n (iv xs) → Calls Try.prog 87 #[.slice A n c, .int .i64 ((a : Int) + k + 1), .int .i64 b] w (RetT (bld qI f ((part xs a b).drop (k + 1))) w) from fun w h => by
            have := IH.out (a + (k + 1)) b w h (by omega) (by omega) (by omega)
            rw [part_drop]
            rwa [show ((a + (k + 1) : Nat) : Int) = (a : Int) + k + 1 by omega] at this)
          clear hx hD hq hxr
          subst hA
          go_wp2_with fail
          refine (HI1.out _ HR.out).mono ?_
          rintro e w1 ⟨M1, p1, hs1, hq1, rfl, ht1, hb1⟩
          have HS1 := Lib.hid hs1
          have HQ1 := Lib.hid hq1
          have HT1 := Lib.hid ht1
          clear hs1 hq1 ht1
          go_wp2_with fail
          refine (HI2.out _ (HR.out.below hb1)).mono ?_
          rintro e w2 ⟨M2, p2, hs2, hq2, rfl, ht2, hb2⟩
          have HS2 := Lib.hid hs2
          have HQ2 := Lib.hid hq2
          have HT2 := Lib.hid ht2
          clear hs2 hq2 ht2
          go_wp2_with fail
          go_ret
          rw [HF.out]
          have ht := TIn.new (HT1.out.below hb2) HT2.out 63
          rw [HQ1.out, HQ2.out] at ht
          exact ⟨.node w2.heap.size 0 () M1 M2, _, by simp [sh, HS1.out, HS2.out], rfl, rfl, ht, (hb1.trans (hb2.mono hb1.size)).alloc (Nat.le_trans hb1.size hb2.size) _⟩
        · have HN := Lib.hid (show NoQ qI (b - a) (part xs a b) (k + 1) from fun j hj => by
            rcases Nat.lt_or_ge j k with h1 | h1
            · exact HQ.out j h1
            · obtain rfl : j = k := by omega
              rw [hD, qI, decide_eq_false_iff_not]; omega)
          have e1 : (x == (b : Int) - 1 - ((a : Int) + (k : Int))) = false := by rw [beq_eq_false_iff_ne]; exact hq
          clear hx hD hq hxr
          subst hA
          go_wp2_with fail
          go_round
          case rel => exact ⟨k + 1, by omega, by go_num, HN⟩
          case measure => simp [intOf]; omega
      · have hkn : k = b - a := by omega
        have HF := Lib.hid (show bld qI (f + 1) (part xs a b) = .nil from bld_none HL.out (by rw [← hkn]; rw [hkn] at HQ ⊢; exact HQ.out))
        have hkk : (a : Int) + (k : Int) = (b : Int) := by omega
        clear hkn
        go_wp2_with fail
        go_ret
        rw [HF.out]
        exact ⟨.nil, none, rfl, rfl, rfl, trivial, Below.refl _ _⟩

set_option maxHeartbeats 1000000 in
theorem implBinaryOfWeights_any (A : Option Addr) (n c : Nat) (xs : List Int) (w : World) (h : Rd w A n (iv xs)) (hn : n ≤ 1000000000) :
    Calls Try.prog 44 #[.slice A n c] w fun e w' => e = .returned (.tuple #[.string (bs (bwB xs).1), .bool (bwB xs).2]) ∧ Below w.heap.size w w' := by
  have HR := Lib.hid h
  have HL := Lib.hid (show xs.length = n by have := h.len; rw [iv_len] at this; exact this)
  clear h
  by_cases h8 : n ≤ 8
  · have hb := bld_nodes qI n xs
    rw [HL.out] at hb
    obtain ⟨T, hT⟩ : ∃ T, T = bld qI n xs := ⟨_, rfl⟩
    rw [← hT] at hb
    have hT8 : nodes T ≤ 8 := by omega
    have hTl := tx_len T
    have hTl9 : (tx T).length ≤ 1000000000 := by omega
    have hTl2 : (tx T).length ≤ 25 := by omega
    have HTW := Lib.hid (show ∀ w, Rd w A n (iv xs) → Calls Try.prog 87 #[.slice A n c, .int .i64 0, .int .i64 n] w (RetT T w) from fun w h => by
      have := treeOfWeights_any A n c xs h8 n 0 n w h (Nat.le_refl _) (Nat.zero_le _) (by omega)
      rw [show part xs 0 n = xs by rw [part, List.drop_zero, Nat.sub_zero, List.take_of_length_le (by rw [HL.out]; exact Nat.le_refl _)], ← hT] at this
      exact this)
    have HW := Lib.hid (wtsB_tx hT8)
    have hwl := wts_len T
    have hwl9 : (wts T).length ≤ 1000000000 := by omega
    have hbw : bw xs = if wts T = xs then some T else none := by
      unfold bw
      rw [HL.out, ← hT]
      by_cases h : wts T = xs
      · rw [if_pos ⟨h8, h⟩, if_pos h]
      · rw [if_neg (fun hh => h hh.2), if_neg h]
    rcases hd : decide (wts T = xs) with _ | _
    all_goals
      have HD := Lib.hid hd
    · have HF := Lib.hid (show bwB xs = ([], false) by rw [bwB, hbw, if_neg (by simpa using hd)]; rfl)
      clear hd hbw hwl hTl hb hT
      go_enter Try.func44, Try.ntmps44
      go_wp2_with fail
      refine (HTW.out _ HR.out).mono ?_
      rintro e w1 ⟨M, p, hs, hq, rfl, ht, hb1⟩
      have HQ := Lib.hid hq
      have HT := Lib.hid ht
      have HX := Lib.hid (show tx M = tx T by rw [← tx_sh, hs])
      have hM8 : nodes M ≤ 1000000 := by rw [← nodes_sh, hs]; omega
      clear hs hq ht
      go_wp2_with fail
      rw [← HQ.out]
      refine (text_any M _ HT.out hM8).mono ?_
      rintro e w2 ⟨rfl, m, rfl⟩
      rw [HX.out, HQ.out]
      go_wp2_with fail
      refine (implWeightsOf_any _ _ hTl9).mono ?_
      rintro e w3 ⟨A3, n3, c3, hn3, rfl, ho3, hb3⟩
      rw [HW.out] at hn3 ho3
      have HO3 := Lib.hid ho3
      have hn39 : n3 ≤ 1000000000 := by omega
      have HR3 := Lib.hid (((HR.out.below hb1).drewN m).below hb3)
      clear hn3 ho3
      go_wp2_with fail
      refine (equalInts_any _ _ _ _ _ _ (wts T) xs _ HO3.out.rd HR3.out hn39 hn).mono ?_
      rintro e w4 ⟨rfl, m4, rfl⟩
      rw [HD.out]
      go_wp2_with fail
      go_ret2
      exact ⟨by rw [HF.out]; rfl, below_drewN' ((below_drewN' hb1 m).trans (hb3.mono hb1.size)) _⟩
    · have HF := Lib.hid (show bwB xs = (tx T, true) by rw [bwB, hbw, if_pos (by simpa using hd)]; rfl)
      clear hd hbw hwl hTl hb hT
      go_enter Try.func44, Try.ntmps44
      go_wp2_with fail
      refine (HTW.out _ HR.out).mono ?_
      rintro e w1 ⟨M, p, hs, hq, rfl, ht, hb1⟩
      have HQ := Lib.hid hq
      have HT := Lib.hid ht
      have HX := Lib.hid (show tx M = tx T by rw [← tx_sh, hs])
      have hM8 : nodes M ≤ 1000000 := by rw [← nodes_sh, hs]; omega
      clear hs hq ht
      go_wp2_with fail
      rw [← HQ.out]
      refine (text_any M _ HT.out hM8).mono ?_
      rintro e w2 ⟨rfl, m, rfl⟩
      rw [HX.out, HQ.out]
      go_wp2_with fail
      refine (implWeightsOf_any _ _ hTl9).mono ?_
      rintro e w3 ⟨A3, n3, c3, hn3, rfl, ho3, hb3⟩
      rw [HW.out] at hn3 ho3
      have HO3 := Lib.hid ho3
      have hn39 : n3 ≤ 1000000000 := by omega
      have HR3 := Lib.hid (((HR.out.below hb1).drewN m).below hb3)
      clear hn3 ho3
      go_wp2_with fail
      refine (equalInts_any _ _ _ _ _ _ (wts T) xs _ HO3.out.rd HR3.out hn39 hn).mono ?_
      rintro e w4 ⟨rfl, m4, rfl⟩
      rw [HD.out]
      go_wp2_with fail
      go_ret2
      exact ⟨by rw [HF.out]; rfl, below_drewN' ((below_drewN' hb1 m).trans (hb3.mono hb1.size)) _⟩
  · have HF := Lib.hid (show bwB xs = ([], false) by rw [bwB, bw_big (by rw [HL.out]; omega)]; rfl)
    have h8' : ¬ n ≤ 8 := h8
    go_enter Try.func44, Try.ntmps44
    go_wp2_with fail
    go_ret2
    exact ⟨by rw [HF.out]; rfl, Below.refl _ _⟩

end Go.Proofs.Ytiebaoglcdbopaa
