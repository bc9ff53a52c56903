/- StatisticNames and DistributionOf, both sides. -/
import Derived.Test.YteiffomekjadgaaDstL
import Derived.Test.YteiffomekjadgaaPathsS
import Derived.Test.YteiffomekjadgaaPathsI
namespace Go.Proofs.Yteiffomekjadgaa
set_option linter.unusedVariables false
open Go.RowKit

theorem own_snames (w : World) : Own (w.alloc (.cells #[.string (bs [112, 101, 97, 107, 115]), .string (bs [114, 101, 116, 117, 114, 110, 115]), .string (bs [114, 105, 115, 101]), .string (bs [97, 114, 101, 97]), .string (bs [100, 101, 112, 116, 104]), .string (bs [108, 101, 97, 118, 101, 115]), .string (bs [98, 108, 111, 99, 107, 115]), .string (bs [109, 97, 106, 111, 114]), .string (bs [102, 97, 108, 108])] 9)) 9 w.heap.size (some ⟨w.heap.size, 0, none⟩) 9 9 (sv snames) :=
  Own.lit w 9 #[.string (bs [112, 101, 97, 107, 115]), .string (bs [114, 101, 116, 117, 114, 110, 115]), .string (bs [114, 105, 115, 101]), .string (bs [97, 114, 101, 97]), .string (bs [100, 101, 112, 116, 104]), .string (bs [108, 101, 97, 118, 101, 115]), .string (bs [98, 108, 111, 99, 107, 115]), .string (bs [109, 97, 106, 111, 114]), .string (bs [102, 97, 108, 108])] 9 rfl (by decide)
theorem specStatisticNames_any (w : World) : Calls Try.prog 28 #[] w fun e w' => ∃ R d, e = .returned (.slice R 9 d) ∧ Own w' 9 w.heap.size R 9 d (sv snames) ∧ Below w.heap.size w w' := by
  go_enter Try.func28, Try.ntmps28
  go_wp2_with fail
  go_ret
  exact ⟨_, _, rfl, own_snames w, (Below.refl _ _).alloc (Nat.le_refl _) _⟩
theorem implStatisticNames_any (w : World) : Calls Try.prog 27 #[] w fun e w' => ∃ R d, e = .returned (.slice R 9 d) ∧ Own w' 9 w.heap.size R 9 d (sv snames) ∧ Below w.heap.size w w' := by
  go_enter Try.func27, Try.ntmps27
  go_wp2_with fail
  go_ret
  exact ⟨_, _, rfl, own_snames w, (Below.refl _ _).alloc (Nat.le_refl _) _⟩
def lenD : Value → Nat
  | .slice _ n _ => n
  | _ => 0
/-- The counts (they grow) and the words (they are read). -/
structure Dst (w0 wr : World) (A : Option Addr) (k c : Nat) (o : List Int) (Ap : Option Addr) (m cp : Nat) (xs : List (List UInt8)) : Prop where
  out : Own wr 3 w0.heap.size A k c (iv o)
  inp : Own wr 9 w0.heap.size Ap m cp (sv xs)
  below : Below w0.heap.size w0 wr
section
variable {w0 wr w' : World} {A Ap : Option Addr} {k c m cp : Nat} {o : List Int} {xs : List (List UInt8)}
theorem Dst.by_ (h : Dst w0 wr A k c o Ap m cp xs) (hb : Below wr.heap.size wr w') : Dst w0 w' A k c o Ap m cp xs :=
  ⟨h.out.below hb, h.inp.below hb, h.below.trans (hb.mono h.below.size)⟩
theorem Own.headedD {w : World} {e : TypeId} {B : Nat} {A : Option Addr} {n c : Nat} {vs : List Value} (h : Own w e B A n c vs) : ∀ g, Value.ownBlock (.slice A n c) = some g → A = some ⟨g, 0, none⟩ := by
  intro g hg
  rcases h.form with ⟨rfl, _⟩ | ⟨g0, rfl, _⟩
  · cases hg
  · have : g0 = g := by simpa [Value.ownBlock] using hg
    rw [this]
theorem Own.otherD {w w' : World} {e e' : TypeId} {B B' : Nat} {A A' : Option Addr} {n c n' c' : Nat} {vs vs' : List Value} (h : Own w e B A n c vs) (h' : Own w e' B' A' n' c' vs') (hne : e ≠ e') (hg : w.grownBy w' (Value.ownBlock (.slice A n c))) : Own w' e' B' A' n' c' vs' :=
  h'.grown hg (fun g hA he => by
    have h1 := h.headedD g he
    subst h1
    subst hA
    exact own_ne h h' hne rfl)
theorem Dst.grow {A' : Option Addr} {c' : Nat} {x : Int} (ow : Obj) (h : Dst w0 wr A k c o Ap m cp xs) (ho : Own w' 3 w0.heap.size A' (k + 1) c' (iv o ++ [.int .i64 x])) (hg : (wr.alloc ow).grownBy w' (Value.ownBlock (.slice A k c))) (hb : Below w0.heap.size (wr.alloc ow) w') : Dst w0 w' A' (k + 1) c' (o ++ [x]) Ap m cp xs where
  out := by rw [iv_snoc]; exact ho
  inp := Own.otherD (h.out.alloc ow) (h.inp.alloc ow) (by decide) hg
  below := (h.below.alloc h.below.size _).trans hb
theorem Dst.put {g K : Nat} {y : Int} (h : Dst w0 wr (some ⟨g, 0, none⟩) k c o Ap m cp xs) (hg : w0.heap.size ≤ g) : Dst w0 (wr.setCell ⟨g, K, none⟩ (.int .i64 y)) (some ⟨g, 0, none⟩) k c (o.set K y) Ap m cp xs where
  out := h.out.puti K y
  inp := h.inp.set_far (fun gg hgg e => by subst e; have h1 := h.inp; rw [hgg] at h1; exact own_ne h.out h1 (by decide) rfl) _
  below := h.below.setCell (p := ⟨g, K, none⟩) hg _
end
theorem specPathsOf_neg (w : World) : Calls Try.prog 77 #[.int .i64 (-1)] w (RetS w []) := by
  have HB := Lib.hid (show inB (-1) 0 6 = false by decide)
  go_enter Try.func77, Try.ntmps77
  go_wp2_with (go_at_call 91; refine (l1In_any _ _ _ _).mono ?_; rintro e w' ⟨rfl, rfl⟩; rw [HB.out])
  go_ret
  exact RetS.mk rfl rfl (own_emptyS w) ((Below.refl _ _).alloc (Nat.le_refl _) _)
set_option maxRecDepth 20000 in
set_option maxHeartbeats 4000000 in
theorem specDistributionOf_any (f : List UInt8) (n : Int) (h0 : -1 ≤ n) (h6 : n ≤ 6) (w : World) : Calls Try.prog 11 #[.string (bs f), .int .i64 n] w (RetIB w (dstP f n).1 (dstP f n).2) := by
  unfold RetIB
  rcases hb : inB n 0 6 with _ | _
  · obtain rfl : n = -1 := by rcases Int.lt_or_le n 0 with h | h; omega; rw [inB_iff.2 ⟨h, h6⟩] at hb; cases hb
    have HF := Lib.hid (show dstP f (-1) = ([], false) by unfold dstP; rw [hb]; rfl)
    clear hb
    go_enter Try.func11, Try.ntmps11
    go_wp2_with fail
    refine (specPathsOf_neg _).mono ?_
    rintro e w1 ⟨Ap, m, cp, hm, rfl, hown, hb1⟩
    obtain rfl : m = 0 := hm
    have O1 := Lib.hid ((own_empty w).below hb1)
    have hb3 := ((Below.refl w.heap.size w).alloc (Nat.le_refl _) (.cells #[] 3)).trans (hb1.mono (by simp))
    clear hown hb1
    go_wp2_with fail
    go_ret2
    rw [HF.out]
    exact ⟨_, 0, 0, rfl, rfl, O1.out, hb3⟩
  obtain ⟨h1, h2⟩ := inB_iff.1 hb
  obtain ⟨N, rfl⟩ := Int.eq_ofNat_of_zero_le h1
  have hN : N ≤ 6 := by omega
  have hpos : 1 ≤ (paths N).length := by have h : ∀ n, n < 7 → 1 ≤ (paths n).length := by decide +kernel
                                         exact h N (by omega)
  have HST := Lib.hid (fun W => specStatisticOf_any f [] W (by simp) (fun _ => good_p (n := 0) (by omega) (by decide)))
  rcases hs : hasB snames f with _ | _
  · have HF := Lib.hid (show dstP f N = ([], false) by unfold dstP; rw [hb, hs]; rfl)
    have hneg : sttB f [] < 0 := (sttB_nil f).2 (of_decide_eq_false hs)
    obtain ⟨V, hV⟩ : ∃ V, V = sttB f [] := ⟨_, rfl⟩
    rw [← hV] at HST hneg
    have HPP := Lib.hid (fun W => specPathsOf_any N W hN)
    obtain ⟨WS, hWS⟩ : ∃ WS, WS = paths N := ⟨_, rfl⟩
    rw [← hWS] at HPP hpos
    have hneg2 : decide (V < 0) = true := decide_eq_true hneg
    clear hb hs h1 h2 hV hWS
    go_enter Try.func11, Try.ntmps11
    go_wp2_with fail
    refine (HPP.out _).mono ?_
    rintro e w1 ⟨Ap, m, cp, hm, rfl, hown, hb1⟩
    have m1 : ((m : Int) == 0) = false := by rw [beq_eq_false_iff_ne]; omega
    have O1 := Lib.hid ((own_empty w).below hb1)
    have hb3 := ((Below.refl w.heap.size w).alloc (Nat.le_refl _) (.cells #[] 3)).trans (hb1.mono (by simp))
    have hs3 := hb3.size
    clear hown hb1 hm
    go_wp2_with fail
    refine (HST.out _).mono ?_
    rintro e w2 ⟨rfl, hb2⟩
    have O2 := Lib.hid (O1.out.below hb2)
    have hb4 := hb3.trans (hb2.mono hs3)
    clear hb2
    go_wp2_with fail
    go_ret2
    rw [HF.out]
    exact ⟨_, 0, 0, rfl, rfl, O2.out, hb4⟩
  have HF := Lib.hid (show dstP f N = (dstL f (paths N) (paths N).length, true) by unfold dstP; rw [hb, hs]; rfl)
  have HS := Lib.hid hs
  have hmem : f ∈ snames := of_decide_eq_true hs
  have h132 := paths_n132 N (by omega)
  have HW := Lib.hid (fun x (hx : x ∈ paths N) => paths_wd hN hx)
  have HVB := Lib.hid (fun x (hx : x ∈ paths N) => show ∃ K : Nat, sttB f x = (K : Int) ∧ K ≤ 300 by
    have hd := (paths_wd hN hx).1
    have h1 := stN_bd hd f
    have h2 := stN_nn hd hmem
    rw [sttB_dyck hd]
    exact ⟨(stN f x).toNat, by omega, by omega⟩)
  have HHL := Lib.hid (fun j (hj : j ≤ (paths N).length) => dstL_len (f := f) (ws := paths N) (fun x hx => by obtain ⟨K, h1, h2⟩ := HVB.out x hx; omega) j hj)
  have HPP := Lib.hid (fun W => specPathsOf_any N W hN)
  have hnn : ¬ sttB f [] < 0 := fun h => (sttB_nil f).1 h hmem
  obtain ⟨V, hV⟩ : ∃ V, V = sttB f [] := ⟨_, rfl⟩
  rw [← hV] at HST hnn
  have hnn2 : decide (V < 0) = false := decide_eq_false hnn
  clear hV
  obtain ⟨WS, hWS⟩ : ∃ WS, WS = paths N := ⟨_, rfl⟩
  rw [← hWS] at HF h132 HW HVB HHL HPP hpos
  clear hb hs h1 h2 hWS hmem
  go_enter Try.func11, Try.ntmps11
  go_wp2_with fail
  refine (HPP.out _).mono ?_
  rintro e w3 ⟨Ap, m, cp, hm, rfl, hown, hb4⟩
  have m1 : ((m : Int) == 0) = false := by rw [beq_eq_false_iff_ne]; omega
  have T1 := Lib.hid (show Dst w w3 _ 0 0 [] Ap m cp WS from ⟨(own_empty w).below hb4, hown.1.mono (by simp), ((Below.refl w.heap.size w).alloc (Nat.le_refl _) _).trans (hb4.mono (by simp))⟩)
  have HM := Lib.hid hm
  have hm132 : m ≤ 132 := by rw [hm]; exact h132
  clear hown hb4 hm
  go_wp2_with fail
  refine (HST.out _).mono ?_
  rintro e w4 ⟨rfl, hb2⟩
  have T0 := Lib.hid (T1.out.by_ hb2)
  clear hb2
  go_wp2_with fail
  go_loopw [6, 8, 9] (fun s i _ wr => ∃ (j q : Nat) (A1 : Option Addr) (c1 : Nat), j ≤ m ∧ i = .int .i64 j ∧ s = .slice A1 q c1 ∧ Hid (q = (dstL f WS j).length) ∧ Dst w wr A1 q c1 (dstL f WS j) Ap m cp WS) (fun _ i _ _ => m - (intOf i).toNat)
  case atStart => exact ⟨0, 0, _, _, Nat.zero_le _, rfl, rfl, Lib.hid rfl, T0.out⟩
  case round =>
    obtain ⟨j, q, A1, c1, hj, rfl, rfl, HQ, ht⟩ := hrel
    have T := Lib.hid ht
    have hbs := ht.below.size
    have hq : q ≤ 301 := by rw [HQ.out]; exact HHL.out j (by have := HM.out; omega)
    by_cases hlt : j < m
    · obtain ⟨bl, off, x, hA, hx, hc⟩ := ht.inp.rd.ats hlt
      subst hA
      have hxm := List.mem_of_getElem? hx
      have HX := Lib.hid (dstL_step (f := f) hx)
      obtain ⟨hxd, hxg, hx12⟩ := HW.out x hxm
      obtain ⟨K, hK, hK9⟩ := HVB.out x hxm
      have HC := Lib.hid (fun W => specStatisticOf_any f x W (by omega) (fun _ => hxg))
      rw [hK] at HC HX
      rw [Int.toNat_natCast] at HX
      have j0 : (0 : Int) ≤ (j : Int) := by omega
      have j1 : (j : Int) < (m : Int) := by omega
      clear hx hxm hxd hxg hx12 hK ht
      go_wp2_with fail
      refine (HC.out _).mono ?_
      rintro e w5 ⟨rfl, hb5⟩
      have T2 := Lib.hid (T.out.by_ hb5)
      clear hb5
      obtain ⟨l0, hl0⟩ : ∃ l0, l0 = dstL f WS j := ⟨_, rfl⟩
      have HBV := Lib.hid (show ∀ k, 0 ≤ l0.getD k 0 ∧ l0.getD k 0 ≤ 132 by rw [hl0]; intro k; have := dstL_bd f WS k j; omega)
      rw [← hl0] at HQ T2 HX
      have HQ2 := Lib.hid (show l0.length = q from HQ.out.symm)
      clear hl0
      go_wp2_with fail
      go_loopw [6] (fun s wr => ∃ (e : Nat) (A1 : Option Addr) (c1 : Nat), q ≤ e ∧ e ≤ max q (K + 1) ∧ s = .slice A1 e c1 ∧ Dst w wr A1 e c1 (padZ l0 e) (some ⟨bl, off, none⟩) m cp WS) (fun s _ => 1000 - lenD s)
      case atStart => exact ⟨q, A1, c1, Nat.le_refl _, by omega, rfl, by rw [padZ_self (by rw [HQ2.out]; exact Nat.le_refl _)]; exact T2.out⟩
      case round =>
        obtain ⟨e, A2, c2, he1, he2, rfl, ht3⟩ := hrel
        have T3 := Lib.hid ht3
        have hbs3 := ht3.below.size
        clear ht3
        by_cases hle : e ≤ K
        · have HPS := Lib.hid (padZ_snoc (l := l0) (e := e) (by rw [HQ2.out]; exact he1))
          have hle2 : (e : Int) ≤ (K : Int) := by omega
          go_wp2_with (at_builtin; refine appI _ rfl _ _ rfl w.heap.size A2 e c2 _ rfl (T3.out.out.alloc _) wr.heap.size 0 rfl (by simp) (by omega) hbs3 ?_; intro A' c' w' hown' hg' hb')
          have T4 := Lib.hid (T3.out.grow _ hown' hg' hb')
          rw [← HPS.out] at T4
          clear hown' hg' hb'
          go_wp2_with fail
          go_roundw
          case rel => exact ⟨e + 1, A', c', by omega, by omega, rfl, T4.out⟩
          case measure => simp [lenD]; omega
        · have hle2 : ¬ (e : Int) ≤ (K : Int) := by omega
          have HPE := Lib.hid (show padZ l0 e = padZ l0 (K + 1) by
            rcases Nat.lt_or_ge q (K + 1) with h1 | h1
            · rw [show e = K + 1 by omega]
            · rw [padZ_self (by rw [HQ2.out]; omega), padZ_self (by rw [HQ2.out]; omega)])
          rw [HPE.out] at T3
          obtain ⟨g, y, hA2, hgB, _, hy, hcy, hfy⟩ := T3.out.out.ati (show K < e by omega)
          subst hA2
          have HIS := Lib.hid (incZ_set hy)
          have hyb := HBV.out K
          rw [← getD_padZ l0 (K + 1), List.getD_eq_getElem?_getD, hy] at hyb
          have hyb2 : 0 ≤ y ∧ y ≤ 132 := hyb
          have K0 : (0 : Int) ≤ (K : Int) := by omega
          have K1 : (K : Int) < (e : Int) := by omega
          have HIL := Lib.hid (show e = (incZ l0 K).length by have h1 := T3.out.out.len; rw [iv_len, padZ_len] at h1; rw [incZ_len]; exact h1.symm)
          clear hy hyb
          go_wp2_with fail
          go_roundw
          case rel => exact ⟨j + 1, e, _, c2, by omega, by go_num, rfl, Lib.hid (by rw [HX.out]; exact HIL.out), by rw [HX.out, ← HIS.out]; exact T3.out.put hgB⟩
          case measure => simp [intOf]; omega
    · have hjm : j = m := by omega
      have HE := Lib.hid (show dstL f WS WS.length = dstL f WS j by rw [hjm, HM.out])
      clear hjm ht
      go_wp2_with fail
      go_ret2
      rw [HF.out, HE.out]
      exact ⟨A1, q, c1, HQ.out, rfl, T.out.out, T.out.below⟩
set_option maxRecDepth 20000 in
set_option maxHeartbeats 4000000 in
theorem implDistributionOf_any (f : List UInt8) (n : Int) (h0 : -1 ≤ n) (h6 : n ≤ 6) (w : World) : Calls Try.prog 10 #[.string (bs f), .int .i64 n] w (RetIB w (dstP f n).1 (dstP f n).2) := by
  unfold RetIB
  rcases hb : inB n 0 6 with _ | _
  · have HF := Lib.hid (show dstP f n = ([], false) by unfold dstP; rw [hb]; rfl)
    have HB := Lib.hid hb
    clear hb
    go_enter Try.func10, Try.ntmps10
    go_wp2_with fail
    refine (within_any _ _ _ _).mono ?_
    rintro e w' ⟨rfl, rfl⟩
    rw [HB.out]
    go_wp2_with fail
    go_ret2
    rw [HF.out]
    exact ⟨_, 0, 0, rfl, rfl, own_empty w, (Below.refl _ _).alloc (Nat.le_refl _) _⟩
  obtain ⟨h1, h2⟩ := inB_iff.1 hb
  obtain ⟨N, rfl⟩ := Int.eq_ofNat_of_zero_le h1
  have hN : N ≤ 6 := by omega
  have HB := Lib.hid hb
  rcases hs : hasB snames f with _ | _
  · have HF := Lib.hid (show dstP f N = ([], false) by unfold dstP; rw [hb, hs]; rfl)
    have HS := Lib.hid hs
    clear hb hs h1 h2
    go_enter Try.func10, Try.ntmps10
    go_wp2_with fail
    refine (within_any _ _ _ _).mono ?_
    rintro e w' ⟨rfl, rfl⟩
    rw [HB.out]
    go_wp2_with fail
    refine (implStatisticNames_any _).mono ?_
    rintro e w2 ⟨R, d, rfl, hown, hb2⟩
    have HR := Lib.hid hown.rd
    have O2 := Lib.hid ((own_empty w).below hb2)
    have hb3 := ((Below.refl w.heap.size w).alloc (Nat.le_refl _) (.cells #[] 3)).trans (hb2.mono (by simp))
    clear hown hb2
    go_wp2_with fail
    refine (containsS_any _ _ _ _ f _ HR.out (by omega)).mono ?_
    rintro e w' ⟨rfl, rfl⟩
    rw [HS.out]
    go_wp2_with fail
    go_ret2
    rw [HF.out]
    exact ⟨_, 0, 0, rfl, rfl, O2.out, hb3⟩
  have HF := Lib.hid (show dstP f N = (dstL f (paths N) (paths N).length, true) by unfold dstP; rw [hb, hs]; rfl)
  have HS := Lib.hid hs
  have hmem : f ∈ snames := of_decide_eq_true hs
  have h132 := paths_n132 N (by omega)
  have HW := Lib.hid (fun x (hx : x ∈ paths N) => paths_wd hN hx)
  have HVB := Lib.hid (fun x (hx : x ∈ paths N) => show ∃ K : Nat, sttB f x = (K : Int) ∧ K ≤ 300 by
    have hd := (paths_wd hN hx).1
    have h1 := stN_bd hd f
    have h2 := stN_nn hd hmem
    rw [sttB_dyck hd]
    exact ⟨(stN f x).toNat, by omega, by omega⟩)
  have HHL := Lib.hid (fun j (hj : j ≤ (paths N).length) => dstL_len (f := f) (ws := paths N) (fun x hx => by obtain ⟨K, h1, h2⟩ := HVB.out x hx; omega) j hj)
  have HPP := Lib.hid (fun W => implPathsOf_any N W hN)
  obtain ⟨WS, hWS⟩ : ∃ WS, WS = paths N := ⟨_, rfl⟩
  rw [← hWS] at HF h132 HW HVB HHL HPP
  clear hb hs h1 h2 hWS hmem
  go_enter Try.func10, Try.ntmps10
  go_wp2_with fail
  refine (within_any _ _ _ _).mono ?_
  rintro e w' ⟨rfl, rfl⟩
  rw [HB.out]
  go_wp2_with fail
  refine (implStatisticNames_any _).mono ?_
  rintro e w2 ⟨R, d, rfl, hown, hb2⟩
  have HR := Lib.hid hown.rd
  have O1 := Lib.hid ((own_empty w).below hb2)
  have hb3 := ((Below.refl w.heap.size w).alloc (Nat.le_refl _) (.cells #[] 3)).trans (hb2.mono (by simp))
  have hs3 := hb3.size
  clear hown hb2
  go_wp2_with fail
  refine (containsS_any _ _ _ _ f _ HR.out (by omega)).mono ?_
  rintro e w' ⟨rfl, rfl⟩
  rw [HS.out]
  clear HR
  go_wp2_with fail
  refine (HPP.out _).mono ?_
  rintro e w3 ⟨Ap, m, cp, hm, rfl, hown, hb4⟩
  have T0 := Lib.hid (show Dst w w3 _ 0 0 [] Ap m cp WS from ⟨O1.out.below hb4, hown.1.mono hs3, hb3.trans (hb4.mono hs3)⟩)
  have HM := Lib.hid hm
  have hm132 : m ≤ 132 := by rw [hm]; exact h132
  clear hown hb3 hb4 hm
  go_wp2_with fail
  go_loopw [6, 8, 9, 24] (fun s _ _ i wr => ∃ (j q : Nat) (A1 : Option Addr) (c1 : Nat), j ≤ m ∧ i = .int .i64 j ∧ s = .slice A1 q c1 ∧ Hid (q = (dstL f WS j).length) ∧ Dst w wr A1 q c1 (dstL f WS j) Ap m cp WS) (fun _ _ _ i _ => m - (intOf i).toNat)
  case atStart => exact ⟨0, 0, _, _, Nat.zero_le _, rfl, rfl, Lib.hid rfl, T0.out⟩
  case round =>
    obtain ⟨j, q, A1, c1, hj, rfl, rfl, HQ, ht⟩ := hrel
    have T := Lib.hid ht
    have hbs := ht.below.size
    have hq : q ≤ 301 := by rw [HQ.out]; exact HHL.out j (by have := HM.out; omega)
    by_cases hlt : j < m
    · obtain ⟨bl, off, x, hA, hx, hc⟩ := ht.inp.rd.ats hlt
      subst hA
      have hxm := List.mem_of_getElem? hx
      have HX := Lib.hid (dstL_step (f := f) hx)
      obtain ⟨hxd, hxg, hx12⟩ := HW.out x hxm
      obtain ⟨K, hK, hK9⟩ := HVB.out x hxm
      have HC := Lib.hid (fun W => implStatisticOf_any f x W (by omega) (fun _ => hxg))
      rw [hK] at HC HX
      rw [Int.toNat_natCast] at HX
      have j0 : (0 : Int) ≤ (j : Int) := by omega
      have j1 : (j : Int) < (m : Int) := by omega
      clear hx hxm hxd hxg hx12 hK ht
      go_wp2_with fail
      refine (HC.out _).mono ?_
      rintro e w5 ⟨rfl, hb5⟩
      have T2 := Lib.hid (T.out.by_ hb5)
      clear hb5
      obtain ⟨l0, hl0⟩ : ∃ l0, l0 = dstL f WS j := ⟨_, rfl⟩
      have HBV := Lib.hid (show ∀ k, 0 ≤ l0.getD k 0 ∧ l0.getD k 0 ≤ 132 by rw [hl0]; intro k; have := dstL_bd f WS k j; omega)
      rw [← hl0] at HQ T2 HX
      have HQ2 := Lib.hid (show l0.length = q from HQ.out.symm)
      clear hl0
      go_wp2_with fail
      go_loopw [6] (fun s wr => ∃ (e : Nat) (A1 : Option Addr) (c1 : Nat), q ≤ e ∧ e ≤ max q (K + 1) ∧ s = .slice A1 e c1 ∧ Dst w wr A1 e c1 (padZ l0 e) (some ⟨bl, off, none⟩) m cp WS) (fun s _ => 1000 - lenD s)
      case atStart => exact ⟨q, A1, c1, Nat.le_refl _, by omega, rfl, by rw [padZ_self (by rw [HQ2.out]; exact Nat.le_refl _)]; exact T2.out⟩
      case round =>
        obtain ⟨e, A2, c2, he1, he2, rfl, ht3⟩ := hrel
        have T3 := Lib.hid ht3
        have hbs3 := ht3.below.size
        clear ht3
        by_cases hle : e ≤ K
        · have HPS := Lib.hid (padZ_snoc (l := l0) (e := e) (by rw [HQ2.out]; exact he1))
          have hle2 : (e : Int) ≤ (K : Int) := by omega
          go_wp2_with (at_builtin; refine appI _ rfl _ _ rfl w.heap.size A2 e c2 _ rfl (T3.out.out.alloc _) wr.heap.size 0 rfl (by simp) (by omega) hbs3 ?_; intro A' c' w' hown' hg' hb')
          have T4 := Lib.hid (T3.out.grow _ hown' hg' hb')
          rw [← HPS.out] at T4
          clear hown' hg' hb'
          go_wp2_with fail
          go_roundw
          case rel => exact ⟨e + 1, A', c', by omega, by omega, rfl, T4.out⟩
          case measure => simp [lenD]; omega
        · have hle2 : ¬ (e : Int) ≤ (K : Int) := by omega
          have HPE := Lib.hid (show padZ l0 e = padZ l0 (K + 1) by
            rcases Nat.lt_or_ge q (K + 1) with h1 | h1
            · rw [show e = K + 1 by omega]
            · rw [padZ_self (by rw [HQ2.out]; omega), padZ_self (by rw [HQ2.out]; omega)])
          rw [HPE.out] at T3
          obtain ⟨g, y, hA2, hgB, _, hy, hcy, hfy⟩ := T3.out.out.ati (show K < e by omega)
          subst hA2
          have HIS := Lib.hid (incZ_set hy)
          have hyb := HBV.out K
          rw [← getD_padZ l0 (K + 1), List.getD_eq_getElem?_getD, hy] at hyb
          have hyb2 : 0 ≤ y ∧ y ≤ 132 := hyb
          have K0 : (0 : Int) ≤ (K : Int) := by omega
          have K1 : (K : Int) < (e : Int) := by omega
          have HIL := Lib.hid (show e = (incZ l0 K).length by have h1 := T3.out.out.len; rw [iv_len, padZ_len] at h1; rw [incZ_len]; exact h1.symm)
          clear hy hyb
          go_wp2_with fail
          go_roundw
          case rel => exact ⟨j + 1, e, _, c2, by omega, by go_num, rfl, Lib.hid (by rw [HX.out]; exact HIL.out), by rw [HX.out, ← HIS.out]; exact T3.out.put hgB⟩
          case measure => simp [intOf]; omega
    · have hjm : j = m := by omega
      have HE := Lib.hid (show dstL f WS WS.length = dstL f WS j by rw [hjm, HM.out])
      clear hjm ht
      go_wp2_with fail
      go_ret2
      rw [HF.out, HE.out]
      exact ⟨A1, q, c1, HQ.out, rfl, T.out.out, T.out.below⟩

end Go.Proofs.Yteiffomekjadgaa
