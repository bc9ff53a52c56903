/- The program's CountRight, rotations, NeighboursOf. -/
import Derived.Test.YtiebaoglcdbopaaRotI
import Derived.Test.YtiebaoglcdbopaaNbL
import Derived.Test.YtiebaoglcdbopaaStrs
import Derived.Test.YtiebaoglcdbopaaAppS
namespace Go.Proofs.Ytiebaoglcdbopaa
open Go.RowKit Go.Deep

set_option maxHeartbeats 1000000 in
theorem implCountRight_any (l : List UInt8) (w : World) (hl : l.length ≤ 1000000000) :
    Calls Try.prog 45 #[.string (bs l)] w fun e w' => e = .returned (.int .i64 (crB l)) ∧ Below w.heap.size w w' := by
  rcases isB_cases l with hb | ⟨t, rfl, h8, hs⟩
  · have HF := Lib.hid (crB_no hb)
    have HB := Lib.hid hb
    clear hb
    go_enter Try.func45, Try.ntmps45
    go_wp2_with fail
    refine (implIsBinary_any _ _ hl).mono ?_
    rintro e w1 ⟨rfl, hb1⟩
    rw [HB.out]
    go_wp2_with fail
    go_ret
    exact ⟨ret_int (by rw [HF.out]), hb1⟩
  · have HF := Lib.hid (crB_tx h8 hs)
    have HB := Lib.hid (isB_tx h8)
    have HN := Lib.hid (nodesB_tx h8)
    have HS := Lib.hid hs
    clear hs
    go_enter Try.func45, Try.ntmps45
    go_wp2_with fail
    refine (implIsBinary_any _ _ hl).mono ?_
    rintro e w1 ⟨rfl, hb1⟩
    rw [HB.out]
    go_wp2_with fail
    refine (implNodesOf_any _ _ hl).mono ?_
    rintro e w2 ⟨rfl, hb2⟩
    rw [HN.out]
    have hb12 := hb1.trans (hb2.mono hb1.size)
    clear hb1 hb2
    go_wp2_with fail
    go_loopw [3, 4, 5, 6, 12] (fun c _ _ _ i wr => ∃ k : Nat, k ≤ nodes t ∧ i = .int .i64 k ∧ c = .int .i64 (ctR t k) ∧ Below w.heap.size w wr) (fun _ _ _ _ i _ => nodes t - (intOf i).toNat)
    case atStart => exact ⟨0, Nat.zero_le _, rfl, rfl, hb12⟩
    case round =>
      obtain ⟨k, hk, rfl, rfl, hbl⟩ := hrel
      have hbs := hbl.size
      have hbd := ctR_bd t k
      obtain ⟨C, hC⟩ : ∃ C, C = ctR t k := ⟨_, rfl⟩
      rw [← hC] at hbd ⊢
      have HCC := Lib.hid hC
      clear hC
      by_cases hlt : k < nodes t
      · have HR := Lib.hid (show rotRB (tx t) (k : Int) = oT (rotR t k) by rw [rotRB, atB_in h8 HS.out hlt])
        rcases hr : rotR t k with _ | x
        · have HC := Lib.hid (show ctR t (k + 1) = ctR t k by rw [ctR, hr]; rfl)
          have HR2 := Lib.hid (show rotRB (tx t) (k : Int) = ([], false) by rw [HR.out, hr]; rfl)
          clear hr
          go_wp2_with fail
          refine (implRotateRight_any _ _ _ hl (by omega)).mono ?_
          rintro e w3 ⟨rfl, hb3⟩
          rw [HR2.out]
          go_wp2_with fail
          go_roundw
          case rel => exact ⟨k + 1, by omega, by go_num, by rw [HC.out, HCC.out], hbl.trans (hb3.mono hbs)⟩
          case measure => simp [intOf]; omega
        · have HC := Lib.hid (show ctR t (k + 1) = ctR t k + 1 by rw [ctR, hr]; rfl)
          have HR2 := Lib.hid (show rotRB (tx t) (k : Int) = (tx x, true) by rw [HR.out, hr]; rfl)
          clear hr
          go_wp2_with fail
          refine (implRotateRight_any _ _ _ hl (by omega)).mono ?_
          rintro e w3 ⟨rfl, hb3⟩
          rw [HR2.out]
          go_wp2_with fail
          go_roundw
          case rel => exact ⟨k + 1, by omega, by go_num, by rw [HC.out, HCC.out], hbl.trans (hb3.mono hbs)⟩
          case measure => simp [intOf]; omega
      · have hkn : k = nodes t := by omega
        have HC := Lib.hid (show crB (tx t) = ctR t k by rw [HF.out, hkn])
        clear hkn
        go_wp2_with fail
        go_ret
        exact ⟨ret_int (by rw [HC.out, HCC.out]), hbl⟩

set_option maxHeartbeats 1000000 in
theorem rotationsRight_any (l : List UInt8) (w : World) (hl : l.length ≤ 1000000000) :
    Calls Try.prog 85 #[.string (bs l), .func (.func 34) #[] #[]] w (RetS w (rtsB rotR l)) := by
  rcases isB_cases l with hb | ⟨t, rfl, h8, hs⟩
  · have HF := Lib.hid (rtsB_no (f := rotR) hb)
    have HN := Lib.hid (nodesB_no hb)
    clear hb
    go_enter Try.func85, Try.ntmps85
    go_wp2_with fail
    refine wp_loop_rounds 1 ?_
    rw [rounds_succ]
    go_wp2_with fail
    refine (implNodesOf_any _ _ hl).mono ?_
    rintro e w1 ⟨rfl, hb1⟩
    rw [HN.out]
    go_wp2_with fail
    go_ret
    rw [HF.out]
    exact RetS.mk rfl rfl ((own_emptyS w).below hb1) (((Below.refl _ _).alloc (Nat.le_refl _) _).trans (hb1.mono (by simp)))
  · have HF := Lib.hid (rtsB_tx (f := rotR) h8 hs)
    have HN := Lib.hid (nodesB_tx h8)
    have HS := Lib.hid hs
    clear hs
    go_enter Try.func85, Try.ntmps85
    go_wp2_with fail
    go_loopw [5, 6, 7, 8] (fun s v _ _ wr => ∃ (k n : Nat) (A : Option Addr) (c : Nat), k ≤ nodes t ∧ v = .int .i64 k ∧ s = .slice A n c ∧ Hid (n = (rts rotR t k).length) ∧ Own wr 9 w.heap.size A n c (sv (rts rotR t k)) ∧ Below w.heap.size w wr) (fun _ v _ _ _ => nodes t - (intOf v).toNat)
    case atStart => exact ⟨0, 0, _, _, Nat.zero_le _, rfl, rfl, Lib.hid rfl, own_emptyS w, (Below.refl _ _).alloc (Nat.le_refl _) _⟩
    case round =>
      obtain ⟨k, n, A, cp, hk, rfl, rfl, HNN, hown, hb⟩ := hrel
      have HO := Lib.hid hown
      have hbs := hb.size
      have hlen : n ≤ 16 := by have h1 := HNN.out; have h2 := rts_len rotR t k; omega
      clear hown
      by_cases hlt : k < nodes t
      · have HR := Lib.hid (show rotRB (tx t) (k : Int) = oT (rotR t k) by rw [rotRB, atB_in h8 HS.out hlt])
        rcases hr : rotR t k with _ | x
        · have HC := Lib.hid (rts_none hr)
          have HR2 := Lib.hid (show rotRB (tx t) (k : Int) = ([], false) by rw [HR.out, hr]; rfl)
          clear hr
          go_wp2_with fail
          refine (implNodesOf_any _ _ hl).mono ?_
          rintro e w1 ⟨rfl, hb1⟩
          rw [HN.out]
          have HO1 := Lib.hid (HO.out.below hb1)
          have hbb := hb.trans (hb1.mono hbs)
          have hbs1 := hbb.size
          clear hb1
          go_wp2_with fail
          refine (implRotateRight_any _ _ _ hl (by omega)).mono ?_
          rintro e w2 ⟨rfl, hb2⟩
          rw [HR2.out]
          go_wp2_with fail
          go_roundw
          case rel => exact ⟨k + 1, n, A, cp, by omega, by go_num, rfl, Lib.hid (by rw [HC.out]; exact HNN.out), by rw [HC.out]; exact HO1.out.below hb2, hbb.trans (hb2.mono hbs1)⟩
          case measure => simp [intOf]; omega
        · have HC := Lib.hid (rts_some hr)
          have HR2 := Lib.hid (show rotRB (tx t) (k : Int) = (tx x, true) by rw [HR.out, hr]; rfl)
          clear hr
          go_wp2_with fail
          refine (implNodesOf_any _ _ hl).mono ?_
          rintro e w1 ⟨rfl, hb1⟩
          rw [HN.out]
          have HO1 := Lib.hid (HO.out.below hb1)
          have hbb := hb.trans (hb1.mono hbs)
          have hbs1 := hbb.size
          clear hb1
          go_wp2_with fail
          refine (implRotateRight_any _ _ _ hl (by omega)).mono ?_
          rintro e w2 ⟨rfl, hb2⟩
          rw [HR2.out]
          have HO2 := Lib.hid (HO1.out.below hb2)
          have hbb2 := hbb.trans (hb2.mono hbs1)
          have hbs2 := hbb2.size
          clear hb2
          go_wp2_with (at_builtin; refine appS _ rfl _ _ rfl w.heap.size A n cp _ rfl (HO2.out.alloc _) w2.heap.size (bs (tx x)) rfl (by simp) (by omega) hbs2 ?_; intro A' c' w' hown' hg' hb')
          have HW' := Lib.hid hown'
          clear hown'
          go_wp2_with fail
          go_roundw
          case rel => exact ⟨k + 1, n + 1, A', c', by omega, by go_num, rfl, Lib.hid (by rw [HC.out, HNN.out]; simp only [List.length_append, List.length_cons, List.length_nil]), by rw [HC.out, sv_snoc]; exact HW'.out, (hbb2.alloc hbs2 _).trans hb'⟩
          case measure => simp [intOf]; omega
      · have hkn : k = nodes t := by omega
        have HO2 := Lib.hid (show Own wr 9 w.heap.size A n cp (sv (rtsB rotR (tx t))) by rw [HF.out, ← hkn]; exact HO.out)
        have HN2 := Lib.hid (show n = (rtsB rotR (tx t)).length by rw [HF.out, ← hkn]; exact HNN.out)
        clear hkn
        go_wp2_with fail
        refine (implNodesOf_any _ _ hl).mono ?_
        rintro e w1 ⟨rfl, hb1⟩
        rw [HN.out]
        go_wp2_with fail
        go_ret
        exact RetS.mk HN2.out rfl (HO2.out.below hb1) (hb.trans (hb1.mono hbs))

set_option maxHeartbeats 1000000 in
theorem rotationsLeft_any (l : List UInt8) (w : World) (hl : l.length ≤ 1000000000) :
    Calls Try.prog 85 #[.string (bs l), .func (.func 36) #[] #[]] w (RetS w (rtsB rotL l)) := by
  rcases isB_cases l with hb | ⟨t, rfl, h8, hs⟩
  · have HF := Lib.hid (rtsB_no (f := rotL) hb)
    have HN := Lib.hid (nodesB_no hb)
    clear hb
    go_enter Try.func85, Try.ntmps85
    go_wp2_with fail
    refine wp_loop_rounds 1 ?_
    rw [rounds_succ]
    go_wp2_with fail
    refine (implNodesOf_any _ _ hl).mono ?_
    rintro e w1 ⟨rfl, hb1⟩
    rw [HN.out]
    go_wp2_with fail
    go_ret
    rw [HF.out]
    exact RetS.mk rfl rfl ((own_emptyS w).below hb1) (((Below.refl _ _).alloc (Nat.le_refl _) _).trans (hb1.mono (by simp)))
  · have HF := Lib.hid (rtsB_tx (f := rotL) h8 hs)
    have HN := Lib.hid (nodesB_tx h8)
    have HS := Lib.hid hs
    clear hs
    go_enter Try.func85, Try.ntmps85
    go_wp2_with fail
    go_loopw [5, 6, 7, 8] (fun s v _ _ wr => ∃ (k n : Nat) (A : Option Addr) (c : Nat), k ≤ nodes t ∧ v = .int .i64 k ∧ s = .slice A n c ∧ Hid (n = (rts rotL t k).length) ∧ Own wr 9 w.heap.size A n c (sv (rts rotL t k)) ∧ Below w.heap.size w wr) (fun _ v _ _ _ => nodes t - (intOf v).toNat)
    case atStart => exact ⟨0, 0, _, _, Nat.zero_le _, rfl, rfl, Lib.hid rfl, own_emptyS w, (Below.refl _ _).alloc (Nat.le_refl _) _⟩
    case round =>
      obtain ⟨k, n, A, cp, hk, rfl, rfl, HNN, hown, hb⟩ := hrel
      have HO := Lib.hid hown
      have hbs := hb.size
      have hlen : n ≤ 16 := by have h1 := HNN.out; have h2 := rts_len rotL t k; omega
      clear hown
      by_cases hlt : k < nodes t
      · have HR := Lib.hid (show rotLB (tx t) (k : Int) = oT (rotL t k) by rw [rotLB, atB_in h8 HS.out hlt])
        rcases hr : rotL t k with _ | x
        · have HC := Lib.hid (rts_none hr)
          have HR2 := Lib.hid (show rotLB (tx t) (k : Int) = ([], false) by rw [HR.out, hr]; rfl)
          clear hr
          go_wp2_with fail
          refine (implNodesOf_any _ _ hl).mono ?_
          rintro e w1 ⟨rfl, hb1⟩
          rw [HN.out]
          have HO1 := Lib.hid (HO.out.below hb1)
          have hbb := hb.trans (hb1.mono hbs)
          have hbs1 := hbb.size
          clear hb1
          go_wp2_with fail
          refine (implRotateLeft_any _ _ _ hl (by omega)).mono ?_
          rintro e w2 ⟨rfl, hb2⟩
          rw [HR2.out]
          go_wp2_with fail
          go_roundw
          case rel => exact ⟨k + 1, n, A, cp, by omega, by go_num, rfl, Lib.hid (by rw [HC.out]; exact HNN.out), by rw [HC.out]; exact HO1.out.below hb2, hbb.trans (hb2.mono hbs1)⟩
          case measure => simp [intOf]; omega
        · have HC := Lib.hid (rts_some hr)
          have HR2 := Lib.hid (show rotLB (tx t) (k : Int) = (tx x, true) by rw [HR.out, hr]; rfl)
          clear hr
          go_wp2_with fail
          refine (implNodesOf_any _ _ hl).mono ?_
          rintro e w1 ⟨rfl, hb1⟩
          rw [HN.out]
          have HO1 := Lib.hid (HO.out.below hb1)
          have hbb := hb.trans (hb1.mono hbs)
          have hbs1 := hbb.size
          clear hb1
          go_wp2_with fail
          refine (implRotateLeft_any _ _ _ hl (by omega)).mono ?_
          rintro e w2 ⟨rfl, hb2⟩
          rw [HR2.out]
          have HO2 := Lib.hid (HO1.out.below hb2)
          have hbb2 := hbb.trans (hb2.mono hbs1)
          have hbs2 := hbb2.size
          clear hb2
          go_wp2_with (at_builtin; refine appS _ rfl _ _ rfl w.heap.size A n cp _ rfl (HO2.out.alloc _) w2.heap.size (bs (tx x)) rfl (by simp) (by omega) hbs2 ?_; intro A' c' w' hown' hg' hb')
          have HW' := Lib.hid hown'
          clear hown'
          go_wp2_with fail
          go_roundw
          case rel => exact ⟨k + 1, n + 1, A', c', by omega, by go_num, rfl, Lib.hid (by rw [HC.out, HNN.out]; simp only [List.length_append, List.length_cons, List.length_nil]), by rw [HC.out, sv_snoc]; exact HW'.out, (hbb2.alloc hbs2 _).trans hb'⟩
          case measure => simp [intOf]; omega
      · have hkn : k = nodes t := by omega
        have HO2 := Lib.hid (show Own wr 9 w.heap.size A n cp (sv (rtsB rotL (tx t))) by rw [HF.out, ← hkn]; exact HO.out)
        have HN2 := Lib.hid (show n = (rtsB rotL (tx t)).length by rw [HF.out, ← hkn]; exact HNN.out)
        clear hkn
        go_wp2_with fail
        refine (implNodesOf_any _ _ hl).mono ?_
        rintro e w1 ⟨rfl, hb1⟩
        rw [HN.out]
        go_wp2_with fail
        go_ret
        exact RetS.mk HN2.out rfl (HO2.out.below hb1) (hb.trans (hb1.mono hbs))

set_option maxHeartbeats 1000000 in
theorem implNeighboursOf_any (l : List UInt8) (w : World) (hl : l.length ≤ 1000000000) :
    Calls Try.prog 39 #[.string (bs l)] w (RetS w (nbB l)) := by
  go_enter Try.func39, Try.ntmps39
  go_wp2_with fail
  refine (rotationsRight_any l w hl).mono ?_
  rintro e w1 ⟨A1, n1, c1, hn1, rfl, ho1, hb1⟩
  have HO1 := Lib.hid ho1
  have HN1 := Lib.hid hn1
  have hn18 : n1 ≤ 8 := by rw [hn1]; exact rtsB_len _ _
  clear ho1 hn1
  go_wp2_with fail
  refine (rotationsLeft_any l _ hl).mono ?_
  rintro e w2 ⟨A2, n2, c2, hn2, rfl, ho2, hb2⟩
  have HO2 := Lib.hid ho2
  have HN2 := Lib.hid hn2
  have hn28 : n2 ≤ 8 := by rw [hn2]; exact rtsB_len _ _
  clear ho2 hn2
  have HO1 := Lib.hid (HO1.out.1.below hb2)
  have hs1 := hb1.size
  have hbb := hb1.trans (hb2.mono hs1)
  have hs2 := hbb.size
  go_wp2_with (at_builtin; refine appAllS _ rfl _ _ rfl w.heap.size A1 n1 c1 (sv (rtsB rotR l)) rfl HO1.out A2 n2 c2 (rtsB rotL l) rfl HO2.out.1.nocap HO2.out.rd (by omega) hs2 ?_; intro A' c' w' hown' hg' hb')
  have HW' := Lib.hid hown'
  clear hown'
  go_wp2_with fail
  go_ret
  refine RetS.mk (by rw [nbB, List.length_append, ← HN1.out, ← HN2.out]) rfl ?_ (hbb.trans hb')
  have := HW'.out
  unfold nbB
  unfold sv at this ⊢
  rw [List.map_append]
  exact this

end Go.Proofs.Ytiebaoglcdbopaa
