/- The reference's CountRight and NeighboursOf. -/
import Derived.Test.YtiebaoglcdbopaaRotS
import Derived.Test.YtiebaoglcdbopaaNbL
import Derived.Test.YtiebaoglcdbopaaStrs
namespace Go.Proofs.Ytiebaoglcdbopaa
open Go.RowKit Go.Deep

set_option maxHeartbeats 1000000 in
theorem specCountRight_any (l : List UInt8) (w : World) (hl : l.length ≤ 1000000000) :
    Calls Try.prog 58 #[.string (bs l)] w fun e w' => e = .returned (.int .i64 (crB l)) ∧ ∃ m, w' = w.drewN m := by
  rcases isB_cases l with hb | ⟨t, rfl, h8, hs⟩
  · have HF := Lib.hid (crB_no hb)
    have HB := Lib.hid hb
    clear hb
    go_enter Try.func58, Try.ntmps58
    go_wp2_with fail
    refine (specIsBinary_any _ _ hl).mono ?_
    rintro e w' ⟨rfl, rfl⟩
    rw [HB.out]
    go_wp2_with fail
    go_ret
    exact ⟨ret_int (by rw [HF.out]), 0, rfl⟩
  · have HF := Lib.hid (crB_tx h8 hs)
    have HB := Lib.hid (isB_tx h8)
    have HN := Lib.hid (nodesB_tx h8)
    have HS := Lib.hid hs
    clear hs
    go_enter Try.func58, Try.ntmps58
    go_wp2_with fail
    refine (specIsBinary_any _ _ hl).mono ?_
    rintro e w' ⟨rfl, rfl⟩
    rw [HB.out]
    go_wp2_with fail
    go_loopw [3, 4, 5, 6] (fun c v _ _ wr => ∃ k m : Nat, k ≤ nodes t ∧ v = .int .i64 k ∧ c = .int .i64 (ctR t k) ∧ wr = w.drewN m) (fun _ v _ _ _ => nodes t - (intOf v).toNat)
    case atStart => exact ⟨0, 0, Nat.zero_le _, rfl, rfl, rfl⟩
    case round =>
      obtain ⟨k, m, hk, rfl, rfl, rfl⟩ := hrel
      have hbd := ctR_bd t k
      by_cases hlt : k < nodes t
      · have HR := Lib.hid (show rotRB (tx t) (k : Int) = oT (rotR t k) by rw [rotRB, atB_in h8 HS.out hlt])
        rcases hr : rotR t k with _ | x
        · have HC := Lib.hid (show ctR t (k + 1) = ctR t k by rw [ctR, hr]; rfl)
          have HR2 := Lib.hid (show rotRB (tx t) (k : Int) = ([], false) by rw [HR.out, hr]; rfl)
          clear hr
          obtain ⟨C, hC⟩ : ∃ C, C = ctR t k := ⟨_, rfl⟩
          rw [← hC] at hbd ⊢
          have HCC := Lib.hid hC
          clear hC
          go_wp2_with fail
          refine (specNodesOf_any _ _ hl).mono ?_
          rintro e w' ⟨rfl, rfl⟩
          rw [HN.out]
          go_wp2_with fail
          refine (specRotateRight_any _ _ _ hl).mono ?_
          rintro e w' ⟨rfl, m2, rfl⟩
          rw [HR2.out]
          go_wp2_with fail
          go_roundw
          case rel => exact ⟨k + 1, m + m2, by omega, by go_num, by rw [HC.out, HCC.out], rfl⟩
          case measure => simp [intOf]; omega
        · have HC := Lib.hid (show ctR t (k + 1) = ctR t k + 1 by rw [ctR, hr]; rfl)
          have HR2 := Lib.hid (show rotRB (tx t) (k : Int) = (tx x, true) by rw [HR.out, hr]; rfl)
          clear hr
          obtain ⟨C, hC⟩ : ∃ C, C = ctR t k := ⟨_, rfl⟩
          rw [← hC] at hbd ⊢
          have HCC := Lib.hid hC
          clear hC
          go_wp2_with fail
          refine (specNodesOf_any _ _ hl).mono ?_
          rintro e w' ⟨rfl, rfl⟩
          rw [HN.out]
          go_wp2_with fail
          refine (specRotateRight_any _ _ _ hl).mono ?_
          rintro e w' ⟨rfl, m2, rfl⟩
          rw [HR2.out]
          go_wp2_with fail
          go_roundw
          case rel => exact ⟨k + 1, m + m2, by omega, by go_num, by rw [HC.out, HCC.out], rfl⟩
          case measure => simp [intOf]; omega
      · have hkn : k = nodes t := by omega
        have HC := Lib.hid (show crB (tx t) = ctR t k by rw [HF.out, hkn])
        obtain ⟨C, hC⟩ : ∃ C, C = ctR t k := ⟨_, rfl⟩
        rw [← hC] at hbd ⊢
        have HCC := Lib.hid hC
        clear hC hkn
        go_wp2_with fail
        refine (specNodesOf_any _ _ hl).mono ?_
        rintro e w' ⟨rfl, rfl⟩
        rw [HN.out]
        go_wp2_with fail
        go_ret
        exact ⟨ret_int (by rw [HC.out, HCC.out]), m, rfl⟩

set_option maxHeartbeats 2000000 in
theorem specNeighboursOf_any (l : List UInt8) (w : World) (hl : l.length ≤ 1000000000) :
    Calls Try.prog 57 #[.string (bs l)] w (RetS w (nbB l)) := by
  rcases isB_cases l with hb | ⟨t, rfl, h8, hs⟩
  · have HF := Lib.hid (show nbB l = [] by rw [nbB, rtsB_no hb, rtsB_no hb]; rfl)
    have HN := Lib.hid (nodesB_no hb)
    clear hb
    go_enter Try.func57, Try.ntmps57
    go_wp2_with fail
    refine wp_loop_rounds 1 ?_
    rw [rounds_succ]
    go_wp2_with fail
    refine (specNodesOf_any _ _ hl).mono ?_
    rintro e w' ⟨rfl, rfl⟩
    rw [HN.out]
    go_wp2_with fail
    refine wp_loop_rounds 1 ?_
    rw [rounds_succ]
    go_wp2_with fail
    refine (specNodesOf_any _ _ hl).mono ?_
    rintro e w' ⟨rfl, rfl⟩
    rw [HN.out]
    go_wp2_with fail
    go_ret
    rw [HF.out]
    exact RetS.mk rfl rfl (own_emptyS w) ((Below.refl _ _).alloc (Nat.le_refl _) _)
  · have HF := Lib.hid (show nbB (tx t) = rts rotR t (nodes t) ++ rts rotL t (nodes t) by rw [nbB, rtsB_tx h8 hs, rtsB_tx h8 hs])
    have HN := Lib.hid (nodesB_tx h8)
    have HS := Lib.hid hs
    clear hs
    go_enter Try.func57, Try.ntmps57
    go_wp2_with fail
    go_loopw [3, 4, 5, 6] (fun s v _ _ wr => ∃ (k n : Nat) (A : Option Addr) (c : Nat), k ≤ nodes t ∧ v = .int .i64 k ∧ s = .slice A n c ∧ Hid (n = (rts rotR t k).length) ∧ Own wr 9 w.heap.size A n c (sv (rts rotR t k)) ∧ Below w.heap.size w wr) (fun _ v _ _ _ => nodes t - (intOf v).toNat)
    case atStart => exact ⟨0, 0, _, _, Nat.zero_le _, rfl, rfl, Lib.hid rfl, own_emptyS w, (Below.refl _ _).alloc (Nat.le_refl _) _⟩
    case round =>
      obtain ⟨k, n, A, cp, hk, rfl, rfl, HNN, hown, hb⟩ := hrel
      have HO := Lib.hid hown
      have hbs := hb.size
      have hlen : n ≤ 16 := by have h1 := HNN.out; have h2 := rts_len rotR t k; (try simp only [List.length_append] at h1); omega
      clear hown
      by_cases hlt : k < nodes t
      · have HR := Lib.hid (show rotRB (tx t) (k : Int) = oT (rotR t k) by rw [rotRB, atB_in h8 HS.out hlt])
        rcases hr : rotR t k with _ | x
        · have HC := Lib.hid (rts_none hr)
          have HR2 := Lib.hid (show rotRB (tx t) (k : Int) = ([], false) by rw [HR.out, hr]; rfl)
          clear hr
          go_wp2_with fail
          refine (specNodesOf_any _ _ hl).mono ?_
          rintro e w' ⟨rfl, rfl⟩
          rw [HN.out]
          go_wp2_with fail
          refine (specRotateRight_any _ _ _ hl).mono ?_
          rintro e w' ⟨rfl, m2, rfl⟩
          rw [HR2.out]
          go_wp2_with fail
          go_roundw
          case rel => exact ⟨k + 1, n, A, cp, by omega, by go_num, rfl, Lib.hid (by rw [HC.out]; exact HNN.out), by rw [HC.out]; exact HO.out.drewN m2, below_drewN' hb m2⟩
          case measure => simp [intOf]; omega
        · have HC := Lib.hid (rts_some hr)
          have HR2 := Lib.hid (show rotRB (tx t) (k : Int) = (tx x, true) by rw [HR.out, hr]; rfl)
          clear hr
          go_wp2_with fail
          refine (specNodesOf_any _ _ hl).mono ?_
          rintro e w' ⟨rfl, rfl⟩
          rw [HN.out]
          go_wp2_with fail
          refine (specRotateRight_any _ _ _ hl).mono ?_
          rintro e w' ⟨rfl, m2, rfl⟩
          rw [HR2.out]
          go_wp2_with (at_builtin; refine appS _ rfl _ _ rfl w.heap.size A n cp _ rfl ((HO.out.drewN m2).alloc _) wr.heap.size (bs (tx x)) rfl (by show ((wr.drewN m2).alloc _).cell? ⟨(wr.drewN m2).heap.size, 0, none⟩ = _; rw [World.cell?_alloc_new]; rfl) (by omega) hbs ?_; intro A' c' w' hown' hg' hb')
          have HW' := Lib.hid hown'
          clear hown'
          go_wp2_with fail
          go_roundw
          case rel => exact ⟨k + 1, n + 1, A', c', by omega, by go_num, rfl, Lib.hid (by rw [HC.out, HNN.out]; simp only [List.length_append, List.length_cons, List.length_nil] <;> omega), by rw [HC.out, sv_snoc]; exact HW'.out, ((below_drewN' hb m2).alloc hbs _).trans hb'⟩
          case measure => simp [intOf]; omega
      · have hkn : k = nodes t := by omega
        obtain ⟨XS, hXS⟩ : ∃ XS, XS = rts rotR t (nodes t) := ⟨_, rfl⟩
        have HXL := Lib.hid (show XS.length ≤ 8 by rw [hXS]; have := rts_len rotR t (nodes t); omega)
        have HO1 := Lib.hid (show Own wr 9 w.heap.size A n cp (sv XS) by rw [hXS, ← hkn]; exact HO.out)
        have HN1 := Lib.hid (show n = XS.length by rw [hXS, ← hkn]; exact HNN.out)
        have HXS := Lib.hid hXS
        have HB1 := Lib.hid hb
        have hbs1 := hbs
        clear hXS hkn HNN HO hb hbs hlen
        obtain ⟨w1, rfl⟩ : ∃ W, W = wr := ⟨wr, rfl⟩
        go_wp2_with fail
        refine (specNodesOf_any _ _ hl).mono ?_
        rintro e w' ⟨rfl, rfl⟩
        rw [HN.out]
        go_wp2_with fail
        go_loopw [3, 7, 8, 9] (fun s v _ _ wr => ∃ (k n : Nat) (A : Option Addr) (c : Nat), k ≤ nodes t ∧ v = .int .i64 k ∧ s = .slice A n c ∧ Hid (n = (XS ++ rts rotL t k).length) ∧ Own wr 9 w.heap.size A n c (sv (XS ++ rts rotL t k)) ∧ Below w.heap.size w wr) (fun _ v _ _ _ => nodes t - (intOf v).toNat)
        case atStart => exact ⟨0, n, A, cp, Nat.zero_le _, rfl, rfl, Lib.hid (by rw [rts, List.append_nil]; exact HN1.out), by rw [rts, List.append_nil]; exact HO1.out, HB1.out⟩
        case round =>
          obtain ⟨k, n, A, cp, hk, rfl, rfl, HNN, hown, hb⟩ := hrel
          have HO := Lib.hid hown
          have hbs := hb.size
          have hlen : n ≤ 16 := by have h1 := HNN.out; have h2 := rts_len rotL t k; have h3 := HXL.out; (try simp only [List.length_append] at h1); omega
          clear hown
          by_cases hlt : k < nodes t
          · have HR := Lib.hid (show rotLB (tx t) (k : Int) = oT (rotL t k) by rw [rotLB, atB_in h8 HS.out hlt])
            rcases hr : rotL t k with _ | x
            · have HC := Lib.hid (rts_none hr)
              have HR2 := Lib.hid (show rotLB (tx t) (k : Int) = ([], false) by rw [HR.out, hr]; rfl)
              clear hr
              go_wp2_with fail
              refine (specNodesOf_any _ _ hl).mono ?_
              rintro e w' ⟨rfl, rfl⟩
              rw [HN.out]
              go_wp2_with fail
              refine (specRotateLeft_any _ _ _ hl).mono ?_
              rintro e w' ⟨rfl, m2, rfl⟩
              rw [HR2.out]
              go_wp2_with fail
              go_roundw
              case rel => exact ⟨k + 1, n, A, cp, by omega, by go_num, rfl, Lib.hid (by rw [HC.out]; exact HNN.out), by rw [HC.out]; exact HO.out.drewN m2, below_drewN' hb m2⟩
              case measure => simp [intOf]; omega
            · have HC := Lib.hid (rts_some hr)
              have HR2 := Lib.hid (show rotLB (tx t) (k : Int) = (tx x, true) by rw [HR.out, hr]; rfl)
              clear hr
              go_wp2_with fail
              refine (specNodesOf_any _ _ hl).mono ?_
              rintro e w' ⟨rfl, rfl⟩
              rw [HN.out]
              go_wp2_with fail
              refine (specRotateLeft_any _ _ _ hl).mono ?_
              rintro e w' ⟨rfl, m2, rfl⟩
              rw [HR2.out]
              go_wp2_with (at_builtin; refine appS _ rfl _ _ rfl w.heap.size A n cp _ rfl ((HO.out.drewN m2).alloc _) wr.heap.size (bs (tx x)) rfl (by show ((wr.drewN m2).alloc _).cell? ⟨(wr.drewN m2).heap.size, 0, none⟩ = _; rw [World.cell?_alloc_new]; rfl) (by omega) hbs ?_; intro A' c' w' hown' hg' hb')
              have HW' := Lib.hid hown'
              clear hown'
              go_wp2_with fail
              go_roundw
              case rel => exact ⟨k + 1, n + 1, A', c', by omega, by go_num, rfl, Lib.hid (by rw [HC.out, HNN.out]; simp only [List.length_append, List.length_cons, List.length_nil] <;> omega), by rw [HC.out, ← List.append_assoc, sv_snoc]; exact HW'.out, ((below_drewN' hb m2).alloc hbs _).trans hb'⟩
              case measure => simp [intOf]; omega
          · have hkn : k = nodes t := by omega
            have HO2 := Lib.hid (show Own wr 9 w.heap.size A n cp (sv (nbB (tx t))) by rw [HF.out, ← HXS.out, ← hkn]; exact HO.out)
            have HN2 := Lib.hid (show n = (nbB (tx t)).length by rw [HF.out, ← HXS.out, ← hkn]; exact HNN.out)
            clear hkn
            go_wp2_with fail
            refine (specNodesOf_any _ _ hl).mono ?_
            rintro e w' ⟨rfl, rfl⟩
            rw [HN.out]
            go_wp2_with fail
            go_ret
            exact RetS.mk HN2.out rfl HO2.out hb

end Go.Proofs.Ytiebaoglcdbopaa
