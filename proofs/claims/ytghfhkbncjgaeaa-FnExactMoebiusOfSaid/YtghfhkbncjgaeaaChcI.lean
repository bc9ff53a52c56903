/- CountChains of the program. -/
import Derived.Test.YtghfhkbncjgaeaaChcL
import Derived.Test.YtghfhkbncjgaeaaNum
import Derived.StillTailTactics
namespace Go.Proofs.Ytghfhkbncjgaeaa
set_option linter.unusedVariables false
open Go.RowKit

def toC (ws : List Int) : Nat → Int
  | 0 => 0
  | j + 1 => toC ws j + ws.getD j 0
theorem toC_bd {ws : List Int} {b : Int} (h : ∀ j, 0 ≤ ws.getD j 0 ∧ ws.getD j 0 ≤ b) : ∀ j, 0 ≤ toC ws j ∧ toC ws j ≤ j * b
  | 0 => by simp [toC]
  | j + 1 => by
    have h1 := toC_bd h j
    have h2 := h j
    have h3 : ((j + 1 : Nat) : Int) * b = j * b + b := by push_cast; rw [Int.add_mul]; simp
    rw [h3, toC]
    omega
def chc (n k : Int) : Int := if inB n 0 4 && inB k 1 5 then toC (waC (rowN n.toNat) (k.toNat - 1)) (rowN n.toNat).length else -1
def onC (N i : Nat) : List Int := List.replicate i 1 ++ List.replicate (N - i) 0
theorem onC_len {N i : Nat} (h : i ≤ N) : (onC N i).length = N := by unfold onC; simp; omega
theorem onC_set {N i : Nat} (h : i < N) : (onC N i).set i 1 = onC N (i + 1) := by
  unfold onC
  rw [List.set_append_right _ _ (by simp), List.replicate_succ', List.append_assoc]
  congr 1
  rw [show N - i = (N - (i + 1)) + 1 by omega, List.replicate_succ]
  simp
theorem rowN_14 {n : Nat} (h : n ≤ 4) : (rowN n).length ≤ 14 := by
  unfold rowN
  rw [List.length_map]
  have : (List.range 5).all (fun n => decide ((paths n).length ≤ 14)) = true := by decide +kernel
  exact of_decide_eq_true (List.all_eq_true.1 this n (List.mem_range.2 (by omega)))

theorem rowN_sm {n : Nat} (h : n ≤ 4) : ∀ x ∈ rowN n, x.length ≤ 4 := by
  have : (List.range 5).all (fun n => (rowN n).all fun x => decide (x.length ≤ 4)) = true := by decide +kernel
  intro x hx
  exact of_decide_eq_true (List.all_eq_true.1 (List.all_eq_true.1 this n (List.mem_range.2 (by omega))) x hx)

set_option maxRecDepth 20000 in
set_option maxHeartbeats 4000000 in
theorem implCountChains_any (n k : Int) (w : World) : Calls Try.prog 14 #[.int .i64 n, .int .i64 k] w fun e w' => e = .returned (.int .i64 (chc n k)) ∧ Below w.heap.size w w' := by
  rcases h : inB n 0 4 with _ | _
  · have HF := Lib.hid (show chc n k = -1 by unfold chc; rw [h]; rfl)
    have HB := Lib.hid h
    clear h
    go_enter Try.func14, Try.ntmps14
    go_wp2_with fail
    refine (within_any _ _ _ _).mono ?_
    rintro e w' ⟨rfl, rfl⟩
    rw [HB.out]
    go_wp2_with fail
    go_ret
    exact ⟨ret_int (by rw [HF.out]), Below.refl _ _⟩
  rcases h' : inB k 1 5 with _ | _
  · have HF := Lib.hid (show chc n k = -1 by unfold chc; rw [h, h']; rfl)
    have HB := Lib.hid h
    have HB' := Lib.hid h'
    clear h h'
    go_enter Try.func14, Try.ntmps14
    go_wp2_with fail
    refine (within_any _ _ _ _).mono ?_
    rintro e w' ⟨rfl, rfl⟩
    rw [HB.out]
    go_wp2_with fail
    refine (within_any _ _ _ _).mono ?_
    rintro e w' ⟨rfl, rfl⟩
    rw [HB'.out]
    go_wp2_with fail
    go_ret
    exact ⟨ret_int (by rw [HF.out]), Below.refl _ _⟩
  have hb := inB_iff.1 h
  have hb' := inB_iff.1 h'
  obtain ⟨N, rfl⟩ := Int.eq_ofNat_of_zero_le hb.1
  obtain ⟨K, rfl⟩ := Int.eq_ofNat_of_zero_le (show 0 ≤ k by omega)
  have hN : N ≤ 4 := by omega
  have hK1 : 1 ≤ K := by omega
  have hK5 : K ≤ 5 := by omega
  have HF := Lib.hid (show chc (N : Int) (K : Int) = toC (waC (rowN N) (K - 1)) (rowN N).length by unfold chc; rw [h, h']; rfl)
  have HB := Lib.hid h
  have HB' := Lib.hid h'
  clear h h' hb hb'
  have h14 := rowN_14 hN
  have HSM := Lib.hid (rowN_sm hN)
  have HNC := Lib.hid (fun w => noncrossing_any N w (show N ≤ 8 by omega))
  obtain ⟨L, hL⟩ : ∃ L, L = rowN N := ⟨_, rfl⟩
  rw [← hL] at HF h14 HNC HSM
  clear hL
  go_enter Try.func14, Try.ntmps14
  go_wp2_with fail
  refine (within_any _ _ _ _).mono ?_
  rintro e w' ⟨rfl, rfl⟩
  rw [HB.out]
  go_wp2_with fail
  refine (within_any _ _ _ _).mono ?_
  rintro e w' ⟨rfl, rfl⟩
  rw [HB'.out]
  go_wp2_with fail
  refine (HNC.out _).mono ?_
  rintro e w1 ⟨A, m, c, vs, hm, rfl, ho, hb1⟩
  have HO := Lib.hid ho
  have HM := Lib.hid hm
  have hm14 : m ≤ 14 := by omega
  have hs1 := hb1.size
  have hmk := fun w => mkI m (by omega) w
  clear ho hm
  go_wp2_with fail
  have HT1 := Lib.hid (show Own (w1.alloc (.cells (madeCells #[.int .i64 0] m) 3)) 3 w1.heap.size (some ⟨w1.heap.size, 0, none⟩) m m (iv (onC m 0)) by
    have := Own.made w1 3 (.int .i64 0) m (by unfold maxLen; omega)
    rw [iv_rep] at this
    unfold onC
    simpa using this)
  have hba := (Below.refl w1.heap.size w1).alloc (Nat.le_refl _) (.cells (madeCells #[.int .i64 0] m) 3)
  go_loopw [7, 32] (fun _ i wr => ∃ j : Nat, j ≤ m ∧ i = .int .i64 j ∧ Own wr 3 w1.heap.size (some ⟨w1.heap.size, 0, none⟩) m m (iv (onC m j)) ∧ Below w1.heap.size w1 wr) (fun _ i _ => m - (intOf i).toNat)
  case atStart => exact ⟨0, Nat.zero_le _, rfl, HT1.out, hba⟩
  case round =>
    obtain ⟨j, hj, rfl, ho, hb⟩ := hrel
    have O := Lib.hid ho
    by_cases hlt : j < m
    · obtain ⟨g, y, hA, hgB, hgs, hy, hcy, hfy⟩ := ho.ati hlt
      cases hA
      have HS := Lib.hid (onC_set hlt)
      clear ho hy
      go_wp2_with fail
      go_roundw
      case rel => exact ⟨j + 1, by omega, by go_num, by rw [← HS.out]; exact O.out.puti j 1, hb.setCell (p := ⟨w1.heap.size, j, none⟩) (Nat.le_refl _) _⟩
      case measure => simp [intOf]; omega
    · have hjm : j = m := by omega
      have HW := Lib.hid (show onC m j = waC L 0 by unfold onC waC; rw [hjm, Nat.sub_self, List.replicate_zero, List.append_nil, HM.out])
      rw [HW.out] at O
      obtain ⟨w2, rfl⟩ : ∃ W, W = wr := ⟨wr, rfl⟩
      have hs2 := hb.size
      have hbw := hb1.trans (hb.mono hs1)
      have HO2 := Lib.hid (HO.out.below hb)
      have HOW := Lib.hid (O.out.mono hs1)
      clear hjm ho HW hb
      go_wp2_with fail
      go_loopw [6, 8, 9, 10, 11, 12, 13, 49, 56] (fun mv st _ _ _ _ _ _ _ wr => ∃ (t : Nat) (A1 : Option Addr) (c1 : Nat), t ≤ K - 1 ∧ st = .int .i64 ((t : Int) + 1) ∧ mv = .slice A1 m c1 ∧ O2 wr w.heap.size A m c vs L ∧ Own wr 3 w.heap.size A1 m c1 (iv (waC L t)) ∧ Below w.heap.size w wr) (fun _ st _ _ _ _ _ _ _ _ => K + 1 - (intOf st).toNat)
      case atStart => exact ⟨0, _, _, Nat.zero_le _, rfl, rfl, HO2.out, HOW.out, hbw⟩
      case round =>
        obtain ⟨t, A1, c1, ht, rfl, rfl, hrows, hown, hb⟩ := hrel
        have R := Lib.hid hrows
        have MW := Lib.hid hown
        obtain ⟨w3, rfl⟩ : ∃ W, W = wr := ⟨wr, rfl⟩
        have hs3 := hb.size
        clear hrows hown
        by_cases hlt9 : t + 1 < K
        · have hk1 : (t : Int) + 1 < (K : Int) := by omega
          have hmk := mkI m (by omega) w3
          have HT3 := Lib.hid (show Own (w3.alloc (.cells (madeCells #[.int .i64 0] m) 3)) 3 w3.heap.size (some ⟨w3.heap.size, 0, none⟩) m m (iv (nxC L (waC L t) 0)) by
            have := Own.made w3 3 (.int .i64 0) m (by unfold maxLen; omega)
            rw [iv_rep] at this
            rw [nxC_0, ← HM.out]; exact this)
          have hb3 := (Below.refl w3.heap.size w3).alloc (Nat.le_refl _) (.cells (madeCells #[.int .i64 0] m) 3)
          have HBD := Lib.hid (waC_bd L h14 t)
          have HPW := Lib.hid (show (14 : Int) ^ t ≤ 38416 by
            have h1 : t = 0 ∨ t = 1 ∨ t = 2 ∨ t = 3 := by omega
            rcases h1 with rfl | rfl | rfl | rfl <;> decide)
          go_wp2_with fail
          clear hmk
          go_loopw [10, 11, 12, 13, 49, 56] (fun _ _ _ _ ix _ wr => ∃ i0 : Nat, i0 ≤ m ∧ ix = .int .i64 i0 ∧ Own wr 3 w3.heap.size (some ⟨w3.heap.size, 0, none⟩) m m (iv (nxC L (waC L t) i0)) ∧ Below w3.heap.size w3 wr) (fun _ _ _ _ ix _ _ => m - (intOf ix).toNat)
          case atStart => exact ⟨0, Nat.zero_le _, rfl, HT3.out, hb3⟩
          case round =>
            obtain ⟨i0, hi0, rfl, hox, hbi⟩ := hrel
            obtain ⟨w4, rfl⟩ : ∃ W, W = wr := ⟨wr, rfl⟩
            have OX := Lib.hid hox
            have hs4 := hbi.size
            clear hox
            by_cases hlti : i0 < m
            · have h1 : L[i0]? = some (L.getD i0 []) := by rw [List.getD_eq_getElem?_getD, List.getElem?_eq_getElem (by have := HM.out; omega)]; rfl
              have HFN := Lib.hid (fun j => (show accC L (waC L t) i0 (j + 1) = if finB (L.getD j []) (L.getD i0 []) then accC L (waC L t) i0 j + (waC L t).getD j 0 else accC L (waC L t) i0 j from rfl))
              obtain ⟨P, hP⟩ : ∃ P, P = L.getD i0 [] := ⟨_, rfl⟩
              rw [← hP] at h1 HFN
              have hP4 := HSM.out P (List.mem_of_getElem? h1)
              obtain ⟨ga, Ap, cp, hAa, hga, hgsa, hva, hca, hfa, hoa⟩ := (R.out.below hbi).head h1
              obtain ⟨Aj, cj, hv, hoj3⟩ := R.out.row i0 P h1
              rw [hva] at hv
              cases hv
              subst hAa
              have HOP := Lib.hid hoj3
              clear hP hoj3
              have HSELF := Lib.hid (nxC_self L (waC L t) (show i0 < L.length by have := HM.out; omega))
              have HSET := Lib.hid (nxC_set L (waC L t) (show i0 < L.length by have := HM.out; omega))
              clear h1 hva hoa
              go_wp2_with fail
              go_loopw [12, 13, 56] (fun _ _ jx wr => ∃ j : Nat, j ≤ m ∧ jx = .int .i64 j ∧ Own wr 3 w3.heap.size (some ⟨w3.heap.size, 0, none⟩) m m (iv ((nxC L (waC L t) i0).set i0 (accC L (waC L t) i0 j))) ∧ Below w3.heap.size w3 wr) (fun _ _ jx _ => m - (intOf jx).toNat)
              case atStart => exact ⟨0, Nat.zero_le _, rfl, by rw [HSELF.out]; exact OX.out, hbi⟩
              case round =>
                obtain ⟨j, hj, rfl, hoj, hbj⟩ := hrel
                obtain ⟨w5, rfl⟩ : ∃ W, W = wr := ⟨wr, rfl⟩
                have OJ := Lib.hid hoj
                have hs5 := hbj.size
                by_cases hltj : j < m
                · have h2 : L[j]? = some (L.getD j []) := by rw [List.getD_eq_getElem?_getD, List.getElem?_eq_getElem (by have := HM.out; omega)]; rfl
                  have HFJ := Lib.hid (HFN.out j)
                  obtain ⟨Q, hQ⟩ : ∃ Q, Q = L.getD j [] := ⟨_, rfl⟩
                  rw [← hQ] at h2 HFJ
                  have hQ4 := HSM.out Q (List.mem_of_getElem? h2)
                  obtain ⟨gb, Aq, cq, hAb, hgb, hgsb, hvb, hcb, hfb, hob⟩ := (R.out.below hbj).head h2
                  cases hAb
                  have HOQ := Lib.hid hob
                  clear h2 hvb hob hoj hQ
                  go_wp2_with fail
                  refine (implIsFiner_any _ _ _ _ _ _ Q P _ HOQ.out.rd (HOP.out.below hbj).rd (by omega) (by omega)).mono ?_
                  rintro e w6 ⟨rfl, dn, hw⟩
                  have OJ6 := Lib.hid (show Own w6 3 w3.heap.size (some ⟨w3.heap.size, 0, none⟩) m m (iv ((nxC L (waC L t) i0).set i0 (accC L (waC L t) i0 j))) by rw [hw]; exact OJ.out.drewN dn)
                  have hb6 : Below w3.heap.size w3 w6 := by rw [hw]; exact ⟨hbj.os, hbj.tape, hbj.output, hbj.size, hbj.block⟩
                  clear hw
                  rcases hf : finB Q P with _ | _
                  · have HS := Lib.hid (show accC L (waC L t) i0 (j + 1) = accC L (waC L t) i0 j by rw [HFJ.out, hf]; rfl)
                    clear hf
                    go_wp2_with fail
                    go_roundw
                    case rel => exact ⟨j + 1, by omega, by go_num, by rw [HS.out]; exact OJ6.out, hb6⟩
                    case measure => simp [intOf]; omega
                  · have HS := Lib.hid (show accC L (waC L t) i0 (j + 1) = accC L (waC L t) i0 j + (waC L t).getD j 0 by rw [HFJ.out, hf]; rfl)
                    clear hf
                    obtain ⟨gm, x, hAm, -, -, hx, hcx, -⟩ := (MW.out.below hb6).ati hltj
                    subst hAm
                    obtain ⟨g5, y, hA5, -, -, hy, hcy, hfy⟩ := OJ6.out.ati hlti
                    cases hA5
                    have xb := HBD.out j
                    rw [List.getD_eq_getElem?_getD, hx] at xb
                    have xb2 : 0 ≤ x ∧ x ≤ 38416 := ⟨xb.1, Int.le_trans xb.2 HPW.out⟩
                    have hy2 : y = accC L (waC L t) i0 j := by
                      rw [List.getElem?_set_self (by rw [nxC_len _ _ (by have := HM.out; omega)]; have := HM.out; omega)] at hy
                      injection hy with hy; exact hy.symm
                    have yb := accC_bd L (b := 38416) (by omega) (fun z => ⟨(HBD.out z).1, Int.le_trans (HBD.out z).2 HPW.out⟩) i0 j
                    rw [← hy2] at yb
                    have u0 : IntKind.i64.wrap (y + x) = y + x := IntWalk.i64_in _ (by omega)
                    have HN := Lib.hid (show ((nxC L (waC L t) i0).set i0 (accC L (waC L t) i0 j)).set i0 (y + x) = (nxC L (waC L t) i0).set i0 (accC L (waC L t) i0 (j + 1)) by
                      rw [List.set_set, HS.out, hy2, List.getD_eq_getElem?_getD, hx]; rfl)
                    clear hx hy hy2 xb yb
                    go_wp2_with fail
                    go_still_tail 12, (by kernel_rfl)
                    change wpList _ _ _ _ _ w6.drew
                    go_wp2_with fail
                    go_roundw
                    case rel => exact ⟨j + 1, by omega, by go_num, by rw [← HN.out]; exact (OJ6.out.puti i0 (y + x)).drew, (hb6.setCell (p := ⟨w3.heap.size, i0, none⟩) (Nat.le_refl _) _).drew⟩
                    case measure => simp [intOf]; omega
                · have hjm : j = m := by omega
                  have HE := Lib.hid (show (nxC L (waC L t) i0).set i0 (accC L (waC L t) i0 j) = nxC L (waC L t) (i0 + 1) by rw [hjm, HM.out]; exact HSET.out)
                  clear hjm hoj
                  go_wp2_with fail
                  go_roundw
                  case rel => exact ⟨i0 + 1, by omega, by go_num, by rw [← HE.out]; exact OJ.out, hbj⟩
                  case measure => simp [intOf]; omega
            · have him : i0 = m := by omega
              have HE := Lib.hid (show nxC L (waC L t) i0 = waC L (t + 1) by rw [waC, him, HM.out])
              rw [HE.out] at OX
              have hbf := hb.trans (hbi.mono hs3)
              clear him
              go_wp2_with fail
              go_roundw
              case rel => exact ⟨t + 1, _, m, by omega, by go_num, rfl, R.out.below hbi, OX.out.mono hs3, hbf⟩
              case measure => simp [intOf]; omega
        · have htK : t = K - 1 := by omega
          have HW := Lib.hid (show waC L (K - 1) = waC L t by rw [htK])
          have hk1 : ¬ (t : Int) + 1 < (K : Int) := by omega
          have HPW := Lib.hid (show (14 : Int) ^ t ≤ 38416 by
            have h1 : t = 0 ∨ t = 1 ∨ t = 2 ∨ t = 3 ∨ t = 4 := by omega
            rcases h1 with rfl | rfl | rfl | rfl | rfl <;> decide)
          have HBD := Lib.hid (waC_bd L h14 t)
          have HTB := Lib.hid (fun z => toC_bd (b := 38416) (ws := waC L t) (fun z => ⟨(HBD.out z).1, Int.le_trans (HBD.out z).2 HPW.out⟩) z)
          clear htK
          go_wp2_with fail
          go_loop [14, 16, 81] (fun sv _ ix => ∃ j : Nat, j ≤ m ∧ ix = .int .i64 j ∧ sv = .int .i64 (toC (waC L t) j)) (fun _ _ ix => m - (intOf ix).toNat)
          case atStart => exact ⟨0, Nat.zero_le _, rfl, rfl⟩
          case round =>
            obtain ⟨j, hj, rfl, rfl⟩ := hrel
            have hV := HTB.out j
            have HV := Lib.hid (show toC (waC L t) (j + 1) = toC (waC L t) j + (waC L t).getD j 0 from rfl)
            obtain ⟨V, hVe⟩ : ∃ V, V = toC (waC L t) j := ⟨_, rfl⟩
            rw [← hVe] at hV HV ⊢
            by_cases hltj : j < m
            · obtain ⟨gm, x, hAm, -, -, hx, hcx, -⟩ := MW.out.ati hltj
              subst hAm
              have xb := HBD.out j
              rw [List.getD_eq_getElem?_getD, hx] at xb
              have xb2 : 0 ≤ x ∧ x ≤ 38416 := ⟨xb.1, Int.le_trans xb.2 HPW.out⟩
              have HS := Lib.hid (show toC (waC L t) (j + 1) = V + x by rw [HV.out, List.getD_eq_getElem?_getD, hx]; rfl)
              have u0 : IntKind.i64.wrap (V + x) = V + x := IntWalk.i64_in _ (by omega)
              clear hx xb hVe
              go_wp2_with fail
              go_round
              case rel => exact ⟨j + 1, by omega, by go_num, by rw [HS.out]⟩
              case measure => simp [intOf]; omega
            · have HE := Lib.hid (show toC (waC L t) L.length = V by rw [hVe, ← HM.out, show m = j by omega])
              clear hVe
              go_wp2_with fail
              go_ret
              exact ⟨ret_int (by rw [HF.out, HW.out, HE.out]), hb⟩

end Go.Proofs.Ytghfhkbncjgaeaa
