/- Merged: BinomSpec. -/
import Derived.Test.YtghfhkbncjgaeaaGreatMg43
import Derived.StillTailTactics

namespace Go.Proofs.YtghfhkbncjgaeaaGreat
open Go.RowKit

set_option maxRecDepth 100000 in
set_option maxHeartbeats 4000000 in
theorem l14Binomial_any (n k : Nat) (w : World) (hkn : k ≤ n) (hn : n ≤ 14) : Calls Tryz.prog 58 #[.int .i64 n, .int .i64 k] w (RetI w (gau n k)) := by
  go_enter Tryz.func58, Tryz.ntmps58
  go_wp2_with fail
  go_loopw [5, 6, 7, 8, 9, 10, 11] (fun r i _ _ _ _ _ wr => ∃ (mm q : Nat) (A1 : Option Addr) (c1 : Nat) (vs : List Value), mm ≤ n ∧ Hid (q = min mm k + 1) ∧ i = .int .i64 ((mm : Int) + 1) ∧ r = .slice A1 q c1 ∧ O2 wr w.heap.size A1 q c1 vs (rowsL mm k) ∧ Below w.heap.size w wr) (fun _ i _ _ _ _ _ _ => n + 1 - (intOf i).toNat)
  case atStart => exact ⟨0, 1, _, _, _, Nat.zero_le _, Lib.hid (by omega), rfl, rfl, by have := O2.one w; rwa [show rowsL 0 k = [[1]] by simp [rowsL, gau_0]], ((Below.refl _ _).alloc (Nat.le_refl _) _).alloc (by simp) _⟩
  case round =>
    obtain ⟨mm, q, A1, c1, vs, hmm, HQ, rfl, rfl, hrows, hb⟩ := hrel
    obtain ⟨w1, rfl⟩ : ∃ W, W = wr := ⟨wr, rfl⟩
    have HROWS := Lib.hid hrows
    have hs1 := hb.size
    clear hrows
    by_cases hlt : mm < n
    · obtain ⟨M, hM, M1, M2⟩ : ∃ M : Nat, M = min (mm + 1) k ∧ M ≤ mm + 1 ∧ M ≤ k := ⟨_, rfl, by omega, by omega⟩
      have HM := Lib.hid hM
      clear hM
      have hmn : (mm : Int) + 1 ≤ (n : Int) := by omega
      rcases (show (k : Int) < (mm : Int) + 1 ∨ ¬ (k : Int) < (mm : Int) + 1 by omega) with hmin | hmin
      all_goals
        go_wp2_with fail
        go_loopw [7, 8, 9, 10, 11] (fun nx i _ _ _ wv => ∃ (j : Nat) (A2 : Option Addr) (c2 : Nat) (vs2 : List Value), j ≤ M + 1 ∧ i = .int .i64 j ∧ nx = .slice A2 j c2 ∧ O2 wv w1.heap.size A2 j c2 vs2 (nextL (mm + 1) j) ∧ Below w1.heap.size w1 wv) (fun _ i _ _ _ _ => M + 1 - (intOf i).toNat)
        case atStart => exact ⟨0, _, _, _, Nat.zero_le _, rfl, rfl, O2.empty w1, (Below.refl _ _).alloc (Nat.le_refl _) _⟩
        case round =>
          obtain ⟨j, A2, c2, vs2, hj, rfl, rfl, hnext, hb2⟩ := hrel
          obtain ⟨w2, rfl⟩ : ∃ W, W = wr := ⟨wr, rfl⟩
          have HNEXT := Lib.hid hnext
          have hs2 := hb2.size
          clear hnext
          have hMM := HM.out
          by_cases hjM : j ≤ M
          · rcases j with _ | j
            · obtain ⟨L, hL⟩ : ∃ L : Nat, L = 1 := ⟨1, rfl⟩
              have hmk := mkI L (by omega) w2
              rw [show ((L : Nat) : Int) = 1 by omega] at hmk
              have HL1 := Lib.hid hL
              have hL1 : 1 ≤ L ∧ L ≤ 1 := by omega
              have e0 : ((0 : Nat) : Int) = 0 := rfl
              rw [e0]
              have hla : (gau mm 0).length = 1 := by rw [gau_0]; rfl
              have q0 : (0 : Int) < (q : Int) := by have := HQ.out; omega
              have q3 : 0 < q := by omega
              have q4 : (0 : Int) ≤ (mm : Int) + 1 := by omega
              have q5 : (0 : Int) < (mm : Int) + 1 := by omega
              have q6 : (0 : Int) ≤ (k : Int) := by omega
              clear hL hMM e0
              have HX := Lib.hid (show Own (w2.alloc (.cells (madeCells #[.int .i64 0] L) 3)) 3 w1.heap.size (some ⟨w2.heap.size, 0, none⟩) L L (iv (List.replicate L 0)) by have := Own.made w2 3 (.int .i64 0) L (by unfold maxLen; omega); rw [iv_rep] at this; exact this.mono hs2)
              have hbx := (Below.refl w2.heap.size w2).alloc (Nat.le_refl _) (.cells (madeCells #[.int .i64 0] L) 3)
              have HXL := Lib.hid (show (List.replicate L (0 : Int)).length = L from List.length_replicate)
              have HXB := Lib.hid (show ∀ p : Nat, 0 ≤ (List.replicate L (0 : Int)).getD p 0 ∧ (List.replicate L (0 : Int)).getD p 0 ≤ 16384 from fun p => by rw [getD_rep]; omega)
              go_wp2_with fail
              clear hmk
              obtain ⟨ga, Aja, cja, hAa, hga, hgsa, hva, hca, hfa, hoa⟩ := (HROWS.out.below hb2).head (rowsL_at (m := mm) (k := k) (j := 0) (by omega))
              obtain ⟨la, hla⟩ : ∃ l, l = (gau mm (0)).length := ⟨_, rfl⟩
              rw [← hla] at hca hoa
              have HLa := Lib.hid hla
              have HCa := Lib.hid hca
              have HOa := Lib.hid hoa
              have hgwa : ga < w2.heap.size := hgsa
              subst hAa
              have hlLa : la + 0 ≤ L := by rw [hla]; omega
              clear hla hoa hva hfa
              go_loopw [10] (fun i wv => ∃ t : Nat, t ≤ la ∧ i = .int .i64 t ∧ Own wv 3 w1.heap.size (some ⟨w2.heap.size, 0, none⟩) L L (iv (upd (List.replicate L 0) (fun i => (gau mm (0)).getD i 0) (0) t)) ∧ Below w2.heap.size w2 wv) (fun i _ => la - (intOf i).toNat)
              case atStart => exact ⟨0, Nat.zero_le _, rfl, HX.out, hbx⟩
              case round =>
                obtain ⟨t, ht, rfl, ho, hb3⟩ := hrel
                have hcr := (hb3.cell (p := ⟨ga, 0, none⟩) hgwa).trans HCa.out
                by_cases hlt : t < la
                · obtain ⟨b, o, x, hA, hx, hc⟩ := (HOa.out.rd.below hb3).ati hlt
                  subst hA
                  obtain ⟨g, y, hg, _, hgs, hy, hcy, hfy⟩ := ho.ati (show t < L by omega)
                  cases hg
                  have HOX := Lib.hid ho
                  have xb := gau_bd14 (show mm ≤ 14 by omega) (0) t
                  rw [getD_ofQ hx] at xb
                  have yb : 0 ≤ y ∧ y ≤ 16384 := by
                    have h0 := upd_get (List.replicate L 0) (fun i => (gau mm (0)).getD i 0) (0) t (t) (by rw [HXL.out]; omega)
                    rw [getD_ofQ hy, if_neg (by omega)] at h0
                    have h1 := HXB.out (t)
                    omega
                  have HN := Lib.hid (show (upd (List.replicate L 0) (fun i => (gau mm (0)).getD i 0) (0) t).set (t) (y + x) = upd (List.replicate L 0) (fun i => (gau mm (0)).getD i 0) (0) (t + 1) by
                    show _ = List.set _ _ _
                    rw [show 0 + t = t from Nat.zero_add t]; rw [getD_ofQ hy]; show _ = List.set _ (t) (y + (gau mm (0)).getD t 0); rw [getD_ofQ hx])
                  have kkn : t < L := by omega
                  have u0 : IntKind.i64.wrap (y + x) = y + x := IntWalk.i64_in _ (by omega)
                  clear hx hy ho
                  go_wp2_with fail
                  go_still_tail 15, (by kernel_rfl)
                  change wpList _ _ _ _ _ wr.drew
                  go_wp2_with fail
                  go_roundw
                  case rel => exact ⟨t + 1, by omega, by go_num, by rw [← HN.out]; exact HOX.out.puti (t) (y + x), (hb3.setCell (p := ⟨w2.heap.size, t, none⟩) (Nat.le_refl _) _).drew⟩
                  case measure => simp [intOf]; omega
                · have htl : la = t := by omega
                  subst htl
                  have HX2 := Lib.hid ho
                  have HXL2 := Lib.hid (show (upd (List.replicate L 0) (fun i => (gau mm (0)).getD i 0) (0) la).length = L by rw [upd_len]; exact HXL.out)
                  clear ho
                  have HROW := Lib.hid (show Own wr 3 w1.heap.size (some ⟨w2.heap.size, 0, none⟩) L L (iv (gau (mm + 1) 0)) by rw [bin_a, ← HLa.out, ← HL1.out]; exact HX2.out)
                  have HRL := Lib.hid (show L = (gau (mm + 1) 0).length by rw [gau_0, HL1.out]; rfl)
                  have hbe := hb3
                  go_wp2_with (at_builtin; refine appRow _ rfl _ _ rfl w1.heap.size A2 0 c2 vs2 rfl (((HNEXT.out.below hbe).outer.alloc _)) wr.heap.size (some ⟨w2.heap.size, 0, none⟩) L L rfl (by simp) (by omega) (by have := hbe.size; omega) ?_; intro A3 c3 w3 hown3 hgr3 hb4)
                  have HP := Lib.hid (HNEXT.out.pushx rfl hbe HROW.out HRL.out _ hgr3 hown3)
                  have hbf := (hb2.trans ((hbe.mono hs2).alloc (by have := hbe.size; omega) _)).trans hb4
                  clear hown3 hgr3 hb4
                  go_wp2_with fail
                  go_roundw
                  case rel => exact ⟨0 + 1, A3, c3, _, by omega, by go_num, rfl, by rw [nextL_snoc]; exact HP.out, hbf⟩
                  case measure => simp [intOf] <;> omega
            · rcases Nat.lt_or_ge j mm with hjm | hjm
              · have ej : ((j + 1 : Nat) : Int) = (j : Int) + 1 := by omega
                rw [ej]
                obtain ⟨L, hL⟩ : ∃ L : Nat, L = (j + 1) * (mm - j) + 1 := ⟨_, rfl⟩
                have eL : (L : Int) = ((j : Int) + 1) * ((mm : Int) + 1 - ((j : Int) + 1)) + 1 := by
                  rw [show (mm : Int) + 1 - ((j : Int) + 1) = ((mm - j : Nat) : Int) by omega, hL]
                  push_cast
                  rfl
                have hLb : L ≤ 500 := by
                  rw [hL]
                  have := Nat.mul_le_mul (show j + 1 ≤ 15 by omega) (show mm - j ≤ 15 by omega)
                  omega
                have v1 : IntKind.i64.wrap (((j : Int) + 1) * ((mm : Int) + 1 - ((j : Int) + 1))) = ((j : Int) + 1) * ((mm : Int) + 1 - ((j : Int) + 1)) := IntWalk.i64_in _ (by omega)
                have v2 : IntKind.i64.wrap (((j : Int) + 1) * ((mm : Int) + 1 - ((j : Int) + 1)) + 1) = ((j : Int) + 1) * ((mm : Int) + 1 - ((j : Int) + 1)) + 1 := IntWalk.i64_in _ (by omega)
                have hmk := mkI L (by omega) w2
                rw [eL] at hmk
                have HLL := Lib.hid (show (gau mm j).length + (mm - j) = L by rw [bin_L (by omega), hL])
                have hll := HLL.out
                have hlt1 := gau_lt hjm
                have q0 : (j : Int) + 1 < (q : Int) := by have := HQ.out; omega
                have q1 : ((j : Int) + 1).toNat = j + 1 := by omega
                have q2 : (j : Int) < (q : Int) := by omega
                have q3 : j < q := by omega
                have q4 : j + 1 < q := by omega
                have q5 : (0 : Int) ≤ (j : Int) + 1 := by omega
                have q6 : j ≤ mm := by omega
                have q7 : (j : Int) + 1 ≤ (k : Int) := by omega
                have q8 : (j : Int) ≤ (mm : Int) := by omega
                have q9 : j + 1 ≤ k := by omega
                clear hL eL hMM ej
                have HX := Lib.hid (show Own (w2.alloc (.cells (madeCells #[.int .i64 0] L) 3)) 3 w1.heap.size (some ⟨w2.heap.size, 0, none⟩) L L (iv (List.replicate L 0)) by have := Own.made w2 3 (.int .i64 0) L (by unfold maxLen; omega); rw [iv_rep] at this; exact this.mono hs2)
                have hbx := (Below.refl w2.heap.size w2).alloc (Nat.le_refl _) (.cells (madeCells #[.int .i64 0] L) 3)
                have HXL := Lib.hid (show (List.replicate L (0 : Int)).length = L from List.length_replicate)
                have HXB := Lib.hid (show ∀ p : Nat, 0 ≤ (List.replicate L (0 : Int)).getD p 0 ∧ (List.replicate L (0 : Int)).getD p 0 ≤ 16384 from fun p => by rw [getD_rep]; omega)
                go_wp2_with fail
                clear hmk v1 v2
                obtain ⟨ga, Aja, cja, hAa, hga, hgsa, hva, hca, hfa, hoa⟩ := (HROWS.out.below hb2).head (rowsL_at (m := mm) (k := k) (j := j + 1) (by omega))
                obtain ⟨la, hla⟩ : ∃ l, l = (gau mm (j + 1)).length := ⟨_, rfl⟩
                rw [← hla] at hca hoa
                have HLa := Lib.hid hla
                have HCa := Lib.hid hca
                have HOa := Lib.hid hoa
                have hgwa : ga < w2.heap.size := hgsa
                subst hAa
                have hlLa : la + 0 ≤ L := by rw [hla]; omega
                clear hla hoa hva hfa
                go_loopw [10] (fun i wv => ∃ t : Nat, t ≤ la ∧ i = .int .i64 t ∧ Own wv 3 w1.heap.size (some ⟨w2.heap.size, 0, none⟩) L L (iv (upd (List.replicate L 0) (fun i => (gau mm (j + 1)).getD i 0) (0) t)) ∧ Below w2.heap.size w2 wv) (fun i _ => la - (intOf i).toNat)
                case atStart => exact ⟨0, Nat.zero_le _, rfl, HX.out, hbx⟩
                case round =>
                  obtain ⟨t, ht, rfl, ho, hb3⟩ := hrel
                  have hcr := (hb3.cell (p := ⟨ga, j + 1, none⟩) hgwa).trans HCa.out
                  by_cases hlt : t < la
                  · obtain ⟨b, o, x, hA, hx, hc⟩ := (HOa.out.rd.below hb3).ati hlt
                    subst hA
                    obtain ⟨g, y, hg, _, hgs, hy, hcy, hfy⟩ := ho.ati (show t < L by omega)
                    cases hg
                    have HOX := Lib.hid ho
                    have xb := gau_bd14 (show mm ≤ 14 by omega) (j + 1) t
                    rw [getD_ofQ hx] at xb
                    have yb : 0 ≤ y ∧ y ≤ 16384 := by
                      have h0 := upd_get (List.replicate L 0) (fun i => (gau mm (j + 1)).getD i 0) (0) t (t) (by rw [HXL.out]; omega)
                      rw [getD_ofQ hy, if_neg (by omega)] at h0
                      have h1 := HXB.out (t)
                      omega
                    have HN := Lib.hid (show (upd (List.replicate L 0) (fun i => (gau mm (j + 1)).getD i 0) (0) t).set (t) (y + x) = upd (List.replicate L 0) (fun i => (gau mm (j + 1)).getD i 0) (0) (t + 1) by
                      show _ = List.set _ _ _
                      rw [show 0 + t = t from Nat.zero_add t]; rw [getD_ofQ hy]; show _ = List.set _ (t) (y + (gau mm (j + 1)).getD t 0); rw [getD_ofQ hx])
                    have kkn : t < L := by omega
                    have u0 : IntKind.i64.wrap (y + x) = y + x := IntWalk.i64_in _ (by omega)
                    clear hx hy ho
                    go_wp2_with fail
                    go_still_tail 15, (by kernel_rfl)
                    change wpList _ _ _ _ _ wr.drew
                    go_wp2_with fail
                    go_roundw
                    case rel => exact ⟨t + 1, by omega, by go_num, by rw [← HN.out]; exact HOX.out.puti (t) (y + x), (hb3.setCell (p := ⟨w2.heap.size, t, none⟩) (Nat.le_refl _) _).drew⟩
                    case measure => simp [intOf]; omega
                  · have htl : la = t := by omega
                    subst htl
                    have HX2 := Lib.hid ho
                    have HXL2 := Lib.hid (show (upd (List.replicate L 0) (fun i => (gau mm (j + 1)).getD i 0) (0) la).length = L by rw [upd_len]; exact HXL.out)
                    clear ho
                    have HXL1 := Lib.hid HXL2.out
                    clear HXL
                    have HXL := Lib.hid HXL1.out
                    have HX := Lib.hid HX2.out
                    have hbx := hb3
                    clear HXB HX2
                    have HXB := Lib.hid (show ∀ p : Nat, 0 ≤ (upd (List.replicate L 0) (fun i => (gau mm (j + 1)).getD i 0) 0 la).getD p 0 ∧ (upd (List.replicate L 0) (fun i => (gau mm (j + 1)).getD i 0) 0 la).getD p 0 ≤ 16384 from fun p => by
                      rw [upd_get _ _ _ _ _ (by simp; omega), getD_rep]
                      have h1 := gau_bd14 (show mm ≤ 14 by omega) (j + 1) (p - 0)
                      split <;> omega)
                    go_wp2_with fail
                    obtain ⟨gb, Ajb, cjb, hAb, hgb, hgsb, hvb, hcb, hfb, hob⟩ := (HROWS.out.below hb2).head (rowsL_at (m := mm) (k := k) (j := j) (by omega))
                    obtain ⟨lb, hlb⟩ : ∃ l, l = (gau mm (j)).length := ⟨_, rfl⟩
                    rw [← hlb] at hcb hob
                    have HLb := Lib.hid hlb
                    have HCb := Lib.hid hcb
                    have HOb := Lib.hid hob
                    have hgwb : gb < w2.heap.size := hgsb
                    have eg : gb = ga := by cases hAb; rfl
                    subst eg
                    clear hAb
                    have hlLb : lb + (mm - j) ≤ L := by rw [hlb]; omega
                    clear hlb hob hvb hfb
                    go_loopw [11] (fun i wv => ∃ t : Nat, t ≤ lb ∧ i = .int .i64 t ∧ Own wv 3 w1.heap.size (some ⟨w2.heap.size, 0, none⟩) L L (iv (upd (upd (List.replicate L 0) (fun i => (gau mm (j + 1)).getD i 0) 0 la) (fun i => (gau mm (j)).getD i 0) ((mm - j)) t)) ∧ Below w2.heap.size w2 wv) (fun i _ => lb - (intOf i).toNat)
                    case atStart => exact ⟨0, Nat.zero_le _, rfl, HX.out, hbx⟩
                    case round =>
                      obtain ⟨t, ht, rfl, ho, hb3⟩ := hrel
                      have hcr := (hb3.cell (p := ⟨gb, j, none⟩) hgwb).trans HCb.out
                      by_cases hlt : t < lb
                      · obtain ⟨b, o, x, hA, hx, hc⟩ := (HOb.out.rd.below hb3).ati hlt
                        subst hA
                        obtain ⟨g, y, hg, _, hgs, hy, hcy, hfy⟩ := ho.ati (show (mm - j + t) < L by omega)
                        cases hg
                        have HOX := Lib.hid ho
                        have xb := gau_bd14 (show mm ≤ 14 by omega) (j) t
                        rw [getD_ofQ hx] at xb
                        have yb : 0 ≤ y ∧ y ≤ 16384 := by
                          have h0 := upd_get (upd (List.replicate L 0) (fun i => (gau mm (j + 1)).getD i 0) 0 la) (fun i => (gau mm (j)).getD i 0) ((mm - j)) t ((mm - j + t)) (by rw [HXL.out]; omega)
                          rw [getD_ofQ hy, if_neg (by omega)] at h0
                          have h1 := HXB.out ((mm - j + t))
                          omega
                        have HN := Lib.hid (show (upd (upd (List.replicate L 0) (fun i => (gau mm (j + 1)).getD i 0) 0 la) (fun i => (gau mm (j)).getD i 0) ((mm - j)) t).set ((mm - j + t)) (y + x) = upd (upd (List.replicate L 0) (fun i => (gau mm (j + 1)).getD i 0) 0 la) (fun i => (gau mm (j)).getD i 0) ((mm - j)) (t + 1) by
                          show _ = List.set _ _ _
                          rw [getD_ofQ hy]; show _ = List.set _ ((mm - j + t)) (y + (gau mm (j)).getD t 0); rw [getD_ofQ hx])
                        have kk0 : (0 : Int) ≤ (t : Int) + ((mm : Int) + 1) - ((j : Int) + 1) := by omega
                        have kk : (t : Int) + ((mm : Int) + 1) - ((j : Int) + 1) < (L : Int) := by omega
                        have kk1 : (j : Int) + 1 ≤ (t : Int) + ((mm : Int) + 1) := by omega
                        have kk2 : (j : Int) < (t : Int) + ((mm : Int) + 1) := by omega
                        have kk3 : (t : Int) + ((mm : Int) + 1) < (L : Int) + ((j : Int) + 1) := by omega
                        have ke : ((t : Int) + ((mm : Int) + 1) - ((j : Int) + 1)).toNat = mm - j + t := by omega
                        have u0 : IntKind.i64.wrap (y + x) = y + x := IntWalk.i64_in _ (by omega)
                        have u1 : IntKind.i64.wrap ((t : Int) + ((mm : Int) + 1)) = (t : Int) + ((mm : Int) + 1) := IntWalk.i64_in _ (by omega)
                        have u2 : IntKind.i64.wrap ((t : Int) + ((mm : Int) + 1) - ((j : Int) + 1)) = (t : Int) + ((mm : Int) + 1) - ((j : Int) + 1) := IntWalk.i64_in _ (by omega)
                        have u3 : IntKind.i64.wrap (j : Int) = (j : Int) := IntWalk.i64_in _ (by omega)
                        clear hx hy ho
                        go_wp2_with fail
                        go_still_tail 24, (by kernel_rfl)
                        change wpList _ _ _ _ _ wr.drew
                        go_wp2_with fail
                        go_roundw
                        case rel => exact ⟨t + 1, by omega, by go_num, by rw [← HN.out]; exact HOX.out.puti ((mm - j + t)) (y + x), (hb3.setCell (p := ⟨w2.heap.size, (mm - j + t), none⟩) (Nat.le_refl _) _).drew⟩
                        case measure => simp [intOf]; omega
                      · have htl : lb = t := by omega
                        subst htl
                        have HX2 := Lib.hid ho
                        have HXL2 := Lib.hid (show (upd (upd (List.replicate L 0) (fun i => (gau mm (j + 1)).getD i 0) 0 la) (fun i => (gau mm (j)).getD i 0) ((mm - j)) lb).length = L by rw [upd_len]; exact HXL.out)
                        clear ho
                        have HROW := Lib.hid (show Own wr 3 w1.heap.size (some ⟨w2.heap.size, 0, none⟩) L L (iv (gau (mm + 1) (j + 1))) by rw [bin_b hjm HLL.out, ← HLb.out, ← HLa.out]; exact HX2.out)
                        have HRL := Lib.hid (show L = (gau (mm + 1) (j + 1)).length by rw [gau_len _ _ (by omega), ← HLL.out, bin_L (by omega), show mm + 1 - (j + 1) = mm - j by omega])
                        have hbe := hb3
                        go_wp2_with (at_builtin; refine appRow _ rfl _ _ rfl w1.heap.size A2 (j + 1) c2 vs2 rfl (((HNEXT.out.below hbe).outer.alloc _)) wr.heap.size (some ⟨w2.heap.size, 0, none⟩) L L rfl (by simp) (by omega) (by have := hbe.size; omega) ?_; intro A3 c3 w3 hown3 hgr3 hb4)
                        have HP := Lib.hid (HNEXT.out.pushx rfl hbe HROW.out HRL.out _ hgr3 hown3)
                        have hbf := (hb2.trans ((hbe.mono hs2).alloc (by have := hbe.size; omega) _)).trans hb4
                        clear hown3 hgr3 hb4
                        go_wp2_with fail
                        go_roundw
                        case rel => exact ⟨(j + 1) + 1, A3, c3, _, by omega, by go_num, rfl, by rw [nextL_snoc]; exact HP.out, hbf⟩
                        case measure => simp [intOf] <;> omega
              · first
                  | exfalso; omega
                  | skip
                    obtain rfl : j = mm := by omega
                    have ej : ((j + 1 : Nat) : Int) = (j : Int) + 1 := by omega
                    rw [ej]
                    obtain ⟨L, hL⟩ : ∃ L : Nat, L = 1 := ⟨1, rfl⟩
                    have hmk := mkI L (by omega) w2
                    rw [show ((L : Nat) : Int) = 1 by omega] at hmk
                    have HL1 := Lib.hid hL
                    have hL1 : 1 ≤ L ∧ L ≤ 1 := by omega
                    have hla : (gau j j).length = 1 := by rw [gau_n]; rfl
                    have q0 : (j : Int) < (q : Int) := by have := HQ.out; omega
                    have q7 : (j : Int) + 1 ≤ (k : Int) := by omega
                    have q9 : j + 1 ≤ k := by omega
                    have q3 : j < q := by omega
                    clear hL hMM ej
                    have HX := Lib.hid (show Own (w2.alloc (.cells (madeCells #[.int .i64 0] L) 3)) 3 w1.heap.size (some ⟨w2.heap.size, 0, none⟩) L L (iv (List.replicate L 0)) by have := Own.made w2 3 (.int .i64 0) L (by unfold maxLen; omega); rw [iv_rep] at this; exact this.mono hs2)
                    have hbx := (Below.refl w2.heap.size w2).alloc (Nat.le_refl _) (.cells (madeCells #[.int .i64 0] L) 3)
                    have HXL := Lib.hid (show (List.replicate L (0 : Int)).length = L from List.length_replicate)
                    have HXB := Lib.hid (show ∀ p : Nat, 0 ≤ (List.replicate L (0 : Int)).getD p 0 ∧ (List.replicate L (0 : Int)).getD p 0 ≤ 16384 from fun p => by rw [getD_rep]; omega)
                    go_wp2_with fail
                    clear hmk
                    obtain ⟨gb, Ajb, cjb, hAb, hgb, hgsb, hvb, hcb, hfb, hob⟩ := (HROWS.out.below hb2).head (rowsL_at (m := j) (k := k) (j := j) (by omega))
                    obtain ⟨lb, hlb⟩ : ∃ l, l = (gau j (j)).length := ⟨_, rfl⟩
                    rw [← hlb] at hcb hob
                    have HLb := Lib.hid hlb
                    have HCb := Lib.hid hcb
                    have HOb := Lib.hid hob
                    have hgwb : gb < w2.heap.size := hgsb
                    subst hAb
                    have hlLb : lb + 0 ≤ L := by rw [hlb]; omega
                    clear hlb hob hvb hfb
                    go_loopw [11] (fun i wv => ∃ t : Nat, t ≤ lb ∧ i = .int .i64 t ∧ Own wv 3 w1.heap.size (some ⟨w2.heap.size, 0, none⟩) L L (iv (upd (List.replicate L 0) (fun i => (gau j (j)).getD i 0) (0) t)) ∧ Below w2.heap.size w2 wv) (fun i _ => lb - (intOf i).toNat)
                    case atStart => exact ⟨0, Nat.zero_le _, rfl, HX.out, hbx⟩
                    case round =>
                      obtain ⟨t, ht, rfl, ho, hb3⟩ := hrel
                      have hcr := (hb3.cell (p := ⟨gb, j, none⟩) hgwb).trans HCb.out
                      by_cases hlt : t < lb
                      · obtain ⟨b, o, x, hA, hx, hc⟩ := (HOb.out.rd.below hb3).ati hlt
                        subst hA
                        obtain ⟨g, y, hg, _, hgs, hy, hcy, hfy⟩ := ho.ati (show t < L by omega)
                        cases hg
                        have HOX := Lib.hid ho
                        have xb := gau_bd14 (show j ≤ 14 by omega) (j) t
                        rw [getD_ofQ hx] at xb
                        have yb : 0 ≤ y ∧ y ≤ 16384 := by
                          have h0 := upd_get (List.replicate L 0) (fun i => (gau j (j)).getD i 0) (0) t (t) (by rw [HXL.out]; omega)
                          rw [getD_ofQ hy, if_neg (by omega)] at h0
                          have h1 := HXB.out (t)
                          omega
                        have HN := Lib.hid (show (upd (List.replicate L 0) (fun i => (gau j (j)).getD i 0) (0) t).set (t) (y + x) = upd (List.replicate L 0) (fun i => (gau j (j)).getD i 0) (0) (t + 1) by
                          show _ = List.set _ _ _
                          rw [show 0 + t = t from Nat.zero_add t]; rw [getD_ofQ hy]; show _ = List.set _ (t) (y + (gau j (j)).getD t 0); rw [getD_ofQ hx])
                        have kkn : t < L := by omega
                        have u0 : IntKind.i64.wrap (y + x) = y + x := IntWalk.i64_in _ (by omega)
                        have u1 : IntKind.i64.wrap ((t : Int) + ((j : Int) + 1)) = (t : Int) + ((j : Int) + 1) := IntWalk.i64_in _ (by omega)
                        have u2 : IntKind.i64.wrap (t : Int) = (t : Int) := IntWalk.i64_in _ (by omega)
                        have u3 : IntKind.i64.wrap (j : Int) = (j : Int) := IntWalk.i64_in _ (by omega)
                        have u4 : (t : Int) + ((j : Int) + 1) - ((j : Int) + 1) = (t : Int) := by omega
                        clear hx hy ho
                        go_wp2_with fail
                        go_still_tail 24, (by kernel_rfl)
                        change wpList _ _ _ _ _ wr.drew
                        go_wp2_with fail
                        go_roundw
                        case rel => exact ⟨t + 1, by omega, by go_num, by rw [← HN.out]; exact HOX.out.puti (t) (y + x), (hb3.setCell (p := ⟨w2.heap.size, t, none⟩) (Nat.le_refl _) _).drew⟩
                        case measure => simp [intOf]; omega
                      · have htl : lb = t := by omega
                        subst htl
                        have HX2 := Lib.hid ho
                        have HXL2 := Lib.hid (show (upd (List.replicate L 0) (fun i => (gau j (j)).getD i 0) (0) lb).length = L by rw [upd_len]; exact HXL.out)
                        clear ho
                        have HROW := Lib.hid (show Own wr 3 w1.heap.size (some ⟨w2.heap.size, 0, none⟩) L L (iv (gau (j + 1) (j + 1))) by rw [bin_c, ← HLb.out, ← HL1.out]; exact HX2.out)
                        have HRL := Lib.hid (show L = (gau (j + 1) (j + 1)).length by rw [gau_n, HL1.out]; rfl)
                        have hbe := hb3
                        go_wp2_with (at_builtin; refine appRow _ rfl _ _ rfl w1.heap.size A2 (j + 1) c2 vs2 rfl (((HNEXT.out.below hbe).outer.alloc _)) wr.heap.size (some ⟨w2.heap.size, 0, none⟩) L L rfl (by simp) (by omega) (by have := hbe.size; omega) ?_; intro A3 c3 w3 hown3 hgr3 hb4)
                        have HP := Lib.hid (HNEXT.out.pushx rfl hbe HROW.out HRL.out _ hgr3 hown3)
                        have hbf := (hb2.trans ((hbe.mono hs2).alloc (by have := hbe.size; omega) _)).trans hb4
                        clear hown3 hgr3 hb4
                        go_wp2_with fail
                        go_roundw
                        case rel => exact ⟨(j + 1) + 1, A3, c3, _, by omega, by go_num, rfl, by rw [nextL_snoc]; exact HP.out, hbf⟩
                        case measure => simp [intOf] <;> omega
          · have hjM1 : j = M + 1 := by omega
            have HN2 := Lib.hid (show O2 w2 w1.heap.size A2 j c2 vs2 (rowsL (mm + 1) k) by rw [← nextL_rows, ← hMM, ← hjM1]; exact HNEXT.out)
            have HJ := Lib.hid (show j = min (mm + 1) k + 1 by rw [hjM1, hMM])
            have t1 : ¬ (j : Int) ≤ (k : Int) ∨ ¬ (j : Int) ≤ (mm : Int) + 1 := by omega
            have t2 : (k : Int) < (mm : Int) + 1 → (k : Int) < (j : Int) := by omega
            have t3 : ¬ (k : Int) < (mm : Int) + 1 → (mm : Int) + 1 < (j : Int) := by omega
            clear hMM hjM1 t1
            go_wp2_with fail
            go_roundw
            case rel => exact ⟨mm + 1, j, A2, c2, vs2, by omega, HJ.out, by go_num, rfl, HN2.out.mono hs1, hb.trans (hb2.mono hs1)⟩
            case measure => simp [intOf]; omega
    · have hmn : mm = n := by omega
      subst hmn
      obtain ⟨g0, Aj, cj, hA, hg0, hgs0, hv0, hc0, hf0, ho0⟩ := HROWS.out.head (rowsL_at (m := mm) (k := k) (j := k) (by omega))
      subst hA
      have HO := Lib.hid ho0
      obtain ⟨l, hl⟩ : ∃ l, l = (gau mm k).length := ⟨_, rfl⟩
      rw [← hl] at hc0
      have HL := Lib.hid hl
      have kq : (k : Int) < (q : Int) := by have := HQ.out; omega
      clear hv0 hf0 ho0 hl
      go_wp2_with fail
      go_ret
      exact ⟨Aj, l, cj, HL.out, rfl, by rw [HL.out]; exact HO.out, hb⟩

end Go.Proofs.YtghfhkbncjgaeaaGreat
