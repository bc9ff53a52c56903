/- CountChains of the specification. -/
import Derived.Test.YtghfhkbncjgaeaaChcI
import Derived.Test.YtghfhkbncjgaeaaPartS
import Derived.Test.YtghfhkbncjgaeaaPathsS
namespace Go.Proofs.Ytghfhkbncjgaeaa
set_option linter.unusedVariables false
open Go.RowKit

/-- Rows stay where another slice of ints, apart from each of them, grows. -/
theorem O2.grownInt {w w' : World} {lo B : Nat} {A A1 : Option Addr} {n c q c1 : Nat} {vs ws : List Value} {xss : List (List Int)} (h : O2 w lo A n c vs xss) (hi : Own w 3 B A1 q c1 ws)
    (hap : ∀ (j : Nat) (u : Value) (g : Nat), vs[j]? = some u → u.ownBlock = some g → Value.ownBlock (.slice A1 q c1) ≠ some g) (hg : w.grownBy w' (Value.ownBlock (.slice A1 q c1))) : O2 w' lo A n c vs xss where
  outer := Own.otherN hi h.outer (by decide) hg
  len := h.len
  row j xs hj := by
    obtain ⟨Aj, cj, h1, h2⟩ := h.row j xs hj
    exact ⟨Aj, cj, h1, h2.grown hg (fun g hA => by subst hA; exact hap j _ g h1 rfl)⟩
  apart := h.apart

/-- Rows, and beside them a slice of ints, all the call's own and apart. -/
structure RW (lo : Nat) (wr : World) (A : Option Addr) (n c : Nat) (vs : List Value) (xss : List (List Int)) (A1 : Option Addr) (q c1 : Nat) (ys : List Int) : Prop where
  rows : O2 wr lo A n c vs xss
  ways : Own wr 3 lo A1 q c1 (iv ys)
  apart : ∀ (j : Nat) (u : Value) (g : Nat), vs[j]? = some u → u.ownBlock = some g → Value.ownBlock (.slice A1 q c1) ≠ some g
section
variable {lo : Nat} {wr : World} {A A1 : Option Addr} {n c q c1 : Nat} {vs : List Value} {xss : List (List Int)} {ys : List Int}
theorem RW.rowAt (h : RW lo wr A n c vs xss A1 q c1 ys) {j : Nat} {u : Value} {g : Nat} (hu : vs[j]? = some u) (hg : u.ownBlock = some g) : g < wr.heap.size := by
  have hj : j < xss.length := by have := (List.getElem?_eq_some_iff.1 hu).1; rw [h.rows.len] at this; exact this
  obtain ⟨Aj, cj, hv, hoj⟩ := h.rows.row j _ (List.getElem?_eq_getElem hj)
  rw [hu] at hv
  cases hv
  exact (hoj.blk _ hg).2
theorem RW.below {w' : World} (h : RW lo wr A n c vs xss A1 q c1 ys) (hb : Below wr.heap.size wr w') : RW lo w' A n c vs xss A1 q c1 ys := ⟨h.rows.below hb, h.ways.below hb, h.apart⟩
/-- A new row, made since. -/
theorem RW.row {w2 w' : World} {A' Ap : Option Addr} {c' m cp : Nat} {zs : List Int} (h : RW lo wr A n c vs xss A1 q c1 ys) (hb : Below wr.heap.size wr w2) (hp : Own w2 3 wr.heap.size Ap m cp (iv zs)) (hlo : lo ≤ wr.heap.size) (hm : m = zs.length) (ow : Obj) (hgr : (w2.alloc ow).grownBy w' (Value.ownBlock (.slice A n c))) (ho : Own w' 22 lo A' (n + 1) c' (vs ++ [.slice Ap m cp])) : RW lo w' A' (n + 1) c' (vs ++ [.slice Ap m cp]) (xss ++ [zs]) A1 q c1 ys where
  rows := h.rows.pushR hb hp hlo hm ow hgr ho
  ways := Own.otherN ((h.rows.below hb).outer.alloc ow) ((h.ways.below hb).alloc ow) (by decide) hgr
  apart := by
    intro j u g hu hg he
    rcases Nat.lt_trichotomy j vs.length with hlt | heq | hgt
    · rw [List.getElem?_append_left hlt] at hu
      exact h.apart j u g hu hg he
    · subst heq
      rw [List.getElem?_append_right (Nat.le_refl _), Nat.sub_self] at hu
      cases hu
      have h1 := (hp.blk g hg).1
      have h2 := (h.ways.blk g he).2
      omega
    · rw [List.getElem?_eq_none (by simp; omega)] at hu; cases hu
/-- One more way. -/
theorem RW.way {w' : World} {g' c' : Nat} {x : Int} (h : RW lo wr A n c vs xss A1 q c1 ys) (ow : Obj) (ho : Own w' 3 lo (some ⟨g', 0, none⟩) (q + 1) c' (iv ys ++ [.int .i64 x])) (hg : (wr.alloc ow).grownBy w' (Value.ownBlock (.slice A1 q c1))) (hat : Value.ownBlock (.slice A1 q c1) = some g' ∨ g' = (wr.alloc ow).heap.size) : RW lo w' A n c vs xss (some ⟨g', 0, none⟩) (q + 1) c' (ys ++ [x]) where
  rows := (h.rows.alloc ow).grownInt (h.ways.alloc ow) h.apart hg
  ways := by rw [iv_snoc]; exact ho
  apart := by
    intro j u g hu hgu he
    have e : g' = g := by simpa [Value.ownBlock] using he
    subst e
    rcases hat with h1 | h1
    · exact h.apart j u g' hu hgu h1
    · have h2 := h.rowAt hu hgu
      rw [h1] at h2
      simp at h2
      omega
theorem RW.start (w : World) : RW w.heap.size ((w.alloc (.cells #[] 22)).alloc (.cells #[] 3)) (some ⟨w.heap.size, 0, none⟩) 0 0 [] [] (some ⟨w.heap.size + 1, 0, none⟩) 0 0 [] where
  rows := (O2.empty w).alloc _
  ways := by
    have h := own_empty (w.alloc (.cells #[] 22))
    rw [show (w.alloc (.cells #[] 22)).heap.size = w.heap.size + 1 by simp] at h
    exact h.mono (by omega)
  apart := by intro j u g hu; simp at hu
end

set_option maxRecDepth 20000 in
set_option maxHeartbeats 4000000 in
theorem specCountChains_any (n k : Int) (w : World) : Calls Try.prog 13 #[.int .i64 n, .int .i64 k] w fun e w' => e = .returned (.int .i64 (chc n k)) ∧ Below w.heap.size w w' := by
  rcases h : inB n 0 4 with _ | _
  · have HF := Lib.hid (show chc n k = -1 by unfold chc; rw [h]; rfl)
    have HB := Lib.hid h
    clear h
    go_enter Try.func13, Try.ntmps13
    go_wp2_with fail
    refine (l1In_any _ _ _ _).mono ?_
    rintro e w' ⟨rfl, rfl⟩
    rw [HB.out]
    go_wp2_with fail
    go_ret
    exact ⟨ret_int (by rw [HF.out]), Below.refl _ _⟩
  rcases h' : inB k 1 5 with _ | _
  · have HF := Lib.hid (show chc n k = -1 by unfold chc; rw [h, h']; rfl)
    have HB := Lib.hid h
    have HB' := Lib.hid h'
    clear h h'
    go_enter Try.func13, Try.ntmps13
    go_wp2_with fail
    refine (l1In_any _ _ _ _).mono ?_
    rintro e w' ⟨rfl, rfl⟩
    rw [HB.out]
    go_wp2_with fail
    refine (l1In_any _ _ _ _).mono ?_
    rintro e w' ⟨rfl, rfl⟩
    rw [HB'.out]
    go_wp2_with fail
    go_ret
    exact ⟨ret_int (by rw [HF.out]), Below.refl _ _⟩
  have hb := inB_iff.1 h
  have hb' := inB_iff.1 h'
  obtain ⟨N, rfl⟩ := Int.eq_ofNat_of_zero_le hb.1
  obtain ⟨K, rfl⟩ := Int.eq_ofNat_of_zero_le (show 0 ≤ k by omega)
  have hN : N ≤ 4 := by omega
  have hK1 : 1 ≤ K := by omega
  have hK5 : K ≤ 5 := by omega
  have HF := Lib.hid (show chc (N : Int) (K : Int) = toC (waC (rowN N) (K - 1)) (rowN N).length by unfold chc; rw [h, h']; rfl)
  have HB := Lib.hid h
  have HB' := Lib.hid h'
  clear h h' hb hb'
  have h14 := rowN_14 hN
  have HSM := Lib.hid (rowN_sm hN)
  have HRW := Lib.hid (show rowN N = (paths N).map (fun x => (parI x).1) from rfl)
  have HPE := Lib.hid (fun x (hx : x ∈ paths N) => (show x.length ≤ 1000000000 ∧ parS x = parI x from ⟨by have := paths_mem hx; omega, (par_eq (by omega) hx).symm⟩))
  obtain ⟨WS, hWS⟩ : ∃ WS, WS = paths N := ⟨_, rfl⟩
  have HPA := Lib.hid (show ∀ w, Calls Try.prog 26 #[.int .i64 (N : Int)] w (RetS w WS) from fun w => by rw [hWS]; exact specPathsOf_any N w (by omega))
  rw [← hWS] at HRW HPE
  obtain ⟨L, hL⟩ : ∃ L, L = rowN N := ⟨_, rfl⟩
  rw [← hL] at HF h14 HRW HSM
  have HLM := Lib.hid (show WS.length = L.length by rw [HRW.out, List.length_map])
  clear hL hWS
  go_enter Try.func13, Try.ntmps13
  go_wp2_with fail
  refine (l1In_any _ _ _ _).mono ?_
  rintro e w' ⟨rfl, rfl⟩
  rw [HB.out]
  go_wp2_with fail
  refine (l1In_any _ _ _ _).mono ?_
  rintro e w' ⟨rfl, rfl⟩
  rw [HB'.out]
  go_wp2_with fail
  refine (HPA.out _).mono ?_
  rintro e w1 ⟨As, m, cs, hm, rfl, hos, hb1⟩
  have HS1 := Lib.hid hos.1
  have HM := Lib.hid (show m = L.length by rw [hm, HLM.out])
  have HMS := Lib.hid hm
  have hm14 : m ≤ 14 := by have := HM.out; omega
  have hs1 := hb1.size
  clear hos hm
  go_wp2_with fail
  have HS0 := Lib.hid ((HS1.out.alloc (.cells #[] 22)).alloc (.cells #[] 3))
  have HR0 := Lib.hid (RW.start w1)
  have hb0 := ((Below.refl w1.heap.size w1).alloc (Nat.le_refl _) (.cells #[] 22)).alloc (by simp) (.cells #[] 3)
  go_loopw [6, 7, 8, 9, 10] (fun lv wv iv _ _ wr => ∃ (j : Nat) (A A1 : Option Addr) (c c1 : Nat) (vs : List Value), j ≤ m ∧ iv = .int .i64 j ∧ lv = .slice A j c ∧ wv = .slice A1 j c1 ∧ RW w1.heap.size wr A j c vs (L.take j) A1 j c1 (List.replicate j 1) ∧ Own wr 9 w.heap.size As m cs (sv WS) ∧ Below w1.heap.size w1 wr) (fun _ _ i _ _ _ => m - (intOf i).toNat)
  case atStart => exact ⟨0, _, _, _, _, _, Nat.zero_le _, rfl, rfl, rfl, HR0.out, HS0.out, hb0⟩
  case round =>
    obtain ⟨j, A, A1, c, c1, vs, hj, rfl, rfl, rfl, hrw, hso, hb⟩ := hrel
    obtain ⟨w2, rfl⟩ : ∃ W, W = wr := ⟨wr, rfl⟩
    have R := Lib.hid hrw
    have S := Lib.hid hso
    have hs2 := hb.size
    clear hrw
    by_cases hlt : j < m
    · obtain ⟨bl, off, x, rfl, hx, hc⟩ := hso.rd.ats hlt
      have hxm := List.mem_of_getElem? hx
      obtain ⟨hx9, hpe⟩ := HPE.out x hxm
      have HX := Lib.hid (show L.take (j + 1) = L.take j ++ [(parI x).1] by rw [HRW.out]; rw [← List.map_take, ← List.map_take]; exact take_map hx)
      have HC := Lib.hid (show ∀ W, Calls Try.prog 27 #[.string (bs x)] W (RetIB W (parI x).1 (parI x).2) from fun W => by rw [← hpe]; exact specPartitionOf_any x W hx9)
      have HRP := Lib.hid (show List.replicate (j + 1) (1 : Int) = List.replicate j 1 ++ [1] from List.replicate_succ')
      clear hx hxm hso hpe
      go_wp2_with fail
      refine (HC.out _).mono ?_
      rintro e w3 ⟨Ap, q, cp, hq, rfl, hop, hb3⟩
      have HOp := Lib.hid hop
      have HQ := Lib.hid hq
      have hs3 := hb3.size
      clear hop hq
      have S3 := Lib.hid (S.out.below hb3)
      have R3 := Lib.hid (R.out.below hb3)
      go_wp2_with (first | (at_builtin; refine appRowN _ rfl _ _ rfl w1.heap.size A j c vs rfl (R3.out.rows.outer.alloc _) w3.heap.size Ap q cp rfl (by simp) (by omega) (by omega) ?_; intro A4 c4 w4 hown4 hgr4 hb4; have R4 := Lib.hid (R.out.row hb3 HOp.out hs2 HQ.out _ hgr4 hown4); have S4 := Lib.hid (Own.otherN (R3.out.rows.outer.alloc _) (S3.out.alloc (.cells #[.slice Ap q cp] 22)) (by decide) hgr4); have hbf4 := ((hb.trans (hb3.mono hs2)).alloc (by omega) (.cells #[.slice Ap q cp] 22)).trans hb4; have hs4 := hbf4.size; clear hown4 hgr4 hb4) | (at_builtin; refine appIL _ rfl _ _ rfl w1.heap.size A1 j c1 _ rfl (R4.out.ways.alloc _) w4.heap.size 1 rfl (by simp) (by omega) (by omega) ?_; intro g5 c5 w5 hown5 hgr5 hb5 hat5))
      have R5 := Lib.hid (R4.out.way _ hown5 hgr5 hat5)
      have S5 := Lib.hid (Own.otherN (R4.out.ways.alloc _) (S4.out.alloc _) (by decide) hgr5)
      have hbf5 := (hbf4.alloc (by omega) _).trans hb5
      clear hown5 hgr5 hb5 hat5
      go_wp2_with fail
      go_roundw
      case rel => exact ⟨j + 1, A4, _, c4, c5, _, by omega, by go_num, rfl, rfl, by rw [HX.out, HRP.out]; exact R5.out, S5.out, hbf5⟩
      case measure => simp [intOf]; omega
    · have hjm : j = m := by omega
      have HT := Lib.hid (show L.take j = L by rw [hjm, HM.out, List.take_length])
      have HWA := Lib.hid (show List.replicate j (1 : Int) = waC L 0 by rw [waC, hjm, HM.out])
      have HJM := Lib.hid hjm
      clear hso
      rw [HT.out, HWA.out] at R
      have hbw := hb1.trans (hb.mono hs1)
      have HO2 := Lib.hid (R.out.rows.mono hs1)
      have HOW := Lib.hid (R.out.ways.mono hs1)
      have hs2' := hbw.size
      obtain rfl : m = j := HJM.out.symm
      clear hlt hb R HT HWA S HJM hjm hj
      go_wp2_with fail
      go_loopw [7, 11, 12, 13, 14] (fun mv st _ _ _ wr => ∃ (t : Nat) (A1 : Option Addr) (c1 : Nat), t ≤ K - 1 ∧ st = .int .i64 ((t : Int) + 1) ∧ mv = .slice A1 m c1 ∧ O2 wr w.heap.size A m c vs L ∧ Own wr 3 w.heap.size A1 m c1 (iv (waC L t)) ∧ Below w.heap.size w wr) (fun _ st _ _ _ _ => K + 1 - (intOf st).toNat)
      case atStart => exact ⟨0, _, _, Nat.zero_le _, rfl, rfl, HO2.out, HOW.out, hbw⟩
      case round =>
        obtain ⟨t, A1, c1, ht, rfl, rfl, hrows, hown, hb⟩ := hrel
        have R := Lib.hid hrows
        have MW := Lib.hid hown
        obtain ⟨w3, rfl⟩ : ∃ W, W = wr := ⟨wr, rfl⟩
        have hs3 := hb.size
        clear hrows hown
        by_cases hlt9 : t + 1 < K
        · have hk1 : (t : Int) + 1 < (K : Int) := by omega
          have hmk := mkI m (by omega) w3
          have HT3 := Lib.hid (show Own (w3.alloc (.cells (madeCells #[.int .i64 0] m) 3)) 3 w3.heap.size (some ⟨w3.heap.size, 0, none⟩) m m (iv (nxC L (waC L t) 0)) by
            have := Own.made w3 3 (.int .i64 0) m (by unfold maxLen; omega)
            rw [iv_rep] at this
            rw [nxC_0, ← HM.out]; exact this)
          have hb3 := (Below.refl w3.heap.size w3).alloc (Nat.le_refl _) (.cells (madeCells #[.int .i64 0] m) 3)
          have HBD := Lib.hid (waC_bd L h14 t)
          have HPW := Lib.hid (show (14 : Int) ^ t ≤ 38416 by
            have h1 : t = 0 ∨ t = 1 ∨ t = 2 ∨ t = 3 := by omega
            rcases h1 with rfl | rfl | rfl | rfl <;> decide)
          go_wp2_with fail
          clear hmk
          go_loopw [13, 14] (fun ix _ wr => ∃ i0 : Nat, i0 ≤ m ∧ ix = .int .i64 i0 ∧ Own wr 3 w3.heap.size (some ⟨w3.heap.size, 0, none⟩) m m (iv (nxC L (waC L t) i0)) ∧ Below w3.heap.size w3 wr) (fun ix _ _ => m - (intOf ix).toNat)
          case atStart => exact ⟨0, Nat.zero_le _, rfl, HT3.out, hb3⟩
          case round =>
            obtain ⟨i0, hi0, rfl, hox, hbi⟩ := hrel
            obtain ⟨w4, rfl⟩ : ∃ W, W = wr := ⟨wr, rfl⟩
            have OX := Lib.hid hox
            have hs4 := hbi.size
            clear hox
            by_cases hlti : i0 < m
            · have h1 : L[i0]? = some (L.getD i0 []) := by rw [List.getD_eq_getElem?_getD, List.getElem?_eq_getElem (by have := HM.out; omega)]; rfl
              have HFN := Lib.hid (fun j => (show accC L (waC L t) i0 (j + 1) = if finB (L.getD j []) (L.getD i0 []) then accC L (waC L t) i0 j + (waC L t).getD j 0 else accC L (waC L t) i0 j from rfl))
              obtain ⟨P, hP⟩ : ∃ P, P = L.getD i0 [] := ⟨_, rfl⟩
              rw [← hP] at h1 HFN
              have hP4 := HSM.out P (List.mem_of_getElem? h1)
              have HP1 := Lib.hid h1
              clear hP
              have HSELF := Lib.hid (nxC_self L (waC L t) (show i0 < L.length by have := HM.out; omega))
              have HSET := Lib.hid (nxC_set L (waC L t) (show i0 < L.length by have := HM.out; omega))
              clear h1
              go_wp2_with fail
              go_loopw [14] (fun jx wr => ∃ j : Nat, j ≤ m ∧ jx = .int .i64 j ∧ Own wr 3 w3.heap.size (some ⟨w3.heap.size, 0, none⟩) m m (iv ((nxC L (waC L t) i0).set i0 (accC L (waC L t) i0 j))) ∧ Below w3.heap.size w3 wr) (fun jx _ => m - (intOf jx).toNat)
              case atStart => exact ⟨0, Nat.zero_le _, rfl, by rw [HSELF.out]; exact OX.out, hbi⟩
              case round =>
                obtain ⟨j, hj, rfl, hoj, hbj⟩ := hrel
                obtain ⟨w5, rfl⟩ : ∃ W, W = wr := ⟨wr, rfl⟩
                have OJ := Lib.hid hoj
                have hs5 := hbj.size
                clear hoj
                by_cases hltj : j < m
                · have h2 : L[j]? = some (L.getD j []) := by rw [List.getD_eq_getElem?_getD, List.getElem?_eq_getElem (by have := HM.out; omega)]; rfl
                  have HFJ := Lib.hid (HFN.out j)
                  obtain ⟨Q, hQ⟩ : ∃ Q, Q = L.getD j [] := ⟨_, rfl⟩
                  rw [← hQ] at h2 HFJ
                  have hQ4 := HSM.out Q (List.mem_of_getElem? h2)
                  obtain ⟨gb, Aq, cq, rfl, hgb, hgsb, hvb, hcb, hfb, hob⟩ := (R.out.below hbj).head h2
                  obtain ⟨ga, Ap, cp, hAa, hga, hgsa, hva, hca, hfa, hoa⟩ := (R.out.below hbj).head HP1.out
                  cases hAa
                  have HOQ := Lib.hid hob
                  have HOP := Lib.hid hoa
                  clear h2 hvb hob hva hoa hQ
                  have z1 : (0 : Int) ≤ (j : Int) := by omega
                  have z2 : (j : Int) < (m : Int) := by omega
                  have z3 : (0 : Int) ≤ (i0 : Int) := by omega
                  have z4 : (i0 : Int) < (m : Int) := by omega
                  go_wp2_with fail
                  go_still_tail 8, (by kernel_rfl)
                  change wpList _ _ _ _ _ w5.drew
                  go_wp2_with fail
                  refine (specIsFiner_any _ _ _ _ _ _ Q P _ HOQ.out.drew.rd HOP.out.drew.rd (by omega) (by omega)).mono ?_
                  rintro e w6 ⟨rfl, dn, hw⟩
                  have OJ6 := Lib.hid (show Own w6 3 w3.heap.size (some ⟨w3.heap.size, 0, none⟩) m m (iv ((nxC L (waC L t) i0).set i0 (accC L (waC L t) i0 j))) by rw [hw]; exact OJ.out.drew.drewN dn)
                  have hb6 : Below w3.heap.size w3 w6 := by rw [hw]; exact ⟨hbj.os, hbj.tape, hbj.output, hbj.size, hbj.block⟩
                  clear hw
                  rcases hf : finB Q P with _ | _
                  · have HS := Lib.hid (show accC L (waC L t) i0 (j + 1) = accC L (waC L t) i0 j by rw [HFJ.out, hf]; rfl)
                    clear hf
                    go_wp2_with fail
                    go_roundw
                    case rel => exact ⟨j + 1, by omega, by go_num, by rw [HS.out]; exact OJ6.out, hb6⟩
                    case measure => simp [intOf]; omega
                  · have HS := Lib.hid (show accC L (waC L t) i0 (j + 1) = accC L (waC L t) i0 j + (waC L t).getD j 0 by rw [HFJ.out, hf]; rfl)
                    clear hf
                    obtain ⟨gm, x, hAm, -, -, hx, hcx, -⟩ := (MW.out.below hb6).ati hltj
                    subst hAm
                    obtain ⟨g5, y, hA5, -, -, hy, hcy, hfy⟩ := OJ6.out.ati hlti
                    cases hA5
                    have xb := HBD.out j
                    rw [List.getD_eq_getElem?_getD, hx] at xb
                    have xb2 : 0 ≤ x ∧ x ≤ 38416 := ⟨xb.1, Int.le_trans xb.2 HPW.out⟩
                    have hy2 : y = accC L (waC L t) i0 j := by
                      rw [List.getElem?_set_self (by rw [nxC_len _ _ (by have := HM.out; omega)]; have := HM.out; omega)] at hy
                      injection hy with hy; exact hy.symm
                    have yb := accC_bd L (b := 38416) (by omega) (fun z => ⟨(HBD.out z).1, Int.le_trans (HBD.out z).2 HPW.out⟩) i0 j
                    rw [← hy2] at yb
                    have u0 : IntKind.i64.wrap (y + x) = y + x := IntWalk.i64_in _ (by omega)
                    have HN := Lib.hid (show ((nxC L (waC L t) i0).set i0 (accC L (waC L t) i0 j)).set i0 (y + x) = (nxC L (waC L t) i0).set i0 (accC L (waC L t) i0 (j + 1)) by
                      rw [List.set_set, HS.out, hy2, List.getD_eq_getElem?_getD, hx]; rfl)
                    clear hx hy hy2 xb yb
                    go_wp2_with fail
                    go_still_tail 12, (by kernel_rfl)
                    change wpList _ _ _ _ _ w6.drew
                    go_wp2_with fail
                    go_roundw
                    case rel => exact ⟨j + 1, by omega, by go_num, by rw [← HN.out]; exact (OJ6.out.puti i0 (y + x)).drew, (hb6.setCell (p := ⟨w3.heap.size, i0, none⟩) (Nat.le_refl _) _).drew⟩
                    case measure => simp [intOf]; omega
                · have hjm : j = m := by omega
                  have HE := Lib.hid (show (nxC L (waC L t) i0).set i0 (accC L (waC L t) i0 j) = nxC L (waC L t) (i0 + 1) by rw [hjm, HM.out]; exact HSET.out)
                  clear hjm
                  go_wp2_with fail
                  go_roundw
                  case rel => exact ⟨i0 + 1, by omega, by go_num, by rw [← HE.out]; exact OJ.out, hbj⟩
                  case measure => simp [intOf]; omega
            · have him : i0 = m := by omega
              have HE := Lib.hid (show nxC L (waC L t) i0 = waC L (t + 1) by rw [waC, him, HM.out])
              rw [HE.out] at OX
              have hbf := hb.trans (hbi.mono hs3)
              clear him
              go_wp2_with fail
              go_roundw
              case rel => exact ⟨t + 1, _, m, by omega, by go_num, rfl, R.out.below hbi, OX.out.mono hs3, hbf⟩
              case measure => simp [intOf]; omega
        · have htK : t = K - 1 := by omega
          have HW := Lib.hid (show waC L (K - 1) = waC L t by rw [htK])
          have hk1 : ¬ (t : Int) + 1 < (K : Int) := by omega
          have HPW := Lib.hid (show (14 : Int) ^ t ≤ 38416 by
            have h1 : t = 0 ∨ t = 1 ∨ t = 2 ∨ t = 3 ∨ t = 4 := by omega
            rcases h1 with rfl | rfl | rfl | rfl | rfl <;> decide)
          have HBD := Lib.hid (waC_bd L h14 t)
          have HTB := Lib.hid (fun z => toC_bd (b := 38416) (ws := waC L t) (fun z => ⟨(HBD.out z).1, Int.le_trans (HBD.out z).2 HPW.out⟩) z)
          clear htK
          go_wp2_with fail
          go_loop [15, 16] (fun sv ix => ∃ j : Nat, j ≤ m ∧ ix = .int .i64 j ∧ sv = .int .i64 (toC (waC L t) j)) (fun _ ix => m - (intOf ix).toNat)
          case atStart => exact ⟨0, Nat.zero_le _, rfl, rfl⟩
          case round =>
            obtain ⟨j, hj, rfl, rfl⟩ := hrel
            have hV := HTB.out j
            have HV := Lib.hid (show toC (waC L t) (j + 1) = toC (waC L t) j + (waC L t).getD j 0 from rfl)
            obtain ⟨V, hVe⟩ : ∃ V, V = toC (waC L t) j := ⟨_, rfl⟩
            rw [← hVe] at hV HV ⊢
            by_cases hltj : j < m
            · obtain ⟨gm, x, hAm, -, -, hx, hcx, -⟩ := MW.out.ati hltj
              subst hAm
              have xb := HBD.out j
              rw [List.getD_eq_getElem?_getD, hx] at xb
              have xb2 : 0 ≤ x ∧ x ≤ 38416 := ⟨xb.1, Int.le_trans xb.2 HPW.out⟩
              have HS := Lib.hid (show toC (waC L t) (j + 1) = V + x by rw [HV.out, List.getD_eq_getElem?_getD, hx]; rfl)
              have u0 : IntKind.i64.wrap (V + x) = V + x := IntWalk.i64_in _ (by omega)
              clear hx xb hVe
              go_wp2_with fail
              go_round
              case rel => exact ⟨j + 1, by omega, by go_num, by rw [HS.out]⟩
              case measure => simp [intOf]; omega
            · have HE := Lib.hid (show toC (waC L t) L.length = V by rw [hVe, ← HM.out, show m = j by omega])
              clear hVe
              go_wp2_with fail
              go_ret
              exact ⟨ret_int (by rw [HF.out, HW.out, HE.out]), hb⟩

end Go.Proofs.Ytghfhkbncjgaeaa
