/- The program's RotationWay. -/
import Derived.Test.YteekkcjbflehlaaWayS2
import Derived.Test.YteekkcjbflehlaaMapS
import Derived.Test.YteekkcjbflehlaaRevS
import Derived.Test.YteekkcjbflehlaaTamI
namespace Go.Proofs.Yteekkcjbflehlaa
set_option linter.unusedVariables false
open Go.RowKit Go.Deep

/-- The text of the k-th, none for -1. -/
def txK (s : BS) (k : Int) : Txt := if k < 0 then [] else s.1.getD k.toNat []
/-- What the map answers. -/
def mapB (s : BS) (x : Txt) : Option Txt := if x ∈ s.1 then some (txK s (s.2.getD (s.1.idxOf x) (-1))) else none
theorem mapB_0 (a z : Txt) : (if z = a then some [] else none) = mapB (stB a 0) z := by
  unfold mapB
  by_cases h : z = a
  · subst h
    rw [if_pos rfl, if_pos (by simp [stB])]
    show some [] = some (txK ([z], [-1]) (([-1] : List Int).getD ([z].idxOf z) (-1)))
    rw [show [z].idxOf z = 0 by simp]; rfl
  · rw [if_neg h, if_neg (by simpa [stB] using h)]
theorem getD_app {xs ys : List Txt} {j : Nat} (h : j < xs.length) : (xs ++ ys).getD j [] = xs.getD j [] := by
  rw [List.getD_eq_getElem?_getD, List.getD_eq_getElem?_getD, List.getElem?_append_left h]
theorem mapB_snoc {n : Nat} {s : BS} (hi : Inv n s) {y : Txt} (hy : y ∉ s.1) {k : Nat} (hk : k < s.1.length) (z : Txt) : (if z = y then some (s.1.getD k []) else mapB s z) = mapB (s.1 ++ [y], s.2 ++ [(k : Int)]) z := by
  have hl := hi.len
  unfold mapB
  by_cases h : z = y
  · subst h
    rw [if_pos rfl, if_pos (by simp)]
    show _ = some (txK (s.1 ++ [z], s.2 ++ [(k : Int)]) ((s.2 ++ [(k : Int)]).getD ((s.1 ++ [z]).idxOf z) (-1)))
    have e1 : (s.1 ++ [z]).idxOf z = s.2.length := by rw [List.idxOf_append, if_neg hy]; simp [hl]
    have e2 : (s.2 ++ [(k : Int)]).getD s.2.length (-1) = (k : Int) := by
      rw [List.getD_eq_getElem?_getD, List.getElem?_append_right (Nat.le_refl _), Nat.sub_self]; rfl
    rw [e1, e2]
    unfold txK
    rw [if_neg (by omega), show ((k : Int)).toNat = k by omega]
    show _ = some ((s.1 ++ [z]).getD k [])
    rw [List.getD_eq_getElem?_getD, List.getD_eq_getElem?_getD, List.getElem?_append_left hk]
  · rw [if_neg h]
    by_cases hm : z ∈ s.1
    · rw [if_pos hm, if_pos (List.mem_append_left _ hm)]
      have hidx := List.idxOf_lt_length_iff.2 hm
      show _ = some (txK (s.1 ++ [y], s.2 ++ [(k : Int)]) ((s.2 ++ [(k : Int)]).getD ((s.1 ++ [y]).idxOf z) (-1)))
      have e1 : (s.1 ++ [y]).idxOf z = s.1.idxOf z := by rw [List.idxOf_append, if_pos hm]
      have e2 : (s.2 ++ [(k : Int)]).getD (s.1.idxOf z) (-1) = s.2.getD (s.1.idxOf z) (-1) := by
        rw [List.getD_eq_getElem?_getD, List.getD_eq_getElem?_getD, List.getElem?_append_left (by omega)]
      rw [e1, e2]
      obtain ⟨p1, p2⟩ := wy_par hi (k := (s.1.idxOf z : Nat)) (by omega) (by omega)
      rw [show ((s.1.idxOf z : Nat) : Int).toNat = s.1.idxOf z by omega] at p1 p2
      unfold txK
      by_cases hn : s.2.getD (s.1.idxOf z) (-1) < 0
      · rw [if_pos hn, if_pos hn]
      · rw [if_neg hn, if_neg hn]
        show _ = some ((s.1 ++ [y]).getD _ [])
        rw [getD_app (by omega)]
    · rw [if_neg hm, if_neg (by
        intro h1
        rcases List.mem_append.1 h1 with h2 | h2
        · exact hm h2
        · simp at h2; exact h h2)]
theorem mapB_at {n : Nat} {s : BS} (hi : Inv n s) {K : Nat} {x : Txt} (hx : s.1[K]? = some x) : mapB s x = some (txK s (s.2.getD K (-1))) := by
  obtain ⟨h1, h2⟩ := List.getElem?_eq_some_iff.1 hx
  have := hi.nd.idxOf_getElem K h1
  rw [h2] at this
  unfold mapB
  rw [if_pos (List.mem_of_getElem? hx), this]
theorem mapB_some {s : BS} {x : Txt} (h : (mapB s x).isSome = true) : x ∈ s.1 := by
  unfold mapB at h
  split at h
  · assumption
  · cases h
theorem mapB_none {s : BS} {x : Txt} (h : (mapB s x).isSome = false) : x ∉ s.1 := by
  unfold mapB at h
  split at h
  · cases h
  · assumption
theorem txK_len {n : Nat} {s : BS} (hn : n ≤ 5) (hi : Inv n s) (k : Int) : (txK s k).length ≤ 1000 := by
  unfold txK
  split
  · simp
  · rw [List.getD_eq_getElem?_getD]
    rcases hg : s.1[k.toNat]? with _ | x
    · simp
    · obtain ⟨t, e, h1, _⟩ := hi.tr x (List.mem_of_getElem? hg)
      show x.length ≤ _
      rw [e, tx_len]; omega
theorem MSS.update {w : World} {b n : Nat} {M : List UInt8 → Option (List UInt8)} (h : MSS w b n M) (hn : n ≤ 1000000000) (k y : List UInt8) (hk : k.length ≤ maxLen) (hy : y.length ≤ maxLen) :
    ∃ w', (Instr.mapUpdate 68 (.map (some b)) (.string (bs k)) (.string (bs y))).run Try.prog w = .ok () w' ∧ MSS w' b (n + 1) (fun z => if z = k then some y else M z) ∧ w.grownBy w' (some b) := by
  obtain ⟨D, h1, h2⟩ := h
  have hkey : keyOf Try.prog 9 (.string (bs k)) = some (.string k) := by
    have := Go.WideMaps.keyOf_string_mk (P := Try.prog) Try.underlying9 (s := bs k) (by rw [size_bs]; exact hk)
    exact this
  have hval : plainElem (H := Unit) Try.prog 9 (.string (bs y)) = some (.lit (.string y), []) := by
    have := plainElem_string (H := Unit) (P := Try.prog) Try.underlying9 (s := bs y) (by rw [size_bs]; exact hy)
    exact this
  obtain ⟨w', hrun, hown, hgr⟩ := h1.update lawS Try.underlying68 (by unfold maxLen; omega) hkey hval
  refine ⟨w', hrun, ⟨_, hown, fun z => ?_⟩, hgr⟩
  by_cases hz : z = k
  · subst hz
    rw [Maps.has_put_same h1.isMap (by trivial)]
    show _ = (if z = z then some y else M z).isSome ∧ ∀ u, (if z = z then some y else M z) = some u → _
    rw [if_pos rfl]
    refine ⟨rfl, fun u hu d => ?_⟩
    rw [Maps.atKey_put_same h1.isMap (by trivial)]
    simp at hu
    rw [hu]
  · have hne : (Lit.string z) ≠ Lit.string k := fun e => hz (by injection e)
    rw [Maps.has_put_other hne]
    show _ = (if z = k then some y else M z).isSome ∧ ∀ u, (if z = k then some y else M z) = some u → _
    rw [if_neg hz]
    refine ⟨(h2 z).1, fun u hu d => ?_⟩
    rw [Maps.atKey_put_other hne]
    exact (h2 z).2 u hu d
theorem MSS.ne_own {w : World} {b n B : Nat} {M : List UInt8 → Option (List UInt8)} {e : TypeId} {A : Option Addr} {m c : Nat} {vs : List Value} (h : MSS w b n M) (ho : Own w e B A m c vs) : Value.ownBlock (.slice A m c) ≠ some b := by
  intro hb
  obtain ⟨D, ⟨es, clock, hh, _⟩, _⟩ := h
  have hA := ho.headedT b hb
  subst hA
  rcases ho.2 with ⟨h1, _⟩ | ⟨g, cap, cur, h1, _, hg, _⟩
  · cases h1
  · cases h1
    rw [hh] at hg
    cases hg
theorem tx_ne0 {n : Nat} {x : Txt} (h : Isn n x) : x.isEmpty = false := by
  obtain ⟨t, rfl, _, _⟩ := h
  obtain ⟨c, r, e⟩ := tx_head t
  rw [e]; rfl

set_option maxRecDepth 20000 in
set_option maxHeartbeats 2000000 in
theorem implRotationWay_any (a b : List UInt8) (w : World) (ha : a.length ≤ 1000000000) (hb : b.length ≤ 1000000000) :
    Calls Try.prog 49 #[.string (bs a), .string (bs b)] w (RetSB w (rwB a b).1 (rwB a b).2) := by
  unfold RetSB
  rcases hf : alikeB a b 5 with _ | _
  · have HF := Lib.hid (show rwB a b = ([], false) by unfold rwB; rw [hf]; rfl)
    have H1 := Lib.hid hf
    clear hf
    go_enter Try.func49, Try.ntmps49
    go_wp2_with fail
    refine (alike_any _ _ 5 _ ha hb).mono ?_
    rintro e w0 ⟨rfl, hb0⟩
    rw [H1.out]
    go_wp2_with fail
    go_ret2
    rw [HF.out]
    exact ⟨_, 0, 0, rfl, rfl, OSeg.mk' ((own_emptyS w0).mono hb0.size), hb0.alloc hb0.size _⟩
  have H1 := Lib.hid hf
  obtain ⟨t, s, ea, eb, ht, hs, st, ss, hst, hm5⟩ := alike_yes hf
  have hn5 : nodes t ≤ 5 := by omega
  have HIA := Lib.hid (show Isn (nodes t) a from ⟨t, ea, rfl, st⟩)
  have HIB := Lib.hid (show Isn (nodes t) b from ⟨s, eb, hst.symm, ss⟩)
  obtain ⟨WW, hWW⟩ : ∃ WW, WW = wayB a b := ⟨_, rfl⟩
  have HF := Lib.hid (show rwB a b = (WW, true) by rw [hWW]; unfold rwB; rw [if_pos hf])
  have HWE := Lib.hid (show ∀ k, k ≤ (stB a k).1.length → b ∈ (stB a k).1 → WW = wyN (stB a k) ((stB a k).1.idxOf b : Nat) from fun k h1 h2 => by rw [hWW]; exact way_early hn5 HIA.out h1 h2)
  have HI := Lib.hid (fun k => stB_inv HIA.out k)
  have HB := Lib.hid (fun k => stB_bd hn5 HIA.out k)
  have HAL := Lib.hid (fun k h => stB_all (k := k) hn5 HIA.out HIB.out h)
  have hmm := @run_makeMap Try.prog
  have al : a.length ≤ 100 := by rw [ea, tx_len]; omega
  have bl0 : b.length ≤ 100 := by rw [eb, tx_len]; omega
  clear hf ea eb st ss hst hWW
  go_enter Try.func49, Try.ntmps49
  go_wp2_with fail
  refine (alike_any _ _ 5 _ ha hb).mono ?_
  rintro e w0 ⟨rfl, hb0⟩
  rw [H1.out]
  obtain ⟨w1, hrun, hm1, hg1⟩ := (MSS.made w0).update (Nat.zero_le _) a [] (by unfold maxLen; omega) (by simp)
  have hrun' : (Instr.mapUpdate 68 (.map (some w0.heap.size)) (.string (bs a)) (.string { data := #[] })).run Try.prog (w0.alloc (.map #[] 0)) = .ok () w1 := hrun
  have M1 := Lib.hid (show MSS w1 w0.heap.size 1 (mapB (stB a 0)) from hm1.congr (mapB_0 a))
  have hb1 : Below w0.heap.size w0 w1 := (((Below.refl w0.heap.size w0).alloc (Nat.le_refl _) (.map #[] 0))).grown hg1 (by simp) (fun k hk => by injection hk with hk; omega)
  have hbb := hb0.trans (hb1.mono hb0.size)
  have hs1 := hbb.size
  obtain ⟨bM, hbM⟩ : ∃ bM, bM = w0.heap.size := ⟨_, rfl⟩
  rw [← hbM] at M1 hrun'
  have hbMw : w.heap.size ≤ bM := by rw [hbM]; exact hb0.size
  have HBM0 := Lib.hid hbM
  rw [hbM] at hrun'
  clear hrun hm1 hg1 hb1 hbM
  go_wp2_with fail
  rw [← HBM0.out]
  go_loopw [7, 8, 9, 10, 12, 13, 14] (fun s i _ _ _ _ _ wr => ∃ (k m : Nat) (A1 : Option Addr) (c1 : Nat), k ≤ m ∧ i = .int .i64 k ∧ s = .slice A1 m c1 ∧ Hid (m = (stB a k).1.length) ∧ Own wr 9 w.heap.size A1 m c1 (sv (stB a k).1) ∧ MSS wr bM m (mapB (stB a k)) ∧ Below w.heap.size w wr) (fun _ i _ _ _ _ _ _ => 65537 - (intOf i).toNat)
  case atStart => exact ⟨0, 1, _, _, Nat.zero_le _, rfl, rfl, Lib.hid rfl, (Own.lit w1 9 #[.string (bs a)] 1 rfl (by decide)).mono hs1, M1.out.alloc _, hbb.alloc hs1 _⟩
  case round =>
    obtain ⟨k, m, A1, c1, hk, rfl, rfl, HM, ho, hmp, hbl⟩ := hrel
    have O1 := Lib.hid ho
    have MP := Lib.hid hmp
    have hm6 : m ≤ 65536 := by rw [HM.out]; exact HB.out k
    have hbs := hbl.size
    have HIk := Lib.hid (HI.out k)
    have HMl := Lib.hid (show (stB a k).1.length ≤ 65536 from HB.out k)
    by_cases hlt : k < m
    · have k0 : (0 : Int) ≤ (k : Int) := by omega
      have k1 : (k : Int) < (m : Int) := by omega
      have hl := hmp.look_ok b (by unfold maxLen; omega)
      rcases hfnd : (mapB (stB a k) b).isSome with _ | _
      · rw [hfnd] at hl
        obtain ⟨bl, off, x, rfl, hx, hc⟩ := ho.rd.ats hlt
        have HX := Lib.hid (getDt hx)
        have HXI := Lib.hid ((HI.out k).tr x (List.mem_of_getElem? hx))
        have hxl : x.length ≤ 100 := by obtain ⟨t, rfl, h1, _⟩ := HXI.out; rw [tx_len]; omega
        have HNB := Lib.hid (fun y (hy : y ∈ nbB x) => nb_isn HXI.out hy)
        have HST := Lib.hid (show stB a (k + 1) = (nbB x).foldl (stepB k) (stB a k) by rw [stB, if_pos (by rw [← HM.out]; exact hlt)]; unfold rowB; rw [HX.out])
        have hnl := nbB_len x
        obtain ⟨NB, hNB⟩ : ∃ NB, NB = nbB x := ⟨_, rfl⟩
        have HNC := Lib.hid (show ∀ w, Calls Try.prog 60 #[.string (bs x)] w (RetS w NB) from fun w => by rw [hNB]; exact implNeighboursOf_any _ w (by omega))
        rw [← hNB] at HNB HST hnl
        have HIJ := Lib.hid (show ∀ j, Inv (nodes t) ((NB.take j).foldl (stepB k) (stB a k)) from fun j => (HI.out k).fold _ _ (by rw [← HM.out]; exact hlt) fun y hy => HNB.out y (List.mem_of_mem_take hy))
        clear hNB hx ho hmp hfnd
        go_wp2_with fail
        refine (HNC.out _).mono ?_
        rintro e w3 ⟨A3, p, c3, hp, rfl, ho3, hb3⟩
        have HT := Lib.hid (show TwoS w w3 A3 p c3 NB (some ⟨bl, off, none⟩) m c1 (stB a k).1 from
          ⟨O1.out.below hb3, ho3.1.mono hbs, fun g hg he => by
            have h1 := (ho3.1.blk g (by rw [hg]; rfl)).1
            have h2 := (O1.out.blk g he).2
            omega, hbl.trans (hb3.mono hbs)⟩)
        have MM := Lib.hid (MP.out.below hb3)
        have HP := Lib.hid hp
        have hp16 : p ≤ 16 := by rw [hp]; exact hnl
        clear hp ho3 hb3 hc hl
        go_wp2_with fail
        go_loopw [7, 12, 13, 14, 46] (fun s _ _ _ i wr => ∃ (j m : Nat) (A1 : Option Addr) (c1 : Nat), j ≤ p ∧ i = .int .i64 j ∧ s = .slice A1 m c1 ∧ Hid (m = ((NB.take j).foldl (stepB k) (stB a k)).1.length) ∧ m ≤ 65536 + 16 ∧ TwoS w wr A3 p c3 NB A1 m c1 ((NB.take j).foldl (stepB k) (stB a k)).1 ∧ MSS wr bM m (mapB ((NB.take j).foldl (stepB k) (stB a k)))) (fun _ _ _ _ i _ => p - (intOf i).toNat)
        case atStart => exact ⟨0, m, _, _, Nat.zero_le _, rfl, rfl, HM, by omega, HT.out, MM.out⟩
        case round =>
          obtain ⟨j, m', A1', c1', hj, rfl, rfl, HM', hm', ht, hmp'⟩ := hrel
          have T := Lib.hid ht
          have MJ := Lib.hid hmp'
          by_cases hltj : j < p
          · obtain ⟨b3, o3, y, rfl, hy, hcy⟩ := ht.inp.rd.ats hltj
            have HS := Lib.hid (fold_take (i := k) (s := stB a k) hy)
            have hyl : y.length ≤ 100 := by obtain ⟨t, rfl, h1, _⟩ := HNB.out y (List.mem_of_getElem? hy); rw [tx_len]; omega
            have j0 : (0 : Int) ≤ (j : Int) := by omega
            have j1 : (j : Int) < (p : Int) := by omega
            have HIS := Lib.hid (HIJ.out j)
            have HPJ := Lib.hid (fold_pre k (NB.take j) (stB a k))
            obtain ⟨S, hS⟩ : ∃ S, S = (NB.take j).foldl (stepB k) (stB a k) := ⟨_, rfl⟩
            rw [← hS] at HM' T MJ HS HIS HPJ
            have hl := MJ.out.look_ok y (by unfold maxLen; omega)
            clear hy ht hmp' hS
            rcases hh : (mapB S y).isSome with _ | _
            · have HH := Lib.hid (mapB_none hh)
              rw [hh] at hl
              have HS2 := Lib.hid (show (NB.take (j + 1)).foldl (stepB k) (stB a k) = (S.1 ++ [y], S.2 ++ [(k : Int)]) by rw [HS.out]; unfold stepB; rw [if_neg HH.out])
              have hkS : k < S.1.length := Nat.lt_of_lt_of_le (show k < (stB a k).1.length by rw [← HM.out]; exact hlt) HPJ.out.len
              obtain ⟨_, _, x2, hA9, hx2, hc2⟩ := T.out.out.rd.ats (show k < m' by rw [HM'.out]; exact hkS)
              have hA9' := hA9
              obtain rfl : x2 = x := by
                have h1 := HPJ.out.at1 (show k < (stB a k).1.length by rw [← HM.out]; exact hlt)
                rw [HX.out, getDt hx2] at h1
                exact h1
              have HG := Lib.hid (show S.1.getD k [] = x2 from getDt hx2)
              have k3 : (k : Int) < (m' : Int) := by have := HM'.out; omega
              subst hA9
              have hbs5 := T.out.below.size
              have T1 := Lib.hid T.out.out
              clear hh hx2 hA9'
              go_wp2_with (first | (at_mapUpdate; refine storeS _ rfl _ _ _ rfl bM m' (mapB S) rfl MJ.out (by omega) y x2 rfl rfl (by unfold maxLen; omega) (by unfold maxLen; omega) ?_; intro w5 hm5 hg5; have M5 := Lib.hid (show MSS w5 bM (m' + 1) (mapB (S.1 ++ [y], S.2 ++ [(k : Int)])) from hm5.congr (fun z => by rw [← mapB_snoc HIS.out HH.out hkS z, HG.out])); have T5 := Lib.hid (show TwoS w w5 (some ⟨b3, o3, none⟩) p c3 NB _ m' c1' S.1 from ⟨T.out.out.grown hg5 (fun g hA e => MJ.out.ne_own T.out.out (by rw [hA]; rw [Value.ownBlock]; exact e.symm)), T.out.inp.grown hg5 (fun g hA e => MJ.out.ne_own T.out.inp (by rw [hA]; rw [Value.ownBlock]; exact e.symm)), T.out.apart, T.out.below.grown hg5 hbs5 (fun q hq => by injection hq with hq; omega)⟩); have hbs6 := T5.out.below.size; clear hm5 hg5) | (at_builtin; refine appSL _ rfl _ _ rfl w.heap.size _ m' c1' _ rfl (T5.out.out.alloc _) w5.heap.size (bs y) rfl (by simp) (by omega) hbs6 ?_; intro g' c'' w' hown' hg' hb' hat'))
              have T6 := Lib.hid (T5.out.grow hown' hg' hb' hat')
              have M6 := Lib.hid ((M5.out.alloc _).kept hg' (fun e => M5.out.ne_own T5.out.out e.symm))
              clear hown' hg' hb' hat'
              have hbd : m' + 1 ≤ 65536 + 16 := by
                have h1 := nodup_len _ _ (HIJ.out (j + 1)).nd fun x hx => isn_trees ((HIJ.out (j + 1)).tr x hx)
                have h2 := treesB_len (n := nodes t) (by omega)
                have h3 := HM'.out
                rw [HS2.out] at h1
                simp at h1
                omega
              go_wp2_with fail
              go_roundw
              case rel => exact ⟨j + 1, m' + 1, _, c'', by omega, by go_num, rfl, Lib.hid (by rw [HS2.out]; simp [HM'.out]), hbd, by rw [HS2.out]; exact T6.out, by rw [HS2.out]; exact M6.out⟩
              case measure => simp [intOf]; omega
            · have HH := Lib.hid (mapB_some hh)
              rw [hh] at hl
              have HS2 := Lib.hid (show (NB.take (j + 1)).foldl (stepB k) (stB a k) = S by rw [HS.out]; unfold stepB; rw [if_pos HH.out])
              clear hh
              go_wp2_with fail
              go_roundw
              case rel => exact ⟨j + 1, m', _, c1', by omega, by go_num, rfl, Lib.hid (by rw [HS2.out]; exact HM'.out), hm', by rw [HS2.out]; exact T.out, by rw [HS2.out]; exact MJ.out⟩
              case measure => simp [intOf]; omega
          · have hjp : j = p := by omega
            have HFE := Lib.hid (show (NB.take j).foldl (stepB k) (stB a k) = stB a (k + 1) by rw [hjp, HP.out, List.take_length]; exact HST.out.symm)
            rw [HFE.out] at HM' T MJ
            have hkm : k + 1 ≤ m' := by
              have h1 := (stB_pre1 a k).len
              have h2 := HM.out
              have h3 := HM'.out
              omega
            clear ht hmp' hjp
            go_wp2_with fail
            go_roundw
            case rel => exact ⟨k + 1, m', _, _, hkm, by go_num, rfl, HM', T.out.out, MJ.out, T.out.below⟩
            case measure => simp [intOf]; omega
      · have HBM := Lib.hid (mapB_some hfnd)
        have HWAY := Lib.hid (HWE.out k (by rw [← HM.out]; exact hk) HBM.out)
        rw [hfnd] at hl
        clear hfnd ho hmp
        obtain ⟨wo, rfl⟩ : ∃ W, W = wr := ⟨wr, rfl⟩
        obtain ⟨S, hS⟩ : ∃ S, S = stB a k := ⟨_, rfl⟩
        rw [← hS] at HBM HWAY HIk HMl MP
        obtain ⟨I, hI⟩ : ∃ I, I = S.1.idxOf b := ⟨_, rfl⟩
        have hIm : I < S.1.length := by rw [hI]; exact List.idxOf_lt_length_iff.2 HBM.out
        have HIb := Lib.hid (show S.1[I]? = some b by rw [hI, List.getElem?_eq_getElem (List.idxOf_lt_length_iff.2 HBM.out), List.getElem_idxOf])
        rw [← hI] at HWAY
        have HWL := Lib.hid (show (wyN S (I : Int)).length ≤ 65540 by have := wyN_len S (I : Int); have := HMl.out; omega)
        have HT0 := Lib.hid (show txK S (I : Int) = b by unfold txK; rw [if_neg (by omega), show ((I : Int)).toNat = I by omega]; exact getDt HIb.out)
        have HIM := Lib.hid hIm
        have hbsz := hbl.size
        clear hI hS hIm
        go_wp2_with fail
        go_loopg [15, 16] (I + 1) (fun g o t wr => ∃ (kk : Int) (A3 : Option Addr) (q c3 : Nat) (out : List Txt), Hid (-1 ≤ kk ∧ kk < S.1.length ∧ (kk + 1).toNat ≤ g) ∧ t = .string (bs (txK S kk)) ∧ o = .slice A3 q c3 ∧ Hid (q = out.length) ∧ Own wr 9 wo.heap.size A3 q c3 (sv out) ∧ Hid (wyN S (I : Int) = wyN S kk ++ out.reverse) ∧ MSS wr bM m (mapB S) ∧ Below wo.heap.size wo wr)
        case atStart => exact ⟨(I : Int), _, 0, 0, [], Lib.hid ⟨by omega, by have := HIM.out; omega, by omega⟩, by rw [HT0.out], rfl, Lib.hid rfl, own_emptyS wo, Lib.hid (by simp), MP.out.alloc _, (Below.refl _ _).alloc (Nat.le_refl _) _⟩
        case round =>
          obtain ⟨kk, A3, q, c3, out, HK, rfl, rfl, HQ, ho3, HWY, hmp3, hbl3⟩ := hrel
          have O3 := Lib.hid ho3
          have M3 := Lib.hid hmp3
          have hbs3 := hbl3.size
          have hq : q ≤ 65540 := by
            have h1 := congrArg List.length HWY.out
            rw [List.length_append, List.length_reverse] at h1
            have h2 := HQ.out
            have h3 := HWL.out
            omega
          clear ho3 hmp3
          by_cases hneg : kk < 0
          · have HE := Lib.hid (show out.reverse = WW by rw [HWAY.out, HWY.out, wyN_nil_of hneg]; rfl)
            have ht0 : txK S kk = [] := by unfold txK; rw [if_pos hneg]
            rw [ht0]
            clear ht0 hneg
            go_wp2_with fail
            refine (reverseS_any _ _ _ _ _ _ O3.out (by omega)).mono ?_
            rintro e w9 ⟨rfl, ho9, hb9⟩
            have O9 := Lib.hid ho9
            clear ho9
            rw [HE.out] at O9
            have HLW := Lib.hid (show q = WW.length by rw [← HE.out, List.length_reverse]; exact HQ.out)
            go_wp2_with fail
            go_ret2
            rw [HF.out]
            exact ⟨A3, q, c3, HLW.out, rfl, OSeg.mk' (O9.out.mono hbsz), hbl.trans ((hbl3.trans hb9).mono hbsz)⟩
          · obtain ⟨K, rfl⟩ := Int.eq_ofNat_of_zero_le (show 0 ≤ kk by omega)
            have hKS : K < S.1.length := by have := HK.out; omega
            obtain ⟨x9, hx9⟩ : ∃ x9, S.1[K]? = some x9 := ⟨_, List.getElem?_eq_getElem hKS⟩
            have HX9 := Lib.hid (show txK S (K : Int) = x9 by unfold txK; rw [if_neg (by omega), show ((K : Int)).toNat = K by omega]; exact getDt hx9)
            have HXI := Lib.hid (HIk.out.tr x9 (List.mem_of_getElem? hx9))
            have hx9e : x9.isEmpty = false := tx_ne0 HXI.out
            have hx9l : x9.length ≤ 100 := by obtain ⟨t9, e9, h9, _⟩ := HXI.out; rw [e9, tx_len]; omega
            have HWS := Lib.hid (wyN_step HIk.out hKS)
            have HG9 := Lib.hid (getDt hx9)
            have hpar := wy_par HIk.out (k := (K : Int)) (by omega) (by omega)
            rw [show ((K : Int)).toNat = K by omega] at hpar
            have hlk := M3.out.look x9 (by unfold maxLen; omega)
            rw [mapB_at HIk.out hx9] at hlk
            obtain ⟨z9, hz9⟩ : ∃ z9, z9 = S.2.getD K (-1) := ⟨_, rfl⟩
            rw [← hz9] at hpar hlk
            have HZ9 := Lib.hid hz9
            have HPAR := Lib.hid hpar
            have HLK := Lib.hid (show ∀ W, MSS W bM m (mapB S) → (Instr.lookup 68 (.map (some bM)) (.string (bs x9)) false).run Try.prog W = .ok (.string (bs (txK S z9))) W from fun W hW => by
              have := hW.look x9 (by unfold maxLen; omega)
              rw [mapB_at HIk.out hx9, ← HZ9.out] at this
              exact this)
            rw [HX9.out]
            clear hx9 hpar hz9 hlk hKS hneg
            go_wp2_with (at_builtin; refine appS _ rfl _ _ rfl wo.heap.size A3 q c3 _ rfl (O3.out.alloc _) wr.heap.size (bs x9) rfl (by simp) (by omega) hbs3 ?_; intro A' c' w' hown' hg' hb'; have M4 := Lib.hid ((M3.out.alloc (.cells #[.string (bs x9)] 9)).kept hg' (fun e => M3.out.ne_own O3.out e.symm)); have hlk4 := HLK.out _ M4.out; have hbl4 := (hbl3.alloc hbs3 (.cells #[.string (bs x9)] 9)).trans hb'; have O4 := Lib.hid (show Own w' 9 wo.heap.size A' (q + 1) c' (sv (out ++ [x9])) by rw [sv_snoc]; exact hown'); clear hown' hg' hb')
            go_wp2_with fail
            go_roundg K
            case measure => have := HK.out; omega
            case rel => exact ⟨z9, A', q + 1, c', out ++ [x9], Lib.hid ⟨HPAR.out.1, by have h1 := HPAR.out.2; have h2 := HK.out; omega, by have h1 := HPAR.out.2; omega⟩, rfl, rfl, Lib.hid (by rw [HQ.out]; simp), O4.out, Lib.hid (by rw [HWY.out, HWS.out, ← HZ9.out, HG9.out, List.append_assoc, List.reverse_append]; rfl), M4.out, hbl4⟩
    · have hkm : k = m := by omega
      have HBM := Lib.hid (HAL.out k (by rw [← HM.out]; exact hkm.symm))
      have HWAY := Lib.hid (HWE.out k (by rw [← HM.out]; exact hk) HBM.out)
      have k1 : ¬ (k : Int) < (m : Int) := by omega
      clear hkm ho hmp hlt
      obtain ⟨wo, rfl⟩ : ∃ W, W = wr := ⟨wr, rfl⟩
      obtain ⟨S, hS⟩ : ∃ S, S = stB a k := ⟨_, rfl⟩
      rw [← hS] at HBM HWAY HIk HMl MP
      obtain ⟨I, hI⟩ : ∃ I, I = S.1.idxOf b := ⟨_, rfl⟩
      have hIm : I < S.1.length := by rw [hI]; exact List.idxOf_lt_length_iff.2 HBM.out
      have HIb := Lib.hid (show S.1[I]? = some b by rw [hI, List.getElem?_eq_getElem (List.idxOf_lt_length_iff.2 HBM.out), List.getElem_idxOf])
      rw [← hI] at HWAY
      have HWL := Lib.hid (show (wyN S (I : Int)).length ≤ 65540 by have := wyN_len S (I : Int); have := HMl.out; omega)
      have HT0 := Lib.hid (show txK S (I : Int) = b by unfold txK; rw [if_neg (by omega), show ((I : Int)).toNat = I by omega]; exact getDt HIb.out)
      have HIM := Lib.hid hIm
      have hbsz := hbl.size
      clear hI hS hIm
      go_wp2_with fail
      go_loopg [15, 16] (I + 1) (fun g o t wr => ∃ (kk : Int) (A3 : Option Addr) (q c3 : Nat) (out : List Txt), Hid (-1 ≤ kk ∧ kk < S.1.length ∧ (kk + 1).toNat ≤ g) ∧ t = .string (bs (txK S kk)) ∧ o = .slice A3 q c3 ∧ Hid (q = out.length) ∧ Own wr 9 wo.heap.size A3 q c3 (sv out) ∧ Hid (wyN S (I : Int) = wyN S kk ++ out.reverse) ∧ MSS wr bM m (mapB S) ∧ Below wo.heap.size wo wr)
      case atStart => exact ⟨(I : Int), _, 0, 0, [], Lib.hid ⟨by omega, by have := HIM.out; omega, by omega⟩, by rw [HT0.out], rfl, Lib.hid rfl, own_emptyS wo, Lib.hid (by simp), MP.out.alloc _, (Below.refl _ _).alloc (Nat.le_refl _) _⟩
      case round =>
        obtain ⟨kk, A3, q, c3, out, HK, rfl, rfl, HQ, ho3, HWY, hmp3, hbl3⟩ := hrel
        have O3 := Lib.hid ho3
        have M3 := Lib.hid hmp3
        have hbs3 := hbl3.size
        have hq : q ≤ 65540 := by
          have h1 := congrArg List.length HWY.out
          rw [List.length_append, List.length_reverse] at h1
          have h2 := HQ.out
          have h3 := HWL.out
          omega
        clear ho3 hmp3
        by_cases hneg : kk < 0
        · have HE := Lib.hid (show out.reverse = WW by rw [HWAY.out, HWY.out, wyN_nil_of hneg]; rfl)
          have ht0 : txK S kk = [] := by unfold txK; rw [if_pos hneg]
          rw [ht0]
          clear ht0 hneg
          go_wp2_with fail
          refine (reverseS_any _ _ _ _ _ _ O3.out (by omega)).mono ?_
          rintro e w9 ⟨rfl, ho9, hb9⟩
          have O9 := Lib.hid ho9
          clear ho9
          rw [HE.out] at O9
          have HLW := Lib.hid (show q = WW.length by rw [← HE.out, List.length_reverse]; exact HQ.out)
          go_wp2_with fail
          go_ret2
          rw [HF.out]
          exact ⟨A3, q, c3, HLW.out, rfl, OSeg.mk' (O9.out.mono hbsz), hbl.trans ((hbl3.trans hb9).mono hbsz)⟩
        · obtain ⟨K, rfl⟩ := Int.eq_ofNat_of_zero_le (show 0 ≤ kk by omega)
          have hKS : K < S.1.length := by have := HK.out; omega
          obtain ⟨x9, hx9⟩ : ∃ x9, S.1[K]? = some x9 := ⟨_, List.getElem?_eq_getElem hKS⟩
          have HX9 := Lib.hid (show txK S (K : Int) = x9 by unfold txK; rw [if_neg (by omega), show ((K : Int)).toNat = K by omega]; exact getDt hx9)
          have HXI := Lib.hid (HIk.out.tr x9 (List.mem_of_getElem? hx9))
          have hx9e : x9.isEmpty = false := tx_ne0 HXI.out
          have hx9l : x9.length ≤ 100 := by obtain ⟨t9, e9, h9, _⟩ := HXI.out; rw [e9, tx_len]; omega
          have HWS := Lib.hid (wyN_step HIk.out hKS)
          have HG9 := Lib.hid (getDt hx9)
          have hpar := wy_par HIk.out (k := (K : Int)) (by omega) (by omega)
          rw [show ((K : Int)).toNat = K by omega] at hpar
          have hlk := M3.out.look x9 (by unfold maxLen; omega)
          rw [mapB_at HIk.out hx9] at hlk
          obtain ⟨z9, hz9⟩ : ∃ z9, z9 = S.2.getD K (-1) := ⟨_, rfl⟩
          rw [← hz9] at hpar hlk
          have HZ9 := Lib.hid hz9
          have HPAR := Lib.hid hpar
          have HLK := Lib.hid (show ∀ W, MSS W bM m (mapB S) → (Instr.lookup 68 (.map (some bM)) (.string (bs x9)) false).run Try.prog W = .ok (.string (bs (txK S z9))) W from fun W hW => by
            have := hW.look x9 (by unfold maxLen; omega)
            rw [mapB_at HIk.out hx9, ← HZ9.out] at this
            exact this)
          rw [HX9.out]
          clear hx9 hpar hz9 hlk hKS hneg
          go_wp2_with (at_builtin; refine appS _ rfl _ _ rfl wo.heap.size A3 q c3 _ rfl (O3.out.alloc _) wr.heap.size (bs x9) rfl (by simp) (by omega) hbs3 ?_; intro A' c' w' hown' hg' hb'; have M4 := Lib.hid ((M3.out.alloc (.cells #[.string (bs x9)] 9)).kept hg' (fun e => M3.out.ne_own O3.out e.symm)); have hlk4 := HLK.out _ M4.out; have hbl4 := (hbl3.alloc hbs3 (.cells #[.string (bs x9)] 9)).trans hb'; have O4 := Lib.hid (show Own w' 9 wo.heap.size A' (q + 1) c' (sv (out ++ [x9])) by rw [sv_snoc]; exact hown'); clear hown' hg' hb')
          go_wp2_with fail
          go_roundg K
          case measure => have := HK.out; omega
          case rel => exact ⟨z9, A', q + 1, c', out ++ [x9], Lib.hid ⟨HPAR.out.1, by have h1 := HPAR.out.2; have h2 := HK.out; omega, by have h1 := HPAR.out.2; omega⟩, rfl, rfl, Lib.hid (by rw [HQ.out]; simp), O4.out, Lib.hid (by rw [HWY.out, HWS.out, ← HZ9.out, HG9.out, List.append_assoc, List.reverse_append]; rfl), M4.out, hbl4⟩

end Go.Proofs.Yteekkcjbflehlaa
