/- The reference's search by breadth. -/
import Derived.Test.YteekkcjbflehlaaWayL
import Derived.Test.YteekkcjbflehlaaAppS
import Derived.Test.YteekkcjbflehlaaTamS
namespace Go.Proofs.Yteekkcjbflehlaa
set_option linter.unusedVariables false
open Go.RowKit Go.Deep

theorem Own.headedT {w : World} {e : TypeId} {B : Nat} {A : Option Addr} {n c : Nat} {vs : List Value} (h : Own w e B A n c vs) : ∀ g, Value.ownBlock (.slice A n c) = some g → A = some ⟨g, 0, none⟩ := by
  intro g hg
  rcases h.form with ⟨rfl, _⟩ | ⟨g0, rfl, _⟩
  · cases hg
  · have : g0 = g := by simpa [Value.ownBlock] using hg
    rw [this]
/-- A slice of another type is kept while the one grows. -/
theorem Own.other {w w' : World} {e e' : TypeId} {B B' : Nat} {A A' : Option Addr} {n c n' c' : Nat} {vs vs' : List Value} (h : Own w e B A n c vs) (h' : Own w e' B' A' n' c' vs') (hne : e ≠ e') (hg : w.grownBy w' (Value.ownBlock (.slice A n c))) : Own w' e' B' A' n' c' vs' :=
  h'.grown hg (fun g hA he => by
    have h1 := h.headedT g he
    subst h1
    subst hA
    exact own_ne h h' hne rfl)
theorem fold_take {i : Nat} {xs : List Txt} {s : BS} {j : Nat} {y : Txt} (h : xs[j]? = some y) : (xs.take (j + 1)).foldl (stepB i) s = stepB i ((xs.take j).foldl (stepB i) s) y := by
  obtain ⟨h1, h2⟩ := List.getElem?_eq_some_iff.1 h
  rw [List.take_succ_eq_append_getElem h1, h2, List.foldl_append]; rfl
theorem sv_map_sv (xs : List Txt) : sv xs = xs.map fun l => Value.string (bs l) := rfl

set_option maxRecDepth 20000 in
set_option maxHeartbeats 2000000 in
theorem l20Search_any (n : Nat) (a : Txt) (w : World) (hn : n ≤ 5) (ha : Isn n a) :
    Calls Try.prog 101 #[.string (bs a)] w fun e w' => ∃ A1 m c1 A2 c2, e = .returned (.tuple #[.slice A1 m c1, .slice A2 m c2]) ∧ m = (stF a).1.length ∧ Own w' 9 w.heap.size A1 m c1 (sv (stF a).1) ∧ Own w' 3 w.heap.size A2 m c2 (iv (stF a).2) ∧ Below w.heap.size w w' := by
  have HA := Lib.hid ha
  have HI := Lib.hid (fun k => stB_inv ha k)
  have HB := Lib.hid (fun k => stB_bd hn ha k)
  clear ha
  go_enter Try.func101, Try.ntmps101
  go_wp2_with fail
  go_loopw [4, 5, 6, 7, 8] (fun s f i _ _ wr => ∃ (k m : Nat) (A1 : Option Addr) (c1 : Nat) (A2 : Option Addr) (c2 : Nat), k ≤ m ∧ i = .int .i64 k ∧ s = .slice A1 m c1 ∧ f = .slice A2 m c2 ∧ Hid (m = (stB a k).1.length) ∧ Own wr 9 w.heap.size A1 m c1 (sv (stB a k).1) ∧ Own wr 3 w.heap.size A2 m c2 (iv (stB a k).2) ∧ Below w.heap.size w wr) (fun _ _ i _ _ _ => 65537 - (intOf i).toNat)
  case atStart =>
    refine ⟨0, 1, _, _, _, _, Nat.zero_le _, rfl, rfl, rfl, Lib.hid rfl, ?_, ?_, ?_⟩
    · exact (Own.lit w 9 #[.string (bs a)] 1 rfl (by decide)).alloc _
    · have h := (Own.lit (w.alloc (.cells #[.string (bs a)] 9)) 3 #[.int .i64 (-1)] 1 rfl (by decide)).mono (B' := w.heap.size) (by simp)
      simp at h
      exact h
    · exact ((Below.refl _ _).alloc (Nat.le_refl _) _).alloc (by simp) _
  case round =>
    obtain ⟨k, m, A1, c1, A2, c2, hk, rfl, rfl, rfl, HM, ho1, ho2, hb⟩ := hrel
    have O1 := Lib.hid ho1
    have O2' := Lib.hid ho2
    have hm6 : m ≤ 65536 := by rw [HM.out]; exact HB.out k
    have hbs := hb.size
    by_cases hlt : k < m
    · obtain ⟨bl, off, x, rfl, hx, hc⟩ := ho1.rd.ats hlt
      have HX := Lib.hid (getDt hx)
      have HXI := Lib.hid ((HI.out k).tr x (List.mem_of_getElem? hx))
      have hxl : x.length ≤ 1000000000 := by obtain ⟨t, rfl, h1, _⟩ := HXI.out; rw [tx_len]; omega
      have HNB := Lib.hid (fun y (hy : y ∈ nbB x) => nb_isn HXI.out hy)
      have HST := Lib.hid (show stB a (k + 1) = (nbB x).foldl (stepB k) (stB a k) by rw [stB, if_pos (by rw [← HM.out]; exact hlt)]; unfold rowB; rw [HX.out])
      have hnl := nbB_len x
      obtain ⟨NB, hNB⟩ : ∃ NB, NB = nbB x := ⟨_, rfl⟩
      have HNC := Lib.hid (show ∀ w, Calls Try.prog 78 #[.string (bs x)] w (RetS w NB) from fun w => by rw [hNB]; exact specNeighboursOf_any _ w hxl)
      rw [← hNB] at HNB HST hnl
      have HIJ := Lib.hid (show ∀ j, Inv n ((NB.take j).foldl (stepB k) (stB a k)) from fun j => (HI.out k).fold _ _ (by rw [← HM.out]; exact hlt) fun y hy => HNB.out y (List.mem_of_mem_take hy))
      clear hNB hx ho1 ho2
      have k0 : (0 : Int) ≤ (k : Int) := by omega
      have k1 : (k : Int) < (m : Int) := by omega
      go_wp2_with fail
      refine (HNC.out _).mono ?_
      rintro e w1 ⟨A3, p, c3, hp, rfl, ho3, hb3⟩
      have HT := Lib.hid (show TwoS w w1 A3 p c3 NB (some ⟨bl, off, none⟩) m c1 (stB a k).1 from
        ⟨O1.out.below hb3, ho3.1.mono hbs, fun g hg he => by
          have h1 := (ho3.1.blk g (by rw [hg]; rfl)).1
          have h2 := (O1.out.blk g he).2
          omega, hb.trans (hb3.mono hbs)⟩)
      have HO2 := Lib.hid (O2'.out.below hb3)
      have HP := Lib.hid hp
      have hp16 : p ≤ 16 := by rw [hp]; exact hnl
      clear hp ho3 hb3 hc
      go_wp2_with fail
      go_loopw [4, 5, 8] (fun s f i wr => ∃ (j m : Nat) (A1 : Option Addr) (c1 : Nat) (A2 : Option Addr) (c2 : Nat), j ≤ p ∧ i = .int .i64 j ∧ s = .slice A1 m c1 ∧ f = .slice A2 m c2 ∧ Hid (m = ((NB.take j).foldl (stepB k) (stB a k)).1.length) ∧ m ≤ 65536 + 16 ∧ TwoS w wr A3 p c3 NB A1 m c1 ((NB.take j).foldl (stepB k) (stB a k)).1 ∧ Own wr 3 w.heap.size A2 m c2 (iv ((NB.take j).foldl (stepB k) (stB a k)).2)) (fun _ _ i _ => p - (intOf i).toNat)
      case atStart => exact ⟨0, m, _, _, _, _, Nat.zero_le _, rfl, rfl, rfl, HM, by omega, HT.out, HO2.out⟩
      case round =>
        obtain ⟨j, m', A1', c1', A2', c2', hj, rfl, rfl, rfl, HM', hm', ht, ho2'⟩ := hrel
        have T := Lib.hid ht
        have P2 := Lib.hid ho2'
        by_cases hltj : j < p
        · obtain ⟨b3, o3, y, rfl, hy, hcy⟩ := ht.inp.rd.ats hltj
          have HS := Lib.hid (fold_take (i := k) (s := stB a k) hy)
          have hyl : y.length ≤ 1000000000 := by obtain ⟨t, rfl, h1, _⟩ := HNB.out y (List.mem_of_getElem? hy); rw [tx_len]; omega
          have j0 : (0 : Int) ≤ (j : Int) := by omega
          have j1 : (j : Int) < (p : Int) := by omega
          have HRD := Lib.hid ht.out.rd
          obtain ⟨S, hS⟩ : ∃ S, S = (NB.take j).foldl (stepB k) (stB a k) := ⟨_, rfl⟩
          rw [← hS] at HM' T P2 HS HRD
          clear hy ht ho2' hS
          rcases hh : hasB S.1 y with _ | _
          · have HH := Lib.hid hh
            have HS2 := Lib.hid (show (NB.take (j + 1)).foldl (stepB k) (stB a k) = (S.1 ++ [y], S.2 ++ [(k : Int)]) by rw [HS.out]; unfold stepB; rw [if_neg (of_decide_eq_false hh)])
            clear hh
            go_wp2_with fail
            refine (l15Has_any _ _ _ _ _ _ HRD.out (by omega)).mono ?_
            rintro e w' ⟨rfl, rfl⟩
            rw [HH.out]
            have hbs5 := T.out.below.size
            go_wp2_with (first | (at_builtin; refine appSL _ rfl (.tmp 36) _ rfl w.heap.size A1' m' c1' _ rfl (T.out.out.alloc _) wr.heap.size (bs y) rfl (by simp) (by omega) hbs5 ?_; intro g' c'' w' hown' hg' hb' hat'; have T2 := Lib.hid (T.out.grow hown' hg' hb' hat'); have P3 := Lib.hid (Own.other (T.out.out.alloc (.cells #[.string (bs y)] 9)) (P2.out.alloc _) (by decide) hg'); have hbs6 := T2.out.below.size; clear hown' hg' hb' hat') | (at_builtin; refine appI _ rfl (.tmp 43) _ rfl w.heap.size A2' m' c2' _ rfl (P3.out.alloc _) w'.heap.size (k : Int) rfl (by simp) (by omega) hbs6 ?_; intro A4 c4 w4 hown4 hg4 hb4))
            have T3 := Lib.hid (show TwoS w w4 (some ⟨b3, o3, none⟩) p c3 NB (some ⟨g', 0, none⟩) (m' + 1) c'' (S.1 ++ [y]) from
              ⟨Own.other (P3.out.alloc _) (T2.out.out.alloc _) (by decide) hg4, Own.other (P3.out.alloc _) (T2.out.inp.alloc _) (by decide) hg4, T2.out.apart, (T2.out.below.alloc hbs6 _).trans hb4⟩)
            have P4 := Lib.hid (show Own w4 3 w.heap.size A4 (m' + 1) c4 (iv (S.2 ++ [(k : Int)])) by rw [iv_snoc]; exact hown4)
            clear hown4 hg4 hb4
            have hlen := (HIJ.out (j + 1)).len
            have hbd : m' + 1 ≤ 65536 + 16 := by
              have h1 := nodup_len _ _ (HIJ.out (j + 1)).nd fun x hx => isn_trees ((HIJ.out (j + 1)).tr x hx)
              have h2 := treesB_len (n := n) (by omega)
              have h3 := HM'.out
              rw [HS2.out] at h1
              simp at h1
              omega
            go_wp2_with fail
            go_roundw
            case rel => exact ⟨j + 1, m' + 1, _, c'', A4, c4, by omega, by go_num, rfl, rfl, Lib.hid (by rw [HS2.out]; simp [HM'.out]), hbd, by rw [HS2.out]; exact T3.out, by rw [HS2.out]; exact P4.out⟩
            case measure => simp [intOf]; omega
          · have HH := Lib.hid hh
            have HS2 := Lib.hid (show (NB.take (j + 1)).foldl (stepB k) (stB a k) = S by rw [HS.out]; unfold stepB; rw [if_pos (of_decide_eq_true hh)])
            clear hh
            go_wp2_with fail
            refine (l15Has_any _ _ _ _ _ _ HRD.out (by omega)).mono ?_
            rintro e w' ⟨rfl, rfl⟩
            rw [HH.out]
            go_wp2_with fail
            go_roundw
            case rel => exact ⟨j + 1, m', _, c1', A2', c2', by omega, by go_num, rfl, rfl, Lib.hid (by rw [HS2.out]; exact HM'.out), hm', by rw [HS2.out]; exact T.out, by rw [HS2.out]; exact P2.out⟩
            case measure => simp [intOf]; omega
        · have hjp : j = p := by omega
          have HF := Lib.hid (show (NB.take j).foldl (stepB k) (stB a k) = stB a (k + 1) by rw [hjp, HP.out, List.take_length]; exact HST.out.symm)
          rw [HF.out] at HM' T P2
          have hkm : k + 1 ≤ m' := by
            have h1 := (stB_pre1 a k).len
            have h2 := HM.out
            have h3 := HM'.out
            omega
          clear ht ho2' hjp
          go_wp2_with fail
          go_roundw
          case rel => exact ⟨k + 1, m', _, _, _, _, hkm, by go_num, rfl, rfl, HM', T.out.out, P2.out, T.out.below⟩
          case measure => simp [intOf]; omega
    · have hkm : k = m := by omega
      have HF := Lib.hid (stF_eq (a := a) (k := k) (by rw [← HM.out]; exact hkm.symm) (by omega))
      clear hkm ho1 ho2
      go_wp2_with fail
      go_ret2
      exact ⟨A1, m, c1, A2, c2, rfl, by rw [HF.out]; exact HM.out, by rw [HF.out]; exact O1.out, by rw [HF.out]; exact O2'.out, hb⟩

end Go.Proofs.Yteekkcjbflehlaa
