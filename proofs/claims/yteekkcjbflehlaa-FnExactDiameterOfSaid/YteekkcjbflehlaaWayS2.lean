/- The reference's RotationWay and RotationDistance. -/
import Derived.Test.YteekkcjbflehlaaWayS
namespace Go.Proofs.Yteekkcjbflehlaa
set_option linter.unusedVariables false
open Go.RowKit Go.Deep

theorem alike_n8 {a b : List UInt8} (h : alikeB a b 8 = false) (m : Int) (hm : m ≤ 8) : alikeB a b m = false := by
  rcases hh : alikeB a b m with _ | _
  · rfl
  · obtain ⟨s, t, rfl, rfl, h1, h2, _, _, h3, h4⟩ := alike_yes hh
    rw [alike_tx h1 h2, h3] at h
    simp at h
    omega
/-- The call hands back a new slice of the texts xs, and a bool. -/
def RetSB (w : World) (xs : List (List UInt8)) (b : Bool) (e : Ending) (w' : World) : Prop :=
  ∃ A n c, n = xs.length ∧ e = .returned (.tuple #[.slice A n c, .bool b]) ∧ OSeg w' 9 w.heap.size w'.heap.size A n c (sv xs) ∧ Below w.heap.size w w'
theorem stF_has {n : Nat} {a b : Txt} (hn : n ≤ 5) (ha : Isn n a) (hb : Isn n b) : b ∈ (stF a).1 := by
  have hbd := stB_bd hn ha
  -- some step is the last one
  have h : ∃ k, k ≤ 65536 ∧ (stB a k).1.length = k := by
    have key : ∀ f k, k + f = 65536 → k ≤ (stB a k).1.length → ∃ k, k ≤ 65536 ∧ (stB a k).1.length = k := by
      intro f
      induction f with
      | zero => intro k h1 h2; exact ⟨k, by omega, by have := hbd k; omega⟩
      | succ f ih =>
        intro k h1 h2
        rcases Nat.lt_or_ge k (stB a k).1.length with h3 | h3
        · exact ih (k + 1) (by omega) (by have := (stB_pre1 a k).len; omega)
        · exact ⟨k, by omega, by omega⟩
    exact key 65536 0 (by omega) (Nat.zero_le _)
  obtain ⟨k, h1, h2⟩ := h
  rw [stF_eq h2 h1]
  exact stB_all hn ha hb h2
theorem idx_ne {L : List Txt} {b : Txt} (hn : L.Nodup) {i : Nat} {x : Txt} (hx : L[i]? = some x) (h : i ≠ L.idxOf b) : x ≠ b := by
  rintro rfl
  obtain ⟨h1, h2⟩ := List.getElem?_eq_some_iff.1 hx
  have := hn.idxOf_getElem i h1
  rw [h2] at this
  exact h this.symm
theorem wyN_nil_of {s : BS} {k : Int} (h : k < 0) : wyN s k = [] := wy_neg s _ h
theorem wyN_len (s : BS) (k : Int) : (wyN s k).length ≤ (k + 1).toNat := wy_len s _ _

set_option maxRecDepth 20000 in
set_option maxHeartbeats 2000000 in
theorem specRotationWay_any (a b : List UInt8) (w : World) (ha : a.length ≤ 1000000000) (hb : b.length ≤ 1000000000) :
    Calls Try.prog 48 #[.string (bs a), .string (bs b)] w (RetSB w (rwB a b).1 (rwB a b).2) := by
  unfold RetSB
  rcases hf8 : alikeB a b 8 with _ | _
  · have HF := Lib.hid (show rwB a b = ([], false) by unfold rwB; rw [alike_n8 hf8 5 (by omega)]; rfl)
    have H1 := Lib.hid hf8
    clear hf8
    go_enter Try.func48, Try.ntmps48
    go_wp2_with fail
    refine (fit_any _ _ _ ha hb).mono ?_
    rintro e w0 ⟨rfl, hb0⟩
    rw [H1.out]
    go_wp2_with fail
    go_ret2
    rw [HF.out]
    exact ⟨_, 0, 0, rfl, rfl, OSeg.mk' ((own_emptyS w0).mono hb0.size), hb0.alloc hb0.size _⟩
  rcases hf : alikeB a b 5 with _ | _
  · have HF := Lib.hid (show rwB a b = ([], false) by unfold rwB; rw [hf]; rfl)
    have h5 : 5 < nodesB a := by
      obtain ⟨s, t, rfl, rfl, hs, ht, _, _, hst, _⟩ := alike_yes hf8
      rw [alike_tx hs ht, hst] at hf
      simp at hf
      rw [nodesB_tx hs]; omega
    have H1 := Lib.hid hf8
    clear hf8 hf
    go_enter Try.func48, Try.ntmps48
    go_wp2_with fail
    refine (fit_any _ _ _ ha hb).mono ?_
    rintro e w0 ⟨rfl, hb0⟩
    rw [H1.out]
    go_wp2_with fail
    refine (specNodesOf_any _ _ ha).mono ?_
    rintro e w' ⟨rfl, rfl⟩
    go_wp2_with fail
    go_ret2
    rw [HF.out]
    exact ⟨_, 0, 0, rfl, rfl, OSeg.mk' ((own_emptyS w0).mono hb0.size), hb0.alloc hb0.size _⟩
  obtain ⟨t, s, ea, eb, ht, hs, st, ss, hst, hm⟩ := alike_yes hf
  have hn5 : nodes t ≤ 5 := by omega
  have HN := Lib.hid (show nodesB a = (nodes t : Int) by rw [ea, nodesB_tx ht])
  have hia : Isn (nodes t) a := ⟨t, ea, rfl, st⟩
  have hib : Isn (nodes t) b := ⟨s, eb, hst.symm, ss⟩
  obtain ⟨WW, hWW⟩ : ∃ WW, WW = wayB a b := ⟨_, rfl⟩
  have HF := Lib.hid (show rwB a b = (WW, true) by rw [hWW]; unfold rwB; rw [if_pos hf])
  have HW := Lib.hid (show WW = wyN (stF a) ((stF a).1.idxOf b : Nat) from hWW)
  have hmem := stF_has hn5 hia hib
  have HC := Lib.hid (fun w => l20Search_any (nodes t) a w hn5 hia)
  obtain ⟨S, hS⟩ : ∃ S, S = stF a := ⟨_, rfl⟩
  have HI := Lib.hid (show Inv (nodes t) S by rw [hS]; exact stB_inv hia 65537)
  have hSb : S.1.length ≤ 65536 := by rw [hS]; exact stB_bd hn5 hia 65537
  rw [← hS] at HW hmem HC
  obtain ⟨I, hI⟩ : ∃ I, I = S.1.idxOf b := ⟨_, rfl⟩
  rw [← hI] at HW
  have hIl : I < S.1.length := by rw [hI]; exact List.idxOf_lt_length_iff.2 hmem
  have HIb := Lib.hid (show S.1[I]? = some b by rw [hI, List.getElem?_eq_getElem (List.idxOf_lt_length_iff.2 hmem), List.getElem_idxOf])
  have HNE := Lib.hid (show ∀ (i : Nat) (x : Txt), S.1[i]? = some x → i ≠ I → x ≠ b from fun i x h1 h2 => idx_ne HI.out.nd h1 (by rw [← hI]; exact h2))
  have H8 := Lib.hid hf8
  have HWL := Lib.hid (show (wyN S (I : Int)).length ≤ 65540 by have := wyN_len S (I : Int); omega)
  clear hf8 hf ea eb hst hia hib hmem hI hS st ss hWW
  go_enter Try.func48, Try.ntmps48
  go_wp2_with fail
  refine (fit_any _ _ _ ha hb).mono ?_
  rintro e w0 ⟨rfl, hb0⟩
  rw [H8.out]
  go_wp2_with fail
  refine (specNodesOf_any _ _ ha).mono ?_
  rintro e w' ⟨rfl, rfl⟩
  rw [HN.out]
  go_wp2_with fail
  refine (HC.out _).mono ?_
  rintro e w1 ⟨A1, m, c1, A2, c2, rfl, hm1, ho1, ho2, hb1⟩
  have R1 := Lib.hid ho1.rd
  have R2 := Lib.hid ho2.rd
  have HM := Lib.hid hm1
  have hm6 : m ≤ 65536 := by omega
  have hIm : I < m := by omega
  have hbb := hb0.trans (hb1.mono hb0.size)
  have hs1 := hbb.size
  clear ho1 ho2 hm1 hb0 hb1
  go_wp2_with fail
  go_loop [8, 9, 10] (fun i _ _ => ∃ k : Nat, k ≤ I ∧ i = .int .i64 k) (fun i _ _ => m - (intOf i).toNat)
  case atStart => exact ⟨0, Nat.zero_le _, rfl⟩
  case round =>
    obtain ⟨k, hk, rfl⟩ := hrel
    obtain ⟨bl, off, x, rfl, hx, hc⟩ := R1.out.ats (show k < m by omega)
    have k0 : (0 : Int) ≤ (k : Int) := by omega
    have k1 : (k : Int) < (m : Int) := by omega
    by_cases hkI : k = I
    · have hxb : x = b := by rw [hkI, HIb.out] at hx; injection hx with hx; exact hx.symm
      subst hxb
      subst hkI
      have e1 : (x != x) = false := by simp
      clear hx
      go_wp2_with fail
      go_loopw [9, 10] (fun o i wr => ∃ (kk : Int) (A3 : Option Addr) (q c3 : Nat) (out : List Txt), -1 ≤ kk ∧ kk < m ∧ i = .int .i64 kk ∧ o = .slice A3 q c3 ∧ Hid (q = out.length) ∧ Own wr 9 w1.heap.size A3 q c3 (sv out) ∧ Hid (wyN S (k : Int) = wyN S kk ++ out) ∧ Below w1.heap.size w1 wr) (fun _ i _ => (intOf i + 1).toNat)
      case atStart => exact ⟨(k : Int), _, 0, 0, [], by omega, by omega, rfl, rfl, Lib.hid rfl, own_emptyS w1, Lib.hid (by rw [List.append_nil]), (Below.refl _ _).alloc (Nat.le_refl _) _⟩
      case round =>
        obtain ⟨kk, A3, q, c3, out, hk1, hk2, rfl, rfl, HQ, ho, HWY, hbl⟩ := hrel
        have HO := Lib.hid ho
        have hbs := hbl.size
        have hq : q ≤ 65540 := by
          have h1 := congrArg List.length HWY.out
          rw [List.length_append] at h1
          have h2 := HQ.out
          have h3 := HWL.out
          omega
        clear ho
        by_cases hneg : kk < 0
        · have HE := Lib.hid (show out = WW by rw [HW.out, HWY.out, wyN_nil_of hneg]; rfl)
          go_wp2_with fail
          go_ret2
          rw [HF.out]
          exact ⟨A3, q, c3, by rw [HQ.out, HE.out], rfl, OSeg.mk' (by rw [← HE.out]; exact HO.out.mono hs1), hbb.trans (hbl.mono hs1)⟩
        · obtain ⟨K, rfl⟩ := Int.eq_ofNat_of_zero_le (show 0 ≤ kk by omega)
          obtain ⟨_, _, y, hA1, hy, hcy⟩ := (R1.out.below hbl).ats (show K < m by omega)
          cases hA1
          obtain ⟨b2, o2, z, rfl, hz, hcz⟩ := (R2.out.below hbl).ati (show K < m by omega)
          have hKS : K < S.1.length := by rw [← HM.out]; omega
          have HWS := Lib.hid (wyN_step HI.out hKS)
          have HY := Lib.hid (getDt hy)
          have HZ := Lib.hid (show S.2.getD K (-1) = z by rw [List.getD_eq_getElem?_getD, hz]; rfl)
          have hzb := wy_par HI.out (k := (K : Int)) (by omega) (by omega)
          rw [show ((K : Int)).toNat = K by omega, HZ.out] at hzb
          have q0 : (0 : Int) ≤ (K : Int) := by omega
          have q1 : (K : Int) < (m : Int) := by omega
          have HOA := Lib.hid (show Rd (wr.alloc (.cells #[.string (bs y)] 9)) A3 q (sv out) from HO.out.rd.alloc _)
          have HLIT := Lib.hid (show Own (wr.alloc (.cells #[.string (bs y)] 9)) 9 w1.heap.size (some ⟨wr.heap.size, 0, none⟩) 1 1 (sv [y]) from (Own.lit wr 9 #[.string (bs y)] 1 rfl (by decide)).mono hbs)
          have HNC := Lib.hid HO.out.nocap
          obtain ⟨_, _, z', hA2, hz', hcz1⟩ := R2.out.ati (show K < m by omega)
          cases hA2
          obtain rfl : z = z' := by rw [← HZ.out, List.getD_eq_getElem?_getD, hz']; rfl
          clear hy hz hz'
          go_wp2_with (at_builtin; refine appAllS _ rfl _ _ rfl w1.heap.size (some ⟨wr.heap.size, 0, none⟩) 1 1 (sv [y]) rfl HLIT.out A3 q c3 out rfl HNC.out HOA.out (by omega) (by simp; omega) ?_; intro A' c' w' hown' hg' hb'; have HO2 := Lib.hid (show Own w' 9 w1.heap.size A' (1 + q) c' (sv (y :: out)) from hown'); have hbl2 := (hbl.alloc hbs (.cells #[.string (bs y)] 9)).trans hb'; have hcz2 := (hbl2.cell (World.block_lt_of_cell? _ _ hcz1)).trans hcz1; clear hown' hg' hb')
          go_wp2_with fail
          go_roundw
          case rel => exact ⟨z, A', 1 + q, c', y :: out, hzb.1, by omega, rfl, rfl, Lib.hid (by rw [HQ.out, List.length_cons]; omega), HO2.out, Lib.hid (by rw [HWY.out, HWS.out, HZ.out, HY.out, List.append_assoc]; rfl), hbl2⟩
          case measure => simp [intOf]; omega
    · have hxb := HNE.out k x hx hkI
      have e1 : (x == b) = false := by simpa using hxb
      have e2 : (x != b) = true := by simpa using hxb
      have e3 : ¬ x = b := hxb
      have hk2 : k + 1 ≤ I := by omega
      clear hx hxb hkI
      go_wp2_with fail
      go_round
      case rel => exact ⟨k + 1, hk2, by go_num⟩
      case measure => simp [intOf]; omega

end Go.Proofs.Yteekkcjbflehlaa
