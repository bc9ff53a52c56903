/- PartitionOf of the specification. -/
import Derived.Test.YteiffomekjadgaaPartL
import Derived.Test.YteiffomekjadgaaTwo
import Derived.Test.YteiffomekjadgaaDyck
import Derived.Test.YteiffomekjadgaaRenum2
import Derived.StillTailTactics
namespace Go.Proofs.Yteiffomekjadgaa
set_option linter.unusedVariables false
open Go.RowKit

set_option maxRecDepth 20000 in
set_option maxHeartbeats 2000000 in
theorem specPartitionOf_any (l : List UInt8) (w : World) (h9 : l.length ≤ 1000000000) : Calls Try.prog 70 #[.string (bs l)] w (RetIB w (parS l).1 (parS l).2) := by
  unfold RetIB
  rcases h : dyck l with _ | _
  · have HF := Lib.hid (show parS l = ([], false) by unfold parS; rw [h]; rfl)
    have HD := Lib.hid h
    clear h
    go_enter Try.func70, Try.ntmps70
    go_wp2_with fail
    refine (specIsDyck_any l _ h9).mono ?_
    rintro e w1 ⟨rfl, rfl⟩
    rw [HD.out]
    go_wp2_with fail
    go_ret2
    rw [HF.out]
    exact ⟨_, 0, 0, rfl, rfl, own_empty w, (Below.refl _ _).alloc (Nat.le_refl _) _⟩
  obtain ⟨h16, hok, h0⟩ := dyck_pathB h
  have HF := Lib.hid (show parS l = (renL (blS l l.length), true) by unfold parS; rw [h]; rfl)
  have HD := Lib.hid h
  have HO := Lib.hid hok
  have HU := Lib.hid (show 2 * ups l l.length = l.length by have := ups_hat l l.length; rw [h0] at this; omega)
  obtain ⟨m, hm⟩ : ∃ m : Nat, m = l.length / 2 := ⟨_, rfl⟩
  have hmk := mkI m (by omega) w
  rw [show (m : Int) = (l.length : Int) / 2 by omega] at hmk
  have HM := Lib.hid hm
  have HU2 := Lib.hid (show ups l l.length = m by have := HU.out; omega)
  have hm8 : m ≤ 8 := by omega
  have HT := Lib.hid (Two.start w m (by omega))
  have hbw : Below w.heap.size w ((w.alloc (.cells (madeCells #[.int .i64 0] m) 3)).alloc (.cells #[] 3)) := ((Below.refl _ _).alloc (Nat.le_refl _) _).alloc (by simp) _
  clear h hok h0 hm
  go_enter Try.func70, Try.ntmps70
  go_wp2_with fail
  refine (specIsDyck_any l _ h9).mono ?_
  rintro e w1 ⟨rfl, rfl⟩
  rw [HD.out]
  go_wp2_with fail
  clear hmk
  go_loopw [5, 6, 7, 8] (fun s nv xv iv wr => ∃ (k q : Nat) (A1 : Option Addr) (c1 : Nat), k ≤ l.length ∧ iv = .int .i64 k ∧ nv = .int .i64 (ups l k) ∧ xv = .int .i64 (nxS l k) ∧ s = .slice A1 q c1 ∧ Hid (q = (opP (ups l) l k).length) ∧ Two w.heap.size wr A1 q c1 (opP (ups l) l k) w.heap.size m (blS l k) ∧ Below w.heap.size w wr) (fun _ _ _ i _ => l.length - (intOf i).toNat)
  case atStart => exact ⟨0, 0, _, _, Nat.zero_le _, rfl, rfl, rfl, rfl, Lib.hid rfl, by rw [blS, ← HM.out]; exact HT.out, hbw⟩
  case round =>
    obtain ⟨k, q, A1, c1, hk, rfl, rfl, rfl, rfl, HQ, ht, hb⟩ := hrel
    have T := Lib.hid ht
    have hs := hb.size
    have hUm : ups l k ≤ m := by rw [← HU2.out]; exact ups_mono l hk
    have hX9 := nxS_le l k
    obtain ⟨U, hU⟩ : ∃ U, U = ups l k := ⟨_, rfl⟩
    obtain ⟨X, hX⟩ : ∃ X, X = nxS l k := ⟨_, rfl⟩
    rw [← hU] at hUm ⊢
    rw [← hX] at hX9 ⊢
    by_cases hlt : k < l.length
    · obtain ⟨ch, hc⟩ : ∃ c, l[k] = c := ⟨_, rfl⟩
      have HC := Lib.hid (show l[k]? = some ch by rw [List.getElem?_eq_getElem hlt, hc])
      have HK := Lib.hid (okB_mono HO.out hk)
      have HK1 := Lib.hid (okB_mono HO.out (show k + 1 ≤ l.length by omega))
      by_cases hu : ch = 117
      · subst hu
        have e1 : (((l[k]'hlt).toNat : Int) == 117) = true := by rw [hc]; rfl
        have HS1 := Lib.hid (show opP (ups l) l (k + 1) = opP (ups l) l k ++ [(U : Int)] by rw [opP, if_pos HC.out, hU])
        have HS2 := Lib.hid (show ups l (k + 1) = U + 1 by rw [ups, if_pos HC.out, hU])
        have HS3 := Lib.hid (show nxS l (k + 1) = X by rw [nxS, if_pos HC.out, hX])
        have HS4 := Lib.hid (show blS l (k + 1) = blS l k by rw [blS, if_pos HC.out])
        have hq9 : q ≤ 1000 := by
          have h1 := opP_len (ups l) HK.out
          have h2 := hat_bd l k
          have := HQ.out
          omega
        clear hc ht hU hX
        go_wp2_with (at_builtin; refine appIL _ rfl _ _ rfl w.heap.size A1 q c1 _ rfl (T.out.out.alloc _) wr.heap.size (U : Int) rfl (by simp) (by omega) hs ?_; intro g' c' w' hown' hg' hb' hat')
        have T2 := Lib.hid (T.out.grow _ hown' HS1.out hg' hat')
        have hb2 := (hb.alloc hs _).trans hb'
        clear hown' hg' hb' hat'
        go_wp2_with fail
        go_roundw
        case rel => exact ⟨k + 1, q + 1, _, c', by omega, by go_num, by rw [HS2.out]; go_num, by rw [HS3.out], rfl, Lib.hid (by rw [HS1.out, List.length_append, ← HQ.out]; rfl), by rw [HS4.out]; exact T2.out, hb2⟩
        case measure => simp [intOf]; omega
      · have e1 : (((l[k]'hlt).toNat : Int) == 117) = false := by rw [hc]; exact u8_ne hu
        have hd : 1 ≤ hat l k := by
          have h1 := okB_nn HK1.out
          rw [hat_d HC.out hu] at h1
          omega
        obtain ⟨j, hj1, hj2, hj3, hj4⟩ := opP_top (ups l) HK.out hd
        have hJm : ups l j < m := by have := ups_lt hj1 hj2; omega
        have hql : q = (hat l k).toNat := by rw [HQ.out]; exact opP_len (ups l) HK.out
        have hq9 : q ≤ 1000 := by have h2 := hat_bd l k; omega
        have hq1 : 1 ≤ q := by omega
        obtain ⟨g, y, hA, hgB, hgs, hy, hcy, hfy⟩ := ht.out.ati (show q - 1 < q by omega)
        subst hA
        rw [HQ.out, hj3] at hy
        injection hy with hy
        subst hy
        obtain ⟨J, hJ⟩ : ∃ J, J = ups l j := ⟨_, rfl⟩
        rw [← hJ] at hJm hj4 hcy
        obtain ⟨g2, y2, hA2, -, hg2s, -, hc2, hf2⟩ := ht.inp.ati hJm
        cases hA2
        have HS1 := Lib.hid (show opP (ups l) l (k + 1) = (opP (ups l) l k).take (q - 1) by rw [opP, if_neg (by rw [HC.out]; intro e; injection e with e; exact hu e), ← HQ.out])
        have HS2 := Lib.hid (show ups l (k + 1) = U by rw [ups, if_neg (by rw [HC.out]; intro e; injection e with e; exact hu e), hU])
        have HS4 := Lib.hid (show blS l (k + 1) = (blS l k).set J X by rw [blS, if_neg (by rw [HC.out]; intro e; injection e with e; exact hu e), hj4, hX])
        have T2 := Lib.hid ((T.out.put J (X : Int)).pop (show q - 1 ≤ q by omega))
        have hb2 := hb.setCell (p := ⟨w.heap.size, J, none⟩) (Nat.le_refl _) (.int .i64 (X : Int))
        have HS5 := Lib.hid (show q - 1 = (opP (ups l) l (k + 1)).length by rw [HS1.out, List.length_take, ← HQ.out]; omega)
        have i1 : (0 : Int) ≤ (q : Int) - 1 := by omega
        have i2 : (q : Int) - 1 < (q : Int) := by omega
        have i3 : ((q : Int) - 1).toNat = q - 1 := by omega
        have i4 : ((q - 1 : Nat) : Int) = (q : Int) - 1 := by omega
        have hqc := own_capT T.out.out
        have i7 : (q : Int) - 1 ≤ (c1 : Int) := by omega
        have i5 : (0 : Int) ≤ (J : Int) := by omega
        have i6 : (J : Int) < (m : Int) := by omega
        have HX1 := Lib.hid hX
        have hnu := Lib.hid (show ¬ l[k]? = some 117 by rw [HC.out]; intro e; injection e with e; exact hu e)
        clear ht hU hX hj1 hj2 hj3 hj4 hJ hc hd hql
        by_cases hend : k + 1 = l.length
        · have HS3 := Lib.hid (show nxS l (k + 1) = X + 1 by rw [nxS, if_neg hnu.out, if_pos (Or.inl hend), HX1.out])
          have e2 : ((k : Int) + 1 == (l.length : Int)) = true := by rw [beq_iff_eq]; omega
          go_wp2_with fail
          go_roundw
          case rel => exact ⟨k + 1, q - 1, _, c1, by omega, by go_num, by rw [HS2.out], by rw [HS3.out]; go_num, rfl, HS5, by rw [HS1.out, HS4.out]; exact T2.out, hb2⟩
          case measure => simp [intOf]; omega
        · have e2 : ((k : Int) + 1 == (l.length : Int)) = false := by rw [beq_eq_false_iff_ne]; omega
          have hk2 : k + 1 < l.length := by omega
          have i8 : (0 : Int) ≤ (k : Int) + 1 := by omega
          have i9 : (k : Int) + 1 < (l.length : Int) := by omega
          have i10 : ((k : Int) + 1).toNat = k + 1 := by omega
          obtain ⟨c2, hc9⟩ : ∃ c, l[k + 1] = c := ⟨_, rfl⟩
          have HC2 := Lib.hid (show l[k + 1]? = some c2 by rw [List.getElem?_eq_getElem hk2, hc9])
          by_cases hu2 : c2 = 117
          · subst hu2
            have e3 : (((l[k + 1]'hk2).toNat : Int) == 117) = true := by rw [hc9]; rfl
            have HS3 := Lib.hid (show nxS l (k + 1) = X + 1 by rw [nxS, if_neg hnu.out, if_pos (Or.inr HC2.out), HX1.out])
            clear hc9
            go_wp2_with fail
            go_roundw
            case rel => exact ⟨k + 1, q - 1, _, c1, by omega, by go_num, by rw [HS2.out], by rw [HS3.out]; go_num, rfl, HS5, by rw [HS1.out, HS4.out]; exact T2.out, hb2⟩
            case measure => simp [intOf]; omega
          · have e3 : (((l[k + 1]'hk2).toNat : Int) == 117) = false := by rw [hc9]; exact u8_ne hu2
            have HS3 := Lib.hid (show nxS l (k + 1) = X by rw [nxS, if_neg hnu.out, if_neg (by rw [HC2.out]; rintro (e | e); exact hend e; injection e with e; exact hu2 e), HX1.out])
            clear hc9
            go_wp2_with fail
            go_roundw
            case rel => exact ⟨k + 1, q - 1, _, c1, by omega, by go_num, by rw [HS2.out], by rw [HS3.out], rfl, HS5, by rw [HS1.out, HS4.out]; exact T2.out, hb2⟩
            case measure => simp [intOf]; omega
    · have hkl : k = l.length := by omega
      have HBL := Lib.hid (show (renL (blS l l.length), true) = (renL (blS l k), true) by rw [hkl])
      have hb9 := hb.size
      clear ht hkl hU hX
      go_wp2_with fail
      refine (l8Renumber_any _ _ _ _ _ T.out.inp.rd (by omega)).mono ?_
      rintro e w3 ⟨A3, n3, c3, hn3, rfl, ho3, hb3⟩
      have HO3 := Lib.hid ho3
      have HN3 := Lib.hid hn3
      have hb4 := hb.trans (hb3.mono hb9)
      clear ho3 hn3 hb3
      go_wp2_with fail
      go_ret2
      rw [HF.out, HBL.out]
      exact ⟨A3, n3, c3, HN3.out, rfl, HO3.out.mono hb9, hb4⟩

end Go.Proofs.Yteiffomekjadgaa
