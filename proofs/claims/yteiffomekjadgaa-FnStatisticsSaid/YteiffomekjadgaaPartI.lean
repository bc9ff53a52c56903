/- partners and PartitionOf of the program. -/
import Derived.Test.YteiffomekjadgaaPartL
import Derived.Test.YteiffomekjadgaaTwo
import Derived.Test.YteiffomekjadgaaDyck
import Derived.Test.YteiffomekjadgaaRenum3
import Derived.StillTailTactics
namespace Go.Proofs.Yteiffomekjadgaa
set_option linter.unusedVariables false
open Go.RowKit

set_option maxRecDepth 20000 in
set_option maxHeartbeats 2000000 in
theorem partners_any (l : List UInt8) (w : World) (h : dyck l = true) : Calls Try.prog 101 #[.string (bs l)] w (RetI w (prI l l.length)) := by
  unfold RetI
  obtain ⟨h16, hok, h0⟩ := dyck_pathB h
  have HO := Lib.hid hok
  obtain ⟨m, hm⟩ : ∃ m : Nat, m = l.length := ⟨_, rfl⟩
  have hmk := mkI m (by omega) w
  have HM := Lib.hid hm
  have hm16 : m ≤ 16 := by omega
  have HT := Lib.hid (Two.start w m (by omega))
  have hbw : Below w.heap.size w ((w.alloc (.cells (madeCells #[.int .i64 0] m) 3)).alloc (.cells #[] 3)) := ((Below.refl _ _).alloc (Nat.le_refl _) _).alloc (by simp) _
  rw [show (m : Int) = (l.length : Int) by omega] at hmk
  clear h hok h0 hm
  go_enter Try.func101, Try.ntmps101
  go_wp2_with fail
  clear hmk
  go_loopw [4, 5, 6] (fun s iv _ wr => ∃ (k q : Nat) (A1 : Option Addr) (c1 : Nat), k ≤ l.length ∧ iv = .int .i64 k ∧ s = .slice A1 q c1 ∧ Hid (q = (opP id l k).length) ∧ Two w.heap.size wr A1 q c1 (opP id l k) w.heap.size m (prI l k) ∧ Below w.heap.size w wr) (fun _ i _ _ => l.length - (intOf i).toNat)
  case atStart => exact ⟨0, 0, _, _, Nat.zero_le _, rfl, rfl, Lib.hid rfl, by rw [prI, ← HM.out]; exact HT.out, hbw⟩
  case round =>
    obtain ⟨k, q, A1, c1, hk, rfl, rfl, HQ, ht, hb⟩ := hrel
    have T := Lib.hid ht
    have hs := hb.size
    by_cases hlt : k < l.length
    · obtain ⟨ch, hc⟩ : ∃ c, l[k] = c := ⟨_, rfl⟩
      have HC := Lib.hid (show l[k]? = some ch by rw [List.getElem?_eq_getElem hlt, hc])
      have HK := Lib.hid (okB_mono HO.out hk)
      have HK1 := Lib.hid (okB_mono HO.out (show k + 1 ≤ l.length by omega))
      by_cases hu : ch = 117
      · subst hu
        have e1 : (((l[k]'hlt).toNat : Int) == 117) = true := by rw [hc]; rfl
        have HS1 := Lib.hid (show opP id l (k + 1) = opP id l k ++ [(k : Int)] by rw [opP, if_pos HC.out]; rfl)
        have HS4 := Lib.hid (show prI l (k + 1) = prI l k by rw [prI, if_pos HC.out])
        have hq9 : q ≤ 1000 := by
          have h1 := opP_len id HK.out
          have h2 := hat_bd l k
          have := HQ.out
          omega
        clear hc ht
        go_wp2_with (at_builtin; refine appIL _ rfl _ _ rfl w.heap.size A1 q c1 _ rfl (T.out.out.alloc _) wr.heap.size (k : Int) rfl (by simp) (by omega) hs ?_; intro g' c' w' hown' hg' hb' hat')
        have T2 := Lib.hid (T.out.grow _ hown' HS1.out hg' hat')
        have hb2 := (hb.alloc hs _).trans hb'
        clear hown' hg' hb' hat'
        go_wp2_with fail
        go_roundw
        case rel => exact ⟨k + 1, q + 1, _, c', by omega, by go_num, rfl, Lib.hid (by rw [HS1.out, List.length_append, ← HQ.out]; rfl), by rw [HS4.out]; exact T2.out, hb2⟩
        case measure => simp [intOf]; omega
      · have e1 : (((l[k]'hlt).toNat : Int) == 117) = false := by rw [hc]; exact u8_ne hu
        have hd : 1 ≤ hat l k := by
          have h1 := okB_nn HK1.out
          rw [hat_d HC.out hu] at h1
          omega
        obtain ⟨j, hj1, hj2, hj3, hj4⟩ := opP_top id HK.out hd
        have hj4' : topP id l k = j := hj4
        have hJm : j < m := by have := HM.out; omega
        have hkm : k < m := by have := HM.out; omega
        have hql : q = (hat l k).toNat := by rw [HQ.out]; exact opP_len id HK.out
        have hq9 : q ≤ 1000 := by have h2 := hat_bd l k; omega
        have hq1 : 1 ≤ q := by omega
        obtain ⟨g, y, hA, hgB, hgs, hy, hcy, hfy⟩ := ht.out.ati (show q - 1 < q by omega)
        subst hA
        rw [HQ.out, hj3] at hy
        injection hy with hy
        have hy' : y = (j : Int) := hy.symm
        subst hy'
        obtain ⟨g2, y2, hA2, -, hg2s, -, hc2, hf2⟩ := ht.inp.ati hJm
        cases hA2
        obtain ⟨g3, y3, hA3, -, -, -, hc3, hf3⟩ := ht.inp.ati hkm
        cases hA3
        have hnu : ¬ l[k]? = some 117 := by rw [HC.out]; intro e; injection e with e; exact hu e
        have HS1 := Lib.hid (show opP id l (k + 1) = (opP id l k).take (q - 1) by rw [opP, if_neg hnu, ← HQ.out])
        have HS4 := Lib.hid (show prI l (k + 1) = ((prI l k).set k j).set j k by rw [prI, if_neg hnu, hj4'])
        have T2 := Lib.hid (((T.out.put k (j : Int)).put j (k : Int)).pop (show q - 1 ≤ q by omega))
        have hb2 := (hb.setCell (p := ⟨w.heap.size, k, none⟩) (Nat.le_refl _) (.int .i64 (j : Int))).setCell (p := ⟨w.heap.size, j, none⟩) (Nat.le_refl _) (.int .i64 (k : Int))
        have HS5 := Lib.hid (show q - 1 = (opP id l (k + 1)).length by rw [HS1.out, List.length_take, ← HQ.out]; omega)
        have i1 : (0 : Int) ≤ (q : Int) - 1 := by omega
        have i2 : (q : Int) - 1 < (q : Int) := by omega
        have i3 : ((q : Int) - 1).toNat = q - 1 := by omega
        have hqc := own_capT T.out.out
        have i7 : (q : Int) - 1 ≤ (c1 : Int) := by omega
        have i4 : ((q - 1 : Nat) : Int) = (q : Int) - 1 := by omega
        clear ht hj2 hj3 hj4 hj4' hc hd hql hy hnu
        go_wp2_with fail
        go_roundw
        case rel => exact ⟨k + 1, q - 1, _, c1, by omega, by go_num, rfl, HS5, by rw [HS1.out, HS4.out]; exact T2.out, hb2⟩
        case measure => simp [intOf]; omega
    · have hkl : k = l.length := by omega
      subst hkl
      have HL := Lib.hid (show m = (prI l l.length).length by rw [prI_len]; exact HM.out)
      clear ht
      go_wp2_with fail
      go_ret
      exact ⟨_, m, m, HL.out, rfl, T.out.inp, hb⟩

set_option maxRecDepth 20000 in
set_option maxHeartbeats 2000000 in
theorem implPartitionOf_any (l : List UInt8) (w : World) (h9 : l.length ≤ 1000000000) : Calls Try.prog 58 #[.string (bs l)] w (RetIB w (parI l).1 (parI l).2) := by
  unfold RetIB
  rcases h : dyck l with _ | _
  · have HF := Lib.hid (show parI l = ([], false) by unfold parI; rw [h]; rfl)
    have HD := Lib.hid h
    clear h
    go_enter Try.func58, Try.ntmps58
    go_wp2_with fail
    refine (implIsDyck_any l _ h9).mono ?_
    rintro e w1 ⟨rfl, hb1⟩
    rw [HD.out]
    have hs1 := hb1.size
    go_wp2_with fail
    go_ret2
    rw [HF.out]
    exact ⟨_, 0, 0, rfl, rfl, (own_empty w1).mono hs1, hb1.alloc hs1 _⟩
  obtain ⟨h16, hok, h0⟩ := dyck_pathB h
  have HF := Lib.hid (show parI l = (renL (liI l l.length), true) by unfold parI; rw [h]; rfl)
  have HD := Lib.hid h
  have HO := Lib.hid hok
  have HU := Lib.hid (show 2 * ups l l.length = l.length by have := ups_hat l l.length; rw [h0] at this; omega)
  have HPB := Lib.hid (prI_bd l hok l.length (Nat.le_refl _))
  obtain ⟨m, hm⟩ : ∃ m : Nat, m = l.length := ⟨_, rfl⟩
  have HMK := Lib.hid (fun w => mkI m (by omega) w)
  rw [show (m : Int) = (l.length : Int) by omega] at HMK
  have HM := Lib.hid hm
  have hm16 : m ≤ 16 := by omega
  clear h hok h0 hm
  go_enter Try.func58, Try.ntmps58
  go_wp2_with fail
  refine (implIsDyck_any l _ h9).mono ?_
  rintro e w1 ⟨rfl, hb1⟩
  rw [HD.out]
  have hs1 := hb1.size
  go_wp2_with fail
  refine (partners_any l _ HD.out).mono ?_
  rintro e w2 ⟨Ap, np, cp, hnp, rfl, hop, hbp⟩
  have hs2 := hbp.size
  have HP := Lib.hid (hop.mono hs1)
  have hb2 := hb1.trans (hbp.mono hs1)
  have HNP := Lib.hid (show np = m by rw [hnp, prI_len, HM.out])
  have hmk := HMK.out w2
  have HT := Lib.hid (Two.start2 HP.out (by omega) m (by omega))
  have hb3 := hb2.alloc (show w.heap.size ≤ w2.heap.size by omega) (.cells (madeCells #[.int .i64 0] m) 3)
  clear hop hbp hnp
  go_wp2_with fail
  clear hmk
  go_loopw [6, 7] (fun nv iv wr => ∃ k : Nat, k ≤ l.length - 1 ∧ iv = .int .i64 ((k : Int) + 1) ∧ nv = .int .i64 (rnN l k) ∧ Two w.heap.size wr Ap np cp (prI l l.length) w2.heap.size m (rnL l k) ∧ Below w.heap.size w wr) (fun _ i _ => l.length + 1 - (intOf i).toNat)
  case atStart => exact ⟨0, Nat.zero_le _, rfl, rfl, by rw [show rnL l 0 = List.replicate m 0 by rw [rnL, HM.out]]; exact HT.out, hb3⟩
  case round =>
    obtain ⟨k, hk, rfl, rfl, ht, hb⟩ := hrel
    have T := Lib.hid ht
    have hs := hb.size
    have hN9 := rnN_le l k
    obtain ⟨N, hN⟩ : ∃ N, N = rnN l k := ⟨_, rfl⟩
    rw [← hN] at hN9 ⊢
    have HN := Lib.hid hN
    clear hN
    by_cases hlt : k + 1 < l.length
    · have hk1 : k < l.length := by omega
      have hkm : k + 1 < m := by have := HM.out; omega
      obtain ⟨c1, hc1⟩ : ∃ c, l[k + 1] = c := ⟨_, rfl⟩
      obtain ⟨c0, hc0⟩ : ∃ c, l[k] = c := ⟨_, rfl⟩
      have HC1 := Lib.hid (show l[k + 1]? = some c1 by rw [List.getElem?_eq_getElem hlt, hc1])
      have HC0 := Lib.hid (show l[k]? = some c0 by rw [List.getElem?_eq_getElem hk1, hc0])
      obtain ⟨g2, y2, hA2, -, hg2s, -, hc2, hf2⟩ := ht.inp.ati hkm
      cases hA2
      have i1 : (0 : Int) ≤ (k : Int) + 1 := by omega
      have i2 : (k : Int) + 1 < (l.length : Int) := by omega
      have i3 : ((k : Int) + 1).toNat = k + 1 := by omega
      have i4 : (k : Int) + 1 < (m : Int) := by omega
      have i5 : (k : Int) < (l.length : Int) := by omega
      clear ht
      by_cases hd : c1 = 100
      · subst hd
        have e1 : (((l[k + 1]'hlt).toNat : Int) == 100) = true := by rw [hc1]; rfl
        have e1' : ((l[k + 1]'hlt).toNat : Int) = 100 := by simpa using e1
        by_cases hu : c0 = 117
        · subst hu
          have e2 : (((l[k]'hk1).toNat : Int) == 117) = true := by rw [hc0]; rfl
          have HS := Lib.hid (show rnN l (k + 1) = N + 1 by rw [rnN, if_pos ⟨HC1.out, HC0.out⟩, HN.out])
          clear hc1 hc0
          go_wp2_with fail
          go_roundw
          case rel => exact ⟨k + 1, by omega, by go_num, by rw [HS.out]; go_num, by rw [rnL, HS.out]; exact T.out.put (k + 1) _, hb.setCell (by show w.heap.size ≤ w2.heap.size; omega) _⟩
          case measure => simp [intOf]; omega
        · have e2 : (((l[k]'hk1).toNat : Int) == 117) = false := by rw [hc0]; exact u8_ne hu
          have HS := Lib.hid (show rnN l (k + 1) = N by rw [rnN, if_neg (by rw [HC0.out]; rintro ⟨_, e⟩; injection e with e; exact hu e), HN.out])
          clear hc1 hc0
          go_wp2_with fail
          go_roundw
          case rel => exact ⟨k + 1, by omega, by go_num, by rw [HS.out], by rw [rnL, HS.out]; exact T.out.put (k + 1) _, hb.setCell (by show w.heap.size ≤ w2.heap.size; omega) _⟩
          case measure => simp [intOf]; omega
      · have e1 : (((l[k + 1]'hlt).toNat : Int) == 100) = false := by rw [hc1]; exact u8_ne hd
        have HS := Lib.hid (show rnN l (k + 1) = N by rw [rnN, if_neg (by rw [HC1.out]; rintro ⟨e, _⟩; injection e with e; exact hd e), HN.out])
        clear hc1 hc0
        go_wp2_with fail
        go_roundw
        case rel => exact ⟨k + 1, by omega, by go_num, by rw [HS.out], by rw [rnL, HS.out]; exact T.out.put (k + 1) _, hb.setCell (by show w.heap.size ≤ w2.heap.size; omega) _⟩
        case measure => simp [intOf]; omega
    · have HKL := Lib.hid (show k = l.length - 1 by omega)
      obtain ⟨w3, rfl⟩ : ∃ W, W = wr := ⟨wr, rfl⟩
      rw [HKL.out] at T
      have i2 : ¬ (k : Int) + 1 < (l.length : Int) := by omega
      clear ht
      go_wp2_with fail
      go_loopw [8, 9] (fun s ix wr => ∃ (k q : Nat) (A1 : Option Addr) (c1 : Nat), k ≤ l.length ∧ ix = .int .i64 k ∧ s = .slice A1 q c1 ∧ Hid (q = (liI l k).length) ∧ Own wr 3 w3.heap.size A1 q c1 (iv (liI l k)) ∧ Below w3.heap.size w3 wr) (fun _ i _ => l.length - (intOf i).toNat)
      case atStart => exact ⟨0, 0, _, _, Nat.zero_le _, rfl, rfl, Lib.hid rfl, own_empty w3, (Below.refl _ _).alloc (Nat.le_refl _) _⟩
      case round =>
        obtain ⟨z, q, A1, c1, hz, rfl, rfl, HQ, ho, hbz⟩ := hrel
        have O := Lib.hid ho
        have hsz := hbz.size
        have hq9 : q ≤ 16 := by have h1 := HQ.out; rw [liI_len] at h1; have h2 := ups_mono l hz; have h3 := HU.out; omega
        by_cases hlt9 : z < l.length
        · obtain ⟨ch, hc⟩ : ∃ c, l[z] = c := ⟨_, rfl⟩
          have HC := Lib.hid (show l[z]? = some ch by rw [List.getElem?_eq_getElem hlt9, hc])
          by_cases hu : ch = 117
          · subst hu
            have e1 : (((l[z]'hlt9).toNat : Int) == 117) = true := by rw [hc]; rfl
            obtain ⟨gp, x, rfl, -, -, hx, hcx, -⟩ := (T.out.out.below hbz).ati (show z < np by rw [HNP.out, HM.out]; exact hlt9)
            obtain ⟨J, hJ, hJb⟩ := HPB.out x (List.mem_of_getElem? hx)
            subst hJ
            have hJm : J < m := by have := HM.out; omega
            obtain ⟨gr, y, hAr, -, -, hy, hcy, -⟩ := (T.out.inp.below hbz).ati hJm
            cases hAr
            have HS := Lib.hid (show liI l (z + 1) = liI l z ++ [y] by
              rw [liI, if_pos HC.out]
              congr 2
              rw [List.getD_eq_getElem?_getD (l := prI l l.length), hx]
              show (rnL l (l.length - 1)).getD ((J : Int)).toNat 0 = y
              rw [Int.toNat_natCast, List.getD_eq_getElem?_getD, hy]; rfl)
            have i6 : (z : Int) < (np : Int) := by have := HNP.out; have := HM.out; omega
            have i7 : (J : Int) < (m : Int) := by omega
            clear hc ho hx hy hJb
            go_wp2_with (at_builtin; refine appI _ rfl _ _ rfl w3.heap.size A1 q c1 _ rfl (O.out.alloc _) wr.heap.size y rfl (by simp) (by omega) hsz ?_; intro A' c' w' hown' hg' hb')
            have hb4 := (hbz.alloc hsz _).trans hb'
            have O4 := Lib.hid hown'
            clear hown' hg' hb'
            go_wp2_with fail
            go_roundw
            case rel => exact ⟨z + 1, q + 1, _, c', by omega, by go_num, rfl, Lib.hid (by rw [HS.out, List.length_append, ← HQ.out]; rfl), by rw [HS.out, iv_snoc]; exact O4.out, hb4⟩
            case measure => simp [intOf]; omega
          · have e1 : (((l[z]'hlt9).toNat : Int) == 117) = false := by rw [hc]; exact u8_ne hu
            have HS := Lib.hid (show liI l (z + 1) = liI l z by rw [liI, if_neg (by rw [HC.out]; intro e; injection e with e; exact hu e)])
            clear hc ho
            go_wp2_with fail
            go_roundw
            case rel => exact ⟨z + 1, q, _, c1, by omega, by go_num, rfl, Lib.hid (by rw [HS.out]; exact HQ.out), by rw [HS.out]; exact O.out, hbz⟩
            case measure => simp [intOf]; omega
        · have HZL := Lib.hid (show liI l l.length = liI l z by rw [show z = l.length by omega])
          obtain ⟨hcc1, hcc2⟩ := own_capT2 O.out
          have HRB := Lib.hid (show renB (liI l z) = (renL (liI l z), true) by
            unfold renB
            rw [if_pos]
            rw [← HZL.out, liI_len]
            have := HU.out; omega)
          clear ho
          go_wp2_with fail
          refine (implRenumberBlocks_any _ _ _ _ _ O.out.rd (by omega) hcc1 hcc2).mono ?_
          rintro e w4 ⟨A3, n3, c3, hn3, rfl, ho3, hb3⟩
          rw [HRB.out] at hn3 ho3 ⊢
          have HO3 := Lib.hid ho3
          have HN3 := Lib.hid hn3
          have hb4 := (hb.trans (hbz.mono hs)).trans (hb3.mono (by omega))
          clear ho3 hn3 hb3
          go_wp2_with fail
          go_ret2
          rw [HF.out, HZL.out]
          exact ⟨A3, n3, c3, HN3.out, rfl, HO3.out.mono (by omega), hb4⟩

end Go.Proofs.Yteiffomekjadgaa
