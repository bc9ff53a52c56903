/- Merged: PartS AppB. -/
import Derived.Test.YtghfhkbncjgaeaaGreatMg4
import Derived.Test.YtghfhkbncjgaeaaGreatMg5
import Derived.Test.YtghfhkbncjgaeaaGreatMg6
import Derived.Test.YtghfhkbncjgaeaaGreatMg7
import Derived.StillTailTactics
import Derived.Test.YtghfhkbncjgaeaaGreatMg3

namespace Go.Proofs.YtghfhkbncjgaeaaGreat
set_option linter.unusedVariables false
open Go.RowKit

set_option maxRecDepth 20000 in
set_option maxHeartbeats 2000000 in
theorem specPartitionOf_any (l : List UInt8) (w : World) (h9 : l.length ≤ 1000000000) : Calls Tryz.prog 75 #[.string (bs l)] w (RetIB w (parS l).1 (parS l).2) := by
  unfold RetIB
  rcases h : dyck l with _ | _
  · have HF := Lib.hid (show parS l = ([], false) by unfold parS; rw [h]; rfl)
    have HD := Lib.hid h
    clear h
    go_enter Tryz.func75, Tryz.ntmps75
    go_wp2_with fail
    refine (specIsDyck_any l _ h9).mono ?_
    rintro e w1 ⟨rfl, rfl⟩
    rw [HD.out]
    go_wp2_with fail
    go_ret2
    rw [HF.out]
    exact ⟨_, 0, 0, rfl, rfl, own_empty w, (Below.refl _ _).alloc (Nat.le_refl _) _⟩
  obtain ⟨h16, hok, h0⟩ := dyck_pathB h
  have HF := Lib.hid (show parS l = (renL (blS l l.length), true) by unfold parS; rw [h]; rfl)
  have HD := Lib.hid h
  have HO := Lib.hid hok
  have HU := Lib.hid (show 2 * ups l l.length = l.length by have := ups_hat l l.length; rw [h0] at this; omega)
  obtain ⟨m, hm⟩ : ∃ m : Nat, m = l.length / 2 := ⟨_, rfl⟩
  have hmk := mkI m (by omega) w
  rw [show (m : Int) = (l.length : Int) / 2 by omega] at hmk
  have HM := Lib.hid hm
  have HU2 := Lib.hid (show ups l l.length = m by have := HU.out; omega)
  have hm8 : m ≤ 8 := by omega
  have HT := Lib.hid (Two.start w m (by omega))
  have hbw : Below w.heap.size w ((w.alloc (.cells (madeCells #[.int .i64 0] m) 3)).alloc (.cells #[] 3)) := ((Below.refl _ _).alloc (Nat.le_refl _) _).alloc (by simp) _
  clear h hok h0 hm
  go_enter Tryz.func75, Tryz.ntmps75
  go_wp2_with fail
  refine (specIsDyck_any l _ h9).mono ?_
  rintro e w1 ⟨rfl, rfl⟩
  rw [HD.out]
  go_wp2_with fail
  clear hmk
  go_loopw [5, 6, 7, 8] (fun s nv xv iv wr => ∃ (k q : Nat) (A1 : Option Addr) (c1 : Nat), k ≤ l.length ∧ iv = .int .i64 k ∧ nv = .int .i64 (ups l k) ∧ xv = .int .i64 (nxS l k) ∧ s = .slice A1 q c1 ∧ Hid (q = (opP (ups l) l k).length) ∧ Two w.heap.size wr A1 q c1 (opP (ups l) l k) w.heap.size m (blS l k) ∧ Below w.heap.size w wr) (fun _ _ _ i _ => l.length - (intOf i).toNat)
  case atStart => exact ⟨0, 0, _, _, Nat.zero_le _, rfl, rfl, rfl, rfl, Lib.hid rfl, by rw [blS, ← HM.out]; exact HT.out, hbw⟩
  case round =>
    obtain ⟨k, q, A1, c1, hk, rfl, rfl, rfl, rfl, HQ, ht, hb⟩ := hrel
    have T := Lib.hid ht
    have hs := hb.size
    have hUm : ups l k ≤ m := by rw [← HU2.out]; exact ups_mono l hk
    have hX9 := nxS_le l k
    obtain ⟨U, hU⟩ : ∃ U, U = ups l k := ⟨_, rfl⟩
    obtain ⟨X, hX⟩ : ∃ X, X = nxS l k := ⟨_, rfl⟩
    rw [← hU] at hUm ⊢
    rw [← hX] at hX9 ⊢
    by_cases hlt : k < l.length
    · obtain ⟨ch, hc⟩ : ∃ c, l[k] = c := ⟨_, rfl⟩
      have HC := Lib.hid (show l[k]? = some ch by rw [List.getElem?_eq_getElem hlt, hc])
      have HK := Lib.hid (okB_mono HO.out hk)
      have HK1 := Lib.hid (okB_mono HO.out (show k + 1 ≤ l.length by omega))
      by_cases hu : ch = 117
      · subst hu
        have e1 : (((l[k]'hlt).toNat : Int) == 117) = true := by rw [hc]; rfl
        have HS1 := Lib.hid (show opP (ups l) l (k + 1) = opP (ups l) l k ++ [(U : Int)] by rw [opP, if_pos HC.out, hU])
        have HS2 := Lib.hid (show ups l (k + 1) = U + 1 by rw [ups, if_pos HC.out, hU])
        have HS3 := Lib.hid (show nxS l (k + 1) = X by rw [nxS, if_pos HC.out, hX])
        have HS4 := Lib.hid (show blS l (k + 1) = blS l k by rw [blS, if_pos HC.out])
        have hq9 : q ≤ 1000 := by
          have h1 := opP_len (ups l) HK.out
          have h2 := hat_bd l k
          have := HQ.out
          omega
        clear hc ht hU hX
        go_wp2_with (at_builtin; refine appIL _ rfl _ _ rfl w.heap.size A1 q c1 _ rfl (T.out.out.alloc _) wr.heap.size (U : Int) rfl (by simp) (by omega) hs ?_; intro g' c' w' hown' hg' hb' hat')
        have T2 := Lib.hid (T.out.grow _ hown' HS1.out hg' hat')
        have hb2 := (hb.alloc hs _).trans hb'
        clear hown' hg' hb' hat'
        go_wp2_with fail
        go_roundw
        case rel => exact ⟨k + 1, q + 1, _, c', by omega, by go_num, by rw [HS2.out]; go_num, by rw [HS3.out], rfl, Lib.hid (by rw [HS1.out, List.length_append, ← HQ.out]; rfl), by rw [HS4.out]; exact T2.out, hb2⟩
        case measure => simp [intOf]; omega
      · have e1 : (((l[k]'hlt).toNat : Int) == 117) = false := by rw [hc]; exact u8_ne hu
        have hd : 1 ≤ hat l k := by
          have h1 := okB_nn HK1.out
          rw [hat_d HC.out hu] at h1
          omega
        obtain ⟨j, hj1, hj2, hj3, hj4⟩ := opP_top (ups l) HK.out hd
        have hJm : ups l j < m := by have := ups_lt hj1 hj2; omega
        have hql : q = (hat l k).toNat := by rw [HQ.out]; exact opP_len (ups l) HK.out
        have hq9 : q ≤ 1000 := by have h2 := hat_bd l k; omega
        have hq1 : 1 ≤ q := by omega
        obtain ⟨g, y, hA, hgB, hgs, hy, hcy, hfy⟩ := ht.out.ati (show q - 1 < q by omega)
        subst hA
        rw [HQ.out, hj3] at hy
        injection hy with hy
        subst hy
        obtain ⟨J, hJ⟩ : ∃ J, J = ups l j := ⟨_, rfl⟩
        rw [← hJ] at hJm hj4 hcy
        obtain ⟨g2, y2, hA2, -, hg2s, -, hc2, hf2⟩ := ht.inp.ati hJm
        cases hA2
        have HS1 := Lib.hid (show opP (ups l) l (k + 1) = (opP (ups l) l k).take (q - 1) by rw [opP, if_neg (by rw [HC.out]; intro e; injection e with e; exact hu e), ← HQ.out])
        have HS2 := Lib.hid (show ups l (k + 1) = U by rw [ups, if_neg (by rw [HC.out]; intro e; injection e with e; exact hu e), hU])
        have HS4 := Lib.hid (show blS l (k + 1) = (blS l k).set J X by rw [blS, if_neg (by rw [HC.out]; intro e; injection e with e; exact hu e), hj4, hX])
        have T2 := Lib.hid ((T.out.put J (X : Int)).pop (show q - 1 ≤ q by omega))
        have hb2 := hb.setCell (p := ⟨w.heap.size, J, none⟩) (Nat.le_refl _) (.int .i64 (X : Int))
        have HS5 := Lib.hid (show q - 1 = (opP (ups l) l (k + 1)).length by rw [HS1.out, List.length_take, ← HQ.out]; omega)
        have i1 : (0 : Int) ≤ (q : Int) - 1 := by omega
        have i2 : (q : Int) - 1 < (q : Int) := by omega
        have i3 : ((q : Int) - 1).toNat = q - 1 := by omega
        have i4 : ((q - 1 : Nat) : Int) = (q : Int) - 1 := by omega
        have hqc := own_capT T.out.out
        have i7 : (q : Int) - 1 ≤ (c1 : Int) := by omega
        have i5 : (0 : Int) ≤ (J : Int) := by omega
        have i6 : (J : Int) < (m : Int) := by omega
        have HX1 := Lib.hid hX
        have hnu := Lib.hid (show ¬ l[k]? = some 117 by rw [HC.out]; intro e; injection e with e; exact hu e)
        clear ht hU hX hj1 hj2 hj3 hj4 hJ hc hd hql
        by_cases hend : k + 1 = l.length
        · have HS3 := Lib.hid (show nxS l (k + 1) = X + 1 by rw [nxS, if_neg hnu.out, if_pos (Or.inl hend), HX1.out])
          have e2 : ((k : Int) + 1 == (l.length : Int)) = true := by rw [beq_iff_eq]; omega
          go_wp2_with fail
          go_roundw
          case rel => exact ⟨k + 1, q - 1, _, c1, by omega, by go_num, by rw [HS2.out], by rw [HS3.out]; go_num, rfl, HS5, by rw [HS1.out, HS4.out]; exact T2.out, hb2⟩
          case measure => simp [intOf]; omega
        · have e2 : ((k : Int) + 1 == (l.length : Int)) = false := by rw [beq_eq_false_iff_ne]; omega
          have hk2 : k + 1 < l.length := by omega
          have i8 : (0 : Int) ≤ (k : Int) + 1 := by omega
          have i9 : (k : Int) + 1 < (l.length : Int) := by omega
          have i10 : ((k : Int) + 1).toNat = k + 1 := by omega
          obtain ⟨c2, hc9⟩ : ∃ c, l[k + 1] = c := ⟨_, rfl⟩
          have HC2 := Lib.hid (show l[k + 1]? = some c2 by rw [List.getElem?_eq_getElem hk2, hc9])
          by_cases hu2 : c2 = 117
          · subst hu2
            have e3 : (((l[k + 1]'hk2).toNat : Int) == 117) = true := by rw [hc9]; rfl
            have HS3 := Lib.hid (show nxS l (k + 1) = X + 1 by rw [nxS, if_neg hnu.out, if_pos (Or.inr HC2.out), HX1.out])
            clear hc9
            go_wp2_with fail
            go_roundw
            case rel => exact ⟨k + 1, q - 1, _, c1, by omega, by go_num, by rw [HS2.out], by rw [HS3.out]; go_num, rfl, HS5, by rw [HS1.out, HS4.out]; exact T2.out, hb2⟩
            case measure => simp [intOf]; omega
          · have e3 : (((l[k + 1]'hk2).toNat : Int) == 117) = false := by rw [hc9]; exact u8_ne hu2
            have HS3 := Lib.hid (show nxS l (k + 1) = X by rw [nxS, if_neg hnu.out, if_neg (by rw [HC2.out]; rintro (e | e); exact hend e; injection e with e; exact hu2 e), HX1.out])
            clear hc9
            go_wp2_with fail
            go_roundw
            case rel => exact ⟨k + 1, q - 1, _, c1, by omega, by go_num, by rw [HS2.out], by rw [HS3.out], rfl, HS5, by rw [HS1.out, HS4.out]; exact T2.out, hb2⟩
            case measure => simp [intOf]; omega
    · have hkl : k = l.length := by omega
      have HBL := Lib.hid (show (renL (blS l l.length), true) = (renL (blS l k), true) by rw [hkl])
      have hb9 := hb.size
      clear ht hkl hU hX
      go_wp2_with fail
      refine (l8Renumber_any _ _ _ _ _ T.out.inp.rd (by omega)).mono ?_
      rintro e w3 ⟨A3, n3, c3, hn3, rfl, ho3, hb3⟩
      have HO3 := Lib.hid ho3
      have HN3 := Lib.hid hn3
      have hb4 := hb.trans (hb3.mono hb9)
      clear ho3 hn3 hb3
      go_wp2_with fail
      go_ret2
      rw [HF.out, HBL.out]
      exact ⟨A3, n3, c3, HN3.out, rfl, HO3.out.mono hb9, hb4⟩

end Go.Proofs.YtghfhkbncjgaeaaGreat

namespace Go.Proofs.YtghfhkbncjgaeaaGreat
open Go.RowKit

theorem info_u8 : (Tryz.prog.info? 5).map (fun i => (i.zero, i.size, i.bytes)) = some (some (.int .u8 0), 1, 1) := by kernel_rfl
/-- append of one byte to a slice of the call's own. -/
theorem appB (w : World) {ops : Array Oper} {rest : List Oper} {o : Oper} {a : Act} {Q : Exit → Act → World → Prop} (hgd : o.guard = none) (s x : Operand)
    (ho : o.op = .call { callee := .builtin .append, args := #[s, x], argTypes := #[22, 22] })
    (B : Nat) (A : Option Addr) (n c : Nat) (vs : List Value) (hs : a.eval s = .slice A n c) (hown : Own w 5 B A n c vs)
    (g : Nat) (y : Int) (hx : a.eval x = .slice (some ⟨g, 0, none⟩) 1 1) (hy : w.cell? ⟨g, 0, none⟩ = some (.int .u8 y)) (hn : n ≤ 1000000000) (hbase' : B ≤ g)
    (h : ∀ A' c' w', Own w' 5 B A' (n + 1) c' (vs ++ [.int .u8 y]) → w.grownBy w' (Value.ownBlock (.slice A n c)) → Below B w w' → wpList Tryz.prog ops Q rest (a.put o.dst (.slice A' (n + 1) c')) w') : wpList Tryz.prog ops Q (o :: rest) a w :=
  app1 w hgd s x 22 ho 5 (.int .u8 0) 1 Tryz.underlying22 info_u8 rfl (by decide) B A n c vs hs hown g _ hx hy rfl hn hbase' h
theorem own_emptyB (w : World) : Own (w.alloc (.cells #[] 5)) 5 w.heap.size (some ⟨w.heap.size, 0, none⟩) 0 0 (bv []) := Own.lit w 5 #[] 0 rfl (by decide)
theorem bv_snoc (l : List UInt8) (c : UInt8) : bv (l ++ [c]) = bv l ++ [.int .u8 (c.toNat : Int)] := by simp [bv]
theorem bv_b1 (l : List UInt8) {x : Int} (h0 : 0 ≤ x) (h1 : x ≤ 255) : bv (l ++ b1 x) = bv l ++ [.int .u8 x] := by
  have : ((UInt8.ofNat x.toNat).toNat : Int) = x := by
    rw [UInt8.toNat_ofNat']; omega
  simp only [bv, b1, List.map_append, List.map_cons, List.map_nil, this]
theorem bv_set (l : List UInt8) (k : Nat) (c : UInt8) : (bv l).set k (.int .u8 (c.toNat : Int)) = bv (l.set k c) := by simp [bv, List.map_set]
theorem Own.atb {w : World} {e : TypeId} {B : Nat} {A : Option Addr} {n c k : Nat} {l : List UInt8} (h : Own w e B A n c (bv l)) (hk : k < n) : ∃ g y, A = some ⟨g, 0, none⟩ ∧ B ≤ g ∧ g < w.heap.size ∧ l[k]? = some y ∧ w.cell? ⟨g, k, none⟩ = some (.int .u8 (y.toNat : Int)) ∧ w.frozen? ⟨g, k, none⟩ = false := by
  obtain ⟨g, u, h1, h2, h3, h4, h5, h6⟩ := h.at_ hk
  unfold bv at h4
  rw [List.getElem?_map, Option.map_eq_some_iff] at h4
  obtain ⟨y, hy, rfl⟩ := h4
  exact ⟨g, y, h1, h2, h3, hy, h5, h6⟩
theorem Own.putb {w : World} {e : TypeId} {B n c g : Nat} {l : List UInt8} (h : Own w e B (some ⟨g, 0, none⟩) n c (bv l)) (k : Nat) (x : UInt8) : Own (w.setCell ⟨g, k, none⟩ (.int .u8 (x.toNat : Int))) e B (some ⟨g, 0, none⟩) n c (bv (l.set k x)) := by
  rw [← bv_set]; exact h.set_ k _

/-- The first k and the last k are turned round. -/
def revTo (T : List UInt8) (k : Nat) : List UInt8 := (List.range T.length).map fun j => if j < k ∨ T.length ≤ j + k then T.getD (T.length - 1 - j) 0 else T.getD j 0
theorem revTo_len (T : List UInt8) (k : Nat) : (revTo T k).length = T.length := by simp [revTo]
theorem revTo_at {T : List UInt8} {k j : Nat} (h : j < T.length) : (revTo T k)[j]? = some (if j < k ∨ T.length ≤ j + k then T.getD (T.length - 1 - j) 0 else T.getD j 0) := by
  unfold revTo
  rw [List.getElem?_map, List.getElem?_range h]; rfl
theorem revTo_0 (T : List UInt8) : revTo T 0 = T := by
  apply List.ext_getElem?
  intro j
  rcases Nat.lt_or_ge j T.length with h | h
  · rw [revTo_at h, if_neg (by omega), List.getD_eq_getElem?_getD, List.getElem?_eq_getElem h]; rfl
  · rw [List.getElem?_eq_none (by rw [revTo_len]; exact h), List.getElem?_eq_none h]
theorem revTo_end {T : List UInt8} {k : Nat} (hk : T.length ≤ 2 * k + 1) : revTo T k = T.reverse := by
  apply List.ext_getElem?
  intro j
  rcases Nat.lt_or_ge j T.length with h | h
  · rw [revTo_at h, List.getElem?_reverse h]
    by_cases hc : j < k ∨ T.length ≤ j + k
    · rw [if_pos hc, List.getD_eq_getElem?_getD, List.getElem?_eq_getElem (by omega)]; rfl
    · rw [if_neg hc, List.getD_eq_getElem?_getD, show T.length - 1 - j = j by omega, List.getElem?_eq_getElem h]; rfl
  · rw [List.getElem?_eq_none (by rw [revTo_len]; exact h), List.getElem?_eq_none (by rw [List.length_reverse]; exact h)]
theorem revTo_step {T : List UInt8} {k : Nat} {x y : UInt8} (hk : 2 * k + 1 < T.length) (hx : (revTo T k)[k]? = some x) (hy : (revTo T k)[T.length - 1 - k]? = some y) :
    ((revTo T k).set k y).set (T.length - 1 - k) x = revTo T (k + 1) := by
  rw [revTo_at (by omega), if_neg (by omega)] at hx hy
  injection hx with hx
  injection hy with hy
  apply List.ext_getElem?
  intro j
  rcases Nat.lt_or_ge j T.length with h | h
  · rw [revTo_at h, List.getElem?_set, List.getElem?_set]
    by_cases h1 : T.length - 1 - k = j
    · rw [if_pos h1, if_pos (by rw [List.length_set, revTo_len]; exact h1 ▸ h), if_pos (by omega), show T.length - 1 - j = k by omega, hx]
    · rw [if_neg h1]
      by_cases h2 : k = j
      · subst h2
        rw [if_pos rfl, if_pos (by rw [revTo_len]; exact h), if_pos (by omega), hy]
      · rw [if_neg h2, revTo_at h]
        by_cases hc : j < k ∨ T.length ≤ j + k
        · rw [if_pos hc, if_pos (by omega)]
        · rw [if_neg hc, if_neg (by omega)]
  · rw [List.getElem?_eq_none (by rw [List.length_set, List.length_set, revTo_len]; exact h), List.getElem?_eq_none (by rw [revTo_len]; exact h)]

end Go.Proofs.YtghfhkbncjgaeaaGreat
