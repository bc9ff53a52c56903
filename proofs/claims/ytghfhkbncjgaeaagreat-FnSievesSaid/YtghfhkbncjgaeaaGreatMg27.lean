/- Merged: DgS. -/
import Derived.Test.YtghfhkbncjgaeaaGreatMg26
import Derived.Test.YtghfhkbncjgaeaaGreatMg5

namespace Go.Proofs.YtghfhkbncjgaeaaGreat
set_option linter.unusedVariables false
open Go.RowKit

/-- append of a whole slice of rows. -/
theorem stepAllN (w : World) {ops : Array Oper} {o : Oper} {a : Act} {K : Act → World → Prop} {Q : Exit → Act → World → Prop} {E : Prop} (hgd : o.guard = none) (s x : Operand)
    (ho : o.op = .call { callee := .builtin .append, args := #[s, x], argTypes := #[75, 75] })
    (B : Nat) (A : Option Addr) (n c : Nat) (vs : List Value) (hs : a.eval s = .slice A n c) (hown : Own w 28 B A n c vs)
    (X : Option Addr) (m d : Nat) (us : List Value) (hx : a.eval x = .slice X m d) (hX : X = none → d = 0) (hr : Rd w X m us) (h1 : ∀ u ∈ us, u.oneCell' = true) (hn : n + m ≤ 1000000000) (hbase : B ≤ w.heap.size) (N : Nat) (hN : n + m = N)
    (h : ∀ A' c' w', Own w' 28 B A' N c' (vs ++ us) → w.grownBy w' (Value.ownBlock (.slice A n c)) → Below B w w' → K (a.put o.dst (.slice A' N c')) w') :
    if Region.wanted o (yielded ops a.tmps) = true then Oper.wp Tryz.prog o a w K Q else E := by
  have hw : Region.wanted o (yielded ops a.tmps) = true := by simp [Region.wanted, hgd]
  rw [if_pos hw]
  subst hN
  exact wp_appAll w s x 75 ho 28 (.slice none 0 0) 24 Tryz.underlying75 info_ints rfl (by decide) B A n c vs hs hown X m d us hx hX hr h1 hn hbase h
theorem stepRowN (w : World) {ops : Array Oper} {o : Oper} {a : Act} {K : Act → World → Prop} {Q : Exit → Act → World → Prop} {E : Prop} (hgd : o.guard = none) (s x : Operand)
    (ho : o.op = .call { callee := .builtin .append, args := #[s, x], argTypes := #[75, 75] })
    (B : Nat) (A : Option Addr) (n c : Nat) (vs : List Value) (hs : a.eval s = .slice A n c) (hown : Own w 28 B A n c vs)
    (g : Nat) (y : Option Addr) (m d : Nat) (hx : a.eval x = .slice (some ⟨g, 0, none⟩) 1 1) (hy : w.cell? ⟨g, 0, none⟩ = some (.slice y m d)) (hn : n ≤ 1000000000) (hbase' : B ≤ g)
    (h : ∀ A' c' w', Own w' 28 B A' (n + 1) c' (vs ++ [.slice y m d]) → w.grownBy w' (Value.ownBlock (.slice A n c)) → Below B w w' → K (a.put o.dst (.slice A' (n + 1) c')) w') :
    if Region.wanted o (yielded ops a.tmps) = true then Oper.wp Tryz.prog o a w K Q else E :=
  step_app1 w hgd s x 75 ho 28 (.slice none 0 0) 24 Tryz.underlying75 info_ints rfl (by decide) B A n c vs hs hown g _ hx hy rfl hn hbase' h
theorem Rd.none_' {w : World} {A : Option Addr} : Rd w A 0 [] := ⟨rfl, fun h => absurd h (by omega)⟩
theorem Rd.backV {w : World} {b n k : Nat} {vs : List Value} (h : Rd w (some ⟨b, 0, none⟩) n vs) (hk : k ≤ n) : Rd w (some ⟨b, k, none⟩) (n - k) (vs.drop k) := by
  have hl := h.len
  refine ⟨by rw [List.length_drop]; omega, fun hn => ?_⟩
  obtain ⟨b', off', e, hc⟩ := h.2 (by omega)
  cases e
  refine ⟨b, k, rfl, fun j u hu => ?_⟩
  rw [List.getElem?_drop] at hu
  have := hc (k + j) u hu
  rwa [Nat.zero_add] at this
theorem putK_le (l : List (List Int)) (x : List Int) : ∀ k, putK l x k ≤ k
  | 0 => Nat.le_refl _
  | k + 1 => by
    have := putK_le l x k
    rw [putK]
    split <;> omega
theorem putD_len (l : List (List Int)) (x : List Int) : (putD l x).length = l.length + 1 := by
  have := putK_le l x l.length
  unfold putD
  rw [List.length_append, List.length_cons, List.length_take, List.length_drop]
  omega

set_option maxRecDepth 20000 in
set_option maxHeartbeats 4000000 in
theorem l7Put_any (b n c : Nat) (vs : List Value) (xss : List (List Int)) (Ax : Option Addr) (cx : Nat) (x : List Int) (w : World) (h : R2 w (some ⟨b, 0, none⟩) n vs xss) (hnc : n ≤ c) (hx : Rd w Ax 2 (iv x)) (h2 : ∀ r ∈ xss, r.length = 2) (hn : n ≤ 100) :
    Calls Tryz.prog 122 #[.slice (some ⟨b, 0, none⟩) n c, .slice Ax 2 cx] w (RetDg w (putD xss x)) := by
  unfold RetDg
  have hl := h.n_eq
  have HR := Lib.hid h
  have HX := Lib.hid hx
  have H2 := Lib.hid h2
  have HL := Lib.hid hl
  clear h hx h2 hl
  go_enter Tryz.func122, Tryz.ntmps122
  go_wp2_with fail
  go_loopw [5] (fun kv wr => ∃ k q : Nat, k ≤ n ∧ kv = .int .i64 k ∧ Hid (putK xss x k = putK xss x n) ∧ wr = w.drewN q) (fun kv _ => (intOf kv).toNat)
  case atStart => exact ⟨n, 0, Nat.le_refl _, rfl, Lib.hid rfl, rfl⟩
  case round =>
    obtain ⟨k, q, hk, rfl, HK, hq⟩ := hrel
    by_cases h0 : k = 0
    · have hbW : Below w.heap.size w wr := by rw [hq]; exact below_drewN' (Below.refl _ _) q
      have HF := Lib.hid (show putD xss x = xss.take 0 ++ [x] ++ xss.drop 0 by unfold putD; rw [← HL.out, ← HK.out, h0, putK]; simp)
      have RD := Lib.hid (show Rd w (some ⟨b, 0, none⟩) n (vs.drop 0) from HR.out.rd)
      clear hq
      obtain rfl : k = 0 := h0
      have hsW := hbW.size
      have hba : Below w.heap.size w (wr.alloc (.cells #[] 28)).drew := (hbW.alloc hsW _).drew
      have hbb : Below w.heap.size w ((wr.alloc (.cells #[] 28)).alloc (.cells #[Value.slice Ax 2 cx] 28)).drew := ((hbW.alloc hsW _).alloc (by simp; omega) _).drew
      have hbc : Below w.heap.size w ((wr.alloc (.cells #[Value.slice Ax 2 cx] 28)).alloc (.cells #[] 28)).drew := ((hbW.alloc hsW _).alloc (by simp; omega) _).drew
      have OA := Lib.hid (show Own (wr.alloc (.cells #[] 28)).drew 28 w.heap.size (some ⟨wr.heap.size, 0, none⟩) 0 0 [] from (Own.lit wr 28 #[] 0 rfl (by decide)).mono hsW)
      have OB := Lib.hid (show Own ((wr.alloc (.cells #[] 28)).alloc (.cells #[Value.slice Ax 2 cx] 28)).drew 28 w.heap.size (some ⟨wr.heap.size, 0, none⟩) 0 0 [] from OA.out.alloc _)
      have OC := Lib.hid (show Own ((wr.alloc (.cells #[Value.slice Ax 2 cx] 28)).alloc (.cells #[] 28)).drew 28 w.heap.size (some ⟨wr.heap.size + 1, 0, none⟩) 0 0 [] by rw [show wr.heap.size + 1 = (wr.alloc (.cells #[Value.slice Ax 2 cx] 28)).heap.size by simp]; exact (Own.lit (wr.alloc (.cells #[Value.slice Ax 2 cx] 28)) 28 #[] 0 rfl (by decide)).mono (by simp; omega))
      have BB := Lib.hid (show ((wr.alloc (.cells #[] 28)).alloc (.cells #[Value.slice Ax 2 cx] 28)).drew.cell? ⟨wr.heap.size + 1, 0, none⟩ = some (.slice Ax 2 cx) by simp)
      have BC := Lib.hid (show ((wr.alloc (.cells #[Value.slice Ax 2 cx] 28)).alloc (.cells #[] 28)).drew.cell? ⟨wr.heap.size, 0, none⟩ = some (.slice Ax 2 cx) by simp)
      have RF := Lib.hid (HR.out.rd.frontV hk)
      have RO := Lib.hid (HR.out.rows.one_)
      have i6 : (0 : Int) ≤ (0 : Int) := by omega
      have i7 : (0 : Int) ≤ (c : Int) := by omega
      have i8 : (0 : Int) ≤ (n : Int) := by omega
      go_wp2_with fail
      go_region_held3 (fun w' => True) (first | trivial)
        (first
          | (refine stepAllN (o := ⟨some 25, _, _, _, _, _⟩) _ (by rfl) _ _ (by rfl) w.heap.size _ 0 0 [] (by rfl) (by first | exact OA.out | exact OB.out | exact OC.out) (some ⟨b, 0, none⟩) 0 c (vs.take 0) (by rfl) (by simp) (by first | exact RF.out.below' hba (Nat.le_refl _) | exact RF.out.below' hbb (Nat.le_refl _) | exact RF.out.below' hbc (Nat.le_refl _)) (by exact fun u hu => RO.out u (List.mem_of_mem_take hu)) (by omega) (by simp; omega) 0 (by omega) ?_; intro A1 c1 w2 ho1 hg1 hb1; rw [List.nil_append] at ho1; (first | (have hb2 := hba.trans hb1; have hs2 := hb2.size) | (have hb2 := hbb.trans hb1; have hs2 := hb2.size; have hbox := (hg1.cell_far ⟨wr.heap.size + 1, 0, none⟩ (by simp) (by simp [Value.ownBlock])).trans BB.out) | (have hb2 := hbc.trans hb1; have hs2 := hb2.size; have hbox := (hg1.cell_far ⟨wr.heap.size, 0, none⟩ (by simp; omega) (by simp [Value.ownBlock])).trans BC.out)))
          | (refine stepRowN (o := ⟨some 28, _, _, _, _, _⟩) _ (by rfl) _ _ (by rfl) w.heap.size A1 0 c1 (vs.take 0) (by rfl) (by first | exact ho1 | exact ho1.alloc _) _ Ax 2 cx (by rfl) (by first | exact hbox | simp) (by omega) (by first | omega | (simp; omega)) ?_; intro A2 c2 w3 ho2 hg2 hb2'; (first | (have hb3 := hb2.trans hb2') | (have hb3 := (hb2.alloc hs2 _).trans hb2')))
          | (refine stepAllN (o := ⟨some 32, _, _, _, _, _⟩) _ (by rfl) _ _ (by rfl) w.heap.size A2 (0 + 1) c2 _ (by rfl) ho2 (some ⟨b, 0, none⟩) n c (vs.drop 0) (by rfl) (by simp) (by exact RD.out.below' hb3 (Nat.le_refl _)) (by exact fun u hu => RO.out u (List.mem_of_mem_drop hu)) (by omega) (by exact hb3.size) (n + 1) (by omega) ?_; intro A3 c3 w4 ho3 hg3 hb3'))
      all_goals
        have hb4 := hb3.trans hb3'
        obtain ⟨g, hA3, -, -⟩ := ho3.head (by omega)
        subst hA3
        obtain ⟨N, hN⟩ : ∃ N, N = n + 1 := ⟨_, rfl⟩
        rw [← hN] at ho3 ⊢
        have O4 := Lib.hid ho3
        have HN := Lib.hid hN
        clear ho3 hN hg3 hb3' hb3 ho2 hg2 hb2' ho1 hb1 hba hbb hbc
        go_wp2_with fail
        go_ret
        rw [HF.out]
        refine ⟨g, N, c3, _, ?_, (own_capT2 O4.out).1, (own_capT2 O4.out).2, rfl, ⟨O4.out.rd, (((HR.out.rows.take 0).app (Rows.one HX.out)).app (HR.out.rows.drop 0)).below' hb4 (Nat.le_refl _)⟩, hb4⟩
        rw [List.length_append, List.length_append, List.length_take, List.length_drop, HN.out, ← HL.out]
        simp only [List.length_cons, List.length_nil]
        omega
    have k1 : 0 < k := by omega
    obtain ⟨r, hr⟩ : ∃ r, xss[k - 1]? = some r := ⟨_, List.getElem?_eq_getElem (by have := HL.out; omega)⟩
    have hrl := H2.out r (List.mem_of_getElem? hr)
    obtain ⟨b', off', Aj, cj, hA, hc, hrd⟩ := HR.out.at_ hr
    cases hA
    rw [hrl] at hc hrd
    have HRD := Lib.hid hrd
    have hkd : xss.getD (k - 1) [] = r := by rw [List.getD_eq_getElem?_getD, hr]; rfl
    have i1 : (0 : Int) < (k : Int) := by omega
    have i2 : (0 : Int) ≤ (k : Int) - 1 := by omega
    have i3 : (k : Int) - 1 < (n : Int) := by omega
    have i4 : ((k : Int) - 1).toNat = k - 1 := by omega
    have i5 : IntKind.i64.wrap ((k : Int) - 1) = (k : Int) - 1 := IntWalk.i64_in _ (by omega)
    rw [Nat.zero_add] at hc
    rcases hbf : befD x r with _ | _
    · have HB := Lib.hid hbf
      have HF := Lib.hid (show putD xss x = xss.take k ++ [x] ++ xss.drop k by
        unfold putD
        rw [← HL.out, ← HK.out]
        obtain ⟨j, rfl⟩ : ∃ j, k = j + 1 := ⟨k - 1, by omega⟩
        rw [Nat.add_sub_cancel] at hkd
        rw [putK, hkd, hbf, if_neg (by decide)]
        simp)
      obtain ⟨W, hW⟩ : ∃ W, W = wr := ⟨wr, rfl⟩
      have hbR : Below w.heap.size w wr := by rw [hq]; exact below_drewN' (Below.refl _ _) q
      have HXR := Lib.hid (show Rd wr Ax 2 (iv x) by rw [hq]; exact HX.out.drewN q)
      have HRR := Lib.hid (show Rd wr Aj 2 (iv r) by rw [hq]; exact HRD.out.drewN q)
      have hcR : wr.cell? ⟨b, k - 1, none⟩ = some (.slice Aj 2 cj) := by rw [hq]; exact hc
      clear hr hrl hrd hkd hbf h0 hW W hq hc
      rcases Nat.lt_or_ge k c with hck | hck
      · have RD := Lib.hid (show Rd w (some ⟨b, k, none⟩) (n - k) (vs.drop k) from HR.out.rd.backV hk)
        have kc : ¬ c = k := by omega
        have kc2 : ¬ k = c := by omega
        go_wp2_with fail
        refine (l7Before_any _ _ _ _ _ _ _ _ HXR.out HRR.out HB.out).mono ?_
        rintro e W ⟨rfl, q', hW⟩
        have hbW : Below w.heap.size w W := by rw [hW]; exact below_drewN' hbR q'
        clear hW hcR hbR
        have hsW := hbW.size
        have hba : Below w.heap.size w (W.alloc (.cells #[] 28)).drew := (hbW.alloc hsW _).drew
        have hbb : Below w.heap.size w ((W.alloc (.cells #[] 28)).alloc (.cells #[Value.slice Ax 2 cx] 28)).drew := ((hbW.alloc hsW _).alloc (by simp; omega) _).drew
        have hbc : Below w.heap.size w ((W.alloc (.cells #[Value.slice Ax 2 cx] 28)).alloc (.cells #[] 28)).drew := ((hbW.alloc hsW _).alloc (by simp; omega) _).drew
        have OA := Lib.hid (show Own (W.alloc (.cells #[] 28)).drew 28 w.heap.size (some ⟨W.heap.size, 0, none⟩) 0 0 [] from (Own.lit W 28 #[] 0 rfl (by decide)).mono hsW)
        have OB := Lib.hid (show Own ((W.alloc (.cells #[] 28)).alloc (.cells #[Value.slice Ax 2 cx] 28)).drew 28 w.heap.size (some ⟨W.heap.size, 0, none⟩) 0 0 [] from OA.out.alloc _)
        have OC := Lib.hid (show Own ((W.alloc (.cells #[Value.slice Ax 2 cx] 28)).alloc (.cells #[] 28)).drew 28 w.heap.size (some ⟨W.heap.size + 1, 0, none⟩) 0 0 [] by rw [show W.heap.size + 1 = (W.alloc (.cells #[Value.slice Ax 2 cx] 28)).heap.size by simp]; exact (Own.lit (W.alloc (.cells #[Value.slice Ax 2 cx] 28)) 28 #[] 0 rfl (by decide)).mono (by simp; omega))
        have BB := Lib.hid (show ((W.alloc (.cells #[] 28)).alloc (.cells #[Value.slice Ax 2 cx] 28)).drew.cell? ⟨W.heap.size + 1, 0, none⟩ = some (.slice Ax 2 cx) by simp)
        have BC := Lib.hid (show ((W.alloc (.cells #[Value.slice Ax 2 cx] 28)).alloc (.cells #[] 28)).drew.cell? ⟨W.heap.size, 0, none⟩ = some (.slice Ax 2 cx) by simp)
        have RF := Lib.hid (HR.out.rd.frontV hk)
        have RO := Lib.hid (HR.out.rows.one_)
        have i6 : (0 : Int) ≤ (k : Int) := by omega
        have i7 : (k : Int) ≤ (c : Int) := by omega
        have i8 : (k : Int) ≤ (n : Int) := by omega
        go_wp2_with fail
        go_region_held3 (fun w' => True) (first | trivial)
          (first
            | (refine stepAllN (o := ⟨some 25, _, _, _, _, _⟩) _ (by rfl) _ _ (by rfl) w.heap.size _ 0 0 [] (by rfl) (by first | exact OA.out | exact OB.out | exact OC.out) (some ⟨b, 0, none⟩) k c (vs.take k) (by rfl) (by simp) (by first | exact RF.out.below' hba (Nat.le_refl _) | exact RF.out.below' hbb (Nat.le_refl _) | exact RF.out.below' hbc (Nat.le_refl _)) (by exact fun u hu => RO.out u (List.mem_of_mem_take hu)) (by omega) (by simp; omega) k (by omega) ?_; intro A1 c1 w2 ho1 hg1 hb1; rw [List.nil_append] at ho1; (first | (have hb2 := hba.trans hb1; have hs2 := hb2.size) | (have hb2 := hbb.trans hb1; have hs2 := hb2.size; have hbox := (hg1.cell_far ⟨W.heap.size + 1, 0, none⟩ (by simp) (by simp [Value.ownBlock])).trans BB.out) | (have hb2 := hbc.trans hb1; have hs2 := hb2.size; have hbox := (hg1.cell_far ⟨W.heap.size, 0, none⟩ (by simp; omega) (by simp [Value.ownBlock])).trans BC.out)))
            | (refine stepRowN (o := ⟨some 28, _, _, _, _, _⟩) _ (by rfl) _ _ (by rfl) w.heap.size A1 k c1 (vs.take k) (by rfl) (by first | exact ho1 | exact ho1.alloc _) _ Ax 2 cx (by rfl) (by first | exact hbox | simp) (by omega) (by first | omega | (simp; omega)) ?_; intro A2 c2 w3 ho2 hg2 hb2'; (first | (have hb3 := hb2.trans hb2') | (have hb3 := (hb2.alloc hs2 _).trans hb2')))
            | (refine stepAllN (o := ⟨some 32, _, _, _, _, _⟩) _ (by rfl) _ _ (by rfl) w.heap.size A2 (k + 1) c2 _ (by rfl) ho2 (some ⟨b, k, none⟩) (n - k) (c - k) (vs.drop k) (by rfl) (by simp) (by exact RD.out.below' hb3 (Nat.le_refl _)) (by exact fun u hu => RO.out u (List.mem_of_mem_drop hu)) (by omega) (by exact hb3.size) (n + 1) (by omega) ?_; intro A3 c3 w4 ho3 hg3 hb3'))
        all_goals
          have hb4 := hb3.trans hb3'
          obtain ⟨g, hA3, -, -⟩ := ho3.head (by omega)
          subst hA3
          obtain ⟨N, hN⟩ : ∃ N, N = n + 1 := ⟨_, rfl⟩
          rw [← hN] at ho3 ⊢
          have O4 := Lib.hid ho3
          have HN := Lib.hid hN
          clear ho3 hN hg3 hb3' hb3 ho2 hg2 hb2' ho1 hb1 hba hbb hbc
          go_wp2_with fail
          go_ret
          rw [HF.out]
          refine ⟨g, N, c3, _, ?_, (own_capT2 O4.out).1, (own_capT2 O4.out).2, rfl, ⟨O4.out.rd, (((HR.out.rows.take k).app (Rows.one HX.out)).app (HR.out.rows.drop k)).below' hb4 (Nat.le_refl _)⟩, hb4⟩
          rw [List.length_append, List.length_append, List.length_take, List.length_drop, HN.out, ← HL.out]
          simp only [List.length_cons, List.length_nil]
          omega
      · obtain rfl : k = n := by omega
        obtain rfl : k = c := by omega
        have RD := Lib.hid (show Rd w (some ⟨b, 0, none⟩) 0 (vs.drop k) by
          rw [List.drop_eq_nil_of_le (by have := HR.out.rd.len; omega)]
          exact Rd.none_')
        go_wp2_with fail
        refine (l7Before_any _ _ _ _ _ _ _ _ HXR.out HRR.out HB.out).mono ?_
        rintro e W ⟨rfl, q', hW⟩
        have hbW : Below w.heap.size w W := by rw [hW]; exact below_drewN' hbR q'
        clear hW hcR hbR
        have hsW := hbW.size
        have hba : Below w.heap.size w (W.alloc (.cells #[] 28)).drew := (hbW.alloc hsW _).drew
        have hbb : Below w.heap.size w ((W.alloc (.cells #[] 28)).alloc (.cells #[Value.slice Ax 2 cx] 28)).drew := ((hbW.alloc hsW _).alloc (by simp; omega) _).drew
        have hbc : Below w.heap.size w ((W.alloc (.cells #[Value.slice Ax 2 cx] 28)).alloc (.cells #[] 28)).drew := ((hbW.alloc hsW _).alloc (by simp; omega) _).drew
        have OA := Lib.hid (show Own (W.alloc (.cells #[] 28)).drew 28 w.heap.size (some ⟨W.heap.size, 0, none⟩) 0 0 [] from (Own.lit W 28 #[] 0 rfl (by decide)).mono hsW)
        have OB := Lib.hid (show Own ((W.alloc (.cells #[] 28)).alloc (.cells #[Value.slice Ax 2 cx] 28)).drew 28 w.heap.size (some ⟨W.heap.size, 0, none⟩) 0 0 [] from OA.out.alloc _)
        have OC := Lib.hid (show Own ((W.alloc (.cells #[Value.slice Ax 2 cx] 28)).alloc (.cells #[] 28)).drew 28 w.heap.size (some ⟨W.heap.size + 1, 0, none⟩) 0 0 [] by rw [show W.heap.size + 1 = (W.alloc (.cells #[Value.slice Ax 2 cx] 28)).heap.size by simp]; exact (Own.lit (W.alloc (.cells #[Value.slice Ax 2 cx] 28)) 28 #[] 0 rfl (by decide)).mono (by simp; omega))
        have BB := Lib.hid (show ((W.alloc (.cells #[] 28)).alloc (.cells #[Value.slice Ax 2 cx] 28)).drew.cell? ⟨W.heap.size + 1, 0, none⟩ = some (.slice Ax 2 cx) by simp)
        have BC := Lib.hid (show ((W.alloc (.cells #[Value.slice Ax 2 cx] 28)).alloc (.cells #[] 28)).drew.cell? ⟨W.heap.size, 0, none⟩ = some (.slice Ax 2 cx) by simp)
        have RF := Lib.hid (HR.out.rd.frontV hk)
        have RO := Lib.hid (HR.out.rows.one_)
        have i6 : (0 : Int) ≤ (k : Int) := by omega
        have i7 : k ≤ k := by omega
        have i8 : (k : Int) ≤ (k : Int) := by omega
        go_wp2_with fail
        go_region_held3 (fun w' => True) (first | trivial)
          (first
            | (refine stepAllN (o := ⟨some 25, _, _, _, _, _⟩) _ (by rfl) _ _ (by rfl) w.heap.size _ 0 0 [] (by rfl) (by first | exact OA.out | exact OB.out | exact OC.out) (some ⟨b, 0, none⟩) k k (vs.take k) (by rfl) (by simp) (by first | exact RF.out.below' hba (Nat.le_refl _) | exact RF.out.below' hbb (Nat.le_refl _) | exact RF.out.below' hbc (Nat.le_refl _)) (by exact fun u hu => RO.out u (List.mem_of_mem_take hu)) (by omega) (by simp; omega) k (by omega) ?_; intro A1 c1 w2 ho1 hg1 hb1; rw [List.nil_append] at ho1; (first | (have hb2 := hba.trans hb1; have hs2 := hb2.size) | (have hb2 := hbb.trans hb1; have hs2 := hb2.size; have hbox := (hg1.cell_far ⟨W.heap.size + 1, 0, none⟩ (by simp) (by simp [Value.ownBlock])).trans BB.out) | (have hb2 := hbc.trans hb1; have hs2 := hb2.size; have hbox := (hg1.cell_far ⟨W.heap.size, 0, none⟩ (by simp; omega) (by simp [Value.ownBlock])).trans BC.out)))
            | (refine stepRowN (o := ⟨some 28, _, _, _, _, _⟩) _ (by rfl) _ _ (by rfl) w.heap.size A1 k c1 (vs.take k) (by rfl) (by first | exact ho1 | exact ho1.alloc _) _ Ax 2 cx (by rfl) (by first | exact hbox | simp) (by omega) (by first | omega | (simp; omega)) ?_; intro A2 c2 w3 ho2 hg2 hb2'; (first | (have hb3 := hb2.trans hb2') | (have hb3 := (hb2.alloc hs2 _).trans hb2')))
            | (refine stepAllN (o := ⟨some 32, _, _, _, _, _⟩) _ (by rfl) _ _ (by rfl) w.heap.size A2 (k + 1) c2 _ (by rfl) ho2 (some ⟨b, 0, none⟩) 0 0 (vs.drop k) (by rfl) (by simp) (by exact RD.out.below' hb3 (Nat.le_refl _)) (by exact fun u hu => RO.out u (List.mem_of_mem_drop hu)) (by omega) (by exact hb3.size) (k + 1) (by omega) ?_; intro A3 c3 w4 ho3 hg3 hb3'))
        all_goals
          have hb4 := hb3.trans hb3'
          obtain ⟨g, hA3, -, -⟩ := ho3.head (by omega)
          subst hA3
          obtain ⟨N, hN⟩ : ∃ N, N = k + 1 := ⟨_, rfl⟩
          rw [← hN] at ho3 ⊢
          have O4 := Lib.hid ho3
          have HN := Lib.hid hN
          clear ho3 hN hg3 hb3' hb3 ho2 hg2 hb2' ho1 hb1 hba hbb hbc
          go_wp2_with fail
          go_ret
          rw [HF.out]
          refine ⟨g, N, c3, _, ?_, (own_capT2 O4.out).1, (own_capT2 O4.out).2, rfl, ⟨O4.out.rd, (((HR.out.rows.take k).app (Rows.one HX.out)).app (HR.out.rows.drop k)).below' hb4 (Nat.le_refl _)⟩, hb4⟩
          rw [List.length_append, List.length_append, List.length_take, List.length_drop, HN.out, ← HL.out]
          simp only [List.length_cons, List.length_nil]
          omega
    · have HB := Lib.hid hbf
      have HS := Lib.hid (show putK xss x (k - 1) = putK xss x n by
        rw [← HK.out]
        obtain ⟨j, rfl⟩ : ∃ j, k = j + 1 := ⟨k - 1, by omega⟩
        rw [putK, if_pos]
        · rfl
        · rw [Nat.add_sub_cancel] at hkd; rw [hkd]; exact hbf)
      subst hq
      clear hr hrl hrd hkd hbf h0
      go_wp2_with fail
      refine (l7Before_any _ _ _ _ _ _ _ _ (by exact HX.out) (by exact HRD.out) HB.out).mono ?_
      rintro e w' ⟨rfl, q', rfl⟩
      go_wp2_with fail
      go_roundw
      case rel => exact ⟨k - 1, _, by omega, by go_num, HS, rfl⟩
      case measure => simp [intOf]; omega

end Go.Proofs.YtghfhkbncjgaeaaGreat
