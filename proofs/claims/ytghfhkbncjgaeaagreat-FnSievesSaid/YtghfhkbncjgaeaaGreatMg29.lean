/- Merged: CutS. -/
import Derived.Test.YtghfhkbncjgaeaaGreatMg27
import Derived.Test.YtghfhkbncjgaeaaGreatMg28

namespace Go.Proofs.YtghfhkbncjgaeaaGreat
set_option linter.unusedVariables false
open Go.RowKit Go.Deep

theorem putD_two {xss : List (List Int)} {x : List Int} (h : ∀ r ∈ xss, r.length = 2) (hx : x.length = 2) : ∀ r ∈ putD xss x, r.length = 2 := by
  intro r hr
  unfold putD at hr
  rw [List.mem_append, List.mem_cons] at hr
  rcases hr with hr | rfl | hr
  · exact h r (List.mem_of_mem_take hr)
  · exact hx
  · exact h r (List.mem_of_mem_drop hr)
theorem cutD_two (t : Tr) : ∀ (n f te : Nat) (xss : List (List Int)), (∀ r ∈ xss, r.length = 2) → ∀ r ∈ cutD n t f te xss, r.length = 2 := by
  induction t with
  | nil => intro n f te xss h; exact h
  | node b o a l r ihl ihr =>
    intro n f te xss h
    rw [cutD]
    refine ihr _ _ _ _ (ihl _ _ _ _ ?_)
    split
    · exact putD_two h rfl
    · exact h
theorem cutD_len (t : Tr) : ∀ (n f te : Nat) (xss : List (List Int)), (cutD n t f te xss).length ≤ xss.length + nodes t := by
  induction t with
  | nil => intro n f te xss; simp [cutD, nodes]
  | node b o a l r ihl ihr =>
    intro n f te xss
    rw [cutD]
    refine Nat.le_trans (ihr _ _ _ _) ?_
    have h1 := ihl n f (f + 1 + nodes l) (if f + 1 < te ∧ ¬ (f = 0 ∧ te + 1 = n) then putD xss [(f : Int), (te : Int)] else xss)
    have h2 : (if f + 1 < te ∧ ¬ (f = 0 ∧ te + 1 = n) then putD xss [(f : Int), (te : Int)] else xss).length ≤ xss.length + 1 := by
      split
      · rw [putD_len]; omega
      · omega
    have h3 : nodes (.node b o a l r) = nodes l + nodes r + 1 := rfl
    omega

set_option maxRecDepth 20000 in
set_option maxHeartbeats 4000000 in
theorem l7Cut_any (n : Nat) (hn : n ≤ 10) (t : Tr) : ∀ (f te : Nat) (fi ti : Int), fi = f → ti = te → ∀ (b m c : Nat) (vs : List Value) (xss : List (List Int)) (w : World), f + nodes t + 1 = te → te + 1 ≤ n → R2 w (some ⟨b, 0, none⟩) m vs xss → m ≤ c → c ≤ maxLen → (∀ r ∈ xss, r.length = 2) → m + nodes t ≤ 50 →
    Calls Tryz.prog 120 #[.string (bs (tx t)), .int .i64 fi, .int .i64 ti, .slice (some ⟨b, 0, none⟩) m c, .int .i64 n] w (RetDg w (cutD n t f te xss)) := by
  unfold RetDg
  induction t with
  | nil =>
    intro f te fi ti hfi hti b m c vs xss w hft htn h hmc hcm h2 h50
    subst hfi hti
    have HR := Lib.hid h
    have HM := Lib.hid h.n_eq
    clear h hft
    show Calls _ _ #[.string (bs [46]), _, _, _, _] _ _
    go_enter Tryz.func120, Tryz.ntmps120
    go_wp2_with fail
    go_ret
    exact ⟨b, m, c, vs, HM.out, hmc, hcm, rfl, HR.out, Below.refl _ _⟩
  | node b0 o a l r ihl ihr =>
    intro f te fi ti hfi hti b m c vs xss w hft htn h hmc hcm h2 h50
    subst hfi hti
    have hft' : f + (nodes l + nodes r + 1) + 1 = te := hft
    have h50' : m + (nodes l + nodes r + 1) ≤ 50 := h50
    have HR := Lib.hid h
    have H2 := Lib.hid h2
    obtain ⟨L, x, hL, hc⟩ := cut_of b0 o a l r
    rw [← hL]
    have HC := Lib.hid hc
    have hlen := hc.len
    have hxn := hc.xn
    have hne := hc.ne
    have hL9 : L.length ≤ 1000000000 := by omega
    have hx1 : 1 ≤ x := by omega
    have hx2 : x ≤ L.length - 1 := by omega
    have hx3 : 1 ≤ L.length := by omega
    obtain ⟨X, hX⟩ : ∃ X, X = tx l := ⟨_, rfl⟩
    obtain ⟨Y, hY⟩ : ∃ Y, Y = tx r := ⟨_, rfl⟩
    have s1 : List.take (x - 1) L.tail = X := by rw [hX, ← List.drop_one]; exact hc.left
    have s1' : List.take (x - 1) (List.drop 1 L) = X := by rw [hX]; exact hc.left
    have s2 : List.take (L.length - 1 - x) (List.drop x L) = Y := by rw [hY]; exact hc.right
    have lX := tx_len l
    rw [← hX] at lX
    have HNO := Lib.hid (show ∀ w, Calls Tryz.prog 119 #[.string (bs X)] w fun e w' => e = .returned (.int .i64 (nodes l : Int)) ∧ w = w' from fun w => by
      have := specNodesOf_any X w (by omega)
      rw [show nodesB X = (nodes l : Int) by rw [hX, nodesB_tx (by omega)]] at this
      exact this)
    rw [← hX] at ihl
    rw [← hY] at ihr
    have HIL := Lib.hid ihl
    have HIR := Lib.hid ihr
    have e1 : IntKind.i64.wrap ((L.length : Int) - 1) = (L.length : Int) - 1 := IntWalk.i64_in _ (by omega)
    have e2 : ((L.length : Int) - 1).toNat = L.length - 1 := by omega
    have b1 : (0 : Int) ≤ (L.length : Int) - 1 := by omega
    have b2 : (x : Int) ≤ (L.length : Int) - 1 := by omega
    have b3 : (L.length : Int) - 1 ≤ (L.length : Int) := by omega
    have b4 : (0 : Int) ≤ (x : Int) := by omega
    have b5 : (1 : Int) ≤ (x : Int) := by omega
    have b6 : (x : Int) ≤ (L.length : Int) := by omega
    have f1 : x < L.length := by omega
    have f2 : 0 < L.length := by omega
    have f3 : ¬ L = [] := by intro h; rw [h] at f2; simp at f2
    have f5 : (x : Int) < (L.length : Int) := by omega
    have f6 : x ≤ L.length := by omega
    have f7 : (1 : Int) ≤ (L.length : Int) := by omega
    have q1 : (1 : Int) < (te : Int) - (f : Int) := by omega
    have q2 : IntKind.i64.wrap ((te : Int) - (f : Int)) = (te : Int) - (f : Int) := IntWalk.i64_in _ (by omega)
    have q3 : IntKind.i64.wrap ((n : Int) - 1) = (n : Int) - 1 := IntWalk.i64_in _ (by omega)
    have hto : f + 1 < te := by omega
    have HCC := Lib.hid (show cutD n (.node b0 o a l r) f te xss = cutD n r (f + 1 + nodes l) te (cutD n l f (f + 1 + nodes l) (if f + 1 < te ∧ ¬ (f = 0 ∧ te + 1 = n) then putD xss [(f : Int), (te : Int)] else xss)) from rfl)
    clear h h2 hc hL ihl ihr hlen hxn hX hY hft h50 lX
    by_cases hf0 : f = 0
    · by_cases htn1 : te + 1 = n
      · have HCT := Lib.hid (show cutD n (.node b0 o a l r) f te xss = cutD n r (f + 1 + nodes l) te (cutD n l f (f + 1 + nodes l) xss) by rw [HCC.out, if_neg]; intro h; exact h.2 ⟨hf0, htn1⟩)
        have t1 : ((f : Int) == 0) = true := by rw [beq_iff_eq]; omega
        have t2 : ((te : Int) == (n : Int) - 1) = true := by rw [beq_iff_eq]; omega
        have hb0 : Below w.heap.size w w := Below.refl _ _
        have z1 : f ≤ 0 := by omega
        have z2 : n ≤ te + 1 := by omega
        clear hf0 htn1
        go_enter Tryz.func120, Tryz.ntmps120
        go_wp2_with fail
        refine (l6End_sub _ 1 x l _ _ hL9 HC.out.at1 HC.out.x_eq).mono ?_
        rintro e w' ⟨rfl, rfl⟩
        have hbs := hb0.size
        go_wp2_with fail
        refine (HNO.out _).mono ?_
        rintro e w' ⟨rfl, rfl⟩
        go_wp2_with fail
        refine (HIL.out f (f + 1 + nodes l) (f : Int) ((f : Int) + 1 + (nodes l : Int)) rfl (by omega) b m c vs xss w (by omega) (by omega) HR.out hmc (by omega) H2.out (by omega)).mono ?_
        rintro e w2 ⟨g2, m2, c2, vs2, hm2, hmc2, hcm2, rfl, hr2, hb2⟩
        have HR2 := Lib.hid hr2
        have HB2 := Lib.hid (hb0.trans (hb2.mono hbs))
        have HL2 := Lib.hid (cutD_two l n f (f + 1 + nodes l) xss H2.out)
        have hml2 : m2 = xss.length + (nodes l) ∨ m2 ≤ xss.length + nodes l := Or.inr (by rw [hm2]; exact cutD_len l n f (f + 1 + nodes l) xss)
        have hmx : m = xss.length := (HR.out).n_eq
        have hml3 : m2 + nodes r ≤ 50 := by omega
        have hs2 := HB2.out.size
        clear hr2 hb2 hm2 hml2 hmx
        go_wp2_with fail
        refine (HIR.out (f + 1 + nodes l) te ((f : Int) + 1 + (nodes l : Int)) (te : Int) (by omega) rfl g2 m2 c2 vs2 _ w2 (by omega) (by omega) HR2.out hmc2 hcm2 HL2.out hml3).mono ?_
        rintro e w3 ⟨g3, m3, c3, vs3, hm3, hmc3, hcm3, rfl, hr3, hb3⟩
        have HR3 := Lib.hid hr3
        have HM3 := Lib.hid hm3
        have hb4 := HB2.out.trans (hb3.mono hs2)
        clear hr3 hm3 hb3
        go_wp2_with fail
        go_ret
        rw [HCT.out]
        exact ⟨g3, m3, c3, vs3, HM3.out, hmc3, hcm3, rfl, HR3.out, hb4⟩
      · have HCT := Lib.hid (show cutD n (.node b0 o a l r) f te xss = cutD n r (f + 1 + nodes l) te (cutD n l f (f + 1 + nodes l) (putD xss [(f : Int), (te : Int)])) by rw [HCC.out, if_pos ⟨hto, fun h => htn1 h.2⟩])
        have t1 : ((f : Int) == 0) = true := by rw [beq_iff_eq]; omega
        have t2 : ((te : Int) == (n : Int) - 1) = false := by rw [beq_eq_false_iff_ne]; omega
        have z1 : f ≤ 0 := by omega
        clear hf0 htn1
        go_enter Tryz.func120, Tryz.ntmps120
        go_wp2_with fail
        refine (l7Put_any b m c vs xss (some ⟨w.heap.size, 0, none⟩) 2 [(f : Int), (te : Int)] _ (HR.out.alloc _) hmc (Own.lit w 3 #[.int .i64 (f : Int), .int .i64 (te : Int)] 2 rfl (by decide)).rd H2.out (by omega)).mono ?_
        rintro e w1 ⟨g1, m1, c1, vs1, hm1, hmc1, hcm1, rfl, hr1, hb1⟩
        have HR1 := Lib.hid hr1
        have hb0 : Below w.heap.size w w1 := ((Below.refl _ _).alloc (Nat.le_refl _) (.cells #[.int .i64 (f : Int), .int .i64 (te : Int)] 3)).trans (hb1.mono (by simp))
        have H21 := Lib.hid (putD_two (x := [(f : Int), (te : Int)]) H2.out rfl)
        have hm1' : m1 ≤ m + 1 := by have h1 := putD_len xss [(f : Int), (te : Int)]; have h2 := HR.out.n_eq; omega
        have hx1 : m1 = (putD xss [(f : Int), (te : Int)]).length := hm1
        clear hr1 hb1 hm1 hx1
        go_wp2_with fail
        refine (l6End_sub _ 1 x l _ _ hL9 HC.out.at1 HC.out.x_eq).mono ?_
        rintro e w' ⟨rfl, rfl⟩
        have hbs := hb0.size
        go_wp2_with fail
        refine (HNO.out _).mono ?_
        rintro e w' ⟨rfl, rfl⟩
        go_wp2_with fail
        refine (HIL.out f (f + 1 + nodes l) (f : Int) ((f : Int) + 1 + (nodes l : Int)) rfl (by omega) g1 m1 c1 vs1 (putD xss [(f : Int), (te : Int)]) w1 (by omega) (by omega) HR1.out hmc1 (by omega) H21.out (by omega)).mono ?_
        rintro e w2 ⟨g2, m2, c2, vs2, hm2, hmc2, hcm2, rfl, hr2, hb2⟩
        have HR2 := Lib.hid hr2
        have HB2 := Lib.hid (hb0.trans (hb2.mono hbs))
        have HL2 := Lib.hid (cutD_two l n f (f + 1 + nodes l) (putD xss [(f : Int), (te : Int)]) H21.out)
        have hml2 : m2 = (putD xss [(f : Int), (te : Int)]).length + (nodes l) ∨ m2 ≤ (putD xss [(f : Int), (te : Int)]).length + nodes l := Or.inr (by rw [hm2]; exact cutD_len l n f (f + 1 + nodes l) (putD xss [(f : Int), (te : Int)]))
        have hmx : m1 = (putD xss [(f : Int), (te : Int)]).length := (HR1.out).n_eq
        have hml3 : m2 + nodes r ≤ 50 := by omega
        have hs2 := HB2.out.size
        clear hr2 hb2 hm2 hml2 hmx
        go_wp2_with fail
        refine (HIR.out (f + 1 + nodes l) te ((f : Int) + 1 + (nodes l : Int)) (te : Int) (by omega) rfl g2 m2 c2 vs2 _ w2 (by omega) (by omega) HR2.out hmc2 hcm2 HL2.out hml3).mono ?_
        rintro e w3 ⟨g3, m3, c3, vs3, hm3, hmc3, hcm3, rfl, hr3, hb3⟩
        have HR3 := Lib.hid hr3
        have HM3 := Lib.hid hm3
        have hb4 := HB2.out.trans (hb3.mono hs2)
        clear hr3 hm3 hb3
        go_wp2_with fail
        go_ret
        rw [HCT.out]
        exact ⟨g3, m3, c3, vs3, HM3.out, hmc3, hcm3, rfl, HR3.out, hb4⟩
    · have HCT := Lib.hid (show cutD n (.node b0 o a l r) f te xss = cutD n r (f + 1 + nodes l) te (cutD n l f (f + 1 + nodes l) (putD xss [(f : Int), (te : Int)])) by rw [HCC.out, if_pos ⟨hto, fun h => hf0 h.1⟩])
      have t1 : ((f : Int) == 0) = false := by rw [beq_eq_false_iff_ne]; omega
      clear hf0
      go_enter Tryz.func120, Tryz.ntmps120
      go_wp2_with fail
      refine (l7Put_any b m c vs xss (some ⟨w.heap.size, 0, none⟩) 2 [(f : Int), (te : Int)] _ (HR.out.alloc _) hmc (Own.lit w 3 #[.int .i64 (f : Int), .int .i64 (te : Int)] 2 rfl (by decide)).rd H2.out (by omega)).mono ?_
      rintro e w1 ⟨g1, m1, c1, vs1, hm1, hmc1, hcm1, rfl, hr1, hb1⟩
      have HR1 := Lib.hid hr1
      have hb0 : Below w.heap.size w w1 := ((Below.refl _ _).alloc (Nat.le_refl _) (.cells #[.int .i64 (f : Int), .int .i64 (te : Int)] 3)).trans (hb1.mono (by simp))
      have H21 := Lib.hid (putD_two (x := [(f : Int), (te : Int)]) H2.out rfl)
      have hm1' : m1 ≤ m + 1 := by have h1 := putD_len xss [(f : Int), (te : Int)]; have h2 := HR.out.n_eq; omega
      have hx1 : m1 = (putD xss [(f : Int), (te : Int)]).length := hm1
      clear hr1 hb1 hm1 hx1
      go_wp2_with fail
      refine (l6End_sub _ 1 x l _ _ hL9 HC.out.at1 HC.out.x_eq).mono ?_
      rintro e w' ⟨rfl, rfl⟩
      have hbs := hb0.size
      go_wp2_with fail
      refine (HNO.out _).mono ?_
      rintro e w' ⟨rfl, rfl⟩
      go_wp2_with fail
      refine (HIL.out f (f + 1 + nodes l) (f : Int) ((f : Int) + 1 + (nodes l : Int)) rfl (by omega) g1 m1 c1 vs1 (putD xss [(f : Int), (te : Int)]) w1 (by omega) (by omega) HR1.out hmc1 (by omega) H21.out (by omega)).mono ?_
      rintro e w2 ⟨g2, m2, c2, vs2, hm2, hmc2, hcm2, rfl, hr2, hb2⟩
      have HR2 := Lib.hid hr2
      have HB2 := Lib.hid (hb0.trans (hb2.mono hbs))
      have HL2 := Lib.hid (cutD_two l n f (f + 1 + nodes l) (putD xss [(f : Int), (te : Int)]) H21.out)
      have hml2 : m2 = (putD xss [(f : Int), (te : Int)]).length + (nodes l) ∨ m2 ≤ (putD xss [(f : Int), (te : Int)]).length + nodes l := Or.inr (by rw [hm2]; exact cutD_len l n f (f + 1 + nodes l) (putD xss [(f : Int), (te : Int)]))
      have hmx : m1 = (putD xss [(f : Int), (te : Int)]).length := (HR1.out).n_eq
      have hml3 : m2 + nodes r ≤ 50 := by omega
      have hs2 := HB2.out.size
      clear hr2 hb2 hm2 hml2 hmx
      go_wp2_with fail
      refine (HIR.out (f + 1 + nodes l) te ((f : Int) + 1 + (nodes l : Int)) (te : Int) (by omega) rfl g2 m2 c2 vs2 _ w2 (by omega) (by omega) HR2.out hmc2 hcm2 HL2.out hml3).mono ?_
      rintro e w3 ⟨g3, m3, c3, vs3, hm3, hmc3, hcm3, rfl, hr3, hb3⟩
      have HR3 := Lib.hid hr3
      have HM3 := Lib.hid hm3
      have hb4 := HB2.out.trans (hb3.mono hs2)
      clear hr3 hm3 hb3
      go_wp2_with fail
      go_ret
      rw [HCT.out]
      exact ⟨g3, m3, c3, vs3, HM3.out, hmc3, hcm3, rfl, HR3.out, hb4⟩

set_option maxHeartbeats 1000000 in
theorem specTriangulationOf_any (t : Tr) (w : World) (h : nodes t ≤ 8) :
    Calls Tryz.prog 79 #[.string (bs (tx t))] w (RetDgB w (specD t) true) := by
  unfold RetDgB
  have hl := tx_len t
  have HB := Lib.hid (isB_tx h)
  have HN := Lib.hid (nodesB_tx h)
  have HC := Lib.hid (fun (m : Int) (w' : World) (hm : m = ((nodes t + 2 : Nat) : Int)) (hw : ∃ o, w' = w.alloc o ∧ o = .cells #[] 28) => show Calls Tryz.prog 120 #[.string (bs (tx t)), .int .i64 0, .int .i64 (m - 1), .slice (some ⟨w.heap.size, 0, none⟩) 0 0, .int .i64 m] w' (RetDg w' (specD t)) by
    obtain ⟨o, rfl, rfl⟩ := hw
    subst hm
    exact l7Cut_any (nodes t + 2) (by omega) t 0 (nodes t + 1) 0 _ rfl (by omega) w.heap.size 0 0 [] [] _ (by omega) (by omega) (O2.empty w).r2 (Nat.le_refl _) (by decide) (fun r hr => by cases hr) (by omega))
  obtain ⟨L, hL⟩ : ∃ L, L = tx t := ⟨_, rfl⟩
  rw [← hL] at HB HN hl HC ⊢
  have hL9 : L.length ≤ 1000000000 := by omega
  obtain ⟨D, hD⟩ : ∃ D, D = specD t := ⟨_, rfl⟩
  rw [← hD] at HC ⊢
  clear hL hD hl
  go_enter Tryz.func79, Tryz.ntmps79
  go_wp2_with fail
  refine (specIsBinary_any _ _ hL9).mono ?_
  rintro e w' ⟨rfl, rfl⟩
  rw [HB.out]
  go_wp2_with fail
  refine (specNodesOf_any _ _ hL9).mono ?_
  rintro e w' ⟨rfl, rfl⟩
  rw [HN.out]
  go_wp2_with fail
  refine (HC.out _ _ (by omega) ⟨_, rfl, rfl⟩).mono ?_
  rintro e w1 ⟨g1, m1, c1, vs1, hm1, hmc1, hcm1, rfl, hr1, hb1⟩
  have HR1 := Lib.hid hr1
  have HM1 := Lib.hid hm1
  have hb2 : Below w.heap.size w w1 := ((Below.refl _ _).alloc (Nat.le_refl _) (.cells #[] 28)).trans (hb1.mono (by simp))
  clear hr1 hm1 hb1
  go_wp2_with fail
  go_ret2
  exact ⟨g1, m1, c1, vs1, HM1.out, hmc1, hcm1, rfl, HR1.out, hb2⟩

end Go.Proofs.YtghfhkbncjgaeaaGreat
