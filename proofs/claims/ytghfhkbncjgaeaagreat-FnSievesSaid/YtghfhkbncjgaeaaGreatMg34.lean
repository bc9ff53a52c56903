/- Merged: SortS. -/
import Derived.Test.YtghfhkbncjgaeaaGreatMg33

namespace Go.Proofs.YtghfhkbncjgaeaaGreat
set_option linter.unusedVariables false
open Go.RowKit

/-- An element on its way to the left: j of the sorted ones stand before it. -/
def stX {α : Type} (S : List α) (x : α) (R : List α) (j : Nat) : List α := S.take j ++ x :: (S.drop j ++ R)
theorem stX_x {α : Type} {S : List α} {x : α} {R : List α} {j : Nat} (h : j ≤ S.length) : (stX S x R j)[j]? = some x := by
  unfold stX
  rw [List.getElem?_append_right (by rw [List.length_take]; omega), List.length_take, Nat.min_eq_left h, Nat.sub_self]; rfl
theorem stX_y {α : Type} {S : List α} {x y : α} {R : List α} {j : Nat} (h : S[j]? = some y) : (stX S x R (j + 1))[j]? = some y := by
  have hj := (List.getElem?_eq_some_iff.1 h).1
  unfold stX
  rw [List.getElem?_append_left (by rw [List.length_take]; omega), List.getElem?_take, if_pos (by omega), h]
theorem stX_swap {α : Type} {S : List α} {x y : α} {R : List α} {j : Nat} (h : S[j]? = some y) : ((stX S x R (j + 1)).set (j + 1) y).set j x = stX S x R j := by
  obtain ⟨hj, hy⟩ := List.getElem?_eq_some_iff.1 h
  unfold stX
  rw [List.take_succ_eq_append_getElem hj, hy, List.drop_eq_getElem_cons hj, hy]
  have hl : (S.take j).length = j := by rw [List.length_take]; omega
  rw [List.append_assoc, List.set_append_right _ _ (by omega), hl, List.set_append_right _ _ (by omega), hl]
  have e1 : j + 1 - j = 1 := by omega
  rw [e1, Nat.sub_self]
  rfl
theorem stX_len {α : Type} {S : List α} {x : α} {R : List α} {j : Nat} (h : j ≤ S.length) : (stX S x R j).length = S.length + 1 + R.length := by
  unfold stX; simp; omega
theorem stX_put {S : List (List Int)} {x : List Int} {R : List (List Int)} {j : Nat} (h : putK S x j = putK S x S.length) (hj : putK S x j = j) : stX S x R j = putD S x ++ R := by
  unfold stX putD
  rw [← h, hj, List.append_assoc]; rfl
theorem set2_at {α : Type} {l : List α} {a b k : Nat} {x y : α} (ha : a < l.length) (hb : b < l.length) (hab : a ≠ b) : ((l.set a y).set b x)[k]? = if k = b then some x else if k = a then some y else l[k]? := by
  rw [List.getElem?_set]
  by_cases h1 : b = k
  · rw [if_pos h1, if_pos (by simpa using hb), if_pos h1.symm]
  · rw [if_neg h1, if_neg (fun h => h1 h.symm), List.getElem?_set]
    by_cases h2 : a = k
    · rw [if_pos h2, if_pos ha, if_pos h2.symm]
    · rw [if_neg h2, if_neg (fun h => h2 h.symm)]
theorem O2.swap {w : World} {lo g n c : Nat} {vs : List Value} {xss : List (List Int)} {a b : Nat} {u v : Value} {x y : List Int} (h : O2 w lo (some ⟨g, 0, none⟩) n c vs xss) (hab : a ≠ b) (hu : vs[a]? = some u) (hv : vs[b]? = some v) (hx : xss[a]? = some x) (hy : xss[b]? = some y) :
    O2 ((w.setCell ⟨g, a, none⟩ v).setCell ⟨g, b, none⟩ u) lo (some ⟨g, 0, none⟩) n c ((vs.set a v).set b u) ((xss.set a y).set b x) := by
  have la := (List.getElem?_eq_some_iff.1 hu).1
  have lb := (List.getElem?_eq_some_iff.1 hv).1
  have la' := (List.getElem?_eq_some_iff.1 hx).1
  have lb' := (List.getElem?_eq_some_iff.1 hy).1
  have kp : ∀ {Aj : Option Addr} {m cj : Nat} {zs : List Int}, Own w 3 lo Aj m cj (iv zs) → Own ((w.setCell ⟨g, a, none⟩ v).setCell ⟨g, b, none⟩ u) 3 lo Aj m cj (iv zs) := by
    intro Aj m cj zs hz
    have hf : ∀ g', Aj = some ⟨g', 0, none⟩ → g' ≠ g := fun g' hg' => by subst hg'; exact fun e => own_ne h.outer hz (by decide) e.symm
    exact (hz.set_far (p := ⟨g, a, none⟩) hf v).set_far (p := ⟨g, b, none⟩) hf u
  refine ⟨(h.outer.set_ a v).set_ b u, by rw [List.length_set, List.length_set, List.length_set, List.length_set, h.len], ?_, ?_⟩
  · intro j xs hj
    rw [set2_at la' lb' hab] at hj
    rw [set2_at la lb hab]
    by_cases h1 : j = b
    · rw [if_pos h1] at hj ⊢
      cases hj
      obtain ⟨Aj, cj, e1, e2⟩ := h.row a _ hx
      rw [hu] at e1
      exact ⟨Aj, cj, e1, kp e2⟩
    · rw [if_neg h1] at hj ⊢
      by_cases h2 : j = a
      · rw [if_pos h2] at hj ⊢
        cases hj
        obtain ⟨Aj, cj, e1, e2⟩ := h.row b _ hy
        rw [hv] at e1
        exact ⟨Aj, cj, e1, kp e2⟩
      · rw [if_neg h2] at hj ⊢
        obtain ⟨Aj, cj, e1, e2⟩ := h.row j _ hj
        exact ⟨Aj, cj, e1, kp e2⟩
  · intro i j p q g' hij hp hq hpg
    rw [set2_at la lb hab] at hp hq
    have key : ∀ k z, (if k = b then some u else if k = a then some v else vs[k]?) = some z → ∃ k', vs[k']? = some z ∧ (k' = if k = b then a else if k = a then b else k) := by
      intro k z hz
      by_cases h1 : k = b
      · rw [if_pos h1] at hz ⊢; cases hz; exact ⟨a, hu, rfl⟩
      · rw [if_neg h1] at hz ⊢
        by_cases h2 : k = a
        · rw [if_pos h2] at hz ⊢; cases hz; exact ⟨b, hv, rfl⟩
        · rw [if_neg h2] at hz ⊢; exact ⟨k, hz, rfl⟩
    obtain ⟨i', hi1, hi2⟩ := key i p hp
    obtain ⟨j', hj1, hj2⟩ := key j q hq
    refine h.apart i' j' p q g' ?_ hi1 hj1 hpg
    rw [hi2, hj2]
    (repeat' split) <;> omega
theorem slicesCompare_q (A1 : Option Addr) (c1 : Nat) (a : List Int) (A2 : Option Addr) (c2 : Nat) (b : List Int) (w : World) (ha : Rd w A1 2 (iv a)) (hb : Rd w A2 2 (iv b)) :
    Calls Tryz.prog 107 #[.slice A1 2 c1, .slice A2 2 c2] w fun e w' => e = .returned (.int .i64 (cmpD a b)) ∧ ∃ q, w' = w.drewN q :=
  (slicesCompare_any A1 c1 a A2 c2 b w ha hb).mono fun _ _ ⟨he, hw⟩ => ⟨he, 0, hw.symm⟩

theorem gD_of' {d : List (List Int)} {i : Nat} {x : List Int} (h : d[i]? = some x) : d.getD i [] = x := by rw [List.getD_eq_getElem?_getD, h]; rfl

set_option maxRecDepth 20000 in
set_option maxHeartbeats 4000000 in
theorem insertionSort_any (lo g n c : Nat) (vs : List Value) (xss : List (List Int)) (w : World) (h : O2 w lo (some ⟨g, 0, none⟩) n c vs xss) (h2 : ∀ r ∈ xss, r.length = 2) (hn : n ≤ 12) :
    Calls Tryz.prog 140 #[.slice (some ⟨g, 0, none⟩) n c, .int .i64 0, .int .i64 n, .func (.func 107) #[] #[]] w fun e w' => e = .returned (.tuple #[]) ∧ (∃ vs', O2 w' lo (some ⟨g, 0, none⟩) n c vs' (insD xss)) ∧ Below lo w w' := by
  have HX := Lib.hid h
  have H2 := Lib.hid h2
  have HM := Lib.hid h.n_eq
  have hglo : lo ≤ g := by
    rcases h.outer.form with ⟨h1, _⟩ | ⟨g', h1, h3, _⟩
    · cases h1
    · cases h1; exact h3
  have HI := Lib.hid (fun i (hi : i ≤ xss.length) => show (insD (xss.take i)).length = i by have := insD_len id xss i hi; rwa [List.map_id] at this)
  have HST := Lib.hid (fun i x (hx : xss[i]? = some x) => show insD (xss.take (i + 1)) = putD (insD (xss.take i)) x by have := insD_step (f := id) hx; rwa [List.map_id, List.map_id] at this)
  have HI2 := Lib.hid (fun i (hi : i ≤ xss.length) (r : List Int) (hr : r ∈ insD (xss.take i)) => show r.length = 2 from h2 r (by
    have hp : ∀ k, k ≤ xss.length → ∀ z ∈ insD (xss.take k), z ∈ xss := by
      intro k
      induction k with
      | zero => intro _ z hz; cases hz
      | succ k ih =>
        intro hk z hz
        have hk' : k < xss.length := by omega
        have := insD_step (f := id) (List.getElem?_eq_getElem hk')
        rw [List.map_id, List.map_id] at this
        rw [this] at hz
        unfold putD at hz
        rw [List.mem_append, List.mem_cons] at hz
        rcases hz with hz | rfl | hz
        · exact ih (by omega) z (List.mem_of_mem_take hz)
        · exact List.getElem_mem hk'
        · exact ih (by omega) z (List.mem_of_mem_drop hz)
    exact hp i hi r hr))
  have H1 := Lib.hid (show xss = insD (xss.take 1) ++ xss.drop 1 by
    cases xss with
    | nil => rfl
    | cons a l => rfl)
  clear h h2
  go_enter Tryz.func140, Tryz.ntmps140
  go_wp2_with fail
  go_loopw [8, 9] (fun iv' _ wr => ∃ (i : Nat) (vs' : List Value), 1 ≤ i ∧ i ≤ n + 1 ∧ iv' = .int .i64 i ∧ O2 wr lo (some ⟨g, 0, none⟩) n c vs' (insD (xss.take i) ++ xss.drop i) ∧ Below lo w wr) (fun iv' _ _ => n + 2 - (intOf iv').toNat)
  case atStart => exact ⟨1, vs, Nat.le_refl _, by omega, rfl, by rw [← H1.out]; exact HX.out, Below.refl _ _⟩
  case round =>
    obtain ⟨i, vs1, hi1, hin, rfl, ho, hb⟩ := hrel
    have O := Lib.hid ho
    clear ho
    by_cases hlt : i < n
    · obtain ⟨x, hx⟩ : ∃ x, xss[i]? = some x := ⟨_, List.getElem?_eq_getElem (by have := HM.out; omega)⟩
      obtain ⟨S, hS⟩ : ∃ S, S = insD (xss.take i) := ⟨_, rfl⟩
      obtain ⟨R, hR⟩ : ∃ R, R = xss.drop (i + 1) := ⟨_, rfl⟩
      have hSl : S.length = i := by rw [hS]; exact HI.out i (by have := HM.out; omega)
      have HX2 := Lib.hid (H2.out x (List.mem_of_getElem? hx))
      have HS2 := Lib.hid (show ∀ r ∈ S, r.length = 2 by rw [hS]; exact HI2.out i (by have := HM.out; omega))
      have HNX := Lib.hid (show insD (xss.take (i + 1)) ++ xss.drop (i + 1) = putD S x ++ R by rw [HST.out i x hx, hS, hR])
      have O1 := Lib.hid (show O2 wr lo (some ⟨g, 0, none⟩) n c vs1 (stX S x R i) by
        have e : insD (xss.take i) ++ xss.drop i = stX S x R i := by
          unfold stX
          rw [← hS, List.take_of_length_le (by omega), show S.drop i = [] from List.drop_eq_nil_of_le (by omega), hR, List.nil_append]
          congr 1
          obtain ⟨q1, q2⟩ := List.getElem?_eq_some_iff.1 hx
          rw [List.drop_eq_getElem_cons q1, q2]
        rw [← e]; exact O.out)
      have HSL := Lib.hid hSl
      clear hx hS hR hSl
      go_wp2_with fail
      go_loopw [9] (fun jv wr => ∃ (j : Nat) (vs' : List Value), j ≤ i ∧ jv = .int .i64 j ∧ O2 wr lo (some ⟨g, 0, none⟩) n c vs' (stX S x R j) ∧ Hid (putK S x j = putK S x S.length) ∧ Below lo w wr) (fun jv _ => (intOf jv).toNat)
      case atStart => exact ⟨i, vs1, Nat.le_refl _, rfl, O1.out, Lib.hid (by rw [HSL.out]), hb⟩
      case round =>
        obtain ⟨j, vs2, hj, rfl, ho, HK, hbz⟩ := hrel
        have O2' := Lib.hid ho
        clear ho
        by_cases h0 : j = 0
        · have z0 : ¬ (0 : Int) < (j : Int) := by omega
          have z5 : ¬ 0 < j := by omega
          have z6 : decide (0 < j) = false := decide_eq_false z5
          have z7 : decide ((0 : Int) < (j : Int)) = false := decide_eq_false z0
          have HE := Lib.hid (show stX S x R j = putD S x ++ R from stX_put HK.out (by rw [h0]; rfl))
          clear h0
          go_wp2_with fail
          go_quiet (fail)
          go_wp2_with fail
          go_roundw
          case rel => exact ⟨i + 1, vs2, by omega, by omega, by go_num, by rw [HNX.out, ← HE.out]; exact O2'.out.drewN _, below_drewN' hbz _⟩
          case measure => simp [intOf]; omega
        · obtain ⟨k, rfl⟩ : ∃ k, j = k + 1 := ⟨j - 1, by omega⟩
          obtain ⟨y, hy⟩ : ∃ y, S[k]? = some y := ⟨_, List.getElem?_eq_getElem (by have := HSL.out; omega)⟩
          have hy2 := HS2.out y (List.mem_of_getElem? hy)
          have gx := stX_x (S := S) (x := x) (R := R) (j := k + 1) (by have := HSL.out; omega)
          have gy := stX_y (S := S) (x := x) (R := R) hy
          obtain ⟨g, A1, c1, hA, hgl, hgs, hv1, hc1, hf1, ho1⟩ := O2'.out.head gx
          cases hA
          obtain ⟨g2, A2, c2, hA, _, _, hv2, hc2, hf2, ho2⟩ := O2'.out.head gy
          cases hA
          have hxx := HX2.out
          rw [hxx] at hv1 hc1 ho1
          rw [hy2] at hv2 hc2 ho2
          have HO1 := Lib.hid ho1
          have HO2 := Lib.hid ho2
          have HV1 := Lib.hid hv1
          have HV2 := Lib.hid hv2
          have GX := Lib.hid gx
          have GY := Lib.hid gy
          have HSW := Lib.hid (stX_swap (x := x) (R := R) hy)
          have hkd : S.getD k [] = y := gD_of' hy
          have HKD := Lib.hid hkd
          have z0 : (0 : Int) < (k : Int) + 1 := by omega
          have z1 : (0 : Int) ≤ (k : Int) + 1 - 1 := by omega
          have z4 : IntKind.i64.wrap ((k : Int) + 1 - 1) = (k : Int) := by rw [IntWalk.i64_in _ (by omega)]; omega
          have z8 : (k : Int) + 1 - 1 = (k : Int) := by omega
          have z2 : (0 : Int) ≤ (k : Int) := by omega
          have z3 : (k : Int) < (n : Int) := by omega
          have z9 : (k : Int) + 1 < (n : Int) := by omega
          have z10 : (0 : Int) ≤ (k : Int) + 1 := by omega
          have z11 : ((k : Int) + 1).toNat = k + 1 := by omega
          have z6 : decide ((0 : Int) < (k : Int) + 1) = true := decide_eq_true z0
          have z12 : IntKind.i64.wrap (k : Int) = (k : Int) := IntWalk.i64_in _ (by omega)
          have z13 : ((k : Int)).toNat = k := by omega
          clear hy hy2 gx gy hv1 hv2 ho1 ho2 hkd h0 hxx
          rcases hbf : befD x y with _ | _
          · have HBF := Lib.hid (show cmpD x y < 0 ↔ False by have := cmpD_bef x y; rw [hbf] at this; simpa using this)
            have HE := Lib.hid (show stX S x R (k + 1) = putD S x ++ R from stX_put HK.out (by rw [putK, HKD.out, hbf]; rfl))
            obtain ⟨r, hr⟩ : ∃ r, r = cmpD x y := ⟨_, rfl⟩
            have hr0 : ¬ r < 0 := by rw [hr]; exact fun h => HBF.out.1 h
            have hr1 : decide (r < 0) = false := decide_eq_false hr0
            have HCC := Lib.hid (fun w (ha : Rd w A1 2 (iv x)) (hb : Rd w A2 2 (iv y)) => slicesCompare_q A1 c1 x A2 c2 y w ha hb)
            rw [← hr] at HCC
            clear hbf hr HBF
            go_wp2_with fail
            go_quiet ((go_at_call 107; exact Calls.quiet_of (HCC.out _ (HO1.out.rd.drewN _) (HO2.out.rd.drewN _))))
            go_wp2_with fail
            go_roundw
            case rel => exact ⟨i + 1, vs2, by omega, by omega, by go_num, by rw [HNX.out, ← HE.out]; exact O2'.out.drewN _, below_drewN' hbz _⟩
            case measure => simp [intOf]; omega
          · have HBF := Lib.hid (show cmpD x y < 0 by have := cmpD_bef x y; rw [hbf] at this; exact of_decide_eq_true this)
            have HKN := Lib.hid (show putK S x k = putK S x S.length by rw [← HK.out, putK, HKD.out, hbf]; rfl)
            obtain ⟨r, hr⟩ : ∃ r, r = cmpD x y := ⟨_, rfl⟩
            have hr0 : r < 0 := by rw [hr]; exact HBF.out
            have hr1 : decide (r < 0) = true := decide_eq_true hr0
            have HCC := Lib.hid (fun w (ha : Rd w A1 2 (iv x)) (hb : Rd w A2 2 (iv y)) => slicesCompare_q A1 c1 x A2 c2 y w ha hb)
            rw [← hr] at HCC
            clear hbf hr HBF
            go_wp2_with fail
            go_quiet ((go_at_call 107; exact Calls.quiet_of (HCC.out _ (HO1.out.rd.drewN _) (HO2.out.rd.drewN _))))
            generalize hw1 : wr.drewN _ = w1
            have OW := Lib.hid (show O2 w1 lo (some ⟨g, 0, none⟩) n c vs2 (stX S x R (k + 1)) by rw [← hw1]; exact O2'.out.drewN _)
            have hbw1 : Below lo w w1 := by rw [← hw1]; exact below_drewN' hbz _
            have hcA : w1.cell? ⟨g, k + 1, none⟩ = some (.slice A1 2 c1) := by rw [← hw1]; exact hc1
            have hcB : w1.cell? ⟨g, k, none⟩ = some (.slice A2 2 c2) := by rw [← hw1]; exact hc2
            have hfA : w1.frozen? ⟨g, k + 1, none⟩ = false := by rw [← hw1]; exact hf1
            have hfB : w1.frozen? ⟨g, k, none⟩ = false := by rw [← hw1]; exact hf2
            have OS := Lib.hid (show O2 ((w1.setCell ⟨g, k + 1, none⟩ (.slice A2 2 c2)).setCell ⟨g, k, none⟩ (.slice A1 2 c1)) lo (some ⟨g, 0, none⟩) n c ((vs2.set (k + 1) (.slice A2 2 c2)).set k (.slice A1 2 c1)) (stX S x R k) by
              rw [← HSW.out]
              exact OW.out.swap (by omega) HV1.out HV2.out GX.out GY.out)
            have hbs : Below lo w ((w1.setCell ⟨g, k + 1, none⟩ (.slice A2 2 c2)).setCell ⟨g, k, none⟩ (.slice A1 2 c1)) := (hbw1.setCell (p := ⟨g, k + 1, none⟩) hglo _).setCell (p := ⟨g, k, none⟩) hglo _
            clear hw1 hc1 hc2 hf1 hf2
            have k6 : k ≠ k + 1 := by omega
            go_wp2_with fail
            go_region
            go_wp2_with fail
            go_roundw
            case rel => exact ⟨k, _, by omega, by go_num, OS.out.drew, HKN, hbs.drew⟩
            case measure => simp [intOf]
    · have HE := Lib.hid (show insD (xss.take i) ++ xss.drop i = insD xss by
        rw [List.take_of_length_le (by have := HM.out; omega), List.drop_eq_nil_of_le (by have := HM.out; omega), List.append_nil])
      go_wp2_with fail
      go_end0
      exact ⟨rfl, ⟨vs1, by rw [← HE.out]; exact O.out⟩, hb⟩

set_option maxRecDepth 20000 in
set_option maxHeartbeats 1000000 in
theorem pdqsort_any (lo g n c : Nat) (vs : List Value) (xss : List (List Int)) (v : Int) (w : World) (h : O2 w lo (some ⟨g, 0, none⟩) n c vs xss) (h2 : ∀ r ∈ xss, r.length = 2) (hn : n ≤ 12) :
    Calls Tryz.prog 129 #[.slice (some ⟨g, 0, none⟩) n c, .int .i64 0, .int .i64 n, .int .i64 v, .func (.func 107) #[] #[]] w fun e w' => e = .returned (.tuple #[]) ∧ (∃ vs', O2 w' lo (some ⟨g, 0, none⟩) n c vs' (insD xss)) ∧ Below lo w w' := by
  have HC := Lib.hid (fun w (h : O2 w lo (some ⟨g, 0, none⟩) n c vs xss) => insertionSort_any lo g n c vs xss w h h2 hn)
  have HX := Lib.hid h
  have hn1 : (n : Int) ≤ 12 := by omega
  have u1 : IntKind.i64.wrap ((n : Int) - 0) = (n : Int) := by rw [IntWalk.i64_in _ (by omega)]; omega
  have u2 : IntKind.i64.wrap (n : Int) = (n : Int) := IntWalk.i64_in _ (by omega)
  clear h h2
  go_enter Tryz.func129, Tryz.ntmps129
  go_wp2_with fail
  refine wp_loop_rounds 1 ?_
  rw [rounds_succ]
  go_wp2_with fail
  refine (HC.out _ HX.out).mono ?_
  rintro e w' ⟨rfl, ⟨vs', hO⟩, hb⟩
  have HO := Lib.hid hO
  clear hO
  go_wp2_with fail
  (try simp only [Exit.inBlock, Exit.then])
  refine bodyPost_ret (results_none rfl _ _ _) rfl ?_
  exact ⟨rfl, ⟨vs', HO.out⟩, hb⟩
set_option maxRecDepth 100000 in
set_option maxHeartbeats 4000000 in
theorem bitsLen_any (n : Nat) (hn : n ≤ 7) (w : World) : Calls Tryz.prog 130 #[.int .u64 n] w fun e w' => (∃ v : Int, e = .returned (.int .i64 v)) ∧ w = w' := by
  have h64 : Calls Tryz.prog 149 #[.int .u64 n] w fun e w' => (∃ v : Int, e = .returned (.int .i64 v)) ∧ w = w' := by
    have hh : n = 0 ∨ n = 1 ∨ n = 2 ∨ n = 3 ∨ n = 4 ∨ n = 5 ∨ n = 6 ∨ n = 7 := by omega
    rcases hh with rfl | rfl | rfl | rfl | rfl | rfl | rfl | rfl
    all_goals
      go_enter Tryz.func149, Tryz.ntmps149
      go_wp2_with fail
      go_ret
      exact ⟨⟨_, rfl⟩, rfl⟩
  have H := Lib.hid h64
  clear h64
  go_enter Tryz.func130, Tryz.ntmps130
  go_wp2_with fail
  refine H.out.mono ?_
  rintro e w' ⟨⟨v, rfl⟩, rfl⟩
  go_wp2_with fail
  go_ret
  exact ⟨⟨_, rfl⟩, rfl⟩
set_option maxHeartbeats 1000000 in
theorem sortFunc_any (lo g n c : Nat) (vs : List Value) (xss : List (List Int)) (w : World) (h : O2 w lo (some ⟨g, 0, none⟩) n c vs xss) (h2 : ∀ r ∈ xss, r.length = 2) (hn : n ≤ 7) :
    Calls Tryz.prog 106 #[.slice (some ⟨g, 0, none⟩) n c, .func (.func 107) #[] #[]] w fun e w' => e = .returned (.tuple #[]) ∧ (∃ vs', O2 w' lo (some ⟨g, 0, none⟩) n c vs' (insD xss)) ∧ Below lo w w' := by
  have HC := Lib.hid (fun w v (h : O2 w lo (some ⟨g, 0, none⟩) n c vs xss) => pdqsort_any lo g n c vs xss v w h h2 (by omega))
  have HX := Lib.hid h
  clear h h2
  go_enter Tryz.func106, Tryz.ntmps106
  go_wp2_with fail
  refine (bitsLen_any n hn _).mono ?_
  rintro e w' ⟨⟨v, rfl⟩, rfl⟩
  go_wp2_with fail
  refine (HC.out _ _ HX.out).mono ?_
  rintro e w' ⟨rfl, ⟨vs', hO⟩, hb⟩
  have HO := Lib.hid hO
  clear hO
  go_wp2_with fail
  go_end0
  exact ⟨rfl, ⟨vs', HO.out⟩, hb⟩

end Go.Proofs.YtghfhkbncjgaeaaGreat
