/- MoebiusOf of the specification. -/
import Derived.Test.YtghfhkbncjgaeaaMoeI
import Derived.Test.YtghfhkbncjgaeaaChcS
import Derived.Test.YtghfhkbncjgaeaaRankPart
namespace Go.Proofs.Ytghfhkbncjgaeaa
set_option linter.unusedVariables false
set_option linter.unusedSimpArgs false
open Go.RowKit

set_option maxRecDepth 20000 in
set_option maxHeartbeats 4000000 in
theorem l19Between_any (A B : Option Addr) (n c d : Nat) (p q : List Int) (w : World) (h : Rd w A n (iv p)) (h' : Rd w B n (iv q)) (hn : n ≤ 5) :
    Calls Try.prog 33 #[.slice A n c, .slice B n d] w (RetR w (btwM (rowN n) p q)) := by
  unfold RetR
  have HP := Lib.hid h
  have HQ := Lib.hid h'
  clear h h'
  obtain ⟨hall, hpar⟩ := rowN_par hn
  have HR5 := Lib.hid (fun (x : List Int) hx => (show x.length ≤ 5 from by have := (hpar x hx).2; omega))
  have HF := Lib.hid (show btwM (rowN n) p q = (rowN n).filter (fun x => finB p x && finB x q) from rfl)
  have HRW := Lib.hid (show rowN n = (paths n).map (fun x => (parI x).1) from rfl)
  have HPE := Lib.hid (fun x (hx : x ∈ paths n) => (show x.length ≤ 1000000000 ∧ parS x = parI x from ⟨by have := paths_mem hx; omega, (par_eq (by omega) hx).symm⟩))
  obtain ⟨WS, hWS⟩ : ∃ WS, WS = paths n := ⟨_, rfl⟩
  have HPA := Lib.hid (show ∀ w, Calls Try.prog 26 #[.int .i64 (n : Int)] w (RetS w WS) from fun w => by rw [hWS]; exact specPathsOf_any n w (by omega))
  rw [← hWS] at HRW HPE
  obtain ⟨L, hL⟩ : ∃ L, L = rowN n := ⟨_, rfl⟩
  rw [← hL] at HF hall HRW HR5 ⊢
  have HLM := Lib.hid (show WS.length = L.length by rw [HRW.out, List.length_map])
  clear hL hWS hpar
  go_enter Try.func33, Try.ntmps33
  go_wp2_with fail
  refine (HPA.out _).mono ?_
  rintro e w1 ⟨As, m, cs, hm, rfl, hos, hb1⟩
  have HM := Lib.hid (show m = L.length by rw [hm, HLM.out])
  have hm42 : m ≤ 42 := by have := HM.out; omega
  have hbw : Below w.heap.size w w1 := ((Below.refl _ _).alloc (Nat.le_refl _) (.cells #[] 22)).trans (hb1.mono (by simp))
  have HO0 := Lib.hid ((O2.empty w).below hb1)
  have HS0 := Lib.hid (hos.1.mono (B' := w.heap.size) (by simp))
  clear hos hm hb1
  go_wp2_with fail
  go_loopw [5, 7, 8, 9] (fun s ix _ _ wr => ∃ (j k : Nat) (A1 : Option Addr) (c1 : Nat) (vs : List Value), j ≤ m ∧ ix = .int .i64 j ∧ s = .slice A1 k c1 ∧ O2 wr w.heap.size A1 k c1 vs ((L.take j).filter (fun x => finB p x && finB x q)) ∧ Own wr 9 w.heap.size As m cs (sv WS) ∧ Below w.heap.size w wr) (fun _ i _ _ _ => m - (intOf i).toNat)
  case atStart => exact ⟨0, 0, _, _, _, Nat.zero_le _, rfl, rfl, HO0.out, HS0.out, hbw⟩
  case round =>
    obtain ⟨j, k, A1, c1, vs, hj, rfl, rfl, ho, hso, hbl⟩ := hrel
    obtain ⟨w2, rfl⟩ : ∃ W, W = wr := ⟨wr, rfl⟩
    have O := Lib.hid ho
    have S := Lib.hid hso
    have hbs := hbl.size
    have hk42 : k ≤ 42 := by have h1 := ho.n_eq; have h2 := List.length_filter_le (fun x => finB p x && finB x q) (L.take j); have h3 := List.length_take (i := j) (l := L); omega
    by_cases hlt : j < m
    · obtain ⟨bl, off, x, rfl, hx, hc⟩ := hso.rd.ats hlt
      have hxm := List.mem_of_getElem? hx
      obtain ⟨hx9, hpe⟩ := HPE.out x hxm
      have hLj : L[j]? = some (parI x).1 := by rw [HRW.out, List.getElem?_map, hx]; rfl
      have hx5 := HR5.out _ (List.mem_of_getElem? hLj)
      have HT := Lib.hid (show L.take (j + 1) = L.take j ++ [(parI x).1] by rw [List.take_add_one, hLj]; rfl)
      have HC := Lib.hid (show ∀ W, Calls Try.prog 27 #[.string (bs x)] W (RetIB W (parI x).1 (parI x).2) from fun W => by rw [← hpe]; exact specPartitionOf_any x W hx9)
      obtain ⟨X, hX⟩ : ∃ X, X = (parI x).1 := ⟨_, rfl⟩
      rw [← hX] at hx5 HT HC
      clear hx hxm hso hpe hLj hX ho
      go_wp2_with fail
      refine (HC.out _).mono ?_
      rintro e w3 ⟨Ap, u, cp, hu, rfl, hop, hb3⟩
      have HOp := Lib.hid hop
      have HU := Lib.hid hu
      have hu5 : u ≤ 5 := by omega
      have hs3 := hb3.size
      clear hop hu
      have S3 := Lib.hid (S.out.below hb3)
      have O3 := Lib.hid (O.out.below hb3)
      have hbw3 := hbl.trans (hb3.mono hbs)
      go_wp2_with fail
      refine (specIsFiner_any _ _ _ _ _ _ p X w3 (HP.out.below hbw3) HOp.out.rd (by omega) (by omega)).mono ?_
      rintro e w4 ⟨rfl, d1, hw⟩
      subst hw
      rcases h1 : finB p X with _ | _
      · have HZ := Lib.hid (show (L.take (j + 1)).filter (fun x => finB p x && finB x q) = (L.take j).filter (fun x => finB p x && finB x q) by rw [HT.out, List.filter_append, List.filter_cons_of_neg (by simp [h1])]; simp)
        clear h1
        go_wp2_with fail
        go_roundw
        case rel => exact ⟨j + 1, k, A1, c1, vs, by omega, by go_num, rfl, by rw [HZ.out]; exact O3.out.drewN d1, S3.out.drewN d1, below_drewN' hbw3 d1⟩
        case measure => simp [intOf]; omega
      · have H1 := Lib.hid h1
        clear h1
        go_wp2_with fail
        refine (specIsFiner_any _ _ _ _ _ _ X q (w3.drewN d1) (HOp.out.rd.drewN d1) ((HQ.out.below hbw3).drewN d1) (by omega) (by omega)).mono ?_
        rintro e w4 ⟨rfl, d2, hw⟩
        rw [drewN_drewN] at hw
        subst hw
        rcases h2 : finB X q with _ | _
        · have HZ := Lib.hid (show (L.take (j + 1)).filter (fun x => finB p x && finB x q) = (L.take j).filter (fun x => finB p x && finB x q) by rw [HT.out, List.filter_append, List.filter_cons_of_neg (by simp [h2])]; simp)
          clear h2
          go_wp2_with fail
          go_roundw
          case rel => exact ⟨j + 1, k, A1, c1, vs, by omega, by go_num, rfl, by rw [HZ.out]; exact O3.out.drewN _, S3.out.drewN _, below_drewN' hbw3 _⟩
          case measure => simp [intOf]; omega
        · have HZ := Lib.hid (show (L.take (j + 1)).filter (fun x => finB p x && finB x q) = (L.take j).filter (fun x => finB p x && finB x q) ++ [X] by rw [HT.out, List.filter_append, List.filter_cons_of_pos (by rw [H1.out, h2]; rfl)]; simp)
          have hb4 : Below w2.heap.size w2 (w3.drewN (d1 + d2)) := below_drewN' hb3 _
          have HOp4 := Lib.hid (HOp.out.drewN (d1 + d2))
          have hbw4 := hbl.trans (hb4.mono hbs)
          have hs4 : w2.heap.size ≤ (w3.drewN (d1 + d2)).heap.size := hs3
          have S4 := Lib.hid (S3.out.drewN (d1 + d2))
          obtain ⟨w4, hw4⟩ : ∃ W, W = w3.drewN (d1 + d2) := ⟨_, rfl⟩
          rw [← hw4] at hb4 HOp4 hbw4 hs4 S4 ⊢
          clear h2 O3 S3 HOp hbw3 hw4 hb3 hs3
          go_wp2_with (at_builtin; refine appRowN _ rfl _ _ rfl w.heap.size A1 k c1 vs rfl ((O.out.below hb4).outer.alloc _) w4.heap.size Ap u cp rfl (by simp) (by omega) (by omega) ?_; intro A5 c5 w5 hown5 hgr5 hb5)
          have O5 := Lib.hid (O.out.pushR hb4 HOp4.out hbs HU.out _ hgr5 hown5)
          have S5 := Lib.hid (Own.otherN ((O.out.below hb4).outer.alloc _) (S4.out.alloc _) (by decide) hgr5)
          have hbf := (hbw4.alloc (by omega) _).trans hb5
          clear hown5 hgr5 hb5
          go_wp2_with fail
          go_roundw
          case rel => exact ⟨j + 1, k + 1, A5, c5, _, by omega, by go_num, rfl, by rw [HZ.out]; exact O5.out, S5.out, hbf⟩
          case measure => simp [intOf]; omega
    · have HJ := Lib.hid (show btwM L p q = (L.take j).filter (fun x => finB p x && finB x q) by rw [HF.out, List.take_of_length_le (by have := HM.out; omega)])
      have HK := Lib.hid (O.out.n_eq)
      clear hso ho
      go_wp2_with fail
      go_ret
      rw [HJ.out]
      exact ⟨A1, k, c1, vs, HK.out, rfl, O.out, hbl⟩

/-- The table of numbers: filled for the lesser ranks, and for rank r up to place i. -/
structure TabM (l : List (List Int)) (μ : List Int → Int) (m : Nat) (r i : Nat) (ys : List Int) : Prop where
  len : ys.length = m
  at_ : ∀ t x, l[t]? = some x → (rk x < r ∨ (rk x = r ∧ t < i)) → ys[t]? = some (μ x)
section
variable {l : List (List Int)} {μ : List Int → Int} {m r i : Nat} {ys : List Int}
theorem TabM.skip {x : List Int} (h : TabM l μ m r i ys) (hx : l[i]? = some x) (hr : rk x ≠ r) : TabM l μ m r (i + 1) ys where
  len := h.len
  at_ t y ht hc := by
    refine h.at_ t y ht ?_
    rcases hc with h1 | ⟨h1, h2⟩
    · exact Or.inl h1
    · rcases Nat.lt_or_ge t i with h3 | h3
      · exact Or.inr ⟨h1, h3⟩
      · obtain rfl : t = i := by omega
        rw [hx] at ht
        injection ht with ht
        subst ht
        exact absurd h1 hr
theorem TabM.put {x : List Int} (h : TabM l μ m r i ys) (hx : l[i]? = some x) (hr : rk x = r) (him : i < m) : TabM l μ m r (i + 1) (ys.set i (μ x)) where
  len := by simp [h.len]
  at_ t y ht hc := by
    by_cases hti : t = i
    · subst hti
      rw [hx] at ht
      injection ht with ht
      subst ht
      rw [List.getElem?_set_self (by rw [h.len]; exact him)]
    · rw [List.getElem?_set_ne (by omega)]
      refine h.at_ t y ht ?_
      rcases hc with h1 | ⟨h1, h2⟩
      · exact Or.inl h1
      · exact Or.inr ⟨h1, by omega⟩
theorem TabM.next (h : TabM l μ m r m ys) (hl : l.length = m) : TabM l μ m (r + 1) 0 ys where
  len := h.len
  at_ t y ht hc := by
    have h3 := (List.getElem?_eq_some_iff.1 ht).1
    refine h.at_ t y ht ?_
    omega
end

theorem mu_bd {all : List (List Int)} {p y : List Int} (hall : all.length ≤ 42) (h : rk y ≤ 5) : -147008443 ≤ moeB all p y ∧ moeB all p y ≤ 147008443 := by
  have h2 := rk_pow (r := y) h
  have h3 := moeF_bd all hall p (rk y) y
  unfold moeB
  omega
theorem trm2_bd {all L : List (List Int)} {p : List Int} (hall : all.length ≤ 42) {r : Nat} (hr : r ≤ 5) (hL : L.length ≤ 42) (x : List Int) (k : Nat) : -6174354606 ≤ sm (trm2 (moeB all p) r x) (L.take k) ∧ sm (trm2 (moeB all p) r x) (L.take k) ≤ 6174354606 := by
  have h := sm_bd (trm2 (moeB all p) r x) (b := 147008443) (by decide) (L.take k) (fun y _ => by
    unfold trm2
    split
    · next h =>
      rw [Bool.and_eq_true, decide_eq_true_eq] at h
      have h2 := rk_pow (r := y) (by omega)
      have h3 := moeF_bd all hall p (rk y) y
      unfold moeB
      omega
    · omega)
  have h2 : ((L.take k).length : Int) ≤ 42 := by rw [List.length_take]; omega
  have h3 : ((L.take k).length : Int) * 147008443 ≤ 42 * 147008443 := Int.mul_le_mul_of_nonneg_right h2 (by decide)
  omega

set_option maxRecDepth 20000 in
set_option maxHeartbeats 8000000 in
theorem specMoebiusOf_any (A B : Option Addr) (n c m d : Nat) (p q : List Int) (w : World) (h : Rd w A n (iv p)) (h' : Rd w B m (iv q)) (hn : n ≤ 1000000000) (hm : m ≤ 1000000000) :
    Calls Try.prog 15 #[.slice A n c, .slice B m d] w fun e w' => e = .returned (.tuple #[.int .i64 (moeP p q).1, .bool (moeP p q).2]) ∧ Below w.heap.size w w' := by
  have hl1 : p.length = n := by have := h.len; rw [iv_len] at this; exact this
  have hl2 : q.length = m := by have := h'.len; rw [iv_len] at this; exact this
  have HP := Lib.hid h
  have HQ := Lib.hid h'
  have L1 := Lib.hid hl1
  have L2 := Lib.hid hl2
  clear h h' hl1 hl2
  rcases h1 : nonc p with _ | _
  · have HF := Lib.hid (show moeP p q = (0, false) by unfold moeP; rw [h1]; rfl)
    have H1 := Lib.hid h1
    clear h1
    go_enter Try.func15, Try.ntmps15
    go_wp2_with fail
    refine (specIsNoncrossing_any _ _ _ p _ HP.out hn).mono ?_
    rintro e w1 ⟨rfl, d1, hw⟩
    subst hw
    rw [H1.out]
    go_wp2_with fail
    go_ret2
    rw [HF.out]
    exact ⟨rfl, below_of_drewN ⟨d1, rfl⟩⟩
  rcases h2 : nonc q with _ | _
  · have HF := Lib.hid (show moeP p q = (0, false) by unfold moeP; rw [h1, h2]; rfl)
    have H1 := Lib.hid h1
    have H2 := Lib.hid h2
    clear h1 h2
    go_enter Try.func15, Try.ntmps15
    go_wp2_with fail
    refine (specIsNoncrossing_any _ _ _ p _ HP.out hn).mono ?_
    rintro e w1 ⟨rfl, d1, hw⟩
    subst hw
    rw [H1.out]
    go_wp2_with fail
    refine (specIsNoncrossing_any _ _ _ q (w.drewN d1) (HQ.out.drewN _) hm).mono ?_
    rintro e w1 ⟨rfl, d2, hw⟩
    rw [drewN_drewN] at hw
    subst hw
    rw [H2.out]
    go_wp2_with fail
    go_ret2
    rw [HF.out]
    exact ⟨rfl, below_of_drewN ⟨_, rfl⟩⟩
  by_cases hnm : n = m
  case neg =>
    have HF := Lib.hid (show moeP p q = (0, false) by unfold moeP; rw [h1, h2, decide_eq_false (by rw [L1.out, L2.out]; exact hnm)]; rfl)
    have H1 := Lib.hid h1
    have H2 := Lib.hid h2
    have h4 : ((n : Int) != (m : Int)) = true := by simp; omega
    clear h1 h2 hnm
    go_enter Try.func15, Try.ntmps15
    go_wp2_with fail
    refine (specIsNoncrossing_any _ _ _ p _ HP.out hn).mono ?_
    rintro e w1 ⟨rfl, d1, hw⟩
    subst hw
    rw [H1.out]
    go_wp2_with fail
    refine (specIsNoncrossing_any _ _ _ q (w.drewN d1) (HQ.out.drewN _) hm).mono ?_
    rintro e w1 ⟨rfl, d2, hw⟩
    rw [drewN_drewN] at hw
    subst hw
    rw [H2.out]
    go_wp2_with fail
    go_ret2
    rw [HF.out]
    exact ⟨rfl, below_of_drewN ⟨_, rfl⟩⟩
  subst hnm
  have h4 : ((n : Int) != (n : Int)) = false := by simp
  by_cases h5 : n ≤ 5
  case neg =>
    have HF := Lib.hid (show moeP p q = (0, false) by unfold moeP; rw [h1, h2, decide_eq_true (by rw [L1.out, L2.out]), decide_eq_false (by rw [L1.out]; exact h5)]; rfl)
    have H1 := Lib.hid h1
    have H2 := Lib.hid h2
    have h6 : ((5 : Int) < (n : Int)) := by omega
    clear h1 h2 h5
    go_enter Try.func15, Try.ntmps15
    go_wp2_with fail
    refine (specIsNoncrossing_any _ _ _ p _ HP.out hn).mono ?_
    rintro e w1 ⟨rfl, d1, hw⟩
    subst hw
    rw [H1.out]
    go_wp2_with fail
    refine (specIsNoncrossing_any _ _ _ q (w.drewN d1) (HQ.out.drewN _) hm).mono ?_
    rintro e w1 ⟨rfl, d2, hw⟩
    rw [drewN_drewN] at hw
    subst hw
    rw [H2.out]
    go_wp2_with fail
    go_ret2
    rw [HF.out]
    exact ⟨rfl, below_of_drewN ⟨_, rfl⟩⟩
  have h6 : ¬ ((5 : Int) < (n : Int)) := by omega
  rcases h3 : finB p q with _ | _
  · have HF := Lib.hid (show moeP p q = (0, true) by unfold moeP; rw [h1, h2, decide_eq_true (by rw [L1.out, L2.out]), decide_eq_true (by rw [L1.out]; exact h5), h3]; rfl)
    have H1 := Lib.hid h1
    have H2 := Lib.hid h2
    have H3 := Lib.hid h3
    clear h1 h2 h3
    go_enter Try.func15, Try.ntmps15
    go_wp2_with fail
    refine (specIsNoncrossing_any _ _ _ p _ HP.out hn).mono ?_
    rintro e w1 ⟨rfl, d1, hw⟩
    subst hw
    rw [H1.out]
    go_wp2_with fail
    refine (specIsNoncrossing_any _ _ _ q (w.drewN d1) (HQ.out.drewN _) hm).mono ?_
    rintro e w1 ⟨rfl, d2, hw⟩
    rw [drewN_drewN] at hw
    subst hw
    rw [H2.out]
    go_wp2_with fail
    refine (specIsFiner_any _ _ _ _ _ _ p q (w.drewN (d1 + d2)) (HP.out.drewN _) (HQ.out.drewN _) hn hm).mono ?_
    rintro e w1 ⟨rfl, d3, hw⟩
    rw [drewN_drewN] at hw
    subst hw
    rw [H3.out]
    go_wp2_with fail
    go_ret2
    rw [HF.out]
    exact ⟨rfl, below_of_drewN ⟨_, rfl⟩⟩
  have HF := Lib.hid (show moeP p q = (moeB (rowN n) p q, true) by unfold moeP; rw [h1, h2, decide_eq_true (by rw [L1.out, L2.out]), decide_eq_true (by rw [L1.out]; exact h5), h3, L1.out]; rfl)
  have H1 := Lib.hid h1
  have H2 := Lib.hid h2
  have H3 := Lib.hid h3
  go_enter Try.func15, Try.ntmps15
  go_wp2_with fail
  refine (specIsNoncrossing_any _ _ _ p _ HP.out hn).mono ?_
  rintro e w1 ⟨rfl, d1, hw⟩
  subst hw
  rw [H1.out]
  go_wp2_with fail
  refine (specIsNoncrossing_any _ _ _ q (w.drewN d1) (HQ.out.drewN _) hm).mono ?_
  rintro e w1 ⟨rfl, d2, hw⟩
  rw [drewN_drewN] at hw
  subst hw
  rw [H2.out]
  go_wp2_with fail
  refine (specIsFiner_any _ _ _ _ _ _ p q (w.drewN (d1 + d2)) (HP.out.drewN _) (HQ.out.drewN _) hn hm).mono ?_
  rintro e w1 ⟨rfl, d3, hw⟩
  rw [drewN_drewN] at hw
  subst hw
  rw [H3.out]
  go_wp2_with fail
  obtain ⟨hall, hpar⟩ := rowN_par h5
  have hpm : p ∈ rowN n := by have := nonc_mem h1 (by rw [L1.out]; exact h5); rw [L1.out] at this; exact this
  have hqm : q ∈ rowN n := by have := nonc_mem h2 (by rw [L2.out]; exact h5); rw [L2.out] at this; exact this
  have HB := Lib.hid (fun x => moeF_bd (rowN n) hall p (rk x) x)
  have HTB := Lib.hid (fun x (hx : x ∈ btwM (rowN n) p q) => moe_table (rowN n) hpm hx)
  have HQM := Lib.hid (show q ∈ btwM (rowN n) p q from List.mem_filter.2 ⟨hqm, by rw [h3, fin_refl (nonc_par h2)]; rfl⟩)
  have HPAR := Lib.hid (fun (x : List Int) (hx : x ∈ btwM (rowN n) p q) => (show isPar x = true ∧ x.length = n ∧ rk x ≤ n ∧ rankP x = (rk x : Int) from by
    have hm := (List.mem_filter.1 hx).1
    obtain ⟨a, b⟩ := hpar x hm
    obtain ⟨c, d⟩ := rk_bd a
    exact ⟨a, b, by omega, c⟩))
  have hlen : (btwM (rowN n) p q).length ≤ 42 := Nat.le_trans (List.length_filter_le _ _) hall
  have HC := Lib.hid (fun w h h' => l19Between_any A B n c d p q w h h' h5)
  have HMU := Lib.hid (fun x => show moeB (rowN n) p x = moeF (rowN n) p (rk x) x from rfl)
  have HVB := Lib.hid (fun y (h : rk y ≤ 5) => mu_bd (all := rowN n) hall (p := p) (y := y) h)
  have HSMB := Lib.hid (fun (r : Nat) (x : List Int) (k : Nat) (hr : r ≤ 5) => trm2_bd (L := btwM (rowN n) p q) hall (p := p) hr hlen x k)
  obtain ⟨BL, hBL⟩ : ∃ BL, BL = btwM (rowN n) p q := ⟨_, rfl⟩
  obtain ⟨μ, hμ⟩ : ∃ μ, μ = moeB (rowN n) p := ⟨_, rfl⟩
  rw [← hBL] at HTB HQM HPAR hlen HC HSMB
  rw [← hμ] at HTB HF HMU HSMB HVB
  clear h1 h2 h3 hpar hpm hqm hBL hμ HB HMU
  refine (HC.out _ (HP.out.drewN _) (HQ.out.drewN _)).mono ?_
  rintro e w2 ⟨A', m, c', vs, hm', rfl, ho, hb⟩
  have HO := Lib.hid (show O2 w2 w.heap.size A' m c' vs BL from ho)
  have HM := Lib.hid hm'
  have HP2 := Lib.hid ((HP.out.drewN (d1 + d2 + d3)).below hb)
  have HQ2 := Lib.hid ((HQ.out.drewN (d1 + d2 + d3)).below hb)
  have hbw : Below w.heap.size w w2 := (below_drewN' (Below.refl w.heap.size w) (d1 + d2 + d3)).trans hb
  have hm42 : m ≤ 42 := by omega
  have hs2 := hbw.size
  have hmk := mkI m (by omega) w2
  have HT0 := Lib.hid (show Own (w2.alloc (.cells (madeCells #[.int .i64 0] m) 3)) 3 w2.heap.size (some ⟨w2.heap.size, 0, none⟩) m m (iv (List.replicate m 0)) by
    have := Own.made w2 3 (.int .i64 0) m (by unfold maxLen; omega)
    rw [iv_rep] at this
    exact this)
  have HTA0 := Lib.hid (show TabM BL μ m 0 0 (List.replicate m 0) from ⟨by simp, fun t x _ hc => by omega⟩)
  have hb0 := (Below.refl w2.heap.size w2).alloc (Nat.le_refl _) (.cells (madeCells #[.int .i64 0] m) 3)
  clear ho hm' hb
  go_wp2_with fail
  clear hmk
  go_loopw [8, 9, 10, 11] (fun rv _ _ _ wr => ∃ (r : Nat) (ys : List Int), r ≤ n + 1 ∧ rv = .int .i64 r ∧ TabM BL μ m r 0 ys ∧ Own wr 3 w2.heap.size (some ⟨w2.heap.size, 0, none⟩) m m (iv ys) ∧ Below w2.heap.size w2 wr) (fun rv _ _ _ _ => n + 1 - (intOf rv).toNat)
  case atStart => exact ⟨0, _, Nat.zero_le _, rfl, HTA0.out, HT0.out, hb0⟩
  case round =>
    obtain ⟨r, ys, hr, rfl, htab, hown, hbl⟩ := hrel
    obtain ⟨w3, rfl⟩ : ∃ W, W = wr := ⟨wr, rfl⟩
    have TB := Lib.hid htab
    have OW := Lib.hid hown
    have hs3 := hbl.size
    clear htab hown
    by_cases hrn : r ≤ n
    · have hrn1 : (r : Int) ≤ (n : Int) := by omega
      go_wp2_with fail
      go_loopw [9, 10, 11] (fun ix _ _ wr => ∃ (i : Nat) (ys : List Int), i ≤ m ∧ ix = .int .i64 i ∧ TabM BL μ m r i ys ∧ Own wr 3 w2.heap.size (some ⟨w2.heap.size, 0, none⟩) m m (iv ys) ∧ Below w2.heap.size w2 wr) (fun ix _ _ _ => m - (intOf ix).toNat)
      case atStart => exact ⟨0, _, Nat.zero_le _, rfl, TB.out, OW.out, hbl⟩
      case round =>
        obtain ⟨i, ys, hi, rfl, htab, hown, hbl⟩ := hrel
        obtain ⟨w4, rfl⟩ : ∃ W, W = wr := ⟨wr, rfl⟩
        have TB := Lib.hid htab
        have OW := Lib.hid hown
        have hs4 := hbl.size
        clear htab hown
        by_cases hlt : i < m
        · have h1 : BL[i]? = some (BL.getD i []) := by rw [List.getD_eq_getElem?_getD, List.getElem?_eq_getElem (by have := HM.out; omega)]; rfl
          obtain ⟨x, hx⟩ : ∃ x, x = BL.getD i [] := ⟨_, rfl⟩
          rw [← hx] at h1
          have hxm := List.mem_of_getElem? h1
          obtain ⟨hx1, hx2, hx3, hx4⟩ := HPAR.out x hxm
          obtain ⟨g, Ax, cx, hAx, hg0, hg1, hv, hcg, hfg, hox⟩ := (HO.out.below hbl).head h1
          subst hAx
          have HOX := Lib.hid hox
          have HX1 := Lib.hid h1
          have HX4 := Lib.hid hx4
          have z1 : (0 : Int) ≤ (i : Int) := by omega
          have z2 : (i : Int) < (m : Int) := by omega
          have HX2 := Lib.hid hx2
          have hx5 : x.length ≤ 5 := by omega
          clear h1 hv hox hx hx1 hx4 hx2
          go_wp2_with fail
          refine (specRankOfPartition_any _ _ _ _ _ HOX.out.rd (by omega)).mono ?_
          rintro e w5 ⟨rfl, hb5⟩
          rw [HX4.out]
          have hbl5 := hbl.trans (hb5.mono hs4)
          have HOX5 := Lib.hid (HOX.out.below hb5)
          have OW5 := Lib.hid (OW.out.below hb5)
          have hs5 := hbl5.size
          obtain ⟨R, hR⟩ : ∃ R, R = rk x := ⟨_, rfl⟩
          rw [← hR] at hx3 ⊢
          by_cases hrr : R = r
          · have HRR := Lib.hid (show rk x = r by rw [← hR, hrr])
            have e1 : ((R : Int) != (r : Int)) = false := by simp; omega
            have HTX := Lib.hid (HTB.out x hxm)
            have hcg5 : w5.cell? ⟨g, i, none⟩ = some (Value.slice Ax x.length cx) := by rw [hb5.cell (p := ⟨g, i, none⟩) hg1]; exact hcg
            clear hrr hR hcg hfg hg1
            go_wp2_with fail
            refine (l13Same_any _ _ _ _ _ _ x p w5 HOX5.out.rd (HP2.out.below hbl5) (by omega) (by omega)).mono ?_
            rintro e w6 ⟨rfl, d6, rfl⟩
            have hbl6 : Below w2.heap.size w2 (w5.drewN d6) := below_drewN' hbl5 d6
            have HOX6 := Lib.hid (HOX5.out.drewN d6)
            have OW6 := Lib.hid (OW5.out.drewN d6)
            have hs6 := hbl6.size
            have HO6 := Lib.hid ((HO.out).below hbl6)
            obtain ⟨w6, hw6⟩ : ∃ W, W = w5.drewN d6 := ⟨_, rfl⟩
            rw [← hw6] at hbl6 HOX6 OW6 hs6 HO6 ⊢
            clear hw6 OW5 HOX5 hbl5 hs5 hb5 hcg5 HOX OW
            rcases hxp : decide (x = p) with _ | _
            case' false => obtain ⟨D, hDD⟩ : ∃ D : Int, D = 0 := ⟨_, rfl⟩
            case' true => obtain ⟨D, hDD⟩ : ∃ D : Int, D = 1 := ⟨_, rfl⟩
            all_goals
              have HD := Lib.hid (show D - sm (trm2 μ r x) BL = μ x by
                have e := HTX.out
                rw [HRR.out] at e
                rw [← e, hDD]
                simp at hxp
                simp [hxp])
              have HDB := Lib.hid (show 0 ≤ D ∧ D ≤ 1 by omega)
              have HD0 := Lib.hid (show D - sm (trm2 μ r x) (BL.take 0) = D by simp [sm])
              have HDE := Lib.hid hDD
              clear hxp hDD
              go_wp2_with fail
              go_loopw [10, 11] (fun nv kv wr => ∃ k : Nat, k ≤ m ∧ kv = .int .i64 k ∧ nv = .int .i64 (D - sm (trm2 μ r x) (BL.take k)) ∧ Below w6.heap.size w6 wr) (fun _ kv _ => m - (intOf kv).toNat)
              case atStart => exact ⟨0, Nat.zero_le _, rfl, by rw [HD0.out, HDE.out], Below.refl _ _⟩
              case round =>
                obtain ⟨k, hk, rfl, rfl, hb7⟩ := hrel
                obtain ⟨w7, rfl⟩ : ∃ W, W = wr := ⟨wr, rfl⟩
                have hs7 := hb7.size
                have hsb := HSMB.out r x k (by omega)
                have hdb := HDB.out
                by_cases hltk : k < m
                · have h1 : BL[k]? = some (BL.getD k []) := by rw [List.getD_eq_getElem?_getD, List.getElem?_eq_getElem (by have := HM.out; omega)]; rfl
                  obtain ⟨y, hy⟩ : ∃ y, y = BL.getD k [] := ⟨_, rfl⟩
                  rw [← hy] at h1
                  have hym := List.mem_of_getElem? h1
                  obtain ⟨hy1, hy2, hy3, hy4⟩ := HPAR.out y hym
                  obtain ⟨gy, Ay, cy, hAy, hgy0, hgy1, hvy, hcy, hfy, hoy⟩ := (HO6.out.below hb7).head h1
                  obtain ⟨gx, Ax2, cx2, hAx2, hgx0, hgx1, hvx, hcx, hfx, hox2⟩ := (HO6.out.below hb7).head HX1.out
                  cases hAy
                  cases hAx2
                  have HOY := Lib.hid hoy
                  have HOX7 := Lib.hid hox2
                  have HST := Lib.hid (sm_take (trm2 μ r x) h1)
                  have HY1 := Lib.hid h1
                  have HY4 := Lib.hid hy4
                  have hy5 : y.length ≤ 5 := by omega
                  have z3 : (0 : Int) ≤ (k : Int) := by omega
                  have z4 : (k : Int) < (m : Int) := by omega
                  obtain ⟨S, hS⟩ : ∃ S, S = sm (trm2 μ r x) (BL.take k) := ⟨_, rfl⟩
                  rw [← hS] at hsb HST ⊢
                  clear h1 hvy hoy hvx hox2 hy hy1 hy2 hy4 hS
                  have hRY := Lib.hid (show trm2 μ r x y = if decide (rk y < r) && finB y x then μ y else 0 from rfl)
                  have HTY := Lib.hid (fun (h : rk y < r) => TB.out.at_ k y HY1.out (Or.inl h))
                  obtain ⟨RY, hRR⟩ : ∃ RY, RY = rk y := ⟨_, rfl⟩
                  have HVY := Lib.hid (show RY ≤ 5 → -147008443 ≤ μ y ∧ μ y ≤ 147008443 from fun h => HVB.out y (by omega))
                  rw [← hRR] at hy3 hRY HTY HY4
                  clear hRR
                  by_cases hlr : RY < r
                  · have q1 : decide (RY < r) = true := decide_eq_true hlr
                    have q2 : decide ((RY : Int) < (r : Int)) = true := decide_eq_true (by omega)
                    have q3 : (RY : Int) < (r : Int) := by omega
                    go_wp2_with fail
                    go_region_held3 (fun w' => w'.cell? ⟨g, k, none⟩ = some (Value.slice Ay y.length cy) ∧ w'.cell? ⟨g, i, none⟩ = some (Value.slice Ax2 x.length cx2)) (first | go_keep | exact ⟨by assumption, by assumption⟩)
                      (first | (go_at_call 34; refine (specRankOfPartition_any _ _ _ _ _ (by exact HOY.out.rd) (by omega)).mono ?_; rintro e w8 ⟨he, hb8⟩; rw [HY4.out] at he; subst he; have hb8' : Below w7.heap.size w7 w8 := ⟨hb8.os, hb8.tape, hb8.output, hb8.size, hb8.block⟩; have k8 := (hb8.cell (p := ⟨g, k, none⟩) hgy1).trans hcy; have k9 := (hb8.cell (p := ⟨g, i, none⟩) hgy1).trans hcx) | (go_at_call 28; refine (specIsFiner_any _ _ _ _ _ _ y x _ (by exact HOY.out.rd.below hb8') (by exact HOX7.out.rd.below hb8') (by omega) (by omega)).mono ?_; rintro e w9 ⟨rfl, d9, hw9⟩))
                    have hb9 : Below w6.heap.size w6 (w8.drewN d9) := below_drewN' (hb7.trans ((show Below w7.heap.size w7 w8 from ⟨hb8.os, hb8.tape, hb8.output, hb8.size, hb8.block⟩).mono hs7)) d9
                    clear hb8 k8 k9 hcy hfy hcx hfx hgy1 hgx1
                    obtain ⟨w10, hw10⟩ : ∃ W, W = w8.drewN d9 := ⟨_, rfl⟩
                    rw [← hw10] at hb9 ⊢
                    clear hw9 hw10
                    rcases hf : finB y x with _ | _
                    · have HZ := Lib.hid (show trm2 μ r x y = 0 by rw [hRY.out, hf]; simp)
                      clear hf
                      go_wp2_with fail
                      go_roundw
                      case rel => exact ⟨k + 1, by omega, by go_num, by rw [HST.out, HZ.out, Int.add_zero], hb9⟩
                      case measure => simp [intOf]; omega
                    · have HZ := Lib.hid (show trm2 μ r x y = μ y by rw [hRY.out, hf, q1]; rfl)
                      clear hf
                      obtain ⟨gv, v, hAv, hgv0, hgv1, hyv, hcv, hfv⟩ := (OW6.out.below hb9).ati (show k < m by omega)
                      cases hAv
                      rw [HTY.out hlr] at hyv
                      injection hyv with hyv
                      rw [hyv] at HZ
                      have hvb := HVY.out (by omega)
                      rw [hyv] at hvb
                      have hw : IntKind.i64.wrap (D - S - v) = D - S - v := IntWalk.i64_in _ (by omega)
                      clear hyv
                      go_wp2_with fail
                      go_roundw
                      case rel => exact ⟨k + 1, by omega, by go_num, by rw [HST.out, HZ.out]; congr 1; omega, hb9⟩
                      case measure => simp [intOf]; omega
                  · have q1 : decide (RY < r) = false := decide_eq_false hlr
                    have q2 : decide ((RY : Int) < (r : Int)) = false := decide_eq_false (by omega)
                    have q3 : ¬ (RY : Int) < (r : Int) := by omega
                    have HZ := Lib.hid (show trm2 μ r x y = 0 by rw [hRY.out, q1]; simp)
                    go_wp2_with fail
                    refine wp_region_held_drew (S := fun w' => w'.cell? ⟨g, k, none⟩ = some (Value.slice Ay y.length cy)) (by kernel_rfl) (by exact hcy) (fun hHeld => ?_)
                    refine wpAnyH_take (i := 0) (oi := ⟨some 74, _, _, _, _, _⟩) (v := .slice (some ⟨g, 0, none⟩) m c') rfl (by kernel_rfl) (by kernel_rfl) (by kernel_rfl) (fun _ _ _ h => h) (Or.inl ⟨by rfl, fun w hSw => by (try dsimp only at hSw); first | (go_simp; done) | (go_simp; with_reducible rfl)⟩) (by assumption) ?_
                    (try simp only [Act.put, List.setIfInBounds_toArray, List.set_cons_zero, List.set_cons_succ])
                    refine wpAnyH_take (i := 1) (oi := ⟨some 75, _, _, _, _, _⟩) (v := .int .i64 k) rfl (by kernel_rfl) (by kernel_rfl) (by kernel_rfl) (fun _ _ _ h => h) (Or.inl ⟨by rfl, fun w hSw => by (try dsimp only at hSw); first | (go_simp; done) | (go_simp; with_reducible rfl)⟩) (by assumption) ?_
                    (try simp only [Act.put, List.setIfInBounds_toArray, List.set_cons_zero, List.set_cons_succ])
                    refine wpAnyH_take (i := 2) (oi := ⟨some 76, _, _, _, _, _⟩) (v := .pointer (some ⟨g, k, none⟩)) rfl (by kernel_rfl) (by kernel_rfl) (by kernel_rfl) (fun _ _ _ h => h) (Or.inl ⟨by rfl, fun w hSw => by (try dsimp only at hSw); first | (go_simp; done) | (go_simp; with_reducible rfl)⟩) (by assumption) ?_
                    (try simp only [Act.put, List.setIfInBounds_toArray, List.set_cons_zero, List.set_cons_succ])
                    refine wpAnyH_take (i := 3) (oi := ⟨some 77, _, _, _, _, _⟩) (v := .slice Ay y.length cy) rfl (by kernel_rfl) (by kernel_rfl) (by kernel_rfl) (fun _ _ _ h => h) (Or.inl ⟨by rfl, fun w hSw => by (try dsimp only at hSw); first | (go_simp; done) | (go_simp; with_reducible rfl)⟩) (by assumption) ?_
                    (try simp only [Act.put, List.setIfInBounds_toArray, List.set_cons_zero, List.set_cons_succ])
                    refine wpAnyH_take (i := 5) (oi := ⟨some 79, _, _, _, _, _⟩) (v := .int .i64 r) rfl (by kernel_rfl) (by kernel_rfl) (by kernel_rfl) (fun _ _ _ h => h) (Or.inl ⟨by rfl, fun w hSw => by (try dsimp only at hSw); first | (go_simp; done) | (go_simp; with_reducible rfl)⟩) (by assumption) ?_
                    (try simp only [Act.put, List.setIfInBounds_toArray, List.set_cons_zero, List.set_cons_succ])
                    refine wpAnyH_ready (rs := [4]) (by kernel_rfl) (by simp) ?_
                    refine AllReadyH.cons (o := ⟨some 78, _, _, _, _, _⟩) rfl (fun K hK => ?_) AllReadyH.nil
                    go_simp
                    refine (specRankOfPartition_any _ _ _ _ _ (by exact HOY.out.rd) (by omega)).mono ?_
                    rintro e w8 ⟨he, hb8⟩
                    rw [HY4.out] at he; subst he
                    refine hK.out _ _ (by exact (hb8.cell (p := ⟨g, k, none⟩) hgy1).trans hcy) (fun hHeld => ?_)
                    clear hK K
                    (try simp only [Act.put, List.setIfInBounds_toArray, List.set_cons_zero, List.set_cons_succ])
                    refine wpAnyH_take (i := 6) (oi := ⟨some 80, _, _, _, _, _⟩) (v := .bool false) rfl (by kernel_rfl) (by kernel_rfl) (by kernel_rfl) (fun _ _ _ h => h) (Or.inl ⟨by rfl, fun w hSw => by (try dsimp only at hSw); first | (go_simp; done) | (go_simp; with_reducible rfl)⟩) (by assumption) ?_
                    (try simp only [Act.put, List.setIfInBounds_toArray, List.set_cons_zero, List.set_cons_succ])
                    refine wpAnyH_take (i := 7) (oi := ⟨some 81, _, _, _, _, _⟩) (v := .bool false) rfl (by kernel_rfl) (by kernel_rfl) (by kernel_rfl) (fun _ _ _ h => h) (Or.inl ⟨by rfl, fun w hSw => by (try dsimp only at hSw); first | (go_simp; done) | (go_simp; with_reducible rfl)⟩) (by assumption) ?_
                    (try simp only [Act.put, List.setIfInBounds_toArray, List.set_cons_zero, List.set_cons_succ])
                    refine wpAnyH_take (i := 8) (oi := ⟨some 82, _, _, _, _, _⟩) (v := undef) rfl (by kernel_rfl) (by kernel_rfl) (by kernel_rfl) (fun _ _ _ h => h) (Or.inr ⟨by rfl, rfl⟩) (by assumption) ?_
                    (try simp only [Act.put, List.setIfInBounds_toArray, List.set_cons_zero, List.set_cons_succ])
                    refine wpAnyH_take (i := 9) (oi := ⟨some 83, _, _, _, _, _⟩) (v := undef) rfl (by kernel_rfl) (by kernel_rfl) (by kernel_rfl) (fun _ _ _ h => h) (Or.inr ⟨by rfl, rfl⟩) (by assumption) ?_
                    (try simp only [Act.put, List.setIfInBounds_toArray, List.set_cons_zero, List.set_cons_succ])
                    refine wpAnyH_take (i := 10) (oi := ⟨some 84, _, _, _, _, _⟩) (v := undef) rfl (by kernel_rfl) (by kernel_rfl) (by kernel_rfl) (fun _ _ _ h => h) (Or.inr ⟨by rfl, rfl⟩) (by assumption) ?_
                    (try simp only [Act.put, List.setIfInBounds_toArray, List.set_cons_zero, List.set_cons_succ])
                    refine wpAnyH_take (i := 11) (oi := ⟨some 85, _, _, _, _, _⟩) (v := undef) rfl (by kernel_rfl) (by kernel_rfl) (by kernel_rfl) (fun _ _ _ h => h) (Or.inr ⟨by rfl, rfl⟩) (by assumption) ?_
                    (try simp only [Act.put, List.setIfInBounds_toArray, List.set_cons_zero, List.set_cons_succ])
                    refine wpAnyH_take (i := 12) (oi := ⟨some 86, _, _, _, _, _⟩) (v := undef) rfl (by kernel_rfl) (by kernel_rfl) (by kernel_rfl) (fun _ _ _ h => h) (Or.inr ⟨by rfl, rfl⟩) (by assumption) ?_
                    (try simp only [Act.put, List.setIfInBounds_toArray, List.set_cons_zero, List.set_cons_succ])
                    refine wpAnyH_take (i := 13) (oi := ⟨some 87, _, _, _, _, _⟩) (v := undef) rfl (by kernel_rfl) (by kernel_rfl) (by kernel_rfl) (fun _ _ _ h => h) (Or.inr ⟨by rfl, rfl⟩) (by assumption) ?_
                    (try simp only [Act.put, List.setIfInBounds_toArray, List.set_cons_zero, List.set_cons_succ])
                    refine wpAnyH_take (i := 14) (oi := ⟨some 88, _, _, _, _, _⟩) (v := undef) rfl (by kernel_rfl) (by kernel_rfl) (by kernel_rfl) (fun _ _ _ h => h) (Or.inr ⟨by rfl, rfl⟩) (by assumption) ?_
                    (try simp only [Act.put, List.setIfInBounds_toArray, List.set_cons_zero, List.set_cons_succ])
                    refine wpAnyH_take (i := 15) (oi := ⟨some 89, _, _, _, _, _⟩) (v := undef) rfl (by kernel_rfl) (by kernel_rfl) (by kernel_rfl) (fun _ _ _ h => h) (Or.inr ⟨by rfl, rfl⟩) (by assumption) ?_
                    (try simp only [Act.put, List.setIfInBounds_toArray, List.set_cons_zero, List.set_cons_succ])
                    refine wpAnyH_take (i := 16) (oi := ⟨some 90, _, _, _, _, _⟩) (v := undef) rfl (by kernel_rfl) (by kernel_rfl) (by kernel_rfl) (fun _ _ _ h => h) (Or.inr ⟨by rfl, rfl⟩) (by assumption) ?_
                    (try simp only [Act.put, List.setIfInBounds_toArray, List.set_cons_zero, List.set_cons_succ])
                    refine wpAnyH_take (i := 17) (oi := ⟨some 91, _, _, _, _, _⟩) (v := .bool false) rfl (by kernel_rfl) (by kernel_rfl) (by kernel_rfl) (fun _ _ _ h => h) (Or.inl ⟨by rfl, fun w hSw => by (try dsimp only at hSw); first | (go_simp; done) | (go_simp; with_reducible rfl)⟩) (by assumption) ?_
                    (try simp only [Act.put, List.setIfInBounds_toArray, List.set_cons_zero, List.set_cons_succ])
                    refine wpAnyH_done (by kernel_rfl) ?_ _
                    have hb9 : Below w6.heap.size w6 w8 := hb7.trans ((show Below w7.heap.size w7 w8 from ⟨hb8.os, hb8.tape, hb8.output, hb8.size, hb8.block⟩).mono hs7)
                    go_wp2_with fail
                    go_roundw
                    case rel => exact ⟨k + 1, by omega, by go_num, by rw [HST.out, HZ.out, Int.add_zero], hb9⟩
                    case measure => simp [intOf]; omega
                · have HE := Lib.hid (show D - sm (trm2 μ r x) (BL.take k) = μ x by rw [List.take_of_length_le (by have := HM.out; omega)]; exact HD.out)
                  rw [HE.out]
                  have TP := Lib.hid (TB.out.put HX1.out HRR.out hlt)
                  have OW7 := Lib.hid (OW6.out.below hb7)
                  have hbl7 := hbl6.trans (hb7.mono hs6)
                  obtain ⟨V, hV⟩ : ∃ V, V = μ x := ⟨_, rfl⟩
                  rw [← hV] at TP ⊢
                  clear hV
                  obtain ⟨gv, v, hAv, hgv0, hgv1, hyv, hcv, hfv⟩ := OW7.out.ati hlt
                  cases hAv
                  clear hyv
                  go_wp2_with fail
                  go_roundw
                  case rel => exact ⟨i + 1, _, by omega, by go_num, TP.out, OW7.out.puti i V, hbl7.setCell (p := ⟨w2.heap.size, i, none⟩) (Nat.le_refl _) _⟩
                  case measure => simp [intOf]; omega
          · have HTN := Lib.hid (TB.out.skip HX1.out (by rw [← hR]; exact hrr))
            have e1 : ((R : Int) != (r : Int)) = true := by simp; omega
            clear hrr hR
            go_wp2_with fail
            go_roundw
            case rel => exact ⟨i + 1, ys, by omega, by go_num, HTN.out, OW5.out, hbl5⟩
            case measure => simp [intOf]; omega
        · have him : i = m := by omega
          rw [him] at TB
          have TN := Lib.hid (TB.out.next HM.out.symm)
          clear him
          go_wp2_with fail
          go_roundw
          case rel => exact ⟨r + 1, ys, by omega, by go_num, TN.out, OW.out, hbl⟩
          case measure => simp [intOf]; omega
    · have hrn1 : ¬ (r : Int) ≤ (n : Int) := by omega
      have hr1 : r = n + 1 := by omega
      have HALL := Lib.hid (fun t x (h : BL[t]? = some x) => TB.out.at_ t x h (Or.inl (by have := (HPAR.out x (List.mem_of_getElem? h)).2.2.1; omega)))
      go_wp2_with fail
      go_loopw [12] (fun ix wr => ∃ i : Nat, i ≤ m ∧ ix = .int .i64 i ∧ q ∉ BL.take i ∧ Below w3.heap.size w3 wr) (fun ix _ => m - (intOf ix).toNat)
      case atStart => exact ⟨0, Nat.zero_le _, rfl, by simp, Below.refl _ _⟩
      case round =>
        obtain ⟨i, hi, rfl, hni, hb4⟩ := hrel
        obtain ⟨w4, rfl⟩ : ∃ W, W = wr := ⟨wr, rfl⟩
        have HNI := Lib.hid hni
        have hs4 := hb4.size
        clear hni
        by_cases hlt : i < m
        · have h1 : BL[i]? = some (BL.getD i []) := by rw [List.getD_eq_getElem?_getD, List.getElem?_eq_getElem (by have := HM.out; omega)]; rfl
          obtain ⟨x, hx⟩ : ∃ x, x = BL.getD i [] := ⟨_, rfl⟩
          rw [← hx] at h1
          have hx5 : x.length ≤ 5 := by have := (HPAR.out x (List.mem_of_getElem? h1)).2.1; omega
          obtain ⟨g, Ax, cx, hAx, hg0, hg1, hv, hcg, hfg, hox⟩ := ((HO.out.below hbl).below hb4).head h1
          subst hAx
          have HOX := Lib.hid hox
          have HX1 := Lib.hid h1
          have hbl4 := hbl.trans (hb4.mono hs3)
          have z1 : (0 : Int) ≤ (i : Int) := by omega
          have z2 : (i : Int) < (m : Int) := by omega
          clear h1 hv hox hx
          go_wp2_with fail
          refine (l13Same_any _ _ _ _ _ _ x q w4 HOX.out.rd (HQ2.out.below hbl4) (by omega) (by omega)).mono ?_
          rintro e w5 ⟨rfl, d5, rfl⟩
          have hb5 : Below w3.heap.size w3 (w4.drewN d5) := below_drewN' hb4 d5
          obtain ⟨w5, hw5⟩ : ∃ W, W = w4.drewN d5 := ⟨_, rfl⟩
          rw [← hw5] at hb5 ⊢
          clear hw5
          by_cases hxq : x = q
          · rw [decide_eq_true hxq]
            have HVQ := Lib.hid (show ys[i]? = some (μ q) by rw [← hxq]; exact HALL.out i x HX1.out)
            obtain ⟨gv, v, hAv, hgv0, hgv1, hyv, hcv, hfv⟩ := (OW.out.below hb5).ati hlt
            cases hAv
            rw [HVQ.out] at hyv
            injection hyv with hyv
            have HV := Lib.hid hyv
            have HBF := Lib.hid (hbw.trans ((hbl.trans (hb5.mono hs3)).mono hs2))
            clear hyv hxq
            go_wp2_with fail
            go_ret2
            rw [HF.out, HV.out]
            exact ⟨rfl, HBF.out⟩
          · rw [decide_eq_false hxq]
            have HN2 := Lib.hid (show q ∉ BL.take (i + 1) by
              rw [List.take_add_one, HX1.out]
              intro hm
              rcases List.mem_append.1 hm with h2 | h2
              · exact HNI.out h2
              · simp at h2; exact hxq h2.symm)
            clear hxq
            go_wp2_with fail
            go_roundw
            case rel => exact ⟨i + 1, by omega, by go_num, HN2.out, hb5⟩
            case measure => simp [intOf]; omega
        · exfalso
          apply HNI.out
          rw [List.take_of_length_le (by have := HM.out; omega)]
          exact HQM.out

end Go.Proofs.Ytghfhkbncjgaeaa
