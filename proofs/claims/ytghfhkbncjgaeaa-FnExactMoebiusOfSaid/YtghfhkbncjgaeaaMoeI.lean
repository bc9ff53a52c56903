/- MoebiusOf of the program. -/
import Derived.Test.YtghfhkbncjgaeaaMoeL
import Derived.Test.YtghfhkbncjgaeaaSame
namespace Go.Proofs.Ytghfhkbncjgaeaa
set_option linter.unusedVariables false
open Go.RowKit

theorem moeB_eq (all : List (List Int)) (p q : List Int) : moeB all p q = if p = q then 1 else - sm (trm (moeB all p) p q) all := by
  by_cases he : p = q
  · rw [if_pos he]
    unfold moeB
    rcases rk q with _ | f
    · rw [moeF, if_pos he]
    · rw [moeF, if_pos he]
  · rw [if_neg he]
    have e2 : sm (trm (moeB all p) p q) all = sm (trm (moeF all p (rk q)) p q) all := by
      refine sm_congr fun r _ => ?_
      unfold trm
      split
      · next h => have := trm_lt h; exact moeF_fuel all p _ _ r (Nat.le_refl _) (by omega)
      · rfl
    rw [e2]
    unfold moeB
    rw [moeF_fuel all p (rk q) (rk q + 1) q (Nat.le_refl _) (by omega), moeF, if_neg he]
/-- What the recursion answers at r. -/
def MoeAt (all : List (List Int)) (p : List Int) (A : Option Addr) (n c : Nat) (vs : List Value) (lo : Nat) (P : Option Addr) (np cp : Nat) (r : List Int) : Prop :=
  ∀ (R : Option Addr) (nr cr : Nat) (w : World), O2 w lo A n c vs all → Rd w P np (iv p) → Rd w R nr (iv r) → Calls Try.prog 37 #[.slice A n c, .slice P np cp, .slice R nr cr] w fun e w' => e = .returned (.int .i64 (moeB all p r)) ∧ ∃ m, w' = w.drewN m
theorem drewN_drewN (w : World) (a b : Nat) : (w.drewN a).drewN b = w.drewN (a + b) := by
  simp [World.drewN, Nat.add_assoc]

theorem rk_pow {r : List Int} (h : rk r ≤ 5) : (43 : Int) ^ rk r ≤ 147008443 := by
  have h1 : rk r = 0 ∨ rk r = 1 ∨ rk r = 2 ∨ rk r = 3 ∨ rk r = 4 ∨ rk r = 5 := by omega
  rcases h1 with h | h | h | h | h | h <;> rw [h] <;> decide
theorem trm_bd {all : List (List Int)} {p q : List Int} (hall : all.length ≤ 42) (hq : rk q ≤ 5) (j : Nat) : -((all.length : Int) * 147008443) ≤ sm (trm (moeB all p) p q) (all.take j) ∧ sm (trm (moeB all p) p q) (all.take j) ≤ (all.length : Int) * 147008443 := by
  have h := sm_bd (trm (moeB all p) p q) (b := 147008443) (by decide) (all.take j) (fun r _ => by
    unfold trm
    split
    · next h =>
      have h1 := trm_lt h
      have h2 := rk_pow (r := r) (by omega)
      have h3 := moeF_bd all hall p (rk r) r
      unfold moeB
      omega
    · omega)
  have h2 : ((all.take j).length : Int) ≤ all.length := by rw [List.length_take]; omega
  have h3 : ((all.take j).length : Int) * 147008443 ≤ (all.length : Int) * 147008443 := Int.mul_le_mul_of_nonneg_right h2 (by decide)
  omega

set_option maxRecDepth 20000 in
set_option maxHeartbeats 4000000 in
theorem moebius_step (all : List (List Int)) (p : List Int) (A : Option Addr) (n c : Nat) (vs : List Value) (lo : Nat) (P : Option Addr) (np cp : Nat) (hall : all.length ≤ 42) (hsm : ∀ x ∈ all, isPar x = true ∧ x.length ≤ 5) (hnp : np ≤ 8) (q : List Int) (hq : rk q ≤ 5) (hq8 : q.length ≤ 8)
    (ih : ∀ r ∈ all, rk r < rk q → MoeAt all p A n c vs lo P np cp r) : MoeAt all p A n c vs lo P np cp q := by
  intro Q nq cq w hO hP hQ
  have hM := moeB_eq all p q
  have HO := Lib.hid hO
  have HPr := Lib.hid hP
  have HQr := Lib.hid hQ
  have hnq : nq ≤ 1000000000 := by have := hQ.len; rw [iv_len] at this; omega
  clear hO hP hQ
  by_cases he : p = q
  · rw [if_pos he] at hM
    have HM := Lib.hid hM
    have HE := Lib.hid (decide_eq_true he)
    clear hM he ih hsm
    go_enter Try.func37, Try.ntmps37
    go_wp2_with fail
    refine (equalInts_any _ _ _ _ _ _ _ _ _ HPr.out HQr.out (by omega) hnq).mono ?_
    rintro e w' ⟨rfl, hw⟩
    rw [HE.out]
    go_wp2_with fail
    go_ret
    exact ⟨ret_int (by rw [HM.out]), hw⟩
  · rw [if_neg he] at hM
    have HM := Lib.hid hM
    have HE := Lib.hid (decide_eq_false he)
    have HIH := Lib.hid ih
    have HSM := Lib.hid hsm
    clear hM he ih hsm
    go_enter Try.func37, Try.ntmps37
    go_wp2_with fail
    refine (equalInts_any _ _ _ _ _ _ _ _ _ HPr.out HQr.out (by omega) hnq).mono ?_
    rintro e w' ⟨rfl, d, rfl⟩
    rw [HE.out]
    have HB := Lib.hid (fun r => moeF_bd all hall p (rk r) r)
    have hn : n ≤ 42 := by have := HO.out.n_eq; omega
    have HN := Lib.hid HO.out.n_eq
    have HSB := Lib.hid (fun j => show -((all.length : Int) * 147008443) ≤ sm (trm (moeB all p) p q) (all.take j) ∧ sm (trm (moeB all p) p q) (all.take j) ≤ (all.length : Int) * 147008443 from trm_bd hall hq j)
    go_wp2_with fail
    go_loopw [7, 9, 15] (fun nv _ ix wr => ∃ (j d : Nat), j ≤ n ∧ ix = .int .i64 j ∧ nv = .int .i64 (- sm (trm (moeB all p) p q) (all.take j)) ∧ wr = w.drewN d) (fun _ _ ix _ => n - (intOf ix).toNat)
    case atStart => exact ⟨0, d, Nat.zero_le _, rfl, rfl, rfl⟩
    case round =>
      obtain ⟨j, d', hj, rfl, rfl, rfl⟩ := hrel
      have hsb := HSB.out j
      by_cases hlt : j < n
      · have h1 : all[j]? = some (all.getD j []) := by rw [List.getD_eq_getElem?_getD, List.getElem?_eq_getElem (by have := HN.out; omega)]; rfl
        obtain ⟨r, hr⟩ : ∃ r, r = all.getD j [] := ⟨_, rfl⟩
        rw [← hr] at h1
        have hrm := List.mem_of_getElem? h1
        obtain ⟨hr1, hr5⟩ := HSM.out r hrm
        have HST := Lib.hid (sm_take (trm (moeB all p) p q) h1)
        obtain ⟨S, hS⟩ : ∃ S, S = sm (trm (moeB all p) p q) (all.take j) := ⟨_, rfl⟩
        rw [← hS] at hsb HST ⊢
        obtain ⟨g, Ar, cr, hAr, hg0, hg1, hv, hcg, hfg, hor⟩ := (HO.out.drewN d').head h1
        subst hAr
        have HOR := Lib.hid (show Rd w Ar r.length (iv r) from hor.rd)
        have HHR := Lib.hid hr1
        clear h1 hv hor hr hr1 hS
        go_wp2_with fail
        refine (implIsFiner_any _ _ _ _ _ _ p r (w.drewN d') (HPr.out.drewN d') (HOR.out.drewN d') (by omega) (by omega)).mono ?_
        rintro e w1 ⟨rfl, d1, hw1⟩
        rw [drewN_drewN] at hw1
        subst hw1
        rcases h1 : finB p r with _ | _
        · have HZ := Lib.hid (show trm (moeB all p) p q r = 0 by unfold trm; rw [h1]; rfl)
          clear h1
          go_wp2_with fail
          go_roundw
          case rel => exact ⟨j + 1, _, by omega, by go_num, by rw [HST.out, HZ.out]; go_num, rfl⟩
          case measure => simp [intOf]; omega
        · have H1 := Lib.hid h1
          clear h1
          go_wp2_with fail
          refine (implIsFiner_any _ _ _ _ _ _ r q (w.drewN (d' + d1)) (HOR.out.drewN _) (HQr.out.drewN _) (by omega) (by omega)).mono ?_
          rintro e w1 ⟨rfl, d2, hw1⟩
          rw [drewN_drewN] at hw1
          subst hw1
          rcases h2 : finB r q with _ | _
          · have HZ := Lib.hid (show trm (moeB all p) p q r = 0 by unfold trm; rw [h2]; simp)
            clear h2
            go_wp2_with fail
            go_roundw
            case rel => exact ⟨j + 1, _, by omega, by go_num, by rw [HST.out, HZ.out]; go_num, rfl⟩
            case measure => simp [intOf]; omega
          · have H2 := Lib.hid h2
            clear h2
            go_wp2_with fail
            refine (equalInts_any _ _ _ _ _ _ r q (w.drewN (d' + d1 + d2)) (HOR.out.drewN _) (HQr.out.drewN _) (by omega) (by omega)).mono ?_
            rintro e w1 ⟨rfl, d3, hw1⟩
            rw [drewN_drewN] at hw1
            subst hw1
            by_cases h3 : r = q
            · have HZ := Lib.hid (show trm (moeB all p) p q r = 0 by unfold trm; rw [decide_eq_true h3]; simp)
              rw [decide_eq_true h3]
              clear h3
              go_wp2_with fail
              go_roundw
              case rel => exact ⟨j + 1, _, by omega, by go_num, by rw [HST.out, HZ.out]; go_num, rfl⟩
              case measure => simp [intOf]; omega
            · have HT := Lib.hid (show trm (moeB all p) p q r = moeB all p r by unfold trm; rw [H1.out, H2.out, decide_eq_false h3]; rfl)
              have hlt3 := trm_lt (p := p) (r := r) (q := q) (by rw [H1.out, H2.out, decide_eq_false h3]; rfl)
              have HC := Lib.hid (HIH.out r hrm hlt3 Ar r.length cr (w.drewN (d' + d1 + d2 + d3)) (HO.out.drewN _) (HPr.out.drewN _) (HOR.out.drewN _))
              have hmb : -147008443 ≤ moeB all p r ∧ moeB all p r ≤ 147008443 := by
                have a := HB.out r
                have b := rk_pow (r := r) (by omega)
                unfold moeB
                omega
              obtain ⟨M, hMM⟩ : ∃ M, M = moeB all p r := ⟨_, rfl⟩
              rw [← hMM] at hmb HT HC
              rw [decide_eq_false h3]
              have hS1 := hn
              clear h3 hMM
              go_wp2_with fail
              refine HC.out.mono ?_
              rintro e w1 ⟨rfl, d4, hw1⟩
              rw [drewN_drewN] at hw1
              subst hw1
              have hw : IntKind.i64.wrap (-S - M) = -S - M := IntWalk.i64_in _ (by have := HN.out; omega)
              go_wp2_with fail
              go_roundw
              case rel => exact ⟨j + 1, _, by omega, by go_num, by rw [HST.out, HT.out]; congr 1; omega, rfl⟩
              case measure => simp [intOf]; omega
      · have hjn : j = n := by omega
        have HF := Lib.hid (show moeB all p q = - sm (trm (moeB all p) p q) (all.take j) by rw [HM.out, List.take_of_length_le]; have := HN.out; omega)
        clear hjn
        go_wp2_with fail
        go_ret
        exact ⟨ret_int (by rw [HF.out]), d', rfl⟩

theorem moebius_all (all : List (List Int)) (p : List Int) (A : Option Addr) (n c : Nat) (vs : List Value) (lo : Nat) (P : Option Addr) (np cp : Nat) (hall : all.length ≤ 42) (hsm : ∀ x ∈ all, isPar x = true ∧ x.length ≤ 5) (hnp : np ≤ 8) : ∀ (k : Nat) (q : List Int), rk q ≤ k → rk q ≤ 5 → q.length ≤ 8 → MoeAt all p A n c vs lo P np cp q
  | 0, q, hk, h5, h8 => moebius_step all p A n c vs lo P np cp hall hsm hnp q h5 h8 (fun r _ hlt => by omega)
  | k + 1, q, hk, h5, h8 => moebius_step all p A n c vs lo P np cp hall hsm hnp q h5 h8 (fun r hr hlt => moebius_all all p A n c vs lo P np cp hall hsm hnp k r (by omega) (by omega) (by have := (hsm r hr).2; omega))

set_option maxRecDepth 20000 in
set_option maxHeartbeats 4000000 in
theorem implMoebiusOf_any (A B : Option Addr) (n c m d : Nat) (p q : List Int) (w : World) (h : Rd w A n (iv p)) (h' : Rd w B m (iv q)) (hn : n ≤ 1000000000) (hm : m ≤ 1000000000) :
    Calls Try.prog 16 #[.slice A n c, .slice B m d] w fun e w' => e = .returned (.tuple #[.int .i64 (moeP p q).1, .bool (moeP p q).2]) ∧ Below w.heap.size w w' := by
  have hl1 : p.length = n := by have := h.len; rw [iv_len] at this; exact this
  have hl2 : q.length = m := by have := h'.len; rw [iv_len] at this; exact this
  have HP := Lib.hid h
  have HQ := Lib.hid h'
  have L1 := Lib.hid hl1
  have L2 := Lib.hid hl2
  clear h h' hl1 hl2
  rcases h1 : nonc p with _ | _
  · have HF := Lib.hid (show moeP p q = (0, false) by unfold moeP; rw [h1]; rfl)
    have H1 := Lib.hid h1
    clear h1
    go_enter Try.func16, Try.ntmps16
    go_wp2_with fail
    refine (implIsNoncrossing_any _ _ _ p _ HP.out hn).mono ?_
    rintro e w1 ⟨rfl, d1, hw⟩
    subst hw
    rw [H1.out]
    go_wp2_with fail
    go_ret2
    rw [HF.out]
    exact ⟨rfl, below_of_drewN ⟨d1, rfl⟩⟩
  rcases h2 : nonc q with _ | _
  · have HF := Lib.hid (show moeP p q = (0, false) by unfold moeP; rw [h1, h2]; rfl)
    have H1 := Lib.hid h1
    have H2 := Lib.hid h2
    clear h1 h2
    go_enter Try.func16, Try.ntmps16
    go_wp2_with fail
    refine (implIsNoncrossing_any _ _ _ p _ HP.out hn).mono ?_
    rintro e w1 ⟨rfl, d1, hw⟩
    subst hw
    rw [H1.out]
    go_wp2_with fail
    refine (implIsNoncrossing_any _ _ _ q (w.drewN d1) (HQ.out.drewN _) hm).mono ?_
    rintro e w1 ⟨rfl, d2, hw⟩
    rw [drewN_drewN] at hw
    subst hw
    rw [H2.out]
    go_wp2_with fail
    go_ret2
    rw [HF.out]
    exact ⟨rfl, below_of_drewN ⟨_, rfl⟩⟩
  by_cases hnm : n = m
  case neg =>
    have HF := Lib.hid (show moeP p q = (0, false) by unfold moeP; rw [h1, h2, decide_eq_false (by rw [L1.out, L2.out]; exact hnm)]; rfl)
    have H1 := Lib.hid h1
    have H2 := Lib.hid h2
    have h4 : ((n : Int) != (m : Int)) = true := by simp; omega
    clear h1 h2 hnm
    go_enter Try.func16, Try.ntmps16
    go_wp2_with fail
    refine (implIsNoncrossing_any _ _ _ p _ HP.out hn).mono ?_
    rintro e w1 ⟨rfl, d1, hw⟩
    subst hw
    rw [H1.out]
    go_wp2_with fail
    refine (implIsNoncrossing_any _ _ _ q (w.drewN d1) (HQ.out.drewN _) hm).mono ?_
    rintro e w1 ⟨rfl, d2, hw⟩
    rw [drewN_drewN] at hw
    subst hw
    rw [H2.out]
    go_wp2_with fail
    go_ret2
    rw [HF.out]
    exact ⟨rfl, below_of_drewN ⟨_, rfl⟩⟩
  subst hnm
  have h4 : ((n : Int) != (n : Int)) = false := by simp
  by_cases h5 : n ≤ 5
  case neg =>
    have HF := Lib.hid (show moeP p q = (0, false) by unfold moeP; rw [h1, h2, decide_eq_true (by rw [L1.out, L2.out]), decide_eq_false (by rw [L1.out]; exact h5)]; rfl)
    have H1 := Lib.hid h1
    have H2 := Lib.hid h2
    have h6 : ((5 : Int) < (n : Int)) := by omega
    clear h1 h2 h5
    go_enter Try.func16, Try.ntmps16
    go_wp2_with fail
    refine (implIsNoncrossing_any _ _ _ p _ HP.out hn).mono ?_
    rintro e w1 ⟨rfl, d1, hw⟩
    subst hw
    rw [H1.out]
    go_wp2_with fail
    refine (implIsNoncrossing_any _ _ _ q (w.drewN d1) (HQ.out.drewN _) hm).mono ?_
    rintro e w1 ⟨rfl, d2, hw⟩
    rw [drewN_drewN] at hw
    subst hw
    rw [H2.out]
    go_wp2_with fail
    go_ret2
    rw [HF.out]
    exact ⟨rfl, below_of_drewN ⟨_, rfl⟩⟩
  have h6 : ¬ ((5 : Int) < (n : Int)) := by omega
  rcases h3 : finB p q with _ | _
  · have HF := Lib.hid (show moeP p q = (0, true) by unfold moeP; rw [h1, h2, decide_eq_true (by rw [L1.out, L2.out]), decide_eq_true (by rw [L1.out]; exact h5), h3]; rfl)
    have H1 := Lib.hid h1
    have H2 := Lib.hid h2
    have H3 := Lib.hid h3
    clear h1 h2 h3
    go_enter Try.func16, Try.ntmps16
    go_wp2_with fail
    refine (implIsNoncrossing_any _ _ _ p _ HP.out hn).mono ?_
    rintro e w1 ⟨rfl, d1, hw⟩
    subst hw
    rw [H1.out]
    go_wp2_with fail
    refine (implIsNoncrossing_any _ _ _ q (w.drewN d1) (HQ.out.drewN _) hm).mono ?_
    rintro e w1 ⟨rfl, d2, hw⟩
    rw [drewN_drewN] at hw
    subst hw
    rw [H2.out]
    go_wp2_with fail
    refine (implIsFiner_any _ _ _ _ _ _ p q (w.drewN (d1 + d2)) (HP.out.drewN _) (HQ.out.drewN _) hn hm).mono ?_
    rintro e w1 ⟨rfl, d3, hw⟩
    rw [drewN_drewN] at hw
    subst hw
    rw [H3.out]
    go_wp2_with fail
    go_ret2
    rw [HF.out]
    exact ⟨rfl, below_of_drewN ⟨_, rfl⟩⟩
  have HF := Lib.hid (show moeP p q = (moeB (rowN n) p q, true) by unfold moeP; rw [h1, h2, decide_eq_true (by rw [L1.out, L2.out]), decide_eq_true (by rw [L1.out]; exact h5), h3, L1.out]; rfl)
  have H1 := Lib.hid h1
  have H2 := Lib.hid h2
  have H3 := Lib.hid h3
  go_enter Try.func16, Try.ntmps16
  go_wp2_with fail
  refine (implIsNoncrossing_any _ _ _ p _ HP.out hn).mono ?_
  rintro e w1 ⟨rfl, d1, hw⟩
  subst hw
  rw [H1.out]
  go_wp2_with fail
  refine (implIsNoncrossing_any _ _ _ q (w.drewN d1) (HQ.out.drewN _) hm).mono ?_
  rintro e w1 ⟨rfl, d2, hw⟩
  rw [drewN_drewN] at hw
  subst hw
  rw [H2.out]
  go_wp2_with fail
  refine (implIsFiner_any _ _ _ _ _ _ p q (w.drewN (d1 + d2)) (HP.out.drewN _) (HQ.out.drewN _) hn hm).mono ?_
  rintro e w1 ⟨rfl, d3, hw⟩
  rw [drewN_drewN] at hw
  subst hw
  rw [H3.out]
  go_wp2_with fail
  obtain ⟨hall, hpar⟩ := rowN_par h5
  have HR := Lib.hid (fun x hx => (show isPar x = true ∧ x.length ≤ 5 from ⟨(hpar x hx).1, by have := (hpar x hx).2; omega⟩))
  have hq5 : rk q ≤ 5 := by have := (rk_bd (nonc_par h2)).2; have := L2.out; omega
  have hq8 : q.length ≤ 8 := by have := L2.out; omega
  obtain ⟨L, hL⟩ : ∃ L, L = rowN n := ⟨_, rfl⟩
  have HNC := Lib.hid (fun w => noncrossing_any n w (show n ≤ 8 by omega))
  rw [← hL] at HF HNC HR hall
  clear h1 h2 h3 hpar hL
  refine (HNC.out _).mono ?_
  rintro e w2 ⟨A', m', c', vs, hm', rfl, ho, hb⟩
  have HO := Lib.hid ho
  have HM := Lib.hid hm'
  have HP2 := Lib.hid ((HP.out.drewN (d1 + d2 + d3)).below hb)
  have HQ2 := Lib.hid ((HQ.out.drewN (d1 + d2 + d3)).below hb)
  have HBW := Lib.hid (show Below w.heap.size w w2 from (below_drewN' (Below.refl w.heap.size w) (d1 + d2 + d3)).trans hb)
  clear ho hm'
  go_wp2_with fail
  refine (moebius_all L p A' m' c' vs _ A n c hall HR.out (by omega) 5 q hq5 hq5 hq8 B n d w2 HO.out HP2.out HQ2.out).mono ?_
  rintro e w3 ⟨rfl, d4, rfl⟩
  go_wp2_with fail
  go_ret2
  rw [HF.out]
  exact ⟨rfl, below_drewN' HBW.out d4⟩

end Go.Proofs.Ytghfhkbncjgaeaa
