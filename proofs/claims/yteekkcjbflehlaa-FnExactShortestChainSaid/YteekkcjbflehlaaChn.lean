/- The chains of rotations of both sides. -/
import Derived.Test.YteekkcjbflehlaaChnL
import Derived.Test.YteekkcjbflehlaaTamS
import Derived.Test.YteekkcjbflehlaaTamI
import Derived.Test.YteekkcjbflehlaaRotS
import Derived.Test.YteekkcjbflehlaaNbI
namespace Go.Proofs.Yteekkcjbflehlaa
set_option linter.unusedVariables false
open Go.RowKit Go.Deep

theorem upB_1 {lg : Bool} {m n : Int} (h : n < 0) : upB lg m n = m := by unfold upB; rw [if_neg (by omega)]
theorem upB_2 {lg : Bool} {m n : Int} (h : 0 ≤ n) (hm : m < 0) : upB lg m n = n + 1 := by unfold upB; rw [if_pos ⟨h, Or.inl hm⟩]
theorem upB_3 {m n : Int} (h : 0 ≤ n) (hm : m < n + 1) : upB true m n = n + 1 := by unfold upB; rw [if_pos ⟨h, Or.inr (Or.inl ⟨rfl, hm⟩)⟩]
theorem upB_4 {m n : Int} (hm : 0 ≤ m) (h : n + 1 ≤ m) : upB true m n = m := by
  unfold upB; rw [if_neg]; rintro ⟨_, h1 | ⟨_, h1⟩ | ⟨h1, _⟩⟩
  · omega
  · omega
  · cases h1
theorem upB_5 {m n : Int} (h : 0 ≤ n) (hm : n + 1 < m) : upB false m n = n + 1 := by unfold upB; rw [if_pos ⟨h, Or.inr (Or.inr ⟨rfl, hm⟩)⟩]
theorem upB_6 {m n : Int} (hm : 0 ≤ m) (h : m ≤ n + 1) : upB false m n = m := by
  unfold upB; rw [if_neg]; rintro ⟨_, h1 | ⟨h1, _⟩ | ⟨_, h1⟩⟩
  · omega
  · cases h1
  · omega
theorem tx_ne {t s : Tr} (h : tx t ≠ tx s) : (tx t == tx s) = false := by simpa using h
theorem tx_eq {t s : Tr} (h : tx t = tx s) : (tx t == tx s) = true := by simpa using h

set_option maxRecDepth 20000 in
set_option maxHeartbeats 2000000 in
theorem l17Chain_any (lg : Bool) : ∀ (f : Nat) (t s : Tr) (w : World), nodes t ≤ 4 → nodes s ≤ 8 → sh t = t → 34 < f + sm t → f ≤ 1000 →
    Calls Try.prog 90 #[.string (bs (tx t)), .string (bs (tx s)), .bool lg] w fun e w' => e = .returned (.int .i64 (chn lg f (tx t) (tx s))) ∧ Below w.heap.size w w' := by
  intro f
  induction f with
  | zero => intro t s w ht _ _ hf _; have := sm_le t (by omega); omega
  | succ f ih =>
    intro t s w ht hs hsh hf hf9
    have hsm := sm_le t (by omega)
    obtain ⟨g, rfl⟩ : ∃ g, f = g + 1 := ⟨f - 1, by omega⟩
    have HIH := Lib.hid ih
    have hta := tx_len t
    have hsa := tx_len s
    have hl : (tx t).length ≤ 1000000000 := by omega
    have hl2 : (tx s).length ≤ 1000000000 := by omega
    clear ih
    by_cases he : tx t = tx s
    · have HF := Lib.hid (show chn lg (g + 1 + 1) (tx t) (tx s) = 0 by rw [he, chn_eq])
      have h1 := tx_eq he
      clear he
      go_enter Try.func90, Try.ntmps90
      go_wp2_with fail
      go_ret
      exact ⟨ret_int (by rw [HF.out]), Below.refl _ _⟩
    have HF := Lib.hid (chn_fold (lg := lg) (f := g) (show nodes t ≤ 8 by omega) hs hsh he)
    have h1 := tx_ne he
    have HN := Lib.hid (nodesB_tx (t := t) (by omega))
    have HS := Lib.hid hsh
    clear he hsh
    go_enter Try.func90, Try.ntmps90
    go_wp2_with fail
    go_loopw [7, 8, 9, 10, 11] (fun b v _ _ _ wr => ∃ k : Nat, k ≤ nodes t ∧ v = .int .i64 k ∧ b = .int .i64 (chF lg (g + 1) (tx s) (rts rotR t k)) ∧ Below w.heap.size w wr) (fun _ v _ _ _ _ => nodes t - (intOf v).toNat)
    case atStart => exact ⟨0, Nat.zero_le _, rfl, rfl, Below.refl _ _⟩
    case round =>
      obtain ⟨k, hk, rfl, rfl, hb⟩ := hrel
      have hKb := chF_bd lg (g + 1) (tx s) (rts rotR t k)
      obtain ⟨K, hK⟩ : ∃ K, K = chF lg (g + 1) (tx s) (rts rotR t k) := ⟨_, rfl⟩
      rw [← hK] at hKb ⊢
      have HK := Lib.hid hK
      have hbs := hb.size
      clear hK
      by_cases hlt : k < nodes t
      · have HR := Lib.hid (show rotRB (tx t) (k : Int) = oT (rotR t k) by rw [rotRB, atB_in (by omega) HS.out hlt])
        rcases hr : rotR t k with _ | x
        · have HC := Lib.hid (show chF lg (g + 1) (tx s) (rts rotR t (k + 1)) = K by rw [rts_none hr, HK.out])
          have HR2 := Lib.hid (show rotRB (tx t) (k : Int) = ([], false) by rw [HR.out, hr]; rfl)
          clear hr
          go_wp2_with fail
          refine (specNodesOf_any _ _ hl).mono ?_
          rintro e w' ⟨rfl, rfl⟩
          rw [HN.out]
          go_wp2_with fail
          refine (specRotateRight_any _ _ _ hl).mono ?_
          rintro e w' ⟨rfl, m2, rfl⟩
          rw [HR2.out]
          go_wp2_with fail
          go_roundw
          case rel => exact ⟨k + 1, by omega, by go_num, by rw [HC.out], below_drewN' hb m2⟩
          case measure => simp [intOf]; omega
        · obtain ⟨_, u1, u2, _⟩ := rotR_up hr
          have HXS := Lib.hid (rotR_sh HS.out hr)
          have hx4 : nodes x ≤ 4 := by omega
          have hxl : (tx x).length ≤ 1000000000 := by rw [tx_len]; omega
          have HR2 := Lib.hid (show rotRB (tx t) (k : Int) = (tx x, true) by rw [HR.out, hr]; rfl)
          rcases hl17 : tlessB (tx x) (tx s) with _ | _
          · have HC := Lib.hid (show chF lg (g + 1) (tx s) (rts rotR t (k + 1)) = K by rw [rts_some hr, chF_skip (by omega) hl17, HK.out])
            have HLS := Lib.hid hl17
            clear hr hl17
            go_wp2_with fail
            refine (specNodesOf_any _ _ hl).mono ?_
            rintro e w' ⟨rfl, rfl⟩
            rw [HN.out]
            go_wp2_with fail
            refine (specRotateRight_any _ _ _ hl).mono ?_
            rintro e w2 ⟨rfl, m2, hw2⟩
            have hb2 : Below w.heap.size w w2 := by rw [hw2]; exact below_drewN' hb m2
            have hbs2 := hb2.size
            clear hw2
            rw [HR2.out]
            go_wp2_with fail
            refine (specIsTamariLess_any _ _ _ hxl hl2).mono ?_
            rintro e w3 ⟨rfl, hb3⟩
            rw [HLS.out]
            have hb4 := hb2.trans (hb3.mono hbs2)
            clear hb3
            go_wp2_with fail
            go_roundw
            case rel => exact ⟨k + 1, by omega, by go_num, by rw [HC.out], hb4⟩
            case measure => simp [intOf]; omega
          · have HC := Lib.hid (show chF lg (g + 1) (tx s) (rts rotR t (k + 1)) = upB lg K (chn lg (g + 1) (tx x) (tx s)) by rw [rts_some hr, chF_snoc, HK.out])
            have HLS := Lib.hid hl17
            have hVb := chn_bd lg (g + 1) (tx x) (tx s)
            have HV := Lib.hid (HIH.out x s)
            obtain ⟨V, hV⟩ : ∃ V, V = chn lg (g + 1) (tx x) (tx s) := ⟨_, rfl⟩
            rw [← hV] at HC HV hVb
            have hg9 : g ≤ 1000000 := by omega
            clear hr hl17 hV
            by_cases hv : V < 0
            · have HU := Lib.hid (show upB lg K V = K from upB_1 hv)
              have hv1 : ¬ (0 ≤ V) := by omega
              go_wp2_with fail
              refine (specNodesOf_any _ _ hl).mono ?_
              rintro e w' ⟨rfl, rfl⟩
              rw [HN.out]
              go_wp2_with fail
              refine (specRotateRight_any _ _ _ hl).mono ?_
              rintro e w2 ⟨rfl, m2, hw2⟩
              have hb2 : Below w.heap.size w w2 := by rw [hw2]; exact below_drewN' hb m2
              have hbs2 := hb2.size
              clear hw2
              rw [HR2.out]
              go_wp2_with fail
              refine (specIsTamariLess_any _ _ _ hxl hl2).mono ?_
              rintro e w3 ⟨rfl, hb3⟩
              rw [HLS.out]
              have hb4 := hb2.trans (hb3.mono hbs2)
              have hbs4 := hb4.size
              clear hb3
              go_wp2_with fail
              refine (HV.out _ hx4 hs HXS.out (by omega) (by omega)).mono ?_
              rintro e w4 ⟨rfl, hb5⟩
              have hb6 := hb4.trans (hb5.mono hbs4)
              clear hb5
              go_wp2_with fail
              go_roundw
              case rel => exact ⟨k + 1, by omega, by go_num, by rw [HC.out, HU.out], hb6⟩
              case measure => simp [intOf]; omega
            have hv0 : 0 ≤ V := by omega
            by_cases hK0 : K < 0
            · have HU := Lib.hid (show upB lg K V = V + 1 from upB_2 hv0 hK0)
              go_wp2_with fail
              refine (specNodesOf_any _ _ hl).mono ?_
              rintro e w' ⟨rfl, rfl⟩
              rw [HN.out]
              go_wp2_with fail
              refine (specRotateRight_any _ _ _ hl).mono ?_
              rintro e w2 ⟨rfl, m2, hw2⟩
              have hb2 : Below w.heap.size w w2 := by rw [hw2]; exact below_drewN' hb m2
              have hbs2 := hb2.size
              clear hw2
              rw [HR2.out]
              go_wp2_with fail
              refine (specIsTamariLess_any _ _ _ hxl hl2).mono ?_
              rintro e w3 ⟨rfl, hb3⟩
              rw [HLS.out]
              have hb4 := hb2.trans (hb3.mono hbs2)
              have hbs4 := hb4.size
              clear hb3
              go_wp2_with fail
              refine (HV.out _ hx4 hs HXS.out (by omega) (by omega)).mono ?_
              rintro e w4 ⟨rfl, hb5⟩
              have hb6 := hb4.trans (hb5.mono hbs4)
              clear hb5
              go_wp2_with fail
              go_roundw
              case rel => exact ⟨k + 1, by omega, by go_num, by rw [HC.out, HU.out], hb6⟩
              case measure => simp [intOf]; omega
            have hK1 : 0 ≤ K := by omega
            rcases hlg : lg with _ | _
            · subst hlg
              by_cases hc : V + 1 < K
              · have HU := Lib.hid (show upB false K V = V + 1 from upB_5 hv0 hc)
                go_wp2_with fail
                refine (specNodesOf_any _ _ hl).mono ?_
                rintro e w' ⟨rfl, rfl⟩
                rw [HN.out]
                go_wp2_with fail
                refine (specRotateRight_any _ _ _ hl).mono ?_
                rintro e w2 ⟨rfl, m2, hw2⟩
                have hb2 : Below w.heap.size w w2 := by rw [hw2]; exact below_drewN' hb m2
                have hbs2 := hb2.size
                clear hw2
                rw [HR2.out]
                go_wp2_with fail
                refine (specIsTamariLess_any _ _ _ hxl hl2).mono ?_
                rintro e w3 ⟨rfl, hb3⟩
                rw [HLS.out]
                have hb4 := hb2.trans (hb3.mono hbs2)
                have hbs4 := hb4.size
                clear hb3
                go_wp2_with fail
                refine (HV.out _ hx4 hs HXS.out (by omega) (by omega)).mono ?_
                rintro e w4 ⟨rfl, hb5⟩
                have hb6 := hb4.trans (hb5.mono hbs4)
                clear hb5
                go_wp2_with fail
                go_roundw
                case rel => exact ⟨k + 1, by omega, by go_num, by rw [HC.out, HU.out], hb6⟩
                case measure => simp [intOf]; omega
              · have HU := Lib.hid (show upB false K V = K from upB_6 hK1 (by omega))
                go_wp2_with fail
                refine (specNodesOf_any _ _ hl).mono ?_
                rintro e w' ⟨rfl, rfl⟩
                rw [HN.out]
                go_wp2_with fail
                refine (specRotateRight_any _ _ _ hl).mono ?_
                rintro e w2 ⟨rfl, m2, hw2⟩
                have hb2 : Below w.heap.size w w2 := by rw [hw2]; exact below_drewN' hb m2
                have hbs2 := hb2.size
                clear hw2
                rw [HR2.out]
                go_wp2_with fail
                refine (specIsTamariLess_any _ _ _ hxl hl2).mono ?_
                rintro e w3 ⟨rfl, hb3⟩
                rw [HLS.out]
                have hb4 := hb2.trans (hb3.mono hbs2)
                have hbs4 := hb4.size
                clear hb3
                go_wp2_with fail
                refine (HV.out _ hx4 hs HXS.out (by omega) (by omega)).mono ?_
                rintro e w4 ⟨rfl, hb5⟩
                have hb6 := hb4.trans (hb5.mono hbs4)
                clear hb5
                go_wp2_with fail
                go_roundw
                case rel => exact ⟨k + 1, by omega, by go_num, by rw [HC.out, HU.out], hb6⟩
                case measure => simp [intOf]; omega
            · subst hlg
              by_cases hc : K < V + 1
              · have HU := Lib.hid (show upB true K V = V + 1 from upB_3 hv0 hc)
                go_wp2_with fail
                refine (specNodesOf_any _ _ hl).mono ?_
                rintro e w' ⟨rfl, rfl⟩
                rw [HN.out]
                go_wp2_with fail
                refine (specRotateRight_any _ _ _ hl).mono ?_
                rintro e w2 ⟨rfl, m2, hw2⟩
                have hb2 : Below w.heap.size w w2 := by rw [hw2]; exact below_drewN' hb m2
                have hbs2 := hb2.size
                clear hw2
                rw [HR2.out]
                go_wp2_with fail
                refine (specIsTamariLess_any _ _ _ hxl hl2).mono ?_
                rintro e w3 ⟨rfl, hb3⟩
                rw [HLS.out]
                have hb4 := hb2.trans (hb3.mono hbs2)
                have hbs4 := hb4.size
                clear hb3
                go_wp2_with fail
                refine (HV.out _ hx4 hs HXS.out (by omega) (by omega)).mono ?_
                rintro e w4 ⟨rfl, hb5⟩
                have hb6 := hb4.trans (hb5.mono hbs4)
                clear hb5
                go_wp2_with fail
                go_roundw
                case rel => exact ⟨k + 1, by omega, by go_num, by rw [HC.out, HU.out], hb6⟩
                case measure => simp [intOf]; omega
              · have HU := Lib.hid (show upB true K V = K from upB_4 hK1 (by omega))
                go_wp2_with fail
                refine (specNodesOf_any _ _ hl).mono ?_
                rintro e w' ⟨rfl, rfl⟩
                rw [HN.out]
                go_wp2_with fail
                refine (specRotateRight_any _ _ _ hl).mono ?_
                rintro e w2 ⟨rfl, m2, hw2⟩
                have hb2 : Below w.heap.size w w2 := by rw [hw2]; exact below_drewN' hb m2
                have hbs2 := hb2.size
                clear hw2
                rw [HR2.out]
                go_wp2_with fail
                refine (specIsTamariLess_any _ _ _ hxl hl2).mono ?_
                rintro e w3 ⟨rfl, hb3⟩
                rw [HLS.out]
                have hb4 := hb2.trans (hb3.mono hbs2)
                have hbs4 := hb4.size
                clear hb3
                go_wp2_with fail
                refine (HV.out _ hx4 hs HXS.out (by omega) (by omega)).mono ?_
                rintro e w4 ⟨rfl, hb5⟩
                have hb6 := hb4.trans (hb5.mono hbs4)
                clear hb5
                go_wp2_with fail
                go_roundw
                case rel => exact ⟨k + 1, by omega, by go_num, by rw [HC.out, HU.out], hb6⟩
                case measure => simp [intOf]; omega
      · have hkn : k = nodes t := by omega
        have HD := Lib.hid (show chn lg (g + 1 + 1) (tx t) (tx s) = K by rw [HK.out, hkn]; exact HF.out)
        clear hkn
        go_wp2_with fail
        refine (specNodesOf_any _ _ hl).mono ?_
        rintro e w' ⟨rfl, rfl⟩
        rw [HN.out]
        go_wp2_with fail
        go_ret
        exact ⟨ret_int (by rw [HD.out]), hb⟩

set_option maxRecDepth 20000 in
set_option maxHeartbeats 2000000 in
theorem chain_any (lg : Bool) : ∀ (f : Nat) (t s : Tr) (w : World), nodes t ≤ 4 → nodes s ≤ 8 → sh t = t → 34 < f + sm t → f ≤ 1000 →
    Calls Try.prog 89 #[.string (bs (tx t)), .string (bs (tx s)), .bool lg] w fun e w' => e = .returned (.int .i64 (chn lg f (tx t) (tx s))) ∧ Below w.heap.size w w' := by
  intro f
  induction f with
  | zero => intro t s w ht _ _ hf _; have := sm_le t (by omega); omega
  | succ f ih =>
    intro t s w ht hs hsh hf hf9
    have hsm := sm_le t (by omega)
    obtain ⟨g, rfl⟩ : ∃ g, f = g + 1 := ⟨f - 1, by omega⟩
    have HIH := Lib.hid ih
    have hta := tx_len t
    have hsa := tx_len s
    have hl : (tx t).length ≤ 1000000000 := by omega
    have hl2 : (tx s).length ≤ 1000000000 := by omega
    clear ih
    by_cases he : tx t = tx s
    · have HF := Lib.hid (show chn lg (g + 1 + 1) (tx t) (tx s) = 0 by rw [he, chn_eq])
      have h1 := tx_eq he
      clear he
      go_enter Try.func89, Try.ntmps89
      go_wp2_with fail
      go_ret
      exact ⟨ret_int (by rw [HF.out]), Below.refl _ _⟩
    have h1 := tx_ne he
    rcases hl17 : tlessB (tx t) (tx s) with _ | _
    · have HF := Lib.hid (show chn lg (g + 1 + 1) (tx t) (tx s) = -1 from chn_no he hl17)
      have HLS := Lib.hid hl17
      clear he hl17
      go_enter Try.func89, Try.ntmps89
      go_wp2_with fail
      refine (implIsTamariLess_any _ _ _ hl hl2).mono ?_
      rintro e w3 ⟨rfl, hb3⟩
      rw [HLS.out]
      go_wp2_with fail
      go_ret
      exact ⟨ret_int (by rw [HF.out]), hb3⟩
    have HF := Lib.hid (show chn lg (g + 1 + 1) (tx t) (tx s) = chF lg (g + 1) (tx s) (rtsB rotR (tx t)) from chn_yes he hl17)
    have HLS := Lib.hid hl17
    have HM := Lib.hid (show ∀ x ∈ rtsB rotR (tx t), ∃ y, x = tx y ∧ nodes y = nodes t ∧ sm t < sm y ∧ sh y = y by
      intro x hx
      rw [rtsB_tx (by omega) hsh] at hx
      obtain ⟨v, y, _, h2, h3⟩ := rts_mem hx
      obtain ⟨_, u1, u2, _⟩ := rotR_up h2
      exact ⟨y, h3, u1, u2, rotR_sh hsh h2⟩)
    have hx8 := rtsB_len rotR (tx t)
    obtain ⟨XS, hXS⟩ : ∃ XS, XS = rtsB rotR (tx t) := ⟨_, rfl⟩
    have HP := Lib.hid (show ∀ w, Calls Try.prog 111 #[.string (bs (tx t)), .func (.func 55) #[] #[]] w (RetS w XS) from fun w => by rw [hXS]; exact rotationsRight_any _ w hl)
    rw [← hXS] at HF HM hx8
    clear he hl17 hXS hsh
    go_enter Try.func89, Try.ntmps89
    go_wp2_with fail
    refine (implIsTamariLess_any _ _ _ hl hl2).mono ?_
    rintro e w3 ⟨rfl, hb3⟩
    rw [HLS.out]
    go_wp2_with fail
    refine (HP.out _).mono ?_
    rintro e w4 ⟨A, m, c, hm, rfl, ho, hb4⟩
    have HR := Lib.hid ho.rd
    have HML := Lib.hid hm
    have hb5 := hb3.trans (hb4.mono hb3.size)
    have hs5 := hb5.size
    have hm8 : m ≤ 8 := by omega
    clear ho hm hb3 hb4
    go_wp2_with fail
    go_loopw [7, 9, 10, 21] (fun b _ _ v wr => ∃ k : Nat, k ≤ m ∧ v = .int .i64 k ∧ b = .int .i64 (chF lg (g + 1) (tx s) (XS.take k)) ∧ Below w4.heap.size w4 wr) (fun _ _ _ v _ => m - (intOf v).toNat)
    case atStart => exact ⟨0, Nat.zero_le _, rfl, rfl, Below.refl _ _⟩
    case round =>
      obtain ⟨k, hk, rfl, rfl, hb⟩ := hrel
      have hKb := chF_bd lg (g + 1) (tx s) (XS.take k)
      obtain ⟨K, hK⟩ : ∃ K, K = chF lg (g + 1) (tx s) (XS.take k) := ⟨_, rfl⟩
      rw [← hK] at hKb ⊢
      have HK := Lib.hid hK
      have hbs := hb.size
      clear hK
      by_cases hlt : k < m
      · obtain ⟨bl, off, x, rfl, hx, hc⟩ := (HR.out.below hb).ats hlt
        obtain ⟨y, rfl, n1, n2, n3⟩ := HM.out x (List.mem_of_getElem? hx)
        have HXS := Lib.hid n3
        have hx4 : nodes y ≤ 4 := by omega
        have HC := Lib.hid (show chF lg (g + 1) (tx s) (XS.take (k + 1)) = upB lg K (chn lg (g + 1) (tx y) (tx s)) by
          obtain ⟨h2, h3⟩ := List.getElem?_eq_some_iff.1 hx
          rw [List.take_succ_eq_append_getElem h2, h3, chF_snoc, HK.out])
        have hVb := chn_bd lg (g + 1) (tx y) (tx s)
        have HV := Lib.hid (HIH.out y s)
        obtain ⟨V, hV⟩ : ∃ V, V = chn lg (g + 1) (tx y) (tx s) := ⟨_, rfl⟩
        rw [← hV] at HC HV hVb
        have hg9 : g ≤ 1000000 := by omega
        clear hx hV n1 n3
        by_cases hv : V < 0
        · have HU := Lib.hid (show upB lg K V = K from upB_1 hv)
          have hv1 : ¬ (0 ≤ V) := by omega
          go_wp2_with fail
          refine (HV.out _ hx4 hs HXS.out (by omega) (by omega)).mono ?_
          rintro e w6 ⟨rfl, hb6⟩
          have hb7 := hb.trans (hb6.mono hbs)
          clear hb6
          go_wp2_with fail
          go_roundw
          case rel => exact ⟨k + 1, by omega, by go_num, by rw [HC.out, HU.out], hb7⟩
          case measure => simp [intOf]; omega
        have hv0 : 0 ≤ V := by omega
        by_cases hK0 : K < 0
        · have HU := Lib.hid (show upB lg K V = V + 1 from upB_2 hv0 hK0)
          go_wp2_with fail
          refine (HV.out _ hx4 hs HXS.out (by omega) (by omega)).mono ?_
          rintro e w6 ⟨rfl, hb6⟩
          have hb7 := hb.trans (hb6.mono hbs)
          clear hb6
          go_wp2_with fail
          go_roundw
          case rel => exact ⟨k + 1, by omega, by go_num, by rw [HC.out, HU.out], hb7⟩
          case measure => simp [intOf]; omega
        have hK1 : 0 ≤ K := by omega
        rcases hlg : lg with _ | _
        · subst hlg
          by_cases hc : V + 1 < K
          · have HU := Lib.hid (show upB false K V = V + 1 from upB_5 hv0 hc)
            go_wp2_with fail
            refine (HV.out _ hx4 hs HXS.out (by omega) (by omega)).mono ?_
            rintro e w6 ⟨rfl, hb6⟩
            have hb7 := hb.trans (hb6.mono hbs)
            clear hb6
            go_wp2_with fail
            go_roundw
            case rel => exact ⟨k + 1, by omega, by go_num, by rw [HC.out, HU.out], hb7⟩
            case measure => simp [intOf]; omega
          · have HU := Lib.hid (show upB false K V = K from upB_6 hK1 (by omega))
            go_wp2_with fail
            refine (HV.out _ hx4 hs HXS.out (by omega) (by omega)).mono ?_
            rintro e w6 ⟨rfl, hb6⟩
            have hb7 := hb.trans (hb6.mono hbs)
            clear hb6
            go_wp2_with fail
            go_roundw
            case rel => exact ⟨k + 1, by omega, by go_num, by rw [HC.out, HU.out], hb7⟩
            case measure => simp [intOf]; omega
        · subst hlg
          by_cases hc : K < V + 1
          · have HU := Lib.hid (show upB true K V = V + 1 from upB_3 hv0 hc)
            go_wp2_with fail
            refine (HV.out _ hx4 hs HXS.out (by omega) (by omega)).mono ?_
            rintro e w6 ⟨rfl, hb6⟩
            have hb7 := hb.trans (hb6.mono hbs)
            clear hb6
            go_wp2_with fail
            go_roundw
            case rel => exact ⟨k + 1, by omega, by go_num, by rw [HC.out, HU.out], hb7⟩
            case measure => simp [intOf]; omega
          · have HU := Lib.hid (show upB true K V = K from upB_4 hK1 (by omega))
            go_wp2_with fail
            refine (HV.out _ hx4 hs HXS.out (by omega) (by omega)).mono ?_
            rintro e w6 ⟨rfl, hb6⟩
            have hb7 := hb.trans (hb6.mono hbs)
            clear hb6
            go_wp2_with fail
            go_roundw
            case rel => exact ⟨k + 1, by omega, by go_num, by rw [HC.out, HU.out], hb7⟩
            case measure => simp [intOf]; omega
      · have hkn : k = m := by omega
        have HD := Lib.hid (show chn lg (g + 1 + 1) (tx t) (tx s) = K by rw [HF.out, HK.out, hkn, HML.out, List.take_length])
        clear hkn
        go_wp2_with fail
        go_ret
        exact ⟨ret_int (by rw [HD.out]), hb5.trans (hb.mono hs5)⟩

theorem alike_48 {a b : List UInt8} (h : alikeB a b 8 = false) (m : Int) (hm : m ≤ 8) : alikeB a b m = false := by
  rcases hh : alikeB a b m with _ | _
  · rfl
  · obtain ⟨s, t, rfl, rfl, h1, h2, _, _, h3, h4⟩ := alike_yes hh
    rw [alike_tx h1 h2, h3] at h
    simp at h
    omega

theorem specLongestChain_any (a b : List UInt8) (w : World) (ha : a.length ≤ 1000000000) (hb : b.length ≤ 1000000000) :
    Calls Try.prog 28 #[.string (bs a), .string (bs b)] w fun e w' => e = .returned (.int .i64 (chB true a b)) ∧ Below w.heap.size w w' := by
  rcases hf8 : alikeB a b 8 with _ | _
  · have HF := Lib.hid (show chB true a b = -1 by unfold chB; rw [alike_48 hf8 4 (by omega)]; rfl)
    have H1 := Lib.hid hf8
    clear hf8
    go_enter Try.func28, Try.ntmps28
    go_wp2_with fail
    refine (fit_any _ _ _ ha hb).mono ?_
    rintro e w0 ⟨rfl, hb0⟩
    rw [H1.out]
    go_wp2_with fail
    go_ret
    exact ⟨ret_int (by rw [HF.out]), hb0⟩
  rcases hf : alikeB a b 4 with _ | _
  · have HF := Lib.hid (show chB true a b = -1 by unfold chB; rw [hf]; rfl)
    have h5 : 4 < nodesB a := by
      obtain ⟨s, t, rfl, rfl, hs, ht, _, _, hst, _⟩ := alike_yes hf8
      rw [alike_tx hs ht, hst] at hf
      simp at hf
      rw [nodesB_tx hs]; omega
    have H1 := Lib.hid hf8
    clear hf8 hf
    go_enter Try.func28, Try.ntmps28
    go_wp2_with fail
    refine (fit_any _ _ _ ha hb).mono ?_
    rintro e w0 ⟨rfl, hb0⟩
    rw [H1.out]
    go_wp2_with fail
    refine (specNodesOf_any _ _ ha).mono ?_
    rintro e w' ⟨rfl, rfl⟩
    go_wp2_with fail
    go_ret
    exact ⟨ret_int (by rw [HF.out]), hb0⟩
  obtain ⟨t, s, rfl, rfl, ht, hs, st, _, hst, hm⟩ := alike_yes hf
  have HF := Lib.hid (show chB true (tx t) (tx s) = chn true 40 (tx t) (tx s) by unfold chB; rw [if_pos hf])
  have HN := Lib.hid (nodesB_tx ht)
  have h4 : nodes t ≤ 4 := by omega
  have HC := Lib.hid (fun w => l17Chain_any true 40 t s w h4 hs st (by omega) (by omega))
  have H8 := Lib.hid hf8
  clear hf8 hf st hst
  go_enter Try.func28, Try.ntmps28
  go_wp2_with fail
  refine (fit_any _ _ _ ha hb).mono ?_
  rintro e w0 ⟨rfl, hb0⟩
  rw [H8.out]
  go_wp2_with fail
  refine (specNodesOf_any _ _ ha).mono ?_
  rintro e w' ⟨rfl, rfl⟩
  rw [HN.out]
  go_wp2_with fail
  refine (HC.out _).mono ?_
  rintro e w1 ⟨rfl, hb1⟩
  go_wp2_with fail
  go_ret
  exact ⟨ret_int (by rw [HF.out]), hb0.trans (hb1.mono hb0.size)⟩
theorem implLongestChain_any (a b : List UInt8) (w : World) (ha : a.length ≤ 1000000000) (hb : b.length ≤ 1000000000) :
    Calls Try.prog 26 #[.string (bs a), .string (bs b)] w fun e w' => e = .returned (.int .i64 (chB true a b)) ∧ Below w.heap.size w w' := by
  rcases hf : alikeB a b 4 with _ | _
  · have HF := Lib.hid (show chB true a b = -1 by unfold chB; rw [hf]; rfl)
    have H1 := Lib.hid hf
    clear hf
    go_enter Try.func26, Try.ntmps26
    go_wp2_with fail
    refine (alike_any _ _ 4 _ ha hb).mono ?_
    rintro e w0 ⟨rfl, hb0⟩
    rw [H1.out]
    go_wp2_with fail
    go_ret
    exact ⟨ret_int (by rw [HF.out]), hb0⟩
  obtain ⟨t, s, rfl, rfl, ht, hs, st, _, hst, hm⟩ := alike_yes hf
  have HF := Lib.hid (show chB true (tx t) (tx s) = chn true 40 (tx t) (tx s) by unfold chB; rw [if_pos hf])
  have h4 : nodes t ≤ 4 := by omega
  have HC := Lib.hid (fun w => chain_any true 40 t s w h4 hs st (by omega) (by omega))
  have H1 := Lib.hid hf
  clear hf st hst
  go_enter Try.func26, Try.ntmps26
  go_wp2_with fail
  refine (alike_any _ _ 4 _ ha hb).mono ?_
  rintro e w0 ⟨rfl, hb0⟩
  rw [H1.out]
  go_wp2_with fail
  refine (HC.out _).mono ?_
  rintro e w1 ⟨rfl, hb1⟩
  go_wp2_with fail
  go_ret
  exact ⟨ret_int (by rw [HF.out]), hb0.trans (hb1.mono hb0.size)⟩

theorem specShortestChain_any (a b : List UInt8) (w : World) (ha : a.length ≤ 1000000000) (hb : b.length ≤ 1000000000) :
    Calls Try.prog 29 #[.string (bs a), .string (bs b)] w fun e w' => e = .returned (.int .i64 (chB false a b)) ∧ Below w.heap.size w w' := by
  rcases hf8 : alikeB a b 8 with _ | _
  · have HF := Lib.hid (show chB false a b = -1 by unfold chB; rw [alike_48 hf8 4 (by omega)]; rfl)
    have H1 := Lib.hid hf8
    clear hf8
    go_enter Try.func29, Try.ntmps29
    go_wp2_with fail
    refine (fit_any _ _ _ ha hb).mono ?_
    rintro e w0 ⟨rfl, hb0⟩
    rw [H1.out]
    go_wp2_with fail
    go_ret
    exact ⟨ret_int (by rw [HF.out]), hb0⟩
  rcases hf : alikeB a b 4 with _ | _
  · have HF := Lib.hid (show chB false a b = -1 by unfold chB; rw [hf]; rfl)
    have h5 : 4 < nodesB a := by
      obtain ⟨s, t, rfl, rfl, hs, ht, _, _, hst, _⟩ := alike_yes hf8
      rw [alike_tx hs ht, hst] at hf
      simp at hf
      rw [nodesB_tx hs]; omega
    have H1 := Lib.hid hf8
    clear hf8 hf
    go_enter Try.func29, Try.ntmps29
    go_wp2_with fail
    refine (fit_any _ _ _ ha hb).mono ?_
    rintro e w0 ⟨rfl, hb0⟩
    rw [H1.out]
    go_wp2_with fail
    refine (specNodesOf_any _ _ ha).mono ?_
    rintro e w' ⟨rfl, rfl⟩
    go_wp2_with fail
    go_ret
    exact ⟨ret_int (by rw [HF.out]), hb0⟩
  obtain ⟨t, s, rfl, rfl, ht, hs, st, _, hst, hm⟩ := alike_yes hf
  have HF := Lib.hid (show chB false (tx t) (tx s) = chn false 40 (tx t) (tx s) by unfold chB; rw [if_pos hf])
  have HN := Lib.hid (nodesB_tx ht)
  have h4 : nodes t ≤ 4 := by omega
  have HC := Lib.hid (fun w => l17Chain_any false 40 t s w h4 hs st (by omega) (by omega))
  have H8 := Lib.hid hf8
  clear hf8 hf st hst
  go_enter Try.func29, Try.ntmps29
  go_wp2_with fail
  refine (fit_any _ _ _ ha hb).mono ?_
  rintro e w0 ⟨rfl, hb0⟩
  rw [H8.out]
  go_wp2_with fail
  refine (specNodesOf_any _ _ ha).mono ?_
  rintro e w' ⟨rfl, rfl⟩
  rw [HN.out]
  go_wp2_with fail
  refine (HC.out _).mono ?_
  rintro e w1 ⟨rfl, hb1⟩
  go_wp2_with fail
  go_ret
  exact ⟨ret_int (by rw [HF.out]), hb0.trans (hb1.mono hb0.size)⟩
theorem implShortestChain_any (a b : List UInt8) (w : World) (ha : a.length ≤ 1000000000) (hb : b.length ≤ 1000000000) :
    Calls Try.prog 27 #[.string (bs a), .string (bs b)] w fun e w' => e = .returned (.int .i64 (chB false a b)) ∧ Below w.heap.size w w' := by
  rcases hf : alikeB a b 4 with _ | _
  · have HF := Lib.hid (show chB false a b = -1 by unfold chB; rw [hf]; rfl)
    have H1 := Lib.hid hf
    clear hf
    go_enter Try.func27, Try.ntmps27
    go_wp2_with fail
    refine (alike_any _ _ 4 _ ha hb).mono ?_
    rintro e w0 ⟨rfl, hb0⟩
    rw [H1.out]
    go_wp2_with fail
    go_ret
    exact ⟨ret_int (by rw [HF.out]), hb0⟩
  obtain ⟨t, s, rfl, rfl, ht, hs, st, _, hst, hm⟩ := alike_yes hf
  have HF := Lib.hid (show chB false (tx t) (tx s) = chn false 40 (tx t) (tx s) by unfold chB; rw [if_pos hf])
  have h4 : nodes t ≤ 4 := by omega
  have HC := Lib.hid (fun w => chain_any false 40 t s w h4 hs st (by omega) (by omega))
  have H1 := Lib.hid hf
  clear hf st hst
  go_enter Try.func27, Try.ntmps27
  go_wp2_with fail
  refine (alike_any _ _ 4 _ ha hb).mono ?_
  rintro e w0 ⟨rfl, hb0⟩
  rw [H1.out]
  go_wp2_with fail
  refine (HC.out _).mono ?_
  rintro e w1 ⟨rfl, hb1⟩
  go_wp2_with fail
  go_ret
  exact ⟨ret_int (by rw [HF.out]), hb0.trans (hb1.mono hb0.size)⟩

end Go.Proofs.Yteekkcjbflehlaa
