/- DividePolynomials of the impl side. -/
import Derived.Test.YtlpabdpaolmpfaaDivImpl
namespace Go.Proofs.Ytlpabdpaolmpfaa
open Go.RowKit

theorem divP_bad1 {xs ys : List Int} (h : isFac xs = false) : divP xs ys = ([], [], false) := by simp [divP, h]
theorem divP_bad2 {xs ys : List Int} (h : isDiv ys = false) : divP xs ys = ([], [], false) := by simp [divP, h]
theorem isDiv_bad1 {ys : List Int} (h : inB ys.length 1 13 = false) : isDiv ys = false := by simp [isDiv, h]
theorem isDiv_bad2 {ys : List Int} {y : Int} (h : ys.getLastD 0 = y) (h1 : y ≠ 1) : isDiv ys = false := by
  unfold isDiv
  rw [h, show (y == 1) = false by simpa using h1]; simp
theorem isDiv_bad3 {ys : List Int} (h : ys.all inU = false) : isDiv ys = false := by simp only [isDiv, h, Bool.and_false]
theorem divR_len (ys : List Int) : ∀ (z : Nat) (q r q' r' : List Int), divR ys z q r = some (q', r') → q'.length = q.length ∧ r'.length = r.length
  | 0, q, r, q', r', h => by cases h; exact ⟨rfl, rfl⟩
  | z + 1, q, r, q', r', h => by
    unfold divR at h
    split at h
    · have := divR_len ys z _ _ _ _ h
      rw [List.length_set, upd_len] at this
      exact this
    · cases h
theorem divQ_len {xs ys q r : List Int} (hx : xs.length ≤ 61) (h : divQ xs ys = some (q, r)) : (trimL q).length ≤ 62 ∧ (trimL r).length ≤ 62 := by
  have := divR_len ys _ _ _ _ _ h
  rw [trimL_len, trimL_len]
  have h1 := tz_le q q.length
  have h2 := tz_le r r.length
  simp at this
  omega
theorem take_all_step {P : Int → Bool} {xs : List Int} {k : Nat} {x : Int} (hx : xs[k]? = some x) : (xs.take (k + 1)).all P = ((xs.take k).all P && P x) := by
  obtain ⟨hl, hxx⟩ := List.getElem?_eq_some_iff.1 hx
  rw [List.take_succ_eq_append_getElem hl, List.all_append, hxx]; simp

set_option maxHeartbeats 2000000 in
theorem implDividePolynomials_any (A1 : Option Addr) (n1 c1 : Nat) (xs : List Int) (A2 : Option Addr) (n2 c2 : Nat) (ys : List Int) (w : World) (h1 : Rd w A1 n1 (iv xs)) (h2 : Rd w A2 n2 (iv ys)) (hn1 : n1 ≤ 1000000000) (hn2 : n2 ≤ 1000000000) :
    Calls Try.prog 30 #[.slice A1 n1 c1, .slice A2 n2 c2] w (RetIIB w (divP xs ys).1 (divP xs ys).2.1 (divP xs ys).2.2) := by
  have HR1 := Lib.hid h1
  have HR2 := Lib.hid h2
  have HL1 := Lib.hid (show xs.length = n1 by have := h1.len; rw [iv_len] at this; exact this)
  have HL2 := Lib.hid (show ys.length = n2 by have := h2.len; rw [iv_len] at this; exact this)
  clear h1 h2
  rcases hp : isFac xs with _ | _
  · have HF := Lib.hid (divP_bad1 (ys := ys) hp)
    have HP := Lib.hid hp
    clear hp
    go_enter Try.func30, Try.ntmps30
    go_wp2_with fail
    refine (isFactor_any _ _ _ _ _ HR1.out hn1).mono ?_
    rintro e w' ⟨rfl, rfl⟩
    rw [HP.out]
    go_wp2_with fail
    go_loop [7, 9, 31] (fun o _ i => ∃ k : Nat, k ≤ n2 ∧ i = .int .i64 k ∧ o = .bool false) (fun _ _ i => n2 - (intOf i).toNat)
    case atStart => exact ⟨0, Nat.zero_le _, rfl, rfl⟩
    case round =>
      obtain ⟨k, hk, rfl, rfl⟩ := hrel
      by_cases hlt : k < n2
      · obtain ⟨b, off, x, hA, hx, hc⟩ := HR2.out.ati hlt
        subst hA
        clear hx
        go_wp2_with fail
        go_round
        case rel => exact ⟨k + 1, by omega, by go_num, rfl⟩
        case measure => simp [intOf]; omega
      · go_wp2_with fail
        go_ret3
        rw [HF.out]
        exact RetIIB.empty (Below.refl _ _)
  rcases hq : inB n2 1 13 with _ | _
  · have HF := Lib.hid (divP_bad2 (xs := xs) (isDiv_bad1 (ys := ys) (by rw [HL2.out]; exact hq)))
    have HP := Lib.hid hp
    have HQ := Lib.hid hq
    clear hp hq
    go_enter Try.func30, Try.ntmps30
    go_wp2_with fail
    refine (isFactor_any _ _ _ _ _ HR1.out hn1).mono ?_
    rintro e w' ⟨rfl, rfl⟩
    rw [HP.out]
    go_wp2_with fail
    refine (within_any _ _ _ _).mono ?_
    rintro e w' ⟨rfl, rfl⟩
    rw [HQ.out]
    go_wp2_with fail
    go_loop [7, 9, 31] (fun o _ i => ∃ k : Nat, k ≤ n2 ∧ i = .int .i64 k ∧ o = .bool false) (fun _ _ i => n2 - (intOf i).toNat)
    case atStart => exact ⟨0, Nat.zero_le _, rfl, rfl⟩
    case round =>
      obtain ⟨k, hk, rfl, rfl⟩ := hrel
      by_cases hlt : k < n2
      · obtain ⟨b, off, x, hA, hx, hc⟩ := HR2.out.ati hlt
        subst hA
        clear hx
        go_wp2_with fail
        go_round
        case rel => exact ⟨k + 1, by omega, by go_num, rfl⟩
        case measure => simp [intOf]; omega
      · go_wp2_with fail
        go_ret3
        rw [HF.out]
        exact RetIIB.empty (Below.refl _ _)
  have g2 := inB_iff.1 hq
  obtain ⟨b0, off0, y, hA, hy, hcy⟩ := HR2.out.ati (show n2 - 1 < n2 by omega)
  subst hA
  have HY := Lib.hid (last_of0 hy (by rw [HL2.out]; omega))
  have i0 : (0 : Int) ≤ (n2 : Int) - 1 := by omega
  have i1 : (n2 : Int) - 1 < (n2 : Int) := by omega
  have i2 : ((n2 : Int) - 1).toNat = n2 - 1 := by omega
  clear hy
  by_cases h1 : y = 1
  case neg =>
    have HF := Lib.hid (divP_bad2 (xs := xs) (isDiv_bad2 HY.out h1))
    have e1 : (y == 1) = false := by simpa using h1
    have HP := Lib.hid hp
    have HQ := Lib.hid hq
    clear hp hq h1
    go_enter Try.func30, Try.ntmps30
    go_wp2_with fail
    refine (isFactor_any _ _ _ _ _ HR1.out hn1).mono ?_
    rintro e w' ⟨rfl, rfl⟩
    rw [HP.out]
    go_wp2_with fail
    refine (within_any _ _ _ _).mono ?_
    rintro e w' ⟨rfl, rfl⟩
    rw [HQ.out]
    go_wp2_with fail
    go_loop [7, 9, 31] (fun o _ i => ∃ k : Nat, k ≤ n2 ∧ i = .int .i64 k ∧ o = .bool false) (fun _ _ i => n2 - (intOf i).toNat)
    case atStart => exact ⟨0, Nat.zero_le _, rfl, rfl⟩
    case round =>
      obtain ⟨k, hk, rfl, rfl⟩ := hrel
      by_cases hlt : k < n2
      · obtain ⟨b, off, x, hA, hx, hc⟩ := HR2.out.ati hlt
        cases hA
        clear hx
        go_wp2_with fail
        go_round
        case rel => exact ⟨k + 1, by omega, by go_num, rfl⟩
        case measure => simp [intOf]; omega
      · go_wp2_with fail
        go_ret3
        rw [HF.out]
        exact RetIIB.empty (Below.refl _ _)
  have e1 : (y == 1) = true := by simpa using h1
  have HP := Lib.hid hp
  have HQ := Lib.hid hq
  have HY1 := Lib.hid (show ys.getLastD 0 = 1 by rw [HY.out, h1])
  clear hp hq h1
  go_enter Try.func30, Try.ntmps30
  go_wp2_with fail
  refine (isFactor_any _ _ _ _ _ HR1.out hn1).mono ?_
  rintro e w' ⟨rfl, rfl⟩
  rw [HP.out]
  go_wp2_with fail
  refine (within_any _ _ _ _).mono ?_
  rintro e w' ⟨rfl, rfl⟩
  rw [HQ.out]
  go_wp2_with fail
  go_loop [7, 9, 31] (fun o _ i => ∃ k : Nat, k ≤ n2 ∧ i = .int .i64 k ∧ o = .bool ((ys.take k).all inU)) (fun _ _ i => n2 - (intOf i).toNat)
  case atStart => exact ⟨0, Nat.zero_le _, rfl, rfl⟩
  case round =>
    obtain ⟨k, hk, rfl, rfl⟩ := hrel
    by_cases hlt : k < n2
    · obtain ⟨b, off, x, hA, hx, hc⟩ := HR2.out.ati hlt
      cases hA
      have HS := Lib.hid (take_all_step (P := inU) hx)
      clear hx
      rcases ht : (ys.take k).all inU with _ | _
      · rw [ht] at HS
        clear ht
        go_wp2_with fail
        go_round
        case rel => exact ⟨k + 1, by omega, by go_num, by rw [HS.out]; rfl⟩
        case measure => simp [intOf]; omega
      · rw [ht] at HS
        clear ht
        go_wp2_with fail
        refine (within_any _ _ _ _).mono ?_
        rintro e w' ⟨rfl, rfl⟩
        go_wp2_with fail
        go_round
        case rel => exact ⟨k + 1, by omega, by go_num, by rw [HS.out]; rfl⟩
        case measure => simp [intOf]; omega
    · have hkn : k = n2 := by omega
      subst hkn
      have htk : ys.take k = ys := List.take_of_length_le (by rw [HL2.out]; omega)
      rw [htk]
      rcases ht : ys.all inU with _ | _
      · have HF := Lib.hid (divP_bad2 (xs := xs) (isDiv_bad3 ht))
        clear ht htk
        go_wp2_with fail
        go_ret3
        rw [HF.out]
        exact RetIIB.empty (Below.refl _ _)
      · have hdv : isDiv ys = true := by
          unfold isDiv
          rw [HL2.out, HQ.out, HY1.out, ht]; rfl
        have HDV := Lib.hid hdv
        have HF0 := Lib.hid (show divP xs ys = match divQ xs ys with
          | none => ([], [], false)
          | some (q, r) => if isPol (trimL q) && isPol (trimL r) then (trimL q, trimL r, true) else ([], [], false) by unfold divP; rw [HP.out, hdv]; rfl)
        clear ht htk hdv
        go_wp2_with fail
        refine (divide_any _ _ _ _ _ _ _ _ _ HR1.out HR2.out (isFac_iff7 HP.out) HDV.out).mono ?_
        rcases hdq : divQ xs ys with _ | ⟨q, r⟩
        · have HF := Lib.hid (show divP xs ys = ([], [], false) by rw [HF0.out, hdq])
          clear hdq HF0
          rintro e w2 ⟨rfl, hb⟩
          go_wp2_with fail
          go_ret3
          rw [HF.out]
          exact RetIIB.empty hb
        · have hlen := divQ_len (isFac_iff HP.out).1 hdq
          have HF1 := Lib.hid (show divP xs ys = if isPol (trimL q) && isPol (trimL r) then (trimL q, trimL r, true) else ([], [], false) by rw [HF0.out, hdq])
          clear hdq HF0
          rintro e w2 ⟨R0, m0, d0, R1, m1, d1, hm0, hm1, rfl, ho0, ho1, hne, hb⟩
          have HM0 := Lib.hid hm0
          have HM1 := Lib.hid hm1
          have HO0 := Lib.hid ho0
          have HO1 := Lib.hid ho1
          have HNE := Lib.hid hne
          have l0 : m0 ≤ 1000000000 := by omega
          have l1 : m1 ≤ 1000000000 := by omega
          clear hlen hm0 hm1 ho0 ho1 hne
          rcases hq1 : isPol (trimL q) with _ | _
          · have HF := Lib.hid (show divP xs ys = ([], [], false) by rw [HF1.out, hq1]; rfl)
            have HI := Lib.hid hq1
            clear hq1 HF1
            go_wp2_with fail
            refine (implIsPolynomial_any _ _ _ _ _ HO0.out.rd l0).mono ?_
            rintro e w' ⟨rfl, rfl⟩
            rw [HI.out]
            go_wp2_with fail
            go_ret3
            rw [HF.out]
            exact RetIIB.empty hb
          · rw [hq1] at HF1
            have HI := Lib.hid hq1
            clear hq1
            rcases hr1 : isPol (trimL r) with _ | _
            all_goals
              have HJ := Lib.hid hr1
              rw [hr1] at HF1
              clear hr1
              go_wp2_with fail
              refine (implIsPolynomial_any _ _ _ _ _ HO0.out.rd l0).mono ?_
              rintro e w' ⟨rfl, rfl⟩
              rw [HI.out]
              go_wp2_with fail
              refine (implIsPolynomial_any _ _ _ _ _ HO1.out.rd l1).mono ?_
              rintro e w' ⟨rfl, rfl⟩
              rw [HJ.out]
              go_wp2_with fail
              go_ret3
              rw [HF1.out]
              first
                | exact RetIIB.empty hb
                | exact RetIIB.mk HM0.out HM1.out rfl HO0.out HO1.out HNE.out hb

end Go.Proofs.Ytlpabdpaolmpfaa
