/- AddPolynomials of the impl side. -/
import Derived.Test.YtlpabdpaolmpfaaUpd
namespace Go.Proofs.Ytlpabdpaolmpfaa
open Go.RowKit

set_option maxHeartbeats 1000000 in
theorem implAddPolynomials_any (A1 : Option Addr) (n1 c1 : Nat) (xs : List Int) (A2 : Option Addr) (n2 c2 : Nat) (ys : List Int) (w : World) (h1 : Rd w A1 n1 (iv xs)) (h2 : Rd w A2 n2 (iv ys)) (hn1 : n1 ≤ 1000000000) (hn2 : n2 ≤ 1000000000) :
    Calls Try.prog 22 #[.slice A1 n1 c1, .slice A2 n2 c2] w (RetIB w (addP xs ys).1 (addP xs ys).2) := by
  unfold RetIB
  have HR1 := Lib.hid h1
  have HR2 := Lib.hid h2
  have HL1 := Lib.hid (show xs.length = n1 by have := h1.len; rw [iv_len] at this; exact this)
  have HL2 := Lib.hid (show ys.length = n2 by have := h2.len; rw [iv_len] at this; exact this)
  clear h1 h2
  rcases hp : isPol xs with _ | _
  · have hf : addP xs ys = ([], false) := by simp [addP, hp]
    rw [hf]
    have HP := Lib.hid hp
    clear hp hf
    go_enter Try.func22, Try.ntmps22
    go_wp2_with fail
    refine (implIsPolynomial_any _ _ _ _ _ HR1.out hn1).mono ?_
    rintro e w' ⟨rfl, rfl⟩
    rw [HP.out]
    go_wp2_with fail
    go_ret2
    exact ⟨_, 0, 0, rfl, rfl, own_empty w, (Below.refl _ _).alloc (Nat.le_refl _) _⟩
  rcases hq : isPol ys with _ | _
  · have hf : addP xs ys = ([], false) := by simp [addP, hq]
    rw [hf]
    have HP := Lib.hid hp
    have HQ := Lib.hid hq
    clear hp hf hq
    go_enter Try.func22, Try.ntmps22
    go_wp2_with fail
    refine (implIsPolynomial_any _ _ _ _ _ HR1.out hn1).mono ?_
    rintro e w' ⟨rfl, rfl⟩
    rw [HP.out]
    go_wp2_with fail
    refine (implIsPolynomial_any _ _ _ _ _ HR2.out hn2).mono ?_
    rintro e w' ⟨rfl, rfl⟩
    rw [HQ.out]
    go_wp2_with fail
    go_ret2
    exact ⟨_, 0, 0, rfl, rfl, own_empty w, (Below.refl _ _).alloc (Nat.le_refl _) _⟩
  have b1 := (isPol_iff hp).1
  have b2 := (isPol_iff hq).1
  rw [HL1.out] at b1
  rw [HL2.out] at b2
  have HP := Lib.hid hp
  have HQ := Lib.hid hq
  have HF := Lib.hid (show addP xs ys = if isPol (trimL (sumL xs ys)) then (trimL (sumL xs ys), true) else ([], false) by simp [addP, hp, hq])
  clear hp hq
  obtain ⟨m, hm1, hm2, hm5, hmm⟩ := mkMax n1 n2 (by omega) (by omega) w
  have hm3 : m ≤ 61 := by omega
  have HM5 := Lib.hid (show max xs.length ys.length = m by rw [HL1.out, HL2.out]; exact hm5)
  clear hm5
  have hown0 := Own.made w 3 (.int .i64 0) m (by unfold maxLen; omega)
  rw [iv_rep] at hown0
  have HO0 := Lib.hid hown0
  clear hown0
  rcases hmm with ⟨hmx, hmk⟩ | ⟨hmx, hmk⟩
  all_goals
    go_enter Try.func22, Try.ntmps22
    go_wp2_with fail
    refine (implIsPolynomial_any _ _ _ _ _ HR1.out hn1).mono ?_
    rintro e w' ⟨rfl, rfl⟩
    rw [HP.out]
    go_wp2_with fail
    refine (implIsPolynomial_any _ _ _ _ _ HR2.out hn2).mono ?_
    rintro e w' ⟨rfl, rfl⟩
    rw [HQ.out]
    go_wp2_with fail
    go_loopw [28, 7, 8] (fun i _ _ wr => ∃ k : Nat, k ≤ n1 ∧ i = .int .i64 k ∧ Own wr 3 w.heap.size (some ⟨w.heap.size, 0, none⟩) m m (iv (upd (List.replicate m 0) (fun k => xs.getD k 0) 0 k)) ∧ Below w.heap.size w wr) (fun i _ _ _ => n1 - (intOf i).toNat)
    case atStart => exact ⟨0, Nat.zero_le _, rfl, HO0.out, (Below.refl _ _).alloc (Nat.le_refl _) _⟩
    case round =>
      obtain ⟨k, hk, rfl, ho, hb⟩ := hrel
      by_cases hlt : k < n1
      · obtain ⟨b, off, x, rfl, hx, hc⟩ := (HR1.out.below hb).ati hlt
        obtain ⟨g, y, hg, _, hgs, hy, hcy, hfy⟩ := ho.ati (show k < m by omega)
        cases hg
        have HO := Lib.hid ho
        have hy0 : y = 0 := by
          have h0 := upd_get (List.replicate m 0) (fun k => xs.getD k 0) 0 k k (by simp; omega)
          rw [getD_of hy, getD_rep, if_neg (by omega)] at h0
          exact h0
        subst hy0
        have xb := isPol_getD HP.out k
        rw [getD_of hx] at xb
        have HN := Lib.hid (show (upd (List.replicate m 0) (fun k => xs.getD k 0) 0 k).set k x = upd (List.replicate m 0) (fun k => xs.getD k 0) 0 (k + 1) by
          show _ = List.set _ _ _
          have e : 0 + k = k := Nat.zero_add k
          rw [e, getD_of hy]; show _ = List.set _ k (0 + xs.getD k 0); rw [getD_of hx, Int.zero_add])
        have kk : (k : Int) < (m : Int) := by omega
        clear hx hy ho
        go_wp2_with fail
        go_roundw
        case rel => exact ⟨k + 1, by omega, by go_num, by rw [← HN.out]; exact HO.out.puti k x, hb.setCell (p := ⟨w.heap.size, k, none⟩) (Nat.le_refl _) _⟩
        case measure => simp [intOf]; omega
      · have HO := Lib.hid (show Own wr 3 w.heap.size (some ⟨w.heap.size, 0, none⟩) m m (iv (upd (List.replicate m 0) (fun k => xs.getD k 0) 0 n1)) by rw [show n1 = k by omega]; exact ho)
        clear ho
        go_wp2_with fail
        go_loopw [40, 9, 10] (fun i _ _ wr => ∃ j : Nat, j ≤ n2 ∧ i = .int .i64 j ∧ Own wr 3 w.heap.size (some ⟨w.heap.size, 0, none⟩) m m (iv (upd (upd (List.replicate m 0) (fun k => xs.getD k 0) 0 n1) (fun k => ys.getD k 0) 0 j)) ∧ Below w.heap.size w wr) (fun i _ _ _ => n2 - (intOf i).toNat)
        case atStart => exact ⟨0, Nat.zero_le _, rfl, HO.out, hb⟩
        case round =>
          obtain ⟨j, hj, rfl, ho2, hb2⟩ := hrel
          by_cases hlt2 : j < n2
          · obtain ⟨b, off, x, rfl, hx, hc⟩ := (HR2.out.below hb2).ati hlt2
            obtain ⟨g, y, hg, _, hgs, hy, hcy, hfy⟩ := ho2.ati (show j < m by omega)
            cases hg
            have HO2 := Lib.hid ho2
            have hy0 : y = xs.getD j 0 := by
              have h0 := upd_get (upd (List.replicate m 0) (fun k => xs.getD k 0) 0 n1) (fun k => ys.getD k 0) 0 j j (by rw [upd_len]; simp; omega)
              rw [getD_of hy, if_neg (by omega), upd_get _ _ _ _ _ (by simp; omega), getD_rep] at h0
              rw [h0]
              split
              · simp
              · rw [List.getD_eq_getElem?_getD, List.getElem?_eq_none (by have := HL1.out; omega)]; rfl
            have yb := isPol_getD HP.out j
            rw [← hy0] at yb
            have xb := isPol_getD HQ.out j
            rw [getD_of hx] at xb
            have HN := Lib.hid (show (upd (upd (List.replicate m 0) (fun k => xs.getD k 0) 0 n1) (fun k => ys.getD k 0) 0 j).set j (y + x) = upd (upd (List.replicate m 0) (fun k => xs.getD k 0) 0 n1) (fun k => ys.getD k 0) 0 (j + 1) by
              show _ = List.set _ _ _
              have e : 0 + j = j := Nat.zero_add j
              rw [e, getD_of hy]; show _ = List.set _ j (y + ys.getD j 0); rw [getD_of hx])
            have kk : (j : Int) < (m : Int) := by omega
            clear hx hy ho2 hy0
            go_wp2_with fail
            go_roundw
            case rel => exact ⟨j + 1, by omega, by go_num, by rw [← HN.out]; exact HO2.out.puti j (y + x), hb2.setCell (p := ⟨w.heap.size, j, none⟩) (Nat.le_refl _) _⟩
            case measure => simp [intOf]; omega
          · have ho3 : Own wr 3 w.heap.size (some ⟨w.heap.size, 0, none⟩) m m (iv (sumL xs ys)) := by
              unfold sumL
              rw [HM5.out, HL1.out, HL2.out, show n2 = j by omega]; exact ho2
            have HO3 := Lib.hid ho3
            have hsl : (sumL xs ys).length = m := by rw [sumL_len, HM5.out]
            have HS := Lib.hid hsl
            have hsz := hb2.size
            clear ho2 ho3 hsl
            rcases hr : isPol (trimL (sumL xs ys)) with _ | _
            · have HF2 := Lib.hid (show addP xs ys = ([], false) by rw [HF.out, hr]; rfl)
              have HR := Lib.hid hr
              clear hr
              go_wp2_with fail
              refine (trimmed_any _ _ _ _ _ HO3.out.rd (by omega) (Nat.le_refl _) (by unfold maxLen; omega) (by simp)).mono ?_
              rintro e w' ⟨rfl, rfl⟩
              have HRT := Lib.hid (show Own wr 3 w.heap.size (some ⟨w.heap.size, 0, none⟩) (tz (sumL xs ys) m) m (iv (trimL (sumL xs ys))) by rw [trimL, HS.out, ← iv_take]; exact HO3.out.front (tz_le _ _))
              go_wp2_with fail
              refine (implIsPolynomial_any _ _ _ _ _ HRT.out.rd (by have := tz_le (sumL xs ys) m; omega)).mono ?_
              rintro e w' ⟨rfl, rfl⟩
              rw [HR.out]
              go_wp2_with fail
              go_ret2
              rw [HF2.out]
              exact ⟨_, 0, 0, rfl, rfl, (own_empty _).mono hsz, hb2.alloc hsz _⟩
            · have HF2 := Lib.hid (show addP xs ys = (trimL (sumL xs ys), true) by rw [HF.out, hr]; rfl)
              have HR := Lib.hid hr
              clear hr
              go_wp2_with fail
              refine (trimmed_any _ _ _ _ _ HO3.out.rd (by omega) (Nat.le_refl _) (by unfold maxLen; omega) (by simp)).mono ?_
              rintro e w' ⟨rfl, rfl⟩
              have HRT := Lib.hid (show Own wr 3 w.heap.size (some ⟨w.heap.size, 0, none⟩) (tz (sumL xs ys) m) m (iv (trimL (sumL xs ys))) by rw [trimL, HS.out, ← iv_take]; exact HO3.out.front (tz_le _ _))
              have HRL := Lib.hid (show tz (sumL xs ys) m = (trimL (sumL xs ys)).length by rw [trimL_len, HS.out])
              go_wp2_with fail
              refine (implIsPolynomial_any _ _ _ _ _ HRT.out.rd (by have := tz_le (sumL xs ys) m; omega)).mono ?_
              rintro e w' ⟨rfl, rfl⟩
              rw [HR.out]
              go_wp2_with fail
              go_ret2
              rw [HF2.out]
              exact ⟨_, _, _, HRL.out, rfl, HRT.out, hb2⟩

end Go.Proofs.Ytlpabdpaolmpfaa
