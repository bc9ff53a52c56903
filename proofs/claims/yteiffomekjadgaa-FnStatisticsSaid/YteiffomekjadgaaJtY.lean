/- IsJointlySymmetric of both sides. -/
import Derived.Test.YteiffomekjadgaaJtS
import Derived.Test.YteiffomekjadgaaJtI
namespace Go.Proofs.Yteiffomekjadgaa
set_option linter.unusedVariables false
open Go.RowKit

theorem jt_sq (a b : List UInt8) (n : Int) (i : Nat) (r : List Int) (h : (jtP a b n).1[i]? = some r) : r.length = (jtP a b n).1.length := by
  unfold jtP at h ⊢
  split at h
  · next hc => rw [if_pos hc]; show r.length = (jtL _ _ _ _ _).length; rw [jtL_len]; exact (jtL_row _ _ _ _ _ _ _ h).1
  · next hc => rw [if_neg hc]; simp at h
theorem jt_len (a b : List UInt8) (n : Int) : (jtP a b n).1.length ≤ 301 := by
  unfold jtP
  split
  · next hc =>
    show (jtL _ _ _ _ _).length ≤ 301
    rw [jtL_len]
    rw [Bool.and_eq_true, Bool.and_eq_true] at hc
    obtain ⟨⟨h1, h2⟩, h3⟩ := hc
    have ha := dst_len a n
    have hb := dst_len b n
    unfold dstP at ha hb
    rw [h1, h2] at ha
    rw [h1, h3] at hb
    unfold jtM
    have ha' : (dstL a (paths n.toNat) (paths n.toNat).length).length ≤ 301 := ha
    have hb' : (dstL b (paths n.toNat) (paths n.toNat).length).length ≤ 301 := hb
    omega
  · exact Nat.zero_le _
theorem jt_no (a b : List UInt8) (n : Int) (h : (jtP a b n).2 = false) : (jtP a b n).1 = [] := by
  unfold jtP at h ⊢
  split at h
  · cases h
  · next hc => rw [if_neg hc]

set_option maxRecDepth 20000 in
set_option maxHeartbeats 4000000 in
theorem specIsJointlySymmetric_any (a b : List UInt8) (n : Int) (h0 : -1 ≤ n) (h6 : n ≤ 6) (w : World) : Calls Try.prog 25 #[.string (bs a), .string (bs b), .int .i64 n] w fun e w' => e = .returned (.bool (isjP a b n)) ∧ Below w.heap.size w w' := by
  have HP := Lib.hid (show isjP a b n = ((jtP a b n).2 && symB (jtP a b n).1) from rfl)
  have HSQ := Lib.hid (show ∀ (i : Nat) (r : List Int), (jtP a b n).1[i]? = some r → r.length = (jtP a b n).1.length from jt_sq a b n)
  have hl9 := jt_len a b n
  have HJ := Lib.hid (fun W => specJointTable_any a b n h0 h6 W)
  have HE := Lib.hid (jt_no a b n)
  obtain ⟨R, hR⟩ : ∃ x, x = (jtP a b n).1 := ⟨_, rfl⟩
  obtain ⟨ok, hok⟩ : ∃ x, x = (jtP a b n).2 := ⟨_, rfl⟩
  rw [← hR, ← hok] at HP HJ HE
  rw [← hR] at HSQ hl9
  clear hR hok
  go_enter Try.func25, Try.ntmps25
  go_wp2_with fail
  refine (HJ.out _).mono ?_
  rintro e w1 ⟨A, M, c, vs, hM, rfl, ho2, hb⟩
  have HO := Lib.hid ho2
  have HM := Lib.hid hM
  have hM9 : M ≤ 301 := by omega
  clear ho2 hM
  go_wp2_with fail
  go_loopw [9, 10] (fun ix _ wr => ∃ (i d : Nat), i ≤ M ∧ ix = .int .i64 i ∧ Hid (∀ i', i' < i → ∀ k, k < i' → symE R i' k) ∧ wr = w1.drewN d) (fun ix _ _ => M - (intOf ix).toNat)
  case atStart => exact ⟨0, 0, Nat.zero_le _, rfl, Lib.hid (fun i' hi' => by omega), rfl⟩
  case round =>
    obtain ⟨i, d, hi, rfl, HI, rfl⟩ := hrel
    by_cases hlt : i < M
    · have i0 : (0 : Int) ≤ (i : Int) := by omega
      have i1 : (i : Int) < (M : Int) := by omega
      go_wp2_with fail
      go_loopw [10] (fun kx wr => ∃ (k d : Nat), k ≤ i ∧ kx = .int .i64 k ∧ Hid (∀ k', k' < k → symE R i k') ∧ wr = w1.drewN d) (fun kx _ => M - (intOf kx).toNat)
      case atStart => exact ⟨0, d, Nat.zero_le _, rfl, Lib.hid (fun k' hk' => by omega), rfl⟩
      case round =>
        obtain ⟨k, d, hk, rfl, HK, rfl⟩ := hrel
        by_cases hkt : k < i
        · have hkM : k < M := by omega
          have l0 : (0 : Int) ≤ (k : Int) := by omega
          have l1 : (k : Int) < (M : Int) := by omega
          obtain ⟨ri, hri⟩ : ∃ r, R[i]? = some r := ⟨_, List.getElem?_eq_getElem (by have := HM.out; omega)⟩
          obtain ⟨rk, hrk⟩ : ∃ r, R[k]? = some r := ⟨_, List.getElem?_eq_getElem (by have := HM.out; omega)⟩
          have e1 := HSQ.out i ri hri
          have e2 := HSQ.out k rk hrk
          rw [← HM.out] at e1 e2
          obtain ⟨g0, Ai, ci, hA, _, hg0s, _, hci, _, hoi⟩ := HO.out.head hri
          subst hA
          obtain ⟨g0', Ak, ck, hA, _, _, _, hck, _, hok⟩ := HO.out.head hrk
          cases hA
          rw [e1] at hci hoi
          rw [e2] at hck hok
          obtain ⟨gi, y, hA, _, _, hy, hcy, _⟩ := hoi.ati hkM
          subst hA
          obtain ⟨gk, z, hA, _, _, hz, hcz, _⟩ := hok.ati hlt
          subst hA
          have HSE := Lib.hid (show symE R i k ↔ y = z by unfold symE; rw [List.getD_eq_getElem?_getD (l := R) (i := i), List.getD_eq_getElem?_getD (l := R) (i := k), hri, hrk]; show ri.getD k 0 = rk.getD i 0 ↔ _; rw [List.getD_eq_getElem?_getD, List.getD_eq_getElem?_getD, hy, hz]; exact Iff.rfl)
          clear hy hz hoi hok hri hrk
          by_cases hyz : y = z
          · have q1 : (y != z) = false := by rw [hyz]; simp
            have HYZ := Lib.hid hyz
            clear hyz
            go_wp2_with fail
            go_quiet (fail)
            go_wp2_with fail
            go_roundw
            case rel => exact ⟨k + 1, _, by omega, by go_num, Lib.hid (fun k' hk' => by
              by_cases h : k' = k
              · rw [h]; exact HSE.out.2 HYZ.out
              · exact HK.out k' (by omega)), rfl⟩
            case measure => simp [intOf]; omega
          · have q1 : (y != z) = true := by rw [bne_iff_ne]; exact hyz
            have HS := Lib.hid (show symB R = false from symB_no (i := i) (k := k) (by have := HM.out; omega) (by have := HM.out; omega) (fun h => hyz (HSE.out.1 h)))
            clear hyz
            go_wp2_with fail
            go_quiet (fail)
            go_wp2_with fail
            go_ret
            exact ⟨ret_bool (by rw [HP.out, HS.out]; simp), below_drewN' (below_drewN' hb _) _⟩
        · obtain rfl : k = i := by omega
          go_wp2_with fail
          go_roundw
          case rel => exact ⟨k + 1, d, by omega, by go_num, Lib.hid (fun i' hi' k' hk' => by
            by_cases h : i' = k
            · rw [h] at hk' ⊢; exact HK.out k' hk'
            · exact HI.out i' (by omega) k' hk'), rfl⟩
          case measure => simp [intOf]; omega
    · obtain rfl : i = M := by omega
      have HS := Lib.hid (show symB R = true from symB_tri (fun i' hi' k' hk' => HI.out i' (by have := HM.out; omega) k' hk'))
      go_wp2_with fail
      go_ret
      exact ⟨ret_bool (by rw [HP.out, HS.out]; simp), below_drewN' hb d⟩
set_option maxRecDepth 20000 in
set_option maxHeartbeats 4000000 in
theorem implIsJointlySymmetric_any (a b : List UInt8) (n : Int) (h0 : -1 ≤ n) (h6 : n ≤ 6) (w : World) : Calls Try.prog 17 #[.string (bs a), .string (bs b), .int .i64 n] w fun e w' => e = .returned (.bool (isjP a b n)) ∧ Below w.heap.size w w' := by
  have HP := Lib.hid (show isjP a b n = ((jtP a b n).2 && symB (jtP a b n).1) from rfl)
  have HSQ := Lib.hid (show ∀ (i : Nat) (r : List Int), (jtP a b n).1[i]? = some r → r.length = (jtP a b n).1.length from jt_sq a b n)
  have hl9 := jt_len a b n
  have HJ := Lib.hid (fun W => implJointTable_any a b n h0 h6 W)
  have HE := Lib.hid (jt_no a b n)
  obtain ⟨R, hR⟩ : ∃ x, x = (jtP a b n).1 := ⟨_, rfl⟩
  obtain ⟨ok, hok⟩ : ∃ x, x = (jtP a b n).2 := ⟨_, rfl⟩
  rw [← hR, ← hok] at HP HJ HE
  rw [← hR] at HSQ hl9
  clear hR hok
  go_enter Try.func17, Try.ntmps17
  go_wp2_with fail
  refine (HJ.out _).mono ?_
  rintro e w1 ⟨A, M, c, vs, hM, rfl, ho2, hb⟩
  have HO := Lib.hid ho2
  have HM := Lib.hid hM
  have hM9 : M ≤ 301 := by omega
  clear ho2 hM
  rcases ok with _ | _
  · go_wp2_with fail
    go_ret
    exact ⟨ret_bool (by rw [HP.out]; rfl), hb⟩
  have HBELOW := Lib.hid hb
  go_wp2_with fail
  go_loopw [9, 22] (fun _ ix wr => ∃ (i d : Nat), i ≤ M ∧ ix = .int .i64 i ∧ Hid (∀ i', i' < i → ∀ k, k < M → symE R i' k) ∧ wr = w1.drewN d) (fun _ ix _ => M - (intOf ix).toNat)
  case atStart => exact ⟨0, 0, Nat.zero_le _, rfl, Lib.hid (fun i' hi' => by omega), rfl⟩
  case round =>
    obtain ⟨i, d, hi, rfl, HI, rfl⟩ := hrel
    by_cases hlt : i < M
    · have i0 : (0 : Int) ≤ (i : Int) := by omega
      have i1 : (i : Int) < (M : Int) := by omega
      go_wp2_with fail
      go_loopw [10, 27] (fun _ kx wr => ∃ (k d : Nat), k ≤ M ∧ kx = .int .i64 k ∧ Hid (∀ k', k' < k → symE R i k') ∧ wr = w1.drewN d) (fun _ kx _ => M - (intOf kx).toNat)
      case atStart => exact ⟨0, d, Nat.zero_le _, rfl, Lib.hid (fun k' hk' => by omega), rfl⟩
      case round =>
        obtain ⟨k, d, hk, rfl, HK, rfl⟩ := hrel
        by_cases hkt : k < M
        · have hkM : k < M := by omega
          have l0 : (0 : Int) ≤ (k : Int) := by omega
          have l1 : (k : Int) < (M : Int) := by omega
          obtain ⟨ri, hri⟩ : ∃ r, R[i]? = some r := ⟨_, List.getElem?_eq_getElem (by have := HM.out; omega)⟩
          obtain ⟨rk, hrk⟩ : ∃ r, R[k]? = some r := ⟨_, List.getElem?_eq_getElem (by have := HM.out; omega)⟩
          have e1 := HSQ.out i ri hri
          have e2 := HSQ.out k rk hrk
          rw [← HM.out] at e1 e2
          obtain ⟨g0, Ai, ci, hA, _, hg0s, _, hci, _, hoi⟩ := HO.out.head hri
          subst hA
          obtain ⟨g0', Ak, ck, hA, _, _, _, hck, _, hok⟩ := HO.out.head hrk
          cases hA
          rw [e1] at hci hoi
          rw [e2] at hck hok
          obtain ⟨gi, y, hA, _, _, hy, hcy, _⟩ := hoi.ati hkM
          subst hA
          obtain ⟨gk, z, hA, _, _, hz, hcz, _⟩ := hok.ati hlt
          subst hA
          have HSE := Lib.hid (show symE R i k ↔ y = z by unfold symE; rw [List.getD_eq_getElem?_getD (l := R) (i := i), List.getD_eq_getElem?_getD (l := R) (i := k), hri, hrk]; show ri.getD k 0 = rk.getD i 0 ↔ _; rw [List.getD_eq_getElem?_getD, List.getD_eq_getElem?_getD, hy, hz]; exact Iff.rfl)
          clear hy hz hoi hok hri hrk
          by_cases hyz : y = z
          · have q1 : (y != z) = false := by rw [hyz]; simp
            have HYZ := Lib.hid hyz
            clear hyz
            go_wp2_with fail
            go_quiet (fail)
            go_wp2_with fail
            go_roundw
            case rel => exact ⟨k + 1, _, by omega, by go_num, Lib.hid (fun k' hk' => by
              by_cases h : k' = k
              · rw [h]; exact HSE.out.2 HYZ.out
              · exact HK.out k' (by omega)), rfl⟩
            case measure => simp [intOf]; omega
          · have q1 : (y != z) = true := by rw [bne_iff_ne]; exact hyz
            have HS := Lib.hid (show symB R = false from symB_no (i := i) (k := k) (by have := HM.out; omega) (by have := HM.out; omega) (fun h => hyz (HSE.out.1 h)))
            clear hyz
            go_wp2_with fail
            go_quiet (fail)
            go_wp2_with fail
            go_ret
            exact ⟨ret_bool (by rw [HP.out, HS.out]; simp), below_drewN' (below_drewN' hb _) _⟩
        · obtain rfl : k = M := by omega
          go_wp2_with fail
          go_roundw
          case rel => exact ⟨i + 1, d, by omega, by go_num, Lib.hid (fun i' hi' k' hk' => by
            by_cases h : i' = i
            · rw [h]; exact HK.out k' hk'
            · exact HI.out i' (by omega) k' hk'), rfl⟩
          case measure => simp [intOf]; omega
    · obtain rfl : i = M := by omega
      have HS := Lib.hid (show symB R = true from symB_yes (fun i' hi' k' hk' => HI.out i' (by have := HM.out; omega) k' (by have := HM.out; omega)))
      go_wp2_with fail
      go_ret
      exact ⟨ret_bool (by rw [HP.out, HS.out]; rfl), below_drewN' hb d⟩

end Go.Proofs.Yteiffomekjadgaa
