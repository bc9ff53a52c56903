/- RenumberBlocks. -/
import Derived.Test.YteiffomekjadgaaRenum2
namespace Go.Proofs.Yteiffomekjadgaa
open Go.RowKit

def renB (xs : List Int) : List Int × Bool := if xs.length ≤ 8 then (renL xs, true) else ([], false)
set_option maxHeartbeats 2000000 in
theorem implRenumberBlocks_any (A : Option Addr) (n c : Nat) (xs : List Int) (w : World) (h : Rd w A n (iv xs)) (hn : n ≤ 1000000) (hc1 : n ≤ c) (hc2 : c ≤ maxLen) :
    Calls Try.prog 102 #[.slice A n c] w (RetIB w (renB xs).1 (renB xs).2) := by
  unfold RetIB
  have HR := Lib.hid h
  have HL := Lib.hid (show xs.length = n by have := h.len; rw [iv_len] at this; exact this)
  clear h
  unfold maxLen at hc2
  by_cases h8 : n ≤ 8
  case neg =>
    have HF := Lib.hid (show renB xs = ([], false) by unfold renB; rw [if_neg (by rw [HL.out]; exact h8)])
    go_enter Try.func102, Try.ntmps102
    go_wp2_with fail
    go_ret2
    rw [HF.out]
    exact ⟨_, 0, 0, rfl, rfl, own_empty w, (Below.refl _ _).alloc (Nat.le_refl _) _⟩
  have HF := Lib.hid (show renB xs = (renL xs, true) by unfold renB; rw [if_pos (by rw [HL.out]; exact h8)])
  go_enter Try.func102, Try.ntmps102
  go_wp2_with fail
  go_loopw [4, 5, 6, 7, 8, 9, 10, 18] (fun o nx _ _ _ _ _ i wr => ∃ (k m : Nat) (A1 : Option Addr) (c1 : Nat), k ≤ n ∧ i = .int .i64 k ∧ o = .slice A1 k c1 ∧ nx = .int .i64 m ∧ Hid (m = (renN xs k).length) ∧ Own wr 3 w.heap.size A1 k c1 (iv (renO xs k)) ∧ Below w.heap.size w wr) (fun _ _ _ _ _ _ _ i _ => n - (intOf i).toNat)
  case atStart => exact ⟨0, 0, _, _, Nat.zero_le _, rfl, rfl, rfl, rfl, own_empty w, (Below.refl _ _).alloc (Nat.le_refl _) _⟩
  case round =>
    obtain ⟨k, m, A1, c1, hk, rfl, rfl, rfl, HM, ho, hb⟩ := hrel
    obtain ⟨w1, rfl⟩ : ∃ W, W = wr := ⟨wr, rfl⟩
    have HO := Lib.hid ho
    have hbs := hb.size
    clear ho
    by_cases hlt : k < n
    · obtain ⟨b, off, x, rfl, hx, hc⟩ := (HR.out.below hb).ati hlt
      have HX := Lib.hid (getD_of' hx)
      have hml : m ≤ k := by rw [HM.out]; exact renN_len xs k
      have k0 : (0 : Int) ≤ (k : Int) := by omega
      have kc : (k : Int) ≤ (c : Int) := by omega
      clear hx
      go_wp2_with fail
      go_loop [8, 9, 10, 28] (fun bb _ _ t => ∃ t' : Nat, t' ≤ k ∧ t = .int .i64 t' ∧ bb = .int .i64 m ∧ Hid (∀ j, j < t' → xs.getD j 0 ≠ x)) (fun _ _ _ t => k - (intOf t).toNat)
      case atStart => exact ⟨0, Nat.zero_le _, rfl, rfl, Lib.hid (fun j hj => by omega)⟩
      case round =>
        obtain ⟨t, ht, rfl, rfl, HT⟩ := hrel
        by_cases hlt2 : t < k
        · obtain ⟨b2, o2, y, hA2, hy, hcy⟩ := (HR.out.below hb).ati (show t < n by omega)
          cases hA2
          have HY := Lib.hid (getD_of' hy)
          clear hy
          by_cases hyx : x = y
          · subst hyx
            have hmem : x ∈ renN xs k := by have := renN_mem xs k t hlt2; rwa [HY.out] at this
            obtain ⟨J, hJ⟩ : ∃ J, J = (renN xs k).idxOf x := ⟨_, rfl⟩
            have HJ := Lib.hid (show (renN xs k).idxOf x = J from hJ.symm)
            have hJm : J < m := by rw [hJ, HM.out]; exact List.idxOf_lt_length_iff.2 hmem
            have HS := Lib.hid (show renN xs (k + 1) = renN xs k by show (if _ then _ else _) = _; rw [HX.out, if_pos hmem])
            have HM' := Lib.hid (show m = (renN xs (k + 1)).length by rw [HS.out]; exact HM.out)
            obtain ⟨g2, z, hg2, _, _, hz, hcz, _⟩ := HO.out.ati hlt2
            subst hg2
            obtain rfl : z = (J : Int) := by
              have h0 := renO_at xs k t hlt2
              rw [hz, HY.out, ← hJ] at h0
              exact Option.some.inj h0
            have e1 : ((J : Int) == (m : Int)) = false := by simp; omega
            clear hJ hmem hz
            go_wp2_with (at_builtin; refine appIL _ rfl _ _ rfl w.heap.size (some ⟨g2, 0, none⟩) k c1 _ rfl (HO.out.alloc _) w1.heap.size (J : Int) rfl (by simp) (by omega) hbs ?_; intro g' c' w' hown' hg' hb' hat')
            have HO' := Lib.hid (show Own w' 3 w.heap.size (some ⟨g', 0, none⟩) (k + 1) c' (iv (renO xs (k + 1))) by rw [renO, HX.out, HJ.out, iv_snoc]; exact hown')
            have hb3 := (hb.alloc hbs _).trans hb'
            clear hown' hg' hat' hb'
            go_wp2_with fail
            go_roundw
            case rel => exact ⟨k + 1, m, _, c', by omega, by go_num, rfl, rfl, HM'.out, HO'.out, hb3⟩
            case measure => simp [intOf] <;> omega
          · have e1 : (x == y) = false := by simpa using hyx
            have HT' := Lib.hid (show ∀ j, j < t + 1 → xs.getD j 0 ≠ x from fun j hj => by
              by_cases hjt : j = t
              · subst hjt; rw [HY.out]; exact fun e => hyx e.symm
              · exact HT.out j (by omega))
            clear hyx
            go_wp2_with fail
            go_round
            case rel => exact ⟨t + 1, by omega, by go_num, rfl, HT'.out⟩
            case measure => simp [intOf]; omega
        · have hmem : ¬ x ∈ renN xs k := fun hm => by
            obtain ⟨j, hj, e⟩ := renN_sub xs k x hm
            exact HT.out j (by omega) e
          have HS := Lib.hid (show renN xs (k + 1) = renN xs k ++ [x] by show (if _ then _ else _) = _; rw [HX.out, if_neg hmem])
          obtain ⟨J, hJJ⟩ : ∃ J, J = m := ⟨_, rfl⟩
          have HJ := Lib.hid (show (renN xs k).idxOf x = J by rw [hJJ, HM.out]; exact List.idxOf_eq_length hmem)
          have HM' := Lib.hid (show m + 1 = (renN xs (k + 1)).length by rw [HS.out, List.length_append, ← HM.out]; rfl)
          subst hJJ
          clear hmem
          go_wp2_with (at_builtin; refine appIL _ rfl _ _ rfl w.heap.size A1 k c1 _ rfl (HO.out.alloc _) w1.heap.size (J : Int) rfl (by simp) (by omega) hbs ?_; intro g' c' w' hown' hg' hb' hat')
          have HO' := Lib.hid (show Own w' 3 w.heap.size (some ⟨g', 0, none⟩) (k + 1) c' (iv (renO xs (k + 1))) by rw [renO, HX.out, HJ.out, iv_snoc]; exact hown')
          have hb3 := (hb.alloc hbs _).trans hb'
          clear hown' hg' hat' hb'
          go_wp2_with fail
          go_roundw
          case rel => exact ⟨k + 1, J + 1, _, c', by omega, by go_num, rfl, rfl, HM'.out, HO'.out, hb3⟩
          case measure => simp [intOf] <;> omega
    · have hkn : k = n := by omega
      have HF2 := Lib.hid (show renL xs = renO xs k by unfold renL; rw [HL.out, hkn])
      have HFL := Lib.hid (show k = (renL xs).length by rw [HF2.out, renO_len])
      clear hkn
      go_wp2_with fail
      go_ret2
      rw [HF.out]
      exact ⟨_, _, _, HFL.out, rfl, by show Own _ _ _ _ _ _ (iv (renL xs)); rw [HF2.out]; exact HO.out, hb⟩

end Go.Proofs.Yteiffomekjadgaa
