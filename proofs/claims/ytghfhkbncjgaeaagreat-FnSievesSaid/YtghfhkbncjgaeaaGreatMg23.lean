/- Merged: FmtI. -/
import Derived.Test.YtghfhkbncjgaeaaGreatMg17
import Derived.Test.YtghfhkbncjgaeaaGreatMg22
import Derived.BigRegion

namespace Go.Proofs.YtghfhkbncjgaeaaGreat
open Go.RowKit

/-- What is turned round. -/
def pre (x : Int) : List UInt8 := if x < 0 then lsd x.natAbs x.natAbs ++ b1 45 else lsd x.natAbs x.natAbs
theorem pre_rev {x : Int} (h : x ≠ 0) : (pre x).reverse = fmtI x := by
  unfold pre fmtI
  rw [if_neg h]
  split
  · rw [List.reverse_append]; rfl
  · rfl
theorem pre_len {x : Int} (h : -1000000000 ≤ x ∧ x ≤ 1000000000) : (pre x).length ≤ 12 := by
  have := lsd_len x.natAbs x.natAbs 10 (by omega)
  unfold pre
  split
  · simp [b1]; omega
  · omega

set_option maxHeartbeats 1000000 in
theorem implFormatInt_any (x : Int) (hx : -1000000000 ≤ x ∧ x ≤ 1000000000) (w : World) :
    Calls Tryz.prog 96 #[.int .i64 x] w fun e w' => e = .returned (.string (bs (fmtI x))) ∧ Below w.heap.size w w' := by
  by_cases h0 : x = 0
  · subst h0
    go_enter Tryz.func96, Tryz.ntmps96
    go_wp2_with fail
    go_ret
    exact ⟨rfl, Below.refl _ _⟩
  have HE := Lib.hid (pre_rev h0)
  have HPL := Lib.hid (pre_len hx)
  by_cases hneg : x < 0
  · obtain ⟨m, rfl, hm⟩ : ∃ m : Nat, x = -(m : Int) ∧ 0 < m := ⟨x.natAbs, by omega, by omega⟩
    have HF := Lib.hid (show pre (-(m : Int)) = lsd m m ++ b1 45 by unfold pre; rw [if_pos hneg, show (-(m : Int)).natAbs = m by omega])
    have HL := Lib.hid (lsd_len m m 10 (by omega))
    have hm0 : ¬ (-(m : Int) = 0) := by omega
    have hm1 : ((-(m : Int)) == 0) = false := by rw [beq_eq_false_iff_ne]; exact hm0
    clear h0
    go_enter Tryz.func96, Tryz.ntmps96
    go_wp2_with fail
    go_loopw [3, 4, 5] (fun s i _ wr => ∃ (f k j : Nat) (out : List UInt8) (A : Option Addr) (c : Nat), k ≤ f ∧ k ≤ m ∧ j ≤ 10 ∧ i = .int .i64 (-(k : Int)) ∧ s = .slice A j c ∧ Own wr 5 w.heap.size A j c (bv out) ∧ Hid (out ++ lsd f k = lsd m m) ∧ Below w.heap.size w wr) (fun _ i _ _ => (intOf i).natAbs)
    case atStart => exact ⟨m, m, 0, [], _, _, Nat.le_refl _, Nat.le_refl _, Nat.zero_le _, rfl, rfl, own_emptyB w, rfl, (Below.refl _ _).alloc (Nat.le_refl _) _⟩
    case round =>
      obtain ⟨f, k, j, out, A, c, hkf, hkm, hj, rfl, rfl, ho, HD, hb⟩ := hrel
      have HO := Lib.hid ho
      have HOL := Lib.hid (show out.length = j by have := ho.len; rw [bv_len] at this; exact this)
      have hbs := hb.size
      clear ho
      by_cases hk : k = 0
      · subst hk
        have HX := Lib.hid (show out = lsd m m by have := HD.out; rw [lsd_0] at this; simpa using this)
        clear hkf hkm
        have hmn : -(m : Int) < 0 := by omega
        go_wp2_with (at_builtin; refine appB _ rfl _ _ rfl w.heap.size A j c _ rfl (HO.out.alloc _) wr.heap.size 45 rfl (by simp) (by omega) hbs ?_; intro A' c' w' hown' hg' hb')
        have hb2 := (hb.alloc hbs _).trans hb'
        have HO2 := Lib.hid (show Own w' 5 w.heap.size A' (j + 1) c' (bv (pre (-(m : Int)))) by rw [HF.out, ← HX.out, bv_b1 _ (by omega) (by omega)]; exact hown')
        clear hown' hg' hb' hb
        obtain ⟨T, hT⟩ : ∃ T, T = pre (-(m : Int)) := ⟨_, rfl⟩
        rw [← hT] at HO2 HPL HE
        have HTL := Lib.hid (show T.length = j + 1 by have := HO2.out.len; rw [bv_len] at this; exact this)
        obtain ⟨L, hL⟩ : ∃ L, L = j + 1 := ⟨_, rfl⟩
        have hJ : (j : Int) + 1 = (L : Int) := by omega
        have hJ2 : (j : Int) = (L : Int) - 1 := by omega
        rw [← hL]
        rw [← hL] at HO2 HTL
        have HL0 := Lib.hid hL
        have hL12 : L ≤ 12 := by rw [← HTL.out]; exact HPL.out
        clear hT hL
        go_wp2_with fail
        go_loopw [6, 7] (fun i j wr => ∃ k : Nat, 2 * k ≤ L + 1 ∧ i = .int .i64 k ∧ j = .int .i64 ((L : Int) - 1 - k) ∧ Own wr 5 w.heap.size A' L c' (bv (revTo T k)) ∧ Below w.heap.size w wr) (fun i _ _ => L + 1 - (intOf i).toNat)
        case atStart => exact ⟨0, by omega, rfl, by go_num, by rw [revTo_0]; exact HO2.out, hb2⟩
        case round =>
          obtain ⟨k, hk, rfl, rfl, ho, hb⟩ := hrel
          by_cases hlt : 2 * k + 1 < L
          · obtain ⟨g, xa, hA1, hgB, _, hxa, hca, hfa⟩ := ho.atb (show k < L by omega)
            obtain ⟨_, xb, hA2, _, _, hxb, hcb, hfb⟩ := ho.atb (show L - 1 - k < L by omega)
            subst hA1
            cases hA2
            have HS := Lib.hid (revTo_step (T := T) (k := k) (by rw [HTL.out]; exact hlt) hxa (by rw [HTL.out]; exact hxb))
            rw [HTL.out] at HS
            have P := Lib.hid ho
            have k0 : (0 : Int) ≤ (k : Int) := by omega
            have k1 : (k : Int) < (L : Int) := by omega
            have k2 : (0 : Int) ≤ (L : Int) - 1 - k := by omega
            have k3 : (L : Int) - 1 - k < (L : Int) := by omega
            have k4 : (k : Int) < (L : Int) - 1 - k := by omega
            have k5 : ((L : Int) - 1 - k).toNat = L - 1 - k := by omega
            have k6 : k ≠ L - 1 - k := by omega
            clear hxa hxb ho
            go_wp2_with fail
            obtain ⟨w1, rfl⟩ : ∃ W, W = wr := ⟨wr, rfl⟩
            go_region
            go_wp2_with fail
            go_roundw
            case rel => exact ⟨k + 1, by omega, by go_num, by go_num, by rw [← HS.out]; exact (P.out.putb k xb).putb (L - 1 - k) xa, ((hb.setCell (p := ⟨g, k, none⟩) hgB _).setCell (p := ⟨g, L - 1 - k, none⟩) hgB _).drew⟩
            case measure => simp [intOf]; omega
          · have k4 : ¬ (k : Int) < (L : Int) - 1 - k := by omega
            have HR := Lib.hid (revTo_end (T := T) (k := k) (by rw [HTL.out]; omega))
            rw [HR.out, HE.out] at ho
            have hcv := run_cv (P := Tryz.prog) wr 22 5 9 Tryz.underlying22 Tryz.underlying5 Tryz.underlying9 _ _ _ _ _ _ ho
            clear ho
            go_wp2_with fail
            go_ret
            exact ⟨rfl, hb⟩
      · have hk' : 0 < k := by omega
        obtain ⟨f, rfl⟩ : ∃ f', f = f' + 1 := ⟨f - 1, by omega⟩
        have hj9 : j ≤ 9 := by
          have h1 := congrArg List.length HD.out
          have h2 := HL.out
          rw [List.length_append, lsd, if_neg hk, List.length_append, HOL.out] at h1
          have h3 : (b1 (48 + ((k % 10 : Nat) : Int))).length = 1 := rfl
          omega
        by_cases hz : k % 10 = 0
        · have hz1 : (k : Int) % 10 = 0 := by omega
          have HN := Lib.hid (show (out ++ b1 (48)) ++ lsd f (k / 10) = lsd m m by
            rw [← HD.out, lsd, if_neg hk, List.append_assoc]
            rw [show (48 : Int) + ((k % 10 : Nat) : Int) = 48 by omega])
          clear hz
          go_wp2_with (at_builtin; refine appB _ rfl _ _ rfl w.heap.size A j c _ rfl (HO.out.alloc _) wr.heap.size (48) rfl (by simp) (by omega) hbs ?_; intro A' c' w' hown' hg' hb')
          have HO2 := Lib.hid (show Own w' 5 w.heap.size A' (j + 1) c' (bv (out ++ b1 (48))) by rw [bv_b1 _ (by omega) (by omega)]; exact hown')
          have hb2 := (hb.alloc hbs _).trans hb'
          clear hown' hg' hb'
          go_wp2_with fail
          go_roundw
          case rel => first | exact ⟨f, k / 10, j + 1, _, A', c', by omega, by omega, by omega, by go_num, rfl, HO2.out, HN, hb2⟩ | ((repeat apply Exists.intro); exact ⟨⟨f, k / 10, j + 1, _, A', c', by omega, by omega, by omega, by go_num, rfl, HO2.out, HN, hb2⟩, rfl⟩)
          case measure => simp [intOf]; omega
        · have hz1 : 0 < (k : Int) % 10 := by omega
          have hz2 : (k : Int) % 10 ≤ 9 := by omega
          have HN := Lib.hid (show (out ++ b1 (48 + (k : Int) % 10)) ++ lsd f (k / 10) = lsd m m by
            rw [← HD.out, lsd, if_neg hk, List.append_assoc]
            rw [show (48 : Int) + ((k % 10 : Nat) : Int) = 48 + (k : Int) % 10 by omega])
          clear hz
          go_wp2_with (at_builtin; refine appB _ rfl _ _ rfl w.heap.size A j c _ rfl (HO.out.alloc _) wr.heap.size (48 + (k : Int) % 10) rfl (by simp) (by omega) hbs ?_; intro A' c' w' hown' hg' hb')
          have HO2 := Lib.hid (show Own w' 5 w.heap.size A' (j + 1) c' (bv (out ++ b1 (48 + (k : Int) % 10))) by rw [bv_b1 _ (by omega) (by omega)]; exact hown')
          have hb2 := (hb.alloc hbs _).trans hb'
          clear hown' hg' hb'
          go_wp2_with fail
          go_roundw
          case rel => first | exact ⟨f, k / 10, j + 1, _, A', c', by omega, by omega, by omega, by go_num, rfl, HO2.out, HN, hb2⟩ | ((repeat apply Exists.intro); exact ⟨⟨f, k / 10, j + 1, _, A', c', by omega, by omega, by omega, by go_num, rfl, HO2.out, HN, hb2⟩, rfl⟩)
          case measure => simp [intOf]; omega
  · obtain ⟨m, rfl, hm⟩ : ∃ m : Nat, x = (m : Int) ∧ 0 < m := ⟨x.natAbs, by omega, by omega⟩
    have HF := Lib.hid (show pre (m : Int) = lsd m m by unfold pre; rw [if_neg hneg, show ((m : Int)).natAbs = m by omega])
    have HL := Lib.hid (lsd_len m m 10 (by omega))
    have hm0 : ¬ ((m : Int) = 0) := by omega
    have hm1 : (((m : Int)) == 0) = false := by rw [beq_eq_false_iff_ne]; exact hm0
    clear h0
    go_enter Tryz.func96, Tryz.ntmps96
    go_wp2_with fail
    go_loopw [3, 4, 5] (fun s i _ wr => ∃ (f k j : Nat) (out : List UInt8) (A : Option Addr) (c : Nat), k ≤ f ∧ k ≤ m ∧ j ≤ 10 ∧ i = .int .i64 (k : Int) ∧ s = .slice A j c ∧ Own wr 5 w.heap.size A j c (bv out) ∧ Hid (out ++ lsd f k = lsd m m) ∧ Below w.heap.size w wr) (fun _ i _ _ => (intOf i).natAbs)
    case atStart => exact ⟨m, m, 0, [], _, _, Nat.le_refl _, Nat.le_refl _, Nat.zero_le _, rfl, rfl, own_emptyB w, rfl, (Below.refl _ _).alloc (Nat.le_refl _) _⟩
    case round =>
      obtain ⟨f, k, j, out, A, c, hkf, hkm, hj, rfl, rfl, ho, HD, hb⟩ := hrel
      have HO := Lib.hid ho
      have HOL := Lib.hid (show out.length = j by have := ho.len; rw [bv_len] at this; exact this)
      have hbs := hb.size
      clear ho
      by_cases hk : k = 0
      · subst hk
        have HX := Lib.hid (show out = lsd m m by have := HD.out; rw [lsd_0] at this; simpa using this)
        clear hkf hkm
        have hmn : ¬ (m : Int) < 0 := by omega
        obtain ⟨A', c', HO2⟩ : ∃ A' c', A' = A ∧ c' = c ∧ Hid (Own wr 5 w.heap.size A' j c' (bv (pre (m : Int)))) := ⟨A, c, rfl, rfl, Lib.hid (by rw [HF.out, ← HX.out]; exact HO.out)⟩
        obtain ⟨rfl, rfl, HO2⟩ := HO2
        have hb2 := hb
        clear hb
        obtain ⟨T, hT⟩ : ∃ T, T = pre ((m : Int)) := ⟨_, rfl⟩
        rw [← hT] at HO2 HPL HE
        have HTL := Lib.hid (show T.length = j by have := HO2.out.len; rw [bv_len] at this; exact this)
        obtain ⟨L, hL⟩ : ∃ L, L = j := ⟨_, rfl⟩
        subst hL
        have hL12 : L ≤ 12 := by rw [← HTL.out]; exact HPL.out
        clear hT
        go_wp2_with fail
        go_loopw [6, 7] (fun i j wr => ∃ k : Nat, 2 * k ≤ L + 1 ∧ i = .int .i64 k ∧ j = .int .i64 ((L : Int) - 1 - k) ∧ Own wr 5 w.heap.size A' L c' (bv (revTo T k)) ∧ Below w.heap.size w wr) (fun i _ _ => L + 1 - (intOf i).toNat)
        case atStart => exact ⟨0, by omega, rfl, by go_num, by rw [revTo_0]; exact HO2.out, hb2⟩
        case round =>
          obtain ⟨k, hk, rfl, rfl, ho, hb⟩ := hrel
          by_cases hlt : 2 * k + 1 < L
          · obtain ⟨g, xa, hA1, hgB, _, hxa, hca, hfa⟩ := ho.atb (show k < L by omega)
            obtain ⟨_, xb, hA2, _, _, hxb, hcb, hfb⟩ := ho.atb (show L - 1 - k < L by omega)
            subst hA1
            cases hA2
            have HS := Lib.hid (revTo_step (T := T) (k := k) (by rw [HTL.out]; exact hlt) hxa (by rw [HTL.out]; exact hxb))
            rw [HTL.out] at HS
            have P := Lib.hid ho
            have k0 : (0 : Int) ≤ (k : Int) := by omega
            have k1 : (k : Int) < (L : Int) := by omega
            have k2 : (0 : Int) ≤ (L : Int) - 1 - k := by omega
            have k3 : (L : Int) - 1 - k < (L : Int) := by omega
            have k4 : (k : Int) < (L : Int) - 1 - k := by omega
            have k5 : ((L : Int) - 1 - k).toNat = L - 1 - k := by omega
            have k6 : k ≠ L - 1 - k := by omega
            clear hxa hxb ho
            go_wp2_with fail
            obtain ⟨w1, rfl⟩ : ∃ W, W = wr := ⟨wr, rfl⟩
            go_region
            go_wp2_with fail
            go_roundw
            case rel => exact ⟨k + 1, by omega, by go_num, by go_num, by rw [← HS.out]; exact (P.out.putb k xb).putb (L - 1 - k) xa, ((hb.setCell (p := ⟨g, k, none⟩) hgB _).setCell (p := ⟨g, L - 1 - k, none⟩) hgB _).drew⟩
            case measure => simp [intOf]; omega
          · have k4 : ¬ (k : Int) < (L : Int) - 1 - k := by omega
            have HR := Lib.hid (revTo_end (T := T) (k := k) (by rw [HTL.out]; omega))
            rw [HR.out, HE.out] at ho
            have hcv := run_cv (P := Tryz.prog) wr 22 5 9 Tryz.underlying22 Tryz.underlying5 Tryz.underlying9 _ _ _ _ _ _ ho
            clear ho
            go_wp2_with fail
            go_ret
            exact ⟨rfl, hb⟩
      · have hk' : 0 < k := by omega
        obtain ⟨f, rfl⟩ : ∃ f', f = f' + 1 := ⟨f - 1, by omega⟩
        have hj9 : j ≤ 9 := by
          have h1 := congrArg List.length HD.out
          have h2 := HL.out
          rw [List.length_append, lsd, if_neg hk, List.length_append, HOL.out] at h1
          have h3 : (b1 (48 + ((k % 10 : Nat) : Int))).length = 1 := rfl
          omega
        by_cases hz : k % 10 = 0
        · have hz1 : (k : Int) % 10 = 0 := by omega
          have HN := Lib.hid (show (out ++ b1 (48)) ++ lsd f (k / 10) = lsd m m by
            rw [← HD.out, lsd, if_neg hk, List.append_assoc]
            rw [show (48 : Int) + ((k % 10 : Nat) : Int) = 48 by omega])
          clear hz
          go_wp2_with (at_builtin; refine appB _ rfl _ _ rfl w.heap.size A j c _ rfl (HO.out.alloc _) wr.heap.size (48) rfl (by simp) (by omega) hbs ?_; intro A' c' w' hown' hg' hb')
          have HO2 := Lib.hid (show Own w' 5 w.heap.size A' (j + 1) c' (bv (out ++ b1 (48))) by rw [bv_b1 _ (by omega) (by omega)]; exact hown')
          have hb2 := (hb.alloc hbs _).trans hb'
          clear hown' hg' hb'
          go_wp2_with fail
          go_roundw
          case rel => first | exact ⟨f, k / 10, j + 1, _, A', c', by omega, by omega, by omega, by go_num, rfl, HO2.out, HN, hb2⟩ | ((repeat apply Exists.intro); exact ⟨⟨f, k / 10, j + 1, _, A', c', by omega, by omega, by omega, by go_num, rfl, HO2.out, HN, hb2⟩, rfl⟩)
          case measure => simp [intOf]; omega
        · have hz1 : 0 < (k : Int) % 10 := by omega
          have hz2 : (k : Int) % 10 ≤ 9 := by omega
          have HN := Lib.hid (show (out ++ b1 (48 + (k : Int) % 10)) ++ lsd f (k / 10) = lsd m m by
            rw [← HD.out, lsd, if_neg hk, List.append_assoc]
            rw [show (48 : Int) + ((k % 10 : Nat) : Int) = 48 + (k : Int) % 10 by omega])
          clear hz
          go_wp2_with (at_builtin; refine appB _ rfl _ _ rfl w.heap.size A j c _ rfl (HO.out.alloc _) wr.heap.size (48 + (k : Int) % 10) rfl (by simp) (by omega) hbs ?_; intro A' c' w' hown' hg' hb')
          have HO2 := Lib.hid (show Own w' 5 w.heap.size A' (j + 1) c' (bv (out ++ b1 (48 + (k : Int) % 10))) by rw [bv_b1 _ (by omega) (by omega)]; exact hown')
          have hb2 := (hb.alloc hbs _).trans hb'
          clear hown' hg' hb'
          go_wp2_with fail
          go_roundw
          case rel => first | exact ⟨f, k / 10, j + 1, _, A', c', by omega, by omega, by omega, by go_num, rfl, HO2.out, HN, hb2⟩ | ((repeat apply Exists.intro); exact ⟨⟨f, k / 10, j + 1, _, A', c', by omega, by omega, by omega, by go_num, rfl, HO2.out, HN, hb2⟩, rfl⟩)
          case measure => simp [intOf]; omega

end Go.Proofs.YtghfhkbncjgaeaaGreat
