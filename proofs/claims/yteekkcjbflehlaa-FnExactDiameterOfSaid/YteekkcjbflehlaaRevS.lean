/- slices.Reverse over texts. -/
import Derived.Test.YteekkcjbflehlaaStrs
import Derived.BigRegion
namespace Go.Proofs.Yteekkcjbflehlaa
set_option linter.unusedVariables false
open Go.RowKit

theorem Own.atsS {w : World} {e : TypeId} {B : Nat} {A : Option Addr} {n c k : Nat} {l : List (List UInt8)} (h : Own w e B A n c (sv l)) (hk : k < n) : ∃ g y, A = some ⟨g, 0, none⟩ ∧ B ≤ g ∧ g < w.heap.size ∧ l[k]? = some y ∧ w.cell? ⟨g, k, none⟩ = some (.string (bs y)) ∧ w.frozen? ⟨g, k, none⟩ = false := by
  obtain ⟨g, u, h1, h2, h3, h4, h5, h6⟩ := h.at_ hk
  unfold sv at h4
  rw [List.getElem?_map, Option.map_eq_some_iff] at h4
  obtain ⟨y, hy, rfl⟩ := h4
  exact ⟨g, y, h1, h2, h3, hy, h5, h6⟩
theorem Own.putsS {w : World} {e : TypeId} {B n c g : Nat} {l : List (List UInt8)} (h : Own w e B (some ⟨g, 0, none⟩) n c (sv l)) (k : Nat) (x : List UInt8) : Own (w.setCell ⟨g, k, none⟩ (.string (bs x))) e B (some ⟨g, 0, none⟩) n c (sv (l.set k x)) := by
  have : sv (l.set k x) = (sv l).set k (.string (bs x)) := by simp [sv, List.map_set]
  rw [this]; exact h.set_ k _
/-- The first k and the last k are turned round. -/
def revS (T : List (List UInt8)) (k : Nat) : List (List UInt8) := (List.range T.length).map fun j => if j < k ∨ T.length ≤ j + k then T.getD (T.length - 1 - j) [] else T.getD j []
theorem revS_len (T : List (List UInt8)) (k : Nat) : (revS T k).length = T.length := by simp [revS]
theorem revS_at {T : List (List UInt8)} {k j : Nat} (h : j < T.length) : (revS T k)[j]? = some (if j < k ∨ T.length ≤ j + k then T.getD (T.length - 1 - j) [] else T.getD j []) := by
  unfold revS
  rw [List.getElem?_map, List.getElem?_range h]; rfl
theorem revS_0 (T : List (List UInt8)) : revS T 0 = T := by
  apply List.ext_getElem?
  intro j
  rcases Nat.lt_or_ge j T.length with h | h
  · rw [revS_at h, if_neg (by omega), List.getD_eq_getElem?_getD, List.getElem?_eq_getElem h]; rfl
  · rw [List.getElem?_eq_none (by rw [revS_len]; exact h), List.getElem?_eq_none h]
theorem revS_end {T : List (List UInt8)} {k : Nat} (hk : T.length ≤ 2 * k + 1) : revS T k = T.reverse := by
  apply List.ext_getElem?
  intro j
  rcases Nat.lt_or_ge j T.length with h | h
  · rw [revS_at h, List.getElem?_reverse h]
    by_cases hc : j < k ∨ T.length ≤ j + k
    · rw [if_pos hc, List.getD_eq_getElem?_getD, List.getElem?_eq_getElem (by omega)]; rfl
    · rw [if_neg hc, List.getD_eq_getElem?_getD, show T.length - 1 - j = j by omega, List.getElem?_eq_getElem h]; rfl
  · rw [List.getElem?_eq_none (by rw [revS_len]; exact h), List.getElem?_eq_none (by rw [List.length_reverse]; exact h)]
theorem revS_step {T : List (List UInt8)} {k : Nat} {x y : List UInt8} (hk : 2 * k + 1 < T.length) (hx : (revS T k)[k]? = some x) (hy : (revS T k)[T.length - 1 - k]? = some y) :
    ((revS T k).set k y).set (T.length - 1 - k) x = revS T (k + 1) := by
  rw [revS_at (by omega), if_neg (by omega)] at hx hy
  injection hx with hx
  injection hy with hy
  apply List.ext_getElem?
  intro j
  rcases Nat.lt_or_ge j T.length with h | h
  · rw [revS_at h, List.getElem?_set, List.getElem?_set]
    by_cases h1 : T.length - 1 - k = j
    · rw [if_pos h1, if_pos (by rw [List.length_set, revS_len]; exact h1 ▸ h), if_pos (by omega), show T.length - 1 - j = k by omega, hx]
    · rw [if_neg h1]
      by_cases h2 : k = j
      · subst h2
        rw [if_pos rfl, if_pos (by rw [revS_len]; exact h), if_pos (by omega), hy]
      · rw [if_neg h2, revS_at h]
        by_cases hc : j < k ∨ T.length ≤ j + k
        · rw [if_pos hc, if_pos (by omega)]
        · rw [if_neg hc, if_neg (by omega)]
  · rw [List.getElem?_eq_none (by rw [List.length_set, List.length_set, revS_len]; exact h), List.getElem?_eq_none (by rw [revS_len]; exact h)]

set_option maxHeartbeats 1000000 in
theorem reverseS_any (A : Option Addr) (L c B : Nat) (T : List (List UInt8)) (w : World) (h : Own w 9 B A L c (sv T)) (hL : L ≤ 1000000) :
    Calls Try.prog 102 #[.slice A L c] w fun e w' => e = .returned (.tuple #[]) ∧ Own w' 9 B A L c (sv T.reverse) ∧ Below B w w' := by
  have HO := Lib.hid h
  have HTL := Lib.hid (show T.length = L by have := h.len; rw [sv_len] at this; exact this)
  clear h
  go_enter Try.func102, Try.ntmps102
  go_wp2_with fail
  go_loopw [2, 3] (fun i j wr => ∃ k : Nat, 2 * k ≤ L + 1 ∧ i = .int .i64 k ∧ j = .int .i64 ((L : Int) - 1 - k) ∧ Own wr 9 B A L c (sv (revS T k)) ∧ Below B w wr) (fun i _ _ => L + 1 - (intOf i).toNat)
  case atStart => exact ⟨0, by omega, rfl, by go_num, by rw [revS_0]; exact HO.out, Below.refl _ _⟩
  case round =>
    obtain ⟨k, hk, rfl, rfl, ho, hb⟩ := hrel
    by_cases hlt : 2 * k + 1 < L
    · obtain ⟨g, xa, hA1, hgB, _, hxa, hca, hfa⟩ := ho.atsS (show k < L by omega)
      obtain ⟨_, xb, hA2, _, _, hxb, hcb, hfb⟩ := ho.atsS (show L - 1 - k < L by omega)
      subst hA1
      cases hA2
      have HS := Lib.hid (revS_step (T := T) (k := k) (by rw [HTL.out]; exact hlt) hxa (by rw [HTL.out]; exact hxb))
      rw [HTL.out] at HS
      have P := Lib.hid ho
      have k0 : (0 : Int) ≤ (k : Int) := by omega
      have k1 : (k : Int) < (L : Int) := by omega
      have k2 : (0 : Int) ≤ (L : Int) - 1 - k := by omega
      have k3 : (L : Int) - 1 - k < (L : Int) := by omega
      have k4 : (k : Int) < (L : Int) - 1 - k := by omega
      have k5 : ((L : Int) - 1 - k).toNat = L - 1 - k := by omega
      have k6 : k ≠ L - 1 - k := by omega
      clear hxa hxb ho
      go_wp2_with fail
      obtain ⟨w1, rfl⟩ : ∃ W, W = wr := ⟨wr, rfl⟩
      go_region
      go_wp2_with fail
      go_roundw
      case rel => exact ⟨k + 1, by omega, by go_num, by go_num, by rw [← HS.out]; exact (P.out.putsS k xb).putsS (L - 1 - k) xa, ((hb.setCell (p := ⟨g, k, none⟩) hgB _).setCell (p := ⟨g, L - 1 - k, none⟩) hgB _).drew⟩
      case measure => simp [intOf]; omega
    · have k4 : ¬ (k : Int) < (L : Int) - 1 - k := by omega
      have HR := Lib.hid (revS_end (T := T) (k := k) (by rw [HTL.out]; omega))
      rw [HR.out] at ho
      have P := Lib.hid ho
      clear ho
      go_wp2_with fail
      go_end0
      exact ⟨rfl, P.out, hb⟩

end Go.Proofs.Yteekkcjbflehlaa
