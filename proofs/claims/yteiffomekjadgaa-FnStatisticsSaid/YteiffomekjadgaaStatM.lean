/- A Dyck path lies among all paths of its size. No program is named here. -/
import Derived.Test.YteiffomekjadgaaDraw4
import Derived.Test.YteiffomekjadgaaStatL
namespace Go.Proofs.Yteiffomekjadgaa
set_option linter.unusedVariables false
open Go.RowKit

theorem sub_take {l : List UInt8} {m : Nat} (h : dyck l = true) (hm : l.length = 2 * m) : ∀ k, k ≤ l.length → SubP m (l.take k) (ups l k) (k - ups l k)
  | 0, _ => by rw [List.take_zero]; exact SubP.nil m
  | k + 1, hk => by
    obtain ⟨h16, hok, h0⟩ := dyck_pathB h
    have ih := sub_take h hm k (by omega)
    have h1 := okB_nn (okB_mono hok (show k ≤ l.length by omega))
    have h2 := okB_nn (okB_mono hok hk)
    have h3 := ups_mono l hk
    have h5 := hat_bd l k
    rw [ups_hat] at h0 h1 h2 h5
    have e : l.take (k + 1) = l.take k ++ [l[k]] := by rw [List.take_add_one, List.getElem?_eq_getElem (show k < l.length by omega)]; rfl
    have ho := okB_mono hok hk
    simp only [okB, Bool.and_eq_true, Bool.or_eq_true, beq_iff_eq] at ho
    rw [e]
    rcases ho.1.2 with hu | hu
    · have hu2 : l[k] = 117 := by rw [List.getElem?_eq_getElem (show k < l.length by omega)] at hu; injection hu
      have eu : ups l (k + 1) = ups l k + 1 := by rw [ups, if_pos hu]
      rw [eu] at h2 h3
      rw [hu2, eu, show k + 1 - (ups l k + 1) = k - ups l k by omega]
      exact ih.up (by omega) (by omega)
    · have hu2 : l[k] = 100 := by rw [List.getElem?_eq_getElem (show k < l.length by omega)] at hu; injection hu
      have eu : ups l (k + 1) = ups l k := by rw [ups, if_neg (by rw [hu]; decide)]
      rw [eu] at h2 h3
      rw [hu2, eu, show k + 1 - ups l k = (k - ups l k) + 1 by omega]
      exact ih.down (by omega) (by omega)
theorem dyck_mem {l : List UInt8} (h : dyck l = true) : l ∈ paths (l.length / 2) := by
  obtain ⟨h16, hok, h0⟩ := dyck_pathB h
  rw [ups_hat] at h0
  have hm : l.length = 2 * (l.length / 2) := by omega
  have := sub_take h hm l.length (Nat.le_refl _)
  rw [List.take_length, show ups l l.length = l.length / 2 by omega, show l.length - l.length / 2 = l.length / 2 by omega] at this
  exact this.fin
/-- What FnStatistics draws. -/
def drawnB (l : List UInt8) : Prop := l.length ≤ 13 ∨ dyck l = false ∨ l = u8d8
theorem good_drawn {l : List UInt8} (h : drawnB l) (hd : dyck l = true) : goodB l = true := by
  rcases h with h | h | h
  · exact good_p (by omega) (dyck_mem hd)
  · rw [hd] at h; cases h
  · rw [h]; exact good_u8

end Go.Proofs.Yteiffomekjadgaa
