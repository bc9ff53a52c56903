/- The lesser and the greater heights of two paths are those of a path. No program is named here. -/
import Derived.Test.YteiffomekjadgaaRankPath2
namespace Go.Proofs.Yteiffomekjadgaa
open Go.RowKit

def mn (x y : Int) : Int := if y < x then y else x
def mx (x y : Int) : Int := if x < y then y else x
def selL (m : Int → Int → Int) (a b : List UInt8) (k : Nat) : UInt8 := if m (hat a k) (hat b k) < m (hat a (k + 1)) (hat b (k + 1)) then 117 else 100
def selW (m : Int → Int → Int) (a b : List UInt8) (n : Nat) : List UInt8 := (List.range n).map (selL m a b)
theorem selW_len (m : Int → Int → Int) (a b : List UInt8) (n : Nat) : (selW m a b n).length = n := by simp [selW]
theorem selW_at {m : Int → Int → Int} {a b : List UInt8} {n k : Nat} (h : k < n) : (selW m a b n)[k]? = some (selL m a b k) := by
  simp [selW, List.getElem?_range h]
theorem hat_pm (l : List UInt8) (k : Nat) : hat l (k + 1) = hat l k + 1 ∨ hat l (k + 1) = hat l k - 1 := by
  simp only [hat]; split <;> omega
/-- A choice that goes by steps of one. -/
def Even (m : Int → Int → Int) : Prop := m 0 0 = 0 ∧ (∀ x y, m x y = x ∨ m x y = y) ∧ ∀ A B A' B' z : Int, A - B = 2 * z → (A' = A + 1 ∨ A' = A - 1) → (B' = B + 1 ∨ B' = B - 1) → m A' B' = m A B + 1 ∨ m A' B' = m A B - 1
theorem even_mn : Even mn := by
  refine ⟨rfl, fun x y => ?_, fun A B A' B' z h h1 h2 => ?_⟩
  · unfold mn; split <;> omega
  · unfold mn; split <;> split <;> omega
theorem even_mx : Even mx := by
  refine ⟨rfl, fun x y => ?_, fun A B A' B' z h h1 h2 => ?_⟩
  · unfold mx; split <;> omega
  · unfold mx; split <;> split <;> omega
theorem sel_hat {m : Int → Int → Int} (hm : Even m) (a b : List UInt8) (n : Nat) : ∀ k, k ≤ n → hat (selW m a b n) k = m (hat a k) (hat b k)
  | 0, _ => hm.1.symm
  | k + 1, h => by
    have ih := sel_hat hm a b n k (by omega)
    obtain ⟨z1, h1⟩ := hat_par (l := a) k
    obtain ⟨z2, h2⟩ := hat_par (l := b) k
    have h3 := hm.2.2 (hat a k) (hat b k) (hat a (k + 1)) (hat b (k + 1)) (z2 - z1) (by omega) (hat_pm a k) (hat_pm b k)
    have h4 := selW_at (m := m) (a := a) (b := b) (show k < n by omega)
    by_cases hc : m (hat a k) (hat b k) < m (hat a (k + 1)) (hat b (k + 1))
    · rw [selL, if_pos hc] at h4
      rw [hat_u h4, ih]; omega
    · rw [selL, if_neg hc] at h4
      rw [hat_d h4 (by decide), ih]; omega
theorem sel_ok {m : Int → Int → Int} (hm : Even m) {a b : List UInt8} {n : Nat} (ha : ∀ j, j ≤ n → 0 ≤ hat a j) (hb : ∀ j, j ≤ n → 0 ≤ hat b j) : ∀ k, k ≤ n → okB (selW m a b n) k = true
  | 0, _ => rfl
  | k + 1, h => by
    have ih := sel_ok hm ha hb k (by omega)
    have h4 := selW_at (m := m) (a := a) (b := b) (show k < n by omega)
    have h5 : 0 ≤ hat (selW m a b n) (k + 1) := by
      rw [sel_hat hm a b n (k + 1) h]
      rcases hm.2.1 (hat a (k + 1)) (hat b (k + 1)) with e | e <;> rw [e]
      · exact ha _ h
      · exact hb _ h
    rw [okB, ih, h4, decide_eq_true h5]
    unfold selL
    split <;> rfl
theorem dyck_nn {l : List UInt8} (h : dyck l = true) : ∀ j, j ≤ l.length → 0 ≤ hat l j := fun _ hj => okB_nn (okB_mono (dyck_pathB h).2.1 hj)
theorem sel_dyck {m : Int → Int → Int} (hm : Even m) {a b : List UInt8} {n : Nat} (ha : dyck a = true) (hb : dyck b = true) (hla : a.length = n) (hlb : b.length = n) : dyck (selW m a b n) = true := by
  have h1 := dyck_pathB ha
  have h2 := dyck_pathB hb
  have hna := dyck_nn ha
  have hnb := dyck_nn hb
  rw [hla] at hna h1
  rw [hlb] at hnb h2
  unfold dyck pathB
  rw [selW_len, sel_ok hm hna hnb n (Nat.le_refl _), sel_hat hm a b n n (Nat.le_refl _), h1.2.2, h2.2.2, hm.1]
  simp; exact h1.1
/-- A height is at most what letters remain. -/
theorem hat_rest {l : List UInt8} : ∀ j k, j ≤ k → hat l j ≤ hat l k + ((k : Int) - j)
  | j, 0, h => by obtain rfl : j = 0 := by omega
                  omega
  | j, k + 1, h => by
    rcases Nat.lt_or_ge j (k + 1) with h1 | h1
    · have := hat_rest (l := l) j k (by omega)
      rcases hat_pm l k with h2 | h2 <;> omega
    · obtain rfl : j = k + 1 := by omega
      omega
theorem dyck_8 {l : List UInt8} (h : dyck l = true) {j : Nat} (hj : j ≤ l.length) : hat l j ≤ 8 := by
  have h1 := dyck_pathB h
  have h2 := hat_rest (l := l) j l.length hj
  have h3 := hat_bd l j
  omega
/-- The choices of two lists. -/
def pickTo (m : Int → Int → Int) (xs ys : List Int) (k : Nat) : List Int := (List.range k).map fun j => m (xs.getD j 0) (ys.getD j 0)
theorem pickTo_len (m : Int → Int → Int) (xs ys : List Int) (k : Nat) : (pickTo m xs ys k).length = k := by simp [pickTo]
theorem pickTo_succ (m : Int → Int → Int) (xs ys : List Int) (k : Nat) : pickTo m xs ys (k + 1) = pickTo m xs ys k ++ [m (xs.getD k 0) (ys.getD k 0)] := by simp [pickTo, List.range_succ]
theorem hts_getD {l : List UInt8} {k : Nat} (h : k ≤ l.length) : (hts l).getD k 0 = hat l k := by
  rw [List.getD_eq_getElem?_getD]
  unfold hts htsTo
  rw [List.getElem?_map, List.getElem?_range (by omega)]; rfl
theorem pick_hts {m : Int → Int → Int} (hm : Even m) {a b : List UInt8} {n : Nat} (hla : a.length = n) (hlb : b.length = n) : pickTo m (hts a) (hts b) (n + 1) = hts (selW m a b n) := by
  unfold pickTo hts htsTo
  rw [selW_len]
  apply List.map_congr_left
  intro j hj
  rw [List.mem_range] at hj
  rw [show (List.map (hat a) (List.range (a.length + 1))) = hts a from rfl, show (List.map (hat b) (List.range (b.length + 1))) = hts b from rfl, hts_getD (by omega), hts_getD (by omega), sel_hat hm a b n j (by omega)]
/-- What LowerPath and UpperPath answer. -/
def betwB (m : Int → Int → Int) (a b : List UInt8) : List UInt8 × Bool := if fitB a b then (selW m a b a.length, true) else ([], false)
theorem getD1 {xs : List Int} {k : Nat} {x : Int} (h : xs[k]? = some x) : xs.getD k 0 = x := by rw [List.getD_eq_getElem?_getD, h]; rfl
theorem pick_set {m : Int → Int → Int} {xs ys : List Int} {k : Nat} {x y : Int} (hx : xs[k]? = some x) (hy : ys[k]? = some y) : (pickTo m xs ys k ++ xs.drop k).set k (m x y) = pickTo m xs ys (k + 1) ++ xs.drop (k + 1) := by
  obtain ⟨h1, h2⟩ := List.getElem?_eq_some_iff.1 hx
  have e : xs.drop k = x :: xs.drop (k + 1) := by rw [List.drop_eq_getElem_cons h1, h2]
  rw [pickTo_succ, getD1 hy, getD1 hx, e, List.set_append_right _ _ (by rw [pickTo_len]; exact Nat.le_refl _), pickTo_len, Nat.sub_self, List.set_cons_zero, List.append_assoc]
  rfl
theorem pick_at {m : Int → Int → Int} {xs ys : List Int} {k : Nat} : (pickTo m xs ys k ++ xs.drop k)[k]? = xs[k]? := by
  rw [List.getElem?_append_right (by rw [pickTo_len]; exact Nat.le_refl _), pickTo_len, Nat.sub_self, List.getElem?_drop, Nat.add_zero]
theorem pick_all {m : Int → Int → Int} {xs ys : List Int} {n : Nat} (h : xs.length = n) : pickTo m xs ys n ++ xs.drop n = pickTo m xs ys n := by
  rw [List.drop_eq_nil_of_le (by omega), List.append_nil]

end Go.Proofs.Yteiffomekjadgaa
