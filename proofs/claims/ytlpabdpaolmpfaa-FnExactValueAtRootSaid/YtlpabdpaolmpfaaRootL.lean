/- The remainder by a cyclotomic polynomial, told by linear maps: no program in sight. -/
import Derived.Test.YtlpabdpaolmpfaaDivide
namespace Go.Proofs.Ytlpabdpaolmpfaa
open Go.RowKit

/-- The sum of f over the numbers below n. -/
def sm : Nat → (Nat → Int) → Int
  | 0, _ => 0
  | n + 1, f => sm n f + f n
theorem sm_congr {f g : Nat → Int} : ∀ n, (∀ j, j < n → f j = g j) → sm n f = sm n g
  | 0, _ => rfl
  | n + 1, h => by rw [sm, sm, sm_congr n (fun j hj => h j (by omega)), h n (by omega)]
theorem sm_zero {f : Nat → Int} : ∀ n, (∀ j, j < n → f j = 0) → sm n f = 0
  | 0, _ => rfl
  | n + 1, h => by rw [sm, sm_zero n (fun j hj => h j (by omega)), h n (by omega)]; rfl
theorem sm_add (f g : Nat → Int) : ∀ n, sm n (fun j => f j + g j) = sm n f + sm n g
  | 0 => rfl
  | n + 1 => by simp only [sm, sm_add f g n]; omega
theorem sm_mul (c : Int) (f : Nat → Int) : ∀ n, sm n (fun j => c * f j) = c * sm n f
  | 0 => by simp [sm]
  | n + 1 => by simp only [sm, sm_mul c f n, Int.mul_add]
theorem sm_tail {f : Nat → Int} (n : Nat) : ∀ k, (∀ j, n ≤ j → j < n + k → f j = 0) → sm (n + k) f = sm n f
  | 0, _ => rfl
  | k + 1, h => by
    rw [← Nat.add_assoc, sm, sm_tail n k (fun j h1 h2 => h j h1 (by omega)), h (n + k) (by omega) (by omega), Int.add_zero]
theorem sm_one {f : Nat → Int} {i : Nat} : ∀ n, i < n → (∀ j, j < n → j ≠ i → f j = 0) → sm n f = f i
  | 0, h, _ => by omega
  | n + 1, h, hz => by
    rcases Nat.lt_or_ge i n with h1 | h1
    · rw [sm, sm_one n h1 (fun j hj => hz j (by omega)), hz n (by omega) (by omega), Int.add_zero]
    · obtain rfl : i = n := by omega
      rw [sm, sm_zero i (fun j hj => hz j (by omega) (by omega)), Int.zero_add]
theorem sm_win (g : Nat → Int) (z : Nat) : ∀ k N, z + k ≤ N → sm N (fun j => if z ≤ j ∧ j < z + k then g j else 0) = sm k (fun t => g (z + t))
  | 0, N, _ => by
    rw [sm_zero N]
    · rfl
    · intro j _; rw [if_neg (by omega)]
  | k + 1, N, h => by
    have := sm_win g z k N (by omega)
    rw [sm, ← this]
    have e : sm N (fun j => if z ≤ j ∧ j < z + (k + 1) then g j else 0) = sm N (fun j => (if z ≤ j ∧ j < z + k then g j else 0) + (if j = z + k then g j else 0)) := by
      apply sm_congr
      intro j _
      by_cases h1 : j = z + k
      · subst h1; rw [if_pos (by omega), if_neg (by omega), if_pos rfl, Int.zero_add]
      · rw [if_neg h1, Int.add_zero]
        by_cases h2 : z ≤ j ∧ j < z + k
        · rw [if_pos h2, if_pos (by omega)]
        · rw [if_neg h2, if_neg (by omega)]
    rw [e, sm_add]
    congr 1
    rw [sm_one (i := z + k) N (by omega) (fun j _ hj => by rw [if_neg hj]), if_pos rfl]
theorem sm_bd {f : Nat → Int} {b : Int} : ∀ n : Nat, (∀ j, j < n → -b ≤ f j ∧ f j ≤ b) → -(n * b) ≤ sm n f ∧ sm n f ≤ n * b
  | 0, _ => by simp [sm]
  | n + 1, h => by
    have h1 := sm_bd n (fun j hj => h j (by omega))
    have h2 := h n (by omega)
    have e : ((n + 1 : Nat) : Int) * b = n * b + b := by rw [Int.natCast_add, Int.add_mul]; simp
    rw [sm, e]
    omega

/-- A linear map of the first 80 coefficients. -/
def V (f : Nat → Int) (r : List Int) : Int := sm 80 (fun j => r.getD j 0 * f j)
/-- f takes the divisor, moved by z, to nothing. -/
def Kills (f : Nat → Int) (ys : List Int) (z : Nat) : Prop := sm ys.length (fun k => ys.getD k 0 * f (z + k)) = 0
theorem V_step (f : Nat → Int) (ys r : List Int) (c : Int) (z : Nat) (hz : z + ys.length ≤ r.length) (hr : r.length ≤ 80) (hk : Kills f ys z) :
    V f (upd r (fun k => -(c * ys.getD k 0)) z ys.length) = V f r := by
  unfold V
  have e : sm 80 (fun j => (upd r (fun k => -(c * ys.getD k 0)) z ys.length).getD j 0 * f j) = sm 80 (fun j => r.getD j 0 * f j + (if z ≤ j ∧ j < z + ys.length then -(c * ys.getD (j - z) 0) * f j else 0)) := by
    apply sm_congr
    intro j _
    rw [upd_get _ _ _ _ _ hz]
    split <;> simp [Int.add_mul]
  rw [e, sm_add, sm_win (fun j => -(c * ys.getD (j - z) 0) * f j) z ys.length 80 (by omega)]
  have e2 : sm ys.length (fun t => -(c * ys.getD (z + t - z) 0) * f (z + t)) = sm ys.length (fun t => (-c) * (ys.getD t 0 * f (z + t))) := by
    apply sm_congr
    intro t _
    rw [show z + t - z = t by omega, Int.neg_mul, Int.neg_mul, Int.mul_assoc]
  rw [e2, sm_mul, hk, Int.mul_zero, Int.add_zero]

/-- The values at 1, x, x^2, .. of the maps that keep the first places: for the divisor ys, of degree m, the place t. -/
structure Maps (ys : List Int) (m : Nat) (φ : Nat → Nat → Int) : Prop where
  len : ys.length = m + 1
  pos : 1 ≤ m
  deg : m ≤ 12
  last : ys.getD m 0 = 1
  unit : ∀ t j, t < m → j < m → φ t j = if j = t then 1 else 0
  kills : ∀ t z, t < m → Kills (φ t) ys z
  small : ∀ t j, t < m → -5 ≤ φ t j ∧ φ t j ≤ 5

/-- What holds ahead of the rounds z - 1, .., 0. -/
structure Mid (ys : List Int) (m : Nat) (p : List Int) (z : Nat) (r : List Int) : Prop where
  len : r.length = p.length
  fits : z ≠ 0 → z + m ≤ p.length
  zero : ∀ j, z + m ≤ j → r.getD j 0 = 0
  same : ∀ f : Nat → Int, (∀ y, z ≤ y → Kills f ys y) → V f r = V f p
theorem Mid.lead {ys p r : List Int} {m z : Nat} {φ : Nat → Nat → Int} (hm : Maps ys m φ) (h : Mid ys m p (z + 1) r) (hp : p.length ≤ 61) :
    r.getD (z + m) 0 = sm 80 (fun j => p.getD j 0 * (if z + 1 ≤ j then φ (m - 1) (j - (z + 1)) else 0)) := by
  have hpos := hm.pos
  have hs := h.same (fun j => if z + 1 ≤ j then φ (m - 1) (j - (z + 1)) else 0) (fun y hy => by
    have := hm.kills (m - 1) (y - (z + 1)) (by omega)
    unfold Kills at *
    refine Eq.trans ?_ this
    apply sm_congr
    intro k _
    dsimp only
    rw [if_pos (by omega), show y + k - (z + 1) = y - (z + 1) + k by omega])
  unfold V at hs
  rw [← hs]
  have hf := h.fits (by omega)
  rw [sm_one (i := z + m) 80 (by omega)]
  · show _ = r.getD (z + m) 0 * (if z + 1 ≤ z + m then φ (m - 1) (z + m - (z + 1)) else 0)
    rw [if_pos (by omega), hm.unit _ _ (by omega) (by omega), if_pos (by omega), Int.mul_one]
  · intro j hj hne
    dsimp only
    by_cases h1 : z + 1 + m ≤ j
    · rw [h.zero j h1, Int.zero_mul]
    · by_cases h2 : z + 1 ≤ j
      · rw [if_pos h2, hm.unit _ _ (by omega) (by omega), if_neg (by omega), Int.mul_zero]
      · rw [if_neg h2, Int.mul_zero]
theorem Mid.leadM {ys p r : List Int} {m z : Nat} {b : Int} {φ : Nat → Nat → Int} (hm : Maps ys m φ) (h : Mid ys m p (z + 1) r) (hp : p.length ≤ 61) (hb : ∀ x ∈ p, -b ≤ x ∧ x ≤ b) (hs : (p.length : Int) * (5 * b) ≤ 1000000000) :
    inM (r.getD (z + m) 0) = true := by
  rw [h.lead hm hp]
  have hpos := hm.pos
  obtain ⟨k, hk⟩ : ∃ k, 80 = p.length + k := ⟨80 - p.length, by omega⟩
  rw [hk, sm_tail]
  · have := sm_bd (f := fun j => p.getD j 0 * (if z + 1 ≤ j then φ (m - 1) (j - (z + 1)) else 0)) (b := 5 * b) p.length (fun j hj => by
      have h1 : -b ≤ p.getD j 0 ∧ p.getD j 0 ≤ b := by
        rw [List.getD_eq_getElem?_getD, List.getElem?_eq_getElem hj]
        exact hb _ (List.getElem_mem hj)
      have h2 : -5 ≤ (if z + 1 ≤ j then φ (m - 1) (j - (z + 1)) else 0) ∧ (if z + 1 ≤ j then φ (m - 1) (j - (z + 1)) else 0) ≤ 5 := by
        split
        · exact hm.small _ _ (by omega)
        · omega
      revert h2
      show _ → _ ≤ p.getD j 0 * (if z + 1 ≤ j then φ (m - 1) (j - (z + 1)) else 0) ∧ p.getD j 0 * (if z + 1 ≤ j then φ (m - 1) (j - (z + 1)) else 0) ≤ _
      generalize (if z + 1 ≤ j then φ (m - 1) (j - (z + 1)) else 0) = y
      intro h2
      generalize p.getD j 0 = x at h1
      rcases (show y = -5 ∨ y = -4 ∨ y = -3 ∨ y = -2 ∨ y = -1 ∨ y = 0 ∨ y = 1 ∨ y = 2 ∨ y = 3 ∨ y = 4 ∨ y = 5 by omega) with rfl | rfl | rfl | rfl | rfl | rfl | rfl | rfl | rfl | rfl | rfl <;> omega)
    unfold inM
    exact inB_iff.2 (by omega)
  · intro j h1 _
    rw [List.getD_eq_getElem?_getD, List.getElem?_eq_none h1]
    exact Int.zero_mul _
theorem divR_maps {ys p : List Int} {m : Nat} {φ : Nat → Nat → Int} (hm : Maps ys m φ) {b : Int} (hp : p.length ≤ 61) (hb : ∀ x ∈ p, -b ≤ x ∧ x ≤ b) (hs : (p.length : Int) * (5 * b) ≤ 1000000000) :
    ∀ (z : Nat) (q r : List Int), Mid ys m p z r → ∃ q' r', divR ys z q r = some (q', r') ∧ Mid ys m p 0 r'
  | 0, q, r, h => ⟨q, r, rfl, h⟩
  | z + 1, q, r, h => by
    have hl := hm.len
    have e : z + ys.length - 1 = z + m := by omega
    have hin := h.leadM hm hp hb hs
    have hf := h.fits (by omega)
    have hlr := h.len
    have hz : z + ys.length ≤ r.length := by omega
    have hh : Mid ys m p z (upd r (fun k => -(r.getD (z + m) 0 * ys.getD k 0)) z ys.length) := {
      len := by rw [upd_len]; exact h.len
      fits := fun _ => by omega
      zero := fun j hj => by
        rw [upd_get _ _ _ _ _ hz]
        rcases Nat.eq_or_lt_of_le hj with h1 | h1
        · subst h1
          rw [if_pos (by omega), show z + m - z = m by omega, hm.last]
          omega
        · rw [h.zero j (by omega), if_neg (by omega)]
          rfl
      same := fun f hk => by
        rw [V_step f ys r _ z hz (by omega) (hk z (Nat.le_refl _))]
        exact h.same f (fun y hy => hk y (by omega)) }
    obtain ⟨q', r', h1, h2⟩ := divR_maps hm hp hb hs z (q.set z (r.getD (z + m) 0)) _ hh
    refine ⟨q', r', ?_, h2⟩
    rw [divR, e, if_pos hin]
    exact h1
theorem divQ_maps {ys p : List Int} {m : Nat} {φ : Nat → Nat → Int} (hm : Maps ys m φ) {b : Int} (hp : p.length ≤ 61) (hb : ∀ x ∈ p, -b ≤ x ∧ x ≤ b) (hs : (p.length : Int) * (5 * b) ≤ 1000000000) :
    ∃ q r, divQ p ys = some (q, r) ∧ (∀ j, m ≤ j → r.getD j 0 = 0) ∧ ∀ t, t < m → r.getD t 0 = V (φ t) p := by
  have hl := hm.len
  obtain ⟨q, r, h1, h2⟩ := divR_maps hm hp hb hs (p.length + 1 - ys.length) (List.replicate (p.length + 1 - ys.length) 0) p {
    len := rfl
    fits := fun _ => by omega
    zero := fun j hj => by
      rw [List.getD_eq_getElem?_getD, List.getElem?_eq_none (by omega)]; rfl
    same := fun _ _ => rfl }
  refine ⟨q, r, h1, fun j hj => h2.zero j (by omega), fun t ht => ?_⟩
  rw [← h2.same (φ t) (fun y _ => hm.kills t y ht)]
  unfold V
  have hdg := hm.deg
  have hpm : t < 80 := by omega
  rw [sm_one (i := t) 80 hpm]
  · show _ = r.getD t 0 * φ t t
    rw [hm.unit t t ht ht, if_pos rfl, Int.mul_one]
  · intro j hj hne
    by_cases h3 : m ≤ j
    · rw [h2.zero j (by omega), Int.zero_mul]
    · rw [hm.unit t j ht (by omega), if_neg hne, Int.mul_zero]

/-- trimL depends on the coefficients alone. -/
theorem tz_spec (xs : List Int) : ∀ n, (tz xs n = 0 ∨ xs.getD (tz xs n - 1) 0 ≠ 0) ∧ ∀ j, tz xs n ≤ j → j < n → xs.getD j 0 = 0
  | 0 => ⟨Or.inl rfl, fun j _ h => by omega⟩
  | n + 1 => by
    have ih := tz_spec xs n
    unfold tz
    split
    · next h =>
      refine ⟨ih.1, fun j h1 h2 => ?_⟩
      rcases Nat.eq_or_lt_of_le (Nat.le_of_lt_succ h2) with h3 | h3
      · subst h3; exact h
      · exact ih.2 j h1 h3
    · next h => exact ⟨Or.inr (by simpa using h), fun j h1 h2 => by omega⟩
theorem getD_out {xs : List Int} {j : Nat} (h : xs.length ≤ j) : xs.getD j 0 = 0 := by
  rw [List.getD_eq_getElem?_getD, List.getElem?_eq_none h]; rfl
theorem trimL_congr {xs ys : List Int} (h : ∀ j, xs.getD j 0 = ys.getD j 0) : trimL xs = trimL ys := by
  have hx := tz_spec xs xs.length
  have hy := tz_spec ys ys.length
  have lx := tz_le xs xs.length
  have ly := tz_le ys ys.length
  have e : tz xs xs.length = tz ys ys.length := by
    rcases Nat.lt_trichotomy (tz xs xs.length) (tz ys ys.length) with h1 | h1 | h1
    · exfalso
      rcases hy.1 with h2 | h2
      · omega
      · apply h2
        rw [← h]
        rcases Nat.lt_or_ge (tz ys ys.length - 1) xs.length with h3 | h3
        · exact hx.2 _ (by omega) h3
        · exact getD_out h3
    · exact h1
    · exfalso
      rcases hx.1 with h2 | h2
      · omega
      · apply h2
        rw [h]
        rcases Nat.lt_or_ge (tz xs xs.length - 1) ys.length with h3 | h3
        · exact hy.2 _ (by omega) h3
        · exact getD_out h3
  unfold trimL
  rw [e]
  apply List.ext_getElem
  · simp; omega
  · intro i h1 h2
    have := h i
    simp at h1 h2
    rw [List.getElem_take, List.getElem_take]
    rw [List.getD_eq_getElem?_getD, List.getD_eq_getElem?_getD, List.getElem?_eq_getElem (by omega), List.getElem?_eq_getElem (by omega)] at this
    simpa using this

end Go.Proofs.Ytlpabdpaolmpfaa
