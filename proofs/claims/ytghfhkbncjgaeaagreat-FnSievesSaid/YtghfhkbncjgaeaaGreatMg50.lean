/- Merged: RootL RootT. -/
import Derived.Test.YtghfhkbncjgaeaaGreatMg45
import Derived.Test.YtghfhkbncjgaeaaGreatMg49

namespace Go.Proofs.YtghfhkbncjgaeaaGreat
open Go.RowKit

/-- The sum of f over the numbers below n. -/
def smQ : Nat → (Nat → Int) → Int
  | 0, _ => 0
  | n + 1, f => smQ n f + f n
theorem smQ_congr {f g : Nat → Int} : ∀ n, (∀ j, j < n → f j = g j) → smQ n f = smQ n g
  | 0, _ => rfl
  | n + 1, h => by rw [smQ, smQ, smQ_congr n (fun j hj => h j (by omega)), h n (by omega)]
theorem smQ_zero {f : Nat → Int} : ∀ n, (∀ j, j < n → f j = 0) → smQ n f = 0
  | 0, _ => rfl
  | n + 1, h => by rw [smQ, smQ_zero n (fun j hj => h j (by omega)), h n (by omega)]; rfl
theorem sm_add (f g : Nat → Int) : ∀ n, smQ n (fun j => f j + g j) = smQ n f + smQ n g
  | 0 => rfl
  | n + 1 => by simp only [smQ, sm_add f g n]; omega
theorem sm_mul (c : Int) (f : Nat → Int) : ∀ n, smQ n (fun j => c * f j) = c * smQ n f
  | 0 => by simp [smQ]
  | n + 1 => by simp only [smQ, sm_mul c f n, Int.mul_add]
theorem sm_tail {f : Nat → Int} (n : Nat) : ∀ k, (∀ j, n ≤ j → j < n + k → f j = 0) → smQ (n + k) f = smQ n f
  | 0, _ => rfl
  | k + 1, h => by
    rw [← Nat.add_assoc, smQ, sm_tail n k (fun j h1 h2 => h j h1 (by omega)), h (n + k) (by omega) (by omega), Int.add_zero]
theorem sm_one {f : Nat → Int} {i : Nat} : ∀ n, i < n → (∀ j, j < n → j ≠ i → f j = 0) → smQ n f = f i
  | 0, h, _ => by omega
  | n + 1, h, hz => by
    rcases Nat.lt_or_ge i n with h1 | h1
    · rw [smQ, sm_one n h1 (fun j hj => hz j (by omega)), hz n (by omega) (by omega), Int.add_zero]
    · obtain rfl : i = n := by omega
      rw [smQ, smQ_zero i (fun j hj => hz j (by omega) (by omega)), Int.zero_add]
theorem sm_win (g : Nat → Int) (z : Nat) : ∀ k N, z + k ≤ N → smQ N (fun j => if z ≤ j ∧ j < z + k then g j else 0) = smQ k (fun t => g (z + t))
  | 0, N, _ => by
    rw [smQ_zero N]
    · rfl
    · intro j _; rw [if_neg (by omega)]
  | k + 1, N, h => by
    have := sm_win g z k N (by omega)
    rw [smQ, ← this]
    have e : smQ N (fun j => if z ≤ j ∧ j < z + (k + 1) then g j else 0) = smQ N (fun j => (if z ≤ j ∧ j < z + k then g j else 0) + (if j = z + k then g j else 0)) := by
      apply smQ_congr
      intro j _
      by_cases h1 : j = z + k
      · subst h1; rw [if_pos (by omega), if_neg (by omega), if_pos rfl, Int.zero_add]
      · rw [if_neg h1, Int.add_zero]
        by_cases h2 : z ≤ j ∧ j < z + k
        · rw [if_pos h2, if_pos (by omega)]
        · rw [if_neg h2, if_neg (by omega)]
    rw [e, sm_add]
    congr 1
    rw [sm_one (i := z + k) N (by omega) (fun j _ hj => by rw [if_neg hj]), if_pos rfl]
theorem smQ_bd {f : Nat → Int} {b : Int} : ∀ n : Nat, (∀ j, j < n → -b ≤ f j ∧ f j ≤ b) → -(n * b) ≤ smQ n f ∧ smQ n f ≤ n * b
  | 0, _ => by simp [smQ]
  | n + 1, h => by
    have h1 := smQ_bd n (fun j hj => h j (by omega))
    have h2 := h n (by omega)
    have e : ((n + 1 : Nat) : Int) * b = n * b + b := by rw [Int.natCast_add, Int.add_mul]; simp
    rw [smQ, e]
    omega

/-- A linear map of the first 80 coefficients. -/
def V (f : Nat → Int) (r : List Int) : Int := smQ 80 (fun j => r.getD j 0 * f j)
/-- f takes the divisor, moved by z, to nothing. -/
def Kills (f : Nat → Int) (ys : List Int) (z : Nat) : Prop := smQ ys.length (fun k => ys.getD k 0 * f (z + k)) = 0
theorem V_step (f : Nat → Int) (ys r : List Int) (c : Int) (z : Nat) (hz : z + ys.length ≤ r.length) (hr : r.length ≤ 80) (hk : Kills f ys z) :
    V f (upd r (fun k => -(c * ys.getD k 0)) z ys.length) = V f r := by
  unfold V
  have e : smQ 80 (fun j => (upd r (fun k => -(c * ys.getD k 0)) z ys.length).getD j 0 * f j) = smQ 80 (fun j => r.getD j 0 * f j + (if z ≤ j ∧ j < z + ys.length then -(c * ys.getD (j - z) 0) * f j else 0)) := by
    apply smQ_congr
    intro j _
    rw [upd_get _ _ _ _ _ hz]
    split <;> simp [Int.add_mul]
  rw [e, sm_add, sm_win (fun j => -(c * ys.getD (j - z) 0) * f j) z ys.length 80 (by omega)]
  have e2 : smQ ys.length (fun t => -(c * ys.getD (z + t - z) 0) * f (z + t)) = smQ ys.length (fun t => (-c) * (ys.getD t 0 * f (z + t))) := by
    apply smQ_congr
    intro t _
    rw [show z + t - z = t by omega, Int.neg_mul, Int.neg_mul, Int.mul_assoc]
  rw [e2, sm_mul, hk, Int.mul_zero, Int.add_zero]

/-- The values at 1, x, x^2, .. of the maps that keep the first places: for the divisor ys, of degree m, the place t. -/
structure Maps (ys : List Int) (m : Nat) (φ : Nat → Nat → Int) : Prop where
  len : ys.length = m + 1
  pos : 1 ≤ m
  deg : m ≤ 12
  last : ys.getD m 0 = 1
  unit : ∀ t j, t < m → j < m → φ t j = if j = t then 1 else 0
  kills : ∀ t z, t < m → Kills (φ t) ys z
  small : ∀ t j, t < m → -5 ≤ φ t j ∧ φ t j ≤ 5

/-- What holds ahead of the rounds z - 1, .., 0. -/
structure Mid (ys : List Int) (m : Nat) (p : List Int) (z : Nat) (r : List Int) : Prop where
  len : r.length = p.length
  fits : z ≠ 0 → z + m ≤ p.length
  zero : ∀ j, z + m ≤ j → r.getD j 0 = 0
  same : ∀ f : Nat → Int, (∀ y, z ≤ y → Kills f ys y) → V f r = V f p
theorem Mid.lead {ys p r : List Int} {m z : Nat} {φ : Nat → Nat → Int} (hm : Maps ys m φ) (h : Mid ys m p (z + 1) r) (hp : p.length ≤ 61) :
    r.getD (z + m) 0 = smQ 80 (fun j => p.getD j 0 * (if z + 1 ≤ j then φ (m - 1) (j - (z + 1)) else 0)) := by
  have hpos := hm.pos
  have hs := h.same (fun j => if z + 1 ≤ j then φ (m - 1) (j - (z + 1)) else 0) (fun y hy => by
    have := hm.kills (m - 1) (y - (z + 1)) (by omega)
    unfold Kills at *
    refine Eq.trans ?_ this
    apply smQ_congr
    intro k _
    dsimp only
    rw [if_pos (by omega), show y + k - (z + 1) = y - (z + 1) + k by omega])
  unfold V at hs
  rw [← hs]
  have hf := h.fits (by omega)
  rw [sm_one (i := z + m) 80 (by omega)]
  · show _ = r.getD (z + m) 0 * (if z + 1 ≤ z + m then φ (m - 1) (z + m - (z + 1)) else 0)
    rw [if_pos (by omega), hm.unit _ _ (by omega) (by omega), if_pos (by omega), Int.mul_one]
  · intro j hj hne
    dsimp only
    by_cases h1 : z + 1 + m ≤ j
    · rw [h.zero j h1, Int.zero_mul]
    · by_cases h2 : z + 1 ≤ j
      · rw [if_pos h2, hm.unit _ _ (by omega) (by omega), if_neg (by omega), Int.mul_zero]
      · rw [if_neg h2, Int.mul_zero]
theorem Mid.leadM {ys p r : List Int} {m z : Nat} {b : Int} {φ : Nat → Nat → Int} (hm : Maps ys m φ) (h : Mid ys m p (z + 1) r) (hp : p.length ≤ 61) (hb : ∀ x ∈ p, -b ≤ x ∧ x ≤ b) (hs : (p.length : Int) * (5 * b) ≤ 1000000000) :
    inM (r.getD (z + m) 0) = true := by
  rw [h.lead hm hp]
  have hpos := hm.pos
  obtain ⟨k, hk⟩ : ∃ k, 80 = p.length + k := ⟨80 - p.length, by omega⟩
  rw [hk, sm_tail]
  · have := smQ_bd (f := fun j => p.getD j 0 * (if z + 1 ≤ j then φ (m - 1) (j - (z + 1)) else 0)) (b := 5 * b) p.length (fun j hj => by
      have h1 : -b ≤ p.getD j 0 ∧ p.getD j 0 ≤ b := by
        rw [List.getD_eq_getElem?_getD, List.getElem?_eq_getElem hj]
        exact hb _ (List.getElem_mem hj)
      have h2 : -5 ≤ (if z + 1 ≤ j then φ (m - 1) (j - (z + 1)) else 0) ∧ (if z + 1 ≤ j then φ (m - 1) (j - (z + 1)) else 0) ≤ 5 := by
        split
        · exact hm.small _ _ (by omega)
        · omega
      revert h2
      show _ → _ ≤ p.getD j 0 * (if z + 1 ≤ j then φ (m - 1) (j - (z + 1)) else 0) ∧ p.getD j 0 * (if z + 1 ≤ j then φ (m - 1) (j - (z + 1)) else 0) ≤ _
      generalize (if z + 1 ≤ j then φ (m - 1) (j - (z + 1)) else 0) = y
      intro h2
      generalize p.getD j 0 = x at h1
      rcases (show y = -5 ∨ y = -4 ∨ y = -3 ∨ y = -2 ∨ y = -1 ∨ y = 0 ∨ y = 1 ∨ y = 2 ∨ y = 3 ∨ y = 4 ∨ y = 5 by omega) with rfl | rfl | rfl | rfl | rfl | rfl | rfl | rfl | rfl | rfl | rfl <;> omega)
    unfold inM
    exact inB_iff.2 (by omega)
  · intro j h1 _
    rw [List.getD_eq_getElem?_getD, List.getElem?_eq_none h1]
    exact Int.zero_mul _
theorem divR_maps {ys p : List Int} {m : Nat} {φ : Nat → Nat → Int} (hm : Maps ys m φ) {b : Int} (hp : p.length ≤ 61) (hb : ∀ x ∈ p, -b ≤ x ∧ x ≤ b) (hs : (p.length : Int) * (5 * b) ≤ 1000000000) :
    ∀ (z : Nat) (q r : List Int), Mid ys m p z r → ∃ q' r', divR ys z q r = some (q', r') ∧ Mid ys m p 0 r'
  | 0, q, r, h => ⟨q, r, rfl, h⟩
  | z + 1, q, r, h => by
    have hl := hm.len
    have e : z + ys.length - 1 = z + m := by omega
    have hin := h.leadM hm hp hb hs
    have hf := h.fits (by omega)
    have hlr := h.len
    have hz : z + ys.length ≤ r.length := by omega
    have hh : Mid ys m p z (upd r (fun k => -(r.getD (z + m) 0 * ys.getD k 0)) z ys.length) := {
      len := by rw [upd_len]; exact h.len
      fits := fun _ => by omega
      zero := fun j hj => by
        rw [upd_get _ _ _ _ _ hz]
        rcases Nat.eq_or_lt_of_le hj with h1 | h1
        · subst h1
          rw [if_pos (by omega), show z + m - z = m by omega, hm.last]
          omega
        · rw [h.zero j (by omega), if_neg (by omega)]
          rfl
      same := fun f hk => by
        rw [V_step f ys r _ z hz (by omega) (hk z (Nat.le_refl _))]
        exact h.same f (fun y hy => hk y (by omega)) }
    obtain ⟨q', r', h1, h2⟩ := divR_maps hm hp hb hs z (q.set z (r.getD (z + m) 0)) _ hh
    refine ⟨q', r', ?_, h2⟩
    rw [divR, e, if_pos hin]
    exact h1
theorem divQ_maps {ys p : List Int} {m : Nat} {φ : Nat → Nat → Int} (hm : Maps ys m φ) {b : Int} (hp : p.length ≤ 61) (hb : ∀ x ∈ p, -b ≤ x ∧ x ≤ b) (hs : (p.length : Int) * (5 * b) ≤ 1000000000) :
    ∃ q r, divQ p ys = some (q, r) ∧ (∀ j, m ≤ j → r.getD j 0 = 0) ∧ ∀ t, t < m → r.getD t 0 = V (φ t) p := by
  have hl := hm.len
  obtain ⟨q, r, h1, h2⟩ := divR_maps hm hp hb hs (p.length + 1 - ys.length) (List.replicate (p.length + 1 - ys.length) 0) p {
    len := rfl
    fits := fun _ => by omega
    zero := fun j hj => by
      rw [List.getD_eq_getElem?_getD, List.getElem?_eq_none (by omega)]; rfl
    same := fun _ _ => rfl }
  refine ⟨q, r, h1, fun j hj => h2.zero j (by omega), fun t ht => ?_⟩
  rw [← h2.same (φ t) (fun y _ => hm.kills t y ht)]
  unfold V
  have hdg := hm.deg
  have hpm : t < 80 := by omega
  rw [sm_one (i := t) 80 hpm]
  · show _ = r.getD t 0 * φ t t
    rw [hm.unit t t ht ht, if_pos rfl, Int.mul_one]
  · intro j hj hne
    by_cases h3 : m ≤ j
    · rw [h2.zero j (by omega), Int.zero_mul]
    · rw [hm.unit t j ht (by omega), if_neg hne, Int.mul_zero]

/-- trimL depends on the coefficients alone. -/
theorem tz_spec (xs : List Int) : ∀ n, (tz xs n = 0 ∨ xs.getD (tz xs n - 1) 0 ≠ 0) ∧ ∀ j, tz xs n ≤ j → j < n → xs.getD j 0 = 0
  | 0 => ⟨Or.inl rfl, fun j _ h => by omega⟩
  | n + 1 => by
    have ih := tz_spec xs n
    unfold tz
    split
    · next h =>
      refine ⟨ih.1, fun j h1 h2 => ?_⟩
      rcases Nat.eq_or_lt_of_le (Nat.le_of_lt_succ h2) with h3 | h3
      · subst h3; exact h
      · exact ih.2 j h1 h3
    · next h => exact ⟨Or.inr (by simpa using h), fun j h1 h2 => by omega⟩
theorem getD_out {xs : List Int} {j : Nat} (h : xs.length ≤ j) : xs.getD j 0 = 0 := by
  rw [List.getD_eq_getElem?_getD, List.getElem?_eq_none h]; rfl
theorem trimL_congr {xs ys : List Int} (h : ∀ j, xs.getD j 0 = ys.getD j 0) : trimL xs = trimL ys := by
  have hx := tz_spec xs xs.length
  have hy := tz_spec ys ys.length
  have lx := tz_le xs xs.length
  have ly := tz_le ys ys.length
  have e : tz xs xs.length = tz ys ys.length := by
    rcases Nat.lt_trichotomy (tz xs xs.length) (tz ys ys.length) with h1 | h1 | h1
    · exfalso
      rcases hy.1 with h2 | h2
      · omega
      · apply h2
        rw [← h]
        rcases Nat.lt_or_ge (tz ys ys.length - 1) xs.length with h3 | h3
        · exact hx.2 _ (by omega) h3
        · exact getD_out h3
    · exact h1
    · exfalso
      rcases hx.1 with h2 | h2
      · omega
      · apply h2
        rw [h]
        rcases Nat.lt_or_ge (tz xs xs.length - 1) ys.length with h3 | h3
        · exact hy.2 _ (by omega) h3
        · exact getD_out h3
  unfold trimL
  rw [e]
  apply List.ext_getElem
  · simp; omega
  · intro i h1 h2
    have := h i
    simp at h1 h2
    rw [List.getElem_take, List.getElem_take]
    rw [List.getD_eq_getElem?_getD, List.getD_eq_getElem?_getD, List.getElem?_eq_getElem (by omega), List.getElem?_eq_getElem (by omega)] at this
    simpa using this

end Go.Proofs.YtghfhkbncjgaeaaGreat

namespace Go.Proofs.YtghfhkbncjgaeaaGreat
open Go.RowKit

def rt0 : List (List Int) := []
def rt1 : List (List Int) := [[1]]
def rt2 : List (List Int) := [[1], [-1]]
def rt3 : List (List Int) := [[1, 0], [0, 1], [-1, -1]]
def rt4 : List (List Int) := [[1, 0], [0, 1], [-1, 0], [0, -1]]
def rt5 : List (List Int) := [[1, 0, 0, 0], [0, 1, 0, 0], [0, 0, 1, 0], [0, 0, 0, 1], [-1, -1, -1, -1]]
def rt6 : List (List Int) := [[1, 0], [0, 1], [-1, 1], [-1, 0], [0, -1], [1, -1]]
def rt7 : List (List Int) := [[1, 0, 0, 0, 0, 0], [0, 1, 0, 0, 0, 0], [0, 0, 1, 0, 0, 0], [0, 0, 0, 1, 0, 0], [0, 0, 0, 0, 1, 0], [0, 0, 0, 0, 0, 1], [-1, -1, -1, -1, -1, -1]]
def rt8 : List (List Int) := [[1, 0, 0, 0], [0, 1, 0, 0], [0, 0, 1, 0], [0, 0, 0, 1], [-1, 0, 0, 0], [0, -1, 0, 0], [0, 0, -1, 0], [0, 0, 0, -1]]
def rt9 : List (List Int) := [[1, 0, 0, 0, 0, 0], [0, 1, 0, 0, 0, 0], [0, 0, 1, 0, 0, 0], [0, 0, 0, 1, 0, 0], [0, 0, 0, 0, 1, 0], [0, 0, 0, 0, 0, 1], [-1, 0, 0, -1, 0, 0], [0, -1, 0, 0, -1, 0], [0, 0, -1, 0, 0, -1]]
def rt10 : List (List Int) := [[1, 0, 0, 0], [0, 1, 0, 0], [0, 0, 1, 0], [0, 0, 0, 1], [-1, 1, -1, 1], [-1, 0, 0, 0], [0, -1, 0, 0], [0, 0, -1, 0], [0, 0, 0, -1], [1, -1, 1, -1]]
def rt11 : List (List Int) := [[1, 0, 0, 0, 0, 0, 0, 0, 0, 0], [0, 1, 0, 0, 0, 0, 0, 0, 0, 0], [0, 0, 1, 0, 0, 0, 0, 0, 0, 0], [0, 0, 0, 1, 0, 0, 0, 0, 0, 0], [0, 0, 0, 0, 1, 0, 0, 0, 0, 0], [0, 0, 0, 0, 0, 1, 0, 0, 0, 0], [0, 0, 0, 0, 0, 0, 1, 0, 0, 0], [0, 0, 0, 0, 0, 0, 0, 1, 0, 0], [0, 0, 0, 0, 0, 0, 0, 0, 1, 0], [0, 0, 0, 0, 0, 0, 0, 0, 0, 1], [-1, -1, -1, -1, -1, -1, -1, -1, -1, -1]]
def rt12 : List (List Int) := [[1, 0, 0, 0], [0, 1, 0, 0], [0, 0, 1, 0], [0, 0, 0, 1], [-1, 0, 1, 0], [0, -1, 0, 1], [-1, 0, 0, 0], [0, -1, 0, 0], [0, 0, -1, 0], [0, 0, 0, -1], [1, 0, -1, 0], [0, 1, 0, -1]]
def rt13 : List (List Int) := [[1, 0, 0, 0, 0, 0, 0, 0, 0, 0, 0, 0], [0, 1, 0, 0, 0, 0, 0, 0, 0, 0, 0, 0], [0, 0, 1, 0, 0, 0, 0, 0, 0, 0, 0, 0], [0, 0, 0, 1, 0, 0, 0, 0, 0, 0, 0, 0], [0, 0, 0, 0, 1, 0, 0, 0, 0, 0, 0, 0], [0, 0, 0, 0, 0, 1, 0, 0, 0, 0, 0, 0], [0, 0, 0, 0, 0, 0, 1, 0, 0, 0, 0, 0], [0, 0, 0, 0, 0, 0, 0, 1, 0, 0, 0, 0], [0, 0, 0, 0, 0, 0, 0, 0, 1, 0, 0, 0], [0, 0, 0, 0, 0, 0, 0, 0, 0, 1, 0, 0], [0, 0, 0, 0, 0, 0, 0, 0, 0, 0, 1, 0], [0, 0, 0, 0, 0, 0, 0, 0, 0, 0, 0, 1], [-1, -1, -1, -1, -1, -1, -1, -1, -1, -1, -1, -1]]
def rt14 : List (List Int) := [[1, 0, 0, 0, 0, 0], [0, 1, 0, 0, 0, 0], [0, 0, 1, 0, 0, 0], [0, 0, 0, 1, 0, 0], [0, 0, 0, 0, 1, 0], [0, 0, 0, 0, 0, 1], [-1, 1, -1, 1, -1, 1], [-1, 0, 0, 0, 0, 0], [0, -1, 0, 0, 0, 0], [0, 0, -1, 0, 0, 0], [0, 0, 0, -1, 0, 0], [0, 0, 0, 0, -1, 0], [0, 0, 0, 0, 0, -1], [1, -1, 1, -1, 1, -1]]
def rt15 : List (List Int) := [[1, 0, 0, 0, 0, 0, 0, 0], [0, 1, 0, 0, 0, 0, 0, 0], [0, 0, 1, 0, 0, 0, 0, 0], [0, 0, 0, 1, 0, 0, 0, 0], [0, 0, 0, 0, 1, 0, 0, 0], [0, 0, 0, 0, 0, 1, 0, 0], [0, 0, 0, 0, 0, 0, 1, 0], [0, 0, 0, 0, 0, 0, 0, 1], [-1, 1, 0, -1, 1, -1, 0, 1], [-1, 0, 1, -1, 0, 0, -1, 1], [-1, 0, 0, 0, 0, -1, 0, 0], [0, -1, 0, 0, 0, 0, -1, 0], [0, 0, -1, 0, 0, 0, 0, -1], [1, -1, 0, 0, -1, 1, 0, -1], [1, 0, -1, 1, -1, 0, 1, -1]]
def rt16 : List (List Int) := [[1, 0, 0, 0, 0, 0, 0, 0], [0, 1, 0, 0, 0, 0, 0, 0], [0, 0, 1, 0, 0, 0, 0, 0], [0, 0, 0, 1, 0, 0, 0, 0], [0, 0, 0, 0, 1, 0, 0, 0], [0, 0, 0, 0, 0, 1, 0, 0], [0, 0, 0, 0, 0, 0, 1, 0], [0, 0, 0, 0, 0, 0, 0, 1], [-1, 0, 0, 0, 0, 0, 0, 0], [0, -1, 0, 0, 0, 0, 0, 0], [0, 0, -1, 0, 0, 0, 0, 0], [0, 0, 0, -1, 0, 0, 0, 0], [0, 0, 0, 0, -1, 0, 0, 0], [0, 0, 0, 0, 0, -1, 0, 0], [0, 0, 0, 0, 0, 0, -1, 0], [0, 0, 0, 0, 0, 0, 0, -1]]
def rtT : Nat → List (List Int)
  | 0 => rt0
  | 1 => rt1
  | 2 => rt2
  | 3 => rt3
  | 4 => rt4
  | 5 => rt5
  | 6 => rt6
  | 7 => rt7
  | 8 => rt8
  | 9 => rt9
  | 10 => rt10
  | 11 => rt11
  | 12 => rt12
  | 13 => rt13
  | 14 => rt14
  | 15 => rt15
  | 16 => rt16
  | _ => []
def phi (d t j : Nat) : Int := ((rtT d).getD (j % d) []).getD t 0
def rtOk (d : Nat) : Bool :=
  let m := (cycT d).length - 1
  (decide (1 ≤ m) && decide (m ≤ 12) && decide (m ≤ d) && ((cycT d).getD m 0 == 1)) &&
  (List.range m).all fun t => ((List.range m).all fun j => phi d t j == if j = t then 1 else 0) && ((List.range d).all fun z => (smQ (cycT d).length (fun k => (cycT d).getD k 0 * phi d t (z + k)) == 0) && decide (-5 ≤ phi d t z) && decide (phi d t z ≤ 5))
theorem rtOk_16 : ∀ d : Nat, d < 17 → 1 ≤ d → rtOk d = true := by decide +kernel
theorem phi_mod (d t j : Nat) : phi d t (j % d) = phi d t j := by unfold phi; rw [Nat.mod_mod]
theorem rtMaps {d : Nat} (h : d < 17) (h1 : 1 ≤ d) : Maps (cycT d) ((cycT d).length - 1) (phi d) := by
  have h0 := rtOk_16 d h h1
  unfold rtOk at h0
  simp only [Bool.and_eq_true, List.all_eq_true, List.mem_range, decide_eq_true_eq, beq_iff_eq] at h0
  obtain ⟨⟨⟨⟨g1, g2⟩, g3⟩, g4⟩, g5⟩ := h0
  refine ⟨by omega, g1, g2, g4, fun t j ht hj => (g5 t ht).1 j hj, fun t z ht => ?_, fun t j ht => ?_⟩
  · unfold Kills
    have := (((g5 t ht).2 (z % d) (Nat.mod_lt _ (by omega))).1).1
    refine Eq.trans ?_ this
    apply smQ_congr
    intro k _
    rw [← phi_mod d t (z + k), ← phi_mod d t (z % d + k), Nat.mod_add_mod]
  · have h2 := (g5 t ht).2 (j % d) (Nat.mod_lt _ (by omega))
    rw [phi_mod] at h2
    exact ⟨h2.1.2, h2.2⟩

/-- The fold of the first k coefficients. -/
def foldP (p : List Int) (d : Nat) : Nat → List Int
  | 0 => List.replicate d 0
  | k + 1 => (foldP p d k).set (k % d) ((foldP p d k).getD (k % d) 0 + p.getD k 0)
theorem foldP_len (p : List Int) (d : Nat) : ∀ k, (foldP p d k).length = d
  | 0 => by simp [foldP]
  | k + 1 => by simp [foldP, foldP_len p d k]
theorem foldP_bd {p : List Int} {d : Nat} (hd : 1 ≤ d) (hp : ∀ j, -100000 ≤ p.getD j 0 ∧ p.getD j 0 ≤ 100000) : ∀ k j : Nat, -(k * 100000 : Int) ≤ (foldP p d k).getD j 0 ∧ (foldP p d k).getD j 0 ≤ k * 100000
  | 0, j => by rw [foldP, getD_rep]; simp
  | k + 1, j => by
    have h1 := foldP_bd hd hp k
    have hl := foldP_len p d k
    rw [foldP, getD_set _ _ _ _ (by rw [hl]; exact Nat.mod_lt _ hd)]
    have h2 := h1 j
    have h3 := h1 (k % d)
    have h4 := hp k
    split <;> omega
theorem V_set (f : Nat → Int) (r : List Int) (i : Nat) (x : Int) (hi : i < r.length) (hr : r.length ≤ 80) : V f (r.set i x) = V f r + (x - r.getD i 0) * f i := by
  unfold V
  have e : smQ 80 (fun j => (r.set i x).getD j 0 * f j) = smQ 80 (fun j => r.getD j 0 * f j + (if j = i then (x - r.getD i 0) * f i else 0)) := by
    apply smQ_congr
    intro j _
    rw [getD_set _ _ _ _ hi]
    by_cases h : i = j
    · subst h; rw [if_pos rfl, if_pos rfl, ← Int.add_mul]; congr 1; omega
    · rw [if_neg h, if_neg (fun h' => h h'.symm), Int.add_zero]
  rw [e, sm_add]
  congr 1
  rw [sm_one (i := i) 80 (by omega) (fun j _ hj => by rw [if_neg hj]), if_pos rfl]
theorem V_fold (p : List Int) {d t : Nat} (hd : 1 ≤ d) (hd' : d < 17) : ∀ k, V (phi d t) (foldP p d k) = smQ k (fun j => p.getD j 0 * phi d t j)
  | 0 => by
    unfold V
    rw [smQ_zero]
    · rfl
    · intro j _; rw [foldP, getD_rep, Int.zero_mul]
  | k + 1 => by
    have hl := foldP_len p d k
    rw [foldP, V_set _ _ _ _ (by rw [hl]; exact Nat.mod_lt _ hd) (by omega), V_fold p hd hd' k, smQ]
    congr 1
    rw [phi_mod]
    congr 1
    omega
theorem V_of_len (f : Nat → Int) (p : List Int) (hp : p.length ≤ 80) : V f p = smQ p.length (fun j => p.getD j 0 * f j) := by
  unfold V
  obtain ⟨k, hk⟩ : ∃ k, 80 = p.length + k := ⟨80 - p.length, by omega⟩
  rw [hk, sm_tail]
  intro j h1 _
  rw [getD_out h1, Int.zero_mul]

/-- What ValueAtRoot answers by the remainder. -/
def vr1 (r : List Int) : Int × Bool := match r with
  | [] => (0, true)
  | [c] => (c, true)
  | _ => (0, false)
def remP (p : List Int) (d : Nat) : List Int := match divQ p (cycT d) with
  | none => []
  | some (_, r) => trimL r
def vrP (p : List Int) (d : Int) : Int × Bool := if isFac p && inB d 1 16 then vr1 (remP p d.toNat) else (0, false)
theorem fac_getD {p : List Int} (h : isFac p = true) (j : Nat) : -100000 ≤ p.getD j 0 ∧ p.getD j 0 ≤ 100000 := by
  have := (isFac_iff h).2
  rw [List.getD_eq_getElem?_getD]
  rcases hg : p[j]? with _ | x
  · simp
  · exact this x (List.mem_of_getElem? hg)
theorem foldP_mem {p : List Int} (h : isFac p = true) {d : Nat} (hd : 1 ≤ d) : ∀ x ∈ foldP p d p.length, -6100000 ≤ x ∧ x ≤ 6100000 := by
  intro x hx
  obtain ⟨j, hj⟩ := List.mem_iff_getElem?.1 hx
  have h1 := foldP_bd hd (fac_getD h) p.length j
  have h2 := (isFac_iff h).1
  rw [List.getD_eq_getElem?_getD, hj] at h1
  simp at h1
  omega
/-- The division of a factor ends well. -/
theorem div_fac {p : List Int} (h : isFac p = true) {d : Nat} (hd : 1 ≤ d) (hd' : d < 17) : ∃ q r, divQ p (cycT d) = some (q, r) ∧ remP p d = trimL r := by
  obtain ⟨q, r, h1, _, _⟩ := divQ_maps (b := 100000) (rtMaps hd' hd) (isFac_iff h).1 (isFac_iff h).2 (by have := (isFac_iff h).1; omega)
  exact ⟨q, r, h1, by rw [remP, h1]⟩
/-- So does that of its fold, with the same remainder. -/
theorem div_fold {p : List Int} (h : isFac p = true) {d : Nat} (hd : 1 ≤ d) (hd' : d < 17) : ∃ q r, divQ (foldP p d p.length) (cycT d) = some (q, r) ∧ remP p d = trimL r := by
  obtain ⟨q, r, h1, h2, h3⟩ := divQ_maps (b := 100000) (rtMaps hd' hd) (isFac_iff h).1 (isFac_iff h).2 (by have := (isFac_iff h).1; omega)
  have hl := foldP_len p d p.length
  obtain ⟨q', r', h1', h2', h3'⟩ := divQ_maps (b := 6100000) (rtMaps hd' hd) (p := foldP p d p.length) (by omega) (foldP_mem h hd) (by rw [hl]; omega)
  refine ⟨q', r', h1', ?_⟩
  rw [remP, h1]
  apply trimL_congr
  intro j
  rcases Nat.lt_or_ge j ((cycT d).length - 1) with hj | hj
  · rw [h3 j hj, h3' j hj, V_fold p hd hd', V_of_len _ _ (by have := (isFac_iff h).1; omega)]
  · rw [h2 j hj, h2' j hj]

end Go.Proofs.YtghfhkbncjgaeaaGreat
