/- Merged: MoeL. -/
import Derived.Test.YtghfhkbncjgaeaaGreatMg9
import Derived.Test.YtghfhkbncjgaeaaGreatMg10
import Derived.Test.YtghfhkbncjgaeaaGreatMg12
import Derived.Test.YtghfhkbncjgaeaaGreatMg13

namespace Go.Proofs.YtghfhkbncjgaeaaGreat
set_option linter.unusedVariables false
open Go.RowKit

theorem finB_iff {p q : List Int} : finB p q = true ↔ isPar p = true ∧ isPar q = true ∧ p.length = q.length ∧ ∀ a, a < p.length → ∀ b, b < p.length → fin2 p q a b := by
  unfold finB
  simp [and_assoc]
/-- A number that has come occurs. -/
theorem nx_occurs {xs : List Int} : ∀ k, k ≤ xs.length → okP xs k = true → ∀ x : Int, 0 ≤ x → x < nx xs k → ∃ j, j < k ∧ xs[j]? = some x
  | 0, _, _, x, h0, h1 => by simp [nx] at h1; omega
  | k + 1, hk, ho, x, h0, h1 => by
    have hx : xs[k]? = some (xs.getD k 0) := by rw [List.getD_eq_getElem?_getD, List.getElem?_eq_getElem (by omega)]; rfl
    have ho' := okP_mono (k := k) ho (by omega)
    rw [nx_step hx] at h1
    by_cases he : xs.getD k 0 = nx xs k
    · rw [if_pos he] at h1
      by_cases hlt : x < nx xs k
      · obtain ⟨j, a, b⟩ := nx_occurs k (by omega) ho' x h0 hlt
        exact ⟨j, by omega, b⟩
      · exact ⟨k, by omega, by rw [hx, he]; congr 1; omega⟩
    · rw [if_neg he] at h1
      obtain ⟨j, a, b⟩ := nx_occurs k (by omega) ho' x h0 h1
      exact ⟨j, by omega, b⟩
/-- A finer partition has as many blocks or more; with as many it is the same. -/
theorem fin_nx {p q : List Int} (h : finB p q = true) : ∀ k, k ≤ p.length → nx q k ≤ nx p k ∧ (nx q k = nx p k → p.take k = q.take k)
  | 0, _ => by simp [nx]
  | k + 1, hk => by
    obtain ⟨h1, h2, h3, h4⟩ := finB_iff.1 h
    obtain ⟨i1, i2⟩ := fin_nx h k (by omega)
    have hx : p[k]? = some (p.getD k 0) := by rw [List.getD_eq_getElem?_getD, List.getElem?_eq_getElem (by omega)]; rfl
    have hy : q[k]? = some (q.getD k 0) := by rw [List.getD_eq_getElem?_getD, List.getElem?_eq_getElem (by omega)]; rfl
    obtain ⟨x0, _, x1⟩ := isPar_at h1 hx
    obtain ⟨y0, _, y1⟩ := isPar_at h2 hy
    have hold : p.getD k 0 < nx p k → q.getD k 0 < nx q k ∧ (p.take k = q.take k → p.getD k 0 = q.getD k 0) := by
      intro hlt
      obtain ⟨j, hj, hpj⟩ := nx_occurs k (by omega) (okP_mono (isPar_iff h1).2 (by omega)) _ x0 hlt
      have e1 : p.getD j 0 = p.getD k 0 := by rw [List.getD_eq_getElem?_getD, hpj]; rfl
      have e2 := h4 j (by omega) k (by omega) e1
      have hqj : q[j]? = some (q.getD k 0) := by rw [← e2, List.getD_eq_getElem?_getD, List.getElem?_eq_getElem (by omega)]; rfl
      have hle : ∀ k', j < k' → k' ≤ k → q.getD k 0 < nx q k' := by
        intro k' hjk hk'
        induction k' with
        | zero => omega
        | succ k' ih =>
          have hz : q[k']? = some (q.getD k' 0) := by rw [List.getD_eq_getElem?_getD, List.getElem?_eq_getElem (by omega)]; rfl
          obtain ⟨_, _, z1⟩ := isPar_at h2 hz
          rw [nx_step hz]
          by_cases hjk' : j = k'
          · subst hjk'
            rw [hqj] at hz
            injection hz with hz
            rw [← hz] at z1 ⊢
            split <;> omega
          · have := ih (by omega) (by omega)
            split <;> omega
      refine ⟨hle k (by omega) (Nat.le_refl _), fun ht => ?_⟩
      have e3 : (p.take k)[j]? = (q.take k)[j]? := by rw [ht]
      rw [List.getElem?_take_of_lt hj, List.getElem?_take_of_lt hj, hpj, hqj] at e3
      injection e3
    rw [nx_step hx, nx_step hy]
    by_cases e1 : p.getD k 0 = nx p k
    · rw [if_pos e1]
      by_cases e2 : q.getD k 0 = nx q k
      · rw [if_pos e2]
        refine ⟨by omega, fun he => ?_⟩
        have ht := i2 (by omega)
        rw [List.take_add_one, List.take_add_one, ht, hx, hy, e1, e2, show nx p k = nx q k by omega]
      · rw [if_neg e2]
        exact ⟨by omega, fun he => by omega⟩
    · rw [if_neg e1]
      obtain ⟨b1, b2⟩ := hold (by omega)
      rw [if_neg (by omega)]
      refine ⟨i1, fun he => ?_⟩
      have ht := i2 he
      rw [List.take_add_one, List.take_add_one, ht, hx, hy, b2 ht]
def rk (x : List Int) : Nat := (rankP x).toNat
theorem rk_bd {x : List Int} (h : isPar x = true) : rankP x = (rk x : Int) ∧ rk x ≤ x.length := by
  unfold rk rankP
  rw [if_pos h]
  have := nx_bd x x.length
  omega
theorem fin_rk {p q : List Int} (h : finB p q = true) : rk p ≤ rk q ∧ (rk p = rk q → p = q) := by
  obtain ⟨h1, h2, h3, h4⟩ := finB_iff.1 h
  obtain ⟨a, b⟩ := fin_nx h p.length (Nat.le_refl _)
  unfold rk rankP
  rw [if_pos h1, if_pos h2]
  have b1 := nx_bd p p.length
  have b2 := nx_bd q q.length
  rw [← h3] at b2 ⊢
  refine ⟨by omega, fun he => ?_⟩
  have := b (by omega)
  rw [List.take_length, h3, List.take_length] at this
  exact this
theorem fin_trans {p q r : List Int} (h : finB p q = true) (h' : finB q r = true) : finB p r = true := by
  obtain ⟨h1, h2, h3, h4⟩ := finB_iff.1 h
  obtain ⟨g1, g2, g3, g4⟩ := finB_iff.1 h'
  refine finB_iff.2 ⟨h1, g2, by omega, fun a ha b hb e => ?_⟩
  exact g4 a (by omega) b (by omega) (h4 a ha b hb e)
theorem fin_refl {p : List Int} (h : isPar p = true) : finB p p = true := finB_iff.2 ⟨h, h, rfl, fun a _ b _ e => e⟩

/-- The sum of a function over a list. -/
def sm (f : List Int → Int) : List (List Int) → Int
  | [] => 0
  | x :: l => f x + sm f l
theorem sm_app (f : List Int → Int) : ∀ (l m : List (List Int)), sm f (l ++ m) = sm f l + sm f m
  | [], m => by simp [sm]
  | x :: l, m => by simp [sm, sm_app f l m]; omega
theorem sm_take (f : List Int → Int) {l : List (List Int)} {j : Nat} {x : List Int} (h : l[j]? = some x) : sm f (l.take (j + 1)) = sm f (l.take j) + f x := by
  rw [List.take_add_one, h, sm_app]; simp [sm]
theorem sm_bd (f : List Int → Int) {b : Int} (hb : 0 ≤ b) : ∀ (l : List (List Int)), (∀ x ∈ l, -b ≤ f x ∧ f x ≤ b) → -(l.length * b) ≤ sm f l ∧ sm f l ≤ l.length * b
  | [], _ => by simp [sm]
  | x :: l, h => by
    have ih := sm_bd f hb l (fun y hy => h y (List.mem_cons_of_mem _ hy))
    have h1 := h x List.mem_cons_self
    have h2 : (((x :: l).length : Nat) : Int) * b = l.length * b + b := by rw [List.length_cons]; push_cast; rw [Int.add_mul]; simp
    rw [h2, sm]
    omega
theorem sm_congr {f g : List Int → Int} : ∀ {l : List (List Int)}, (∀ x ∈ l, f x = g x) → sm f l = sm g l
  | [], _ => rfl
  | x :: l, h => by rw [sm, sm, h x List.mem_cons_self, sm_congr (fun y hy => h y (List.mem_cons_of_mem _ hy))]
theorem sm_zero {f : List Int → Int} : ∀ {l : List (List Int)}, (∀ x ∈ l, f x = 0) → sm f l = 0
  | [], _ => rfl
  | x :: l, h => by rw [sm, h x List.mem_cons_self, sm_zero (fun y hy => h y (List.mem_cons_of_mem _ hy))]; rfl
theorem sm_filter {f g : List Int → Int} {c : List Int → Bool} : ∀ {l : List (List Int)}, (∀ x ∈ l, c x = true → f x = g x) → (∀ x ∈ l, c x = false → f x = 0) → sm f l = sm g (l.filter c)
  | [], _, _ => rfl
  | x :: l, h1, h2 => by
    have ih := sm_filter (l := l) (fun y hy => h1 y (List.mem_cons_of_mem _ hy)) (fun y hy => h2 y (List.mem_cons_of_mem _ hy))
    rcases hc : c x with _ | _
    · rw [List.filter_cons_of_neg (by simp [hc]), sm, h2 x List.mem_cons_self hc, ih]; omega
    · rw [List.filter_cons_of_pos hc, sm, sm, h1 x List.mem_cons_self hc, ih]

/-- What the recursion takes away for r. -/
def trm (μ : List Int → Int) (p q r : List Int) : Int := if finB p r && finB r q && !decide (r = q) then μ r else 0
def moeF (all : List (List Int)) (p : List Int) : Nat → List Int → Int
  | 0, q => if p = q then 1 else 0
  | f + 1, q => if p = q then 1 else - sm (trm (moeF all p f) p q) all
theorem trm_lt {p q r : List Int} (h : (finB p r && finB r q && !decide (r = q)) = true) : rk r < rk q := by
  simp only [Bool.and_eq_true, Bool.not_eq_true', decide_eq_false_iff_not] at h
  obtain ⟨⟨_, h1⟩, h2⟩ := h
  have := fin_rk h1
  rcases Nat.lt_or_ge (rk r) (rk q) with h3 | h3
  · exact h3
  · exact absurd (this.2 (by omega)) h2
theorem moeF_fuel (all : List (List Int)) (p : List Int) (f : Nat) : ∀ g q, rk q ≤ f → rk q ≤ g → moeF all p f q = moeF all p g q := by
  have z0 : ∀ μ q, rk q = 0 → sm (trm μ p q) all = 0 := by
    intro μ q h0
    refine sm_zero fun r _ => ?_
    unfold trm
    split
    · next h => have := trm_lt h; omega
    · rfl
  induction f with
  | zero =>
    intro g q hf hg
    rcases g with _ | g
    · rfl
    · rw [moeF, moeF, z0 _ _ (by omega)]; split <;> rfl
  | succ f ih =>
    intro g q hf hg
    rcases g with _ | g
    · rw [moeF, moeF, z0 _ _ (by omega)]; split <;> rfl
    · rw [moeF, moeF]
      have e : sm (trm (moeF all p f) p q) all = sm (trm (moeF all p g) p q) all := by
        refine sm_congr fun r _ => ?_
        unfold trm
        split
        · next h =>
          have := trm_lt h
          exact ih g r (by omega) (by omega)
        · rfl
      rw [e]
theorem moeF_bd (all : List (List Int)) (h : all.length ≤ 42) (p : List Int) : ∀ f q, -(43 ^ f) ≤ moeF all p f q ∧ moeF all p f q ≤ 43 ^ f
  | 0, q => by rw [moeF]; split <;> simp
  | f + 1, q => by
    have hp : (1 : Int) ≤ 43 ^ f := Int.pow_pos (by decide)
    rw [moeF]
    split
    · rw [Int.pow_succ]; omega
    · have h1 := sm_bd (trm (moeF all p f) p q) (b := 43 ^ f) (by omega) all (fun r _ => by
        have := moeF_bd all h p f r
        unfold trm
        split <;> omega)
      have h2 : ((all.length : Nat) : Int) * 43 ^ f ≤ 42 * 43 ^ f := Int.mul_le_mul_of_nonneg_right (by omega) (by omega)
      rw [Int.pow_succ]
      omega
/-- The number of q above p. -/
def moeB (all : List (List Int)) (p q : List Int) : Int := moeF all p (rk q) q
/-- The list between. -/
def btwM (all : List (List Int)) (p q : List Int) : List (List Int) := all.filter fun x => finB p x && finB x q
/-- What the table takes away for y. -/
def trm2 (μ : List Int → Int) (r : Nat) (x y : List Int) : Int := if decide (rk y < r) && finB y x then μ y else 0
/-- The table's entry is the number. -/
theorem moe_table (all : List (List Int)) {p q x : List Int} (hp : p ∈ all) (hx : x ∈ btwM all p q) : (if x = p then 1 else 0) - sm (trm2 (moeB all p) (rk x) x) (btwM all p q) = moeB all p x := by
  have hx2 := List.mem_filter.1 hx
  obtain ⟨hxa, hxc⟩ := hx2
  rw [Bool.and_eq_true] at hxc
  obtain ⟨c1, c2⟩ := hxc
  by_cases he : x = p
  · rw [if_pos he]
    have h0 : sm (trm2 (moeB all p) (rk x) x) (btwM all p q) = 0 := by
      refine sm_zero fun y hy => ?_
      obtain ⟨_, hyc⟩ := List.mem_filter.1 hy
      rw [Bool.and_eq_true] at hyc
      unfold trm2
      split
      · next h =>
        rw [Bool.and_eq_true, decide_eq_true_eq] at h
        have := (fin_rk hyc.1).1
        rw [he] at h
        omega
      · rfl
    rw [h0]
    unfold moeB
    rcases rk x with _ | f
    · rw [moeF, if_pos he.symm]; rfl
    · rw [moeF, if_pos he.symm]; rfl
  · rw [if_neg he]
    have e1 : moeB all p x = - sm (trm (moeB all p) p x) all := by
      have e2 : sm (trm (moeB all p) p x) all = sm (trm (moeF all p (rk x)) p x) all := by
        refine sm_congr fun r _ => ?_
        unfold trm
        split
        · next h => have := trm_lt h; exact moeF_fuel all p _ _ r (Nat.le_refl _) (by omega)
        · rfl
      unfold moeB
      rw [moeF_fuel all p (rk x) (rk x + 1) x (Nat.le_refl _) (by omega), moeF, if_neg (fun e => he e.symm)]
      unfold moeB at e2
      rw [e2]
    rw [e1]
    have e3 : sm (trm (moeB all p) p x) all = sm (trm2 (moeB all p) (rk x) x) (btwM all p q) := by
      refine sm_filter (fun y hy hc => ?_) (fun y hy hc => ?_)
      · rw [Bool.and_eq_true] at hc
        unfold trm trm2
        rw [hc.1]
        by_cases h1 : finB y x = true
        · rw [h1]
          by_cases h2 : y = x
          · rw [decide_eq_true h2, h2]; simp
          · rw [decide_eq_false h2]
            have := fin_rk h1
            have h3 : rk y < rk x := by
              rcases Nat.lt_or_ge (rk y) (rk x) with h3 | h3
              · exact h3
              · exact absurd (this.2 (by omega)) h2
            rw [decide_eq_true h3]; rfl
        · rw [Bool.not_eq_true] at h1
          rw [h1]; simp
      · unfold trm
        split
        · next h =>
          simp only [Bool.and_eq_true] at h
          rw [h.1.1, fin_trans h.1.2 c2] at hc
          cases hc
        · rfl
    rw [e3]; omega

/-- All partitions of n elements. -/
def allPar : Nat → List (List Int)
  | 0 => [[]]
  | n + 1 => (allPar n).flatMap fun xs => (List.range ((nx xs xs.length).toNat + 1)).map fun (v : Nat) => xs ++ [(v : Int)]
theorem nx_take (xs : List Int) (n : Nat) : ∀ k, k ≤ n → nx (xs.take n) k = nx xs k
  | 0, _ => rfl
  | k + 1, h => by rw [nx, nx, nx_take xs n k (by omega), List.getElem?_take_of_lt (by omega)]
theorem okP_take (xs : List Int) (n : Nat) : ∀ k, k ≤ n → okP (xs.take n) k = okP xs k
  | 0, _ => rfl
  | k + 1, h => by rw [okP, okP, okP_take xs n k (by omega), nx_take xs n k (by omega), List.getD_eq_getElem?_getD, List.getElem?_take_of_lt (by omega), ← List.getD_eq_getElem?_getD]
theorem mem_allPar : ∀ (n : Nat) (xs : List Int), xs.length = n → okP xs n = true → xs ∈ allPar n
  | 0, xs, h, _ => by rw [List.eq_nil_of_length_eq_zero h]; simp [allPar]
  | n + 1, xs, h, ho => by
    have hx : xs[n]? = some (xs.getD n 0) := by rw [List.getD_eq_getElem?_getD, List.getElem?_eq_getElem (by omega)]; rfl
    rw [okP_step hx, Bool.and_eq_true] at ho
    have hin := inB_iff.1 ho.2
    have hl : (xs.take n).length = n := by rw [List.length_take]; omega
    have ih := mem_allPar n (xs.take n) hl (by rw [okP_take xs n n (Nat.le_refl _)]; exact ho.1)
    rw [allPar, List.mem_flatMap]
    refine ⟨_, ih, List.mem_map.2 ⟨(xs.getD n 0).toNat, List.mem_range.2 ?_, ?_⟩⟩
    · rw [hl, nx_take xs n n (Nat.le_refl _)]; omega
    · rw [Int.toNat_of_nonneg hin.1]
      have : xs = xs.take (n + 1) := by rw [List.take_of_length_le (by omega)]
      rw [List.take_add_one, hx] at this
      exact this.symm
def samN (n : Nat) : Bool := (allPar n).all fun x => !quad x || (rowN n).contains x
theorem samN_5 : (List.range 6).all samN = true := by decide +kernel
theorem nonc_mem {x : List Int} (h : nonc x = true) (h5 : x.length ≤ 5) : x ∈ rowN x.length := by
  have h1 := nonc_par h
  have h2 := mem_allPar x.length x rfl (isPar_iff h1).2
  have h3 := List.all_eq_true.1 (List.all_eq_true.1 samN_5 x.length (List.mem_range.2 (by omega))) x h2
  have h4 : quad x = true := by unfold nonc at h; rw [Bool.and_eq_true] at h; exact h.2
  rw [h4] at h3
  simpa using h3
def parN (n : Nat) : Bool := decide ((rowN n).length ≤ 42) && (rowN n).all fun x => isPar x && decide (x.length = n)
theorem parN_5 : (List.range 6).all parN = true := by decide +kernel
theorem rowN_par {n : Nat} (h : n ≤ 5) : (rowN n).length ≤ 42 ∧ ∀ x ∈ rowN n, isPar x = true ∧ x.length = n := by
  have h1 := List.all_eq_true.1 parN_5 n (List.mem_range.2 (by omega))
  unfold parN at h1
  rw [Bool.and_eq_true] at h1
  refine ⟨of_decide_eq_true h1.1, fun x hx => ?_⟩
  have := List.all_eq_true.1 h1.2 x hx
  rw [Bool.and_eq_true, decide_eq_true_eq] at this
  exact this
/-- The answer of both sides. -/
def moeP (p q : List Int) : Int × Bool :=
  if nonc p && nonc q && decide (p.length = q.length) && decide (p.length ≤ 5) then (if finB p q then (moeB (rowN p.length) p q, true) else (0, true)) else (0, false)

end Go.Proofs.YtghfhkbncjgaeaaGreat
