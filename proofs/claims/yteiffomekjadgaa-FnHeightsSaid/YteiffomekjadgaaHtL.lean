/- The lattice of paths by heights, pure: bounds, ranks, distances, covers. No program is named here. -/
import Derived.Test.YteiffomekjadgaaBetwL
import Derived.Test.YteiffomekjadgaaCovers
namespace Go.Proofs.Yteiffomekjadgaa
set_option linter.unusedVariables false
open Go.RowKit

theorem leTo_iff {a b : List UInt8} : ∀ n, leTo a b n = true ↔ ∀ k, k < n → hat a k ≤ hat b k
  | 0 => by simp [leTo]
  | n + 1 => by
    rw [leTo, Bool.and_eq_true, leTo_iff n, decide_eq_true_eq]
    constructor
    · rintro ⟨h1, h2⟩ k hk
      rcases Nat.lt_or_ge k n with h3 | h3
      · exact h1 k h3
      · obtain rfl : k = n := by omega
        exact h2
    · intro h
      exact ⟨fun k hk => h k (by omega), h n (by omega)⟩
theorem fitB_mk {a b : List UInt8} (ha : dyck a = true) (hb : dyck b = true) (h : a.length = b.length) : fitB a b = true := by
  unfold fitB; rw [ha, hb]; simp [h]
theorem belowB_mk {a b : List UInt8} (ha : dyck a = true) (hb : dyck b = true) (h : a.length = b.length) (hh : ∀ k, k ≤ a.length → hat a k ≤ hat b k) : belowB a b = true := by
  unfold belowB
  rw [fitB_mk ha hb h, (leTo_iff _).2 (fun k hk => hh k (by omega))]; rfl
/-- Heights give the letters. -/
theorem hat_inj {a b : List UInt8} (ha : dyck a = true) (hb : dyck b = true) (h : a.length = b.length) (hh : ∀ k, k ≤ a.length → hat a k = hat b k) : a = b := by
  have hla : ∀ k, k < a.length → a[k]? = some 117 ∨ a[k]? = some 100 := fun k hk => by
    have h1 := okB_mono (dyck_pathB ha).2.1 (show k + 1 ≤ a.length by omega)
    simp only [okB, Bool.and_eq_true, Bool.or_eq_true, beq_iff_eq] at h1
    exact h1.1.2
  have hlb : ∀ k, k < b.length → b[k]? = some 117 ∨ b[k]? = some 100 := fun k hk => by
    have h1 := okB_mono (dyck_pathB hb).2.1 (show k + 1 ≤ b.length by omega)
    simp only [okB, Bool.and_eq_true, Bool.or_eq_true, beq_iff_eq] at h1
    exact h1.1.2
  apply List.ext_getElem?
  intro k
  rcases Nat.lt_or_ge k a.length with hk | hk
  · have h0 := hh k (by omega)
    have h1 := hh (k + 1) (by omega)
    rcases hla k hk with e1 | e1 <;> rcases hlb k (by omega) with e2 | e2
    · rw [e1, e2]
    · rw [hat_u e1, hat_d e2 (by decide)] at h1; omega
    · rw [hat_d e1 (by decide), hat_u e2] at h1; omega
    · rw [e1, e2]
  · rw [List.getElem?_eq_none hk, List.getElem?_eq_none (by omega)]
theorem rsum_even {l : List UInt8} : ∀ k, ∃ z : Int, rsum l k = 2 * z
  | 0 => ⟨0, rfl⟩
  | k + 1 => by
    obtain ⟨z, hz⟩ := rsum_even (l := l) k
    obtain ⟨y, hy⟩ := hat_par (l := l) k
    rw [rsum, hz, hy]
    rcases Nat.mod_two_eq_zero_or_one k with h | h
    · exact ⟨z + ((k / 2 : Nat) : Int) - y, by omega⟩
    · exact ⟨z + ((k / 2 : Nat) : Int) - y, by omega⟩
theorem rankB_two {l : List UInt8} (h : dyck l = true) : 2 * rankB l = rsum l (l.length + 1) := by
  obtain ⟨z, hz⟩ := rsum_even (l := l) (l.length + 1)
  unfold rankB
  rw [if_pos h, hz]
  omega
/-- What is said of the lower and the upper path. -/
structure Bnd (a b m v : List UInt8) : Prop where
  ma : belowB m a = true
  mb : belowB m b = true
  av : belowB a v = true
  bv : belowB b v = true
  rk : rankB m + rankB v = rankB a + rankB b
  ds : distB a b = rankB v - rankB m
  eq : belowB a b = decide (m = a)
theorem bnd {a b : List UInt8} (h : fitB a b = true) : Bnd a b (selW mn a b a.length) (selW mx a b a.length) := by
  obtain ⟨ha, hb, hl⟩ := fitB_true h
  obtain ⟨n, hn⟩ : ∃ n, n = a.length := ⟨_, rfl⟩
  rw [← hn]
  have hm := sel_dyck even_mn ha hb hn.symm (by omega : b.length = n)
  have hv := sel_dyck even_mx ha hb hn.symm (by omega : b.length = n)
  have hm' := sel_hat even_mn a b n
  have hv' := sel_hat even_mx a b n
  have hml := selW_len mn a b n
  have hvl := selW_len mx a b n
  obtain ⟨m, hme⟩ : ∃ m, m = selW mn a b n := ⟨_, rfl⟩
  obtain ⟨v, hve⟩ : ∃ v, v = selW mx a b n := ⟨_, rfl⟩
  rw [← hme] at hm hm' hml ⊢
  rw [← hve] at hv hv' hvl ⊢
  have s1 : ∀ k, k ≤ n + 1 → rsum m k + rsum v k = rsum a k + rsum b k ∧ dsum a b k = rsum v k - rsum m k := by
    intro k
    induction k with
    | zero => intro _; simp [rsum, dsum]
    | succ k ih =>
      intro hk
      obtain ⟨i1, i2⟩ := ih (by omega)
      have e1 := hm' k (by omega)
      have e2 := hv' k (by omega)
      rw [rsum, rsum, rsum, rsum, dsum, e1, e2]
      unfold mn mx
      constructor
      · split <;> split <;> omega
      · rw [max_if]
        split <;> split <;> split <;> omega
  obtain ⟨t1, t2⟩ := s1 (n + 1) (Nat.le_refl _)
  have r1 := rankB_two hm
  have r2 := rankB_two hv
  have r3 := rankB_two ha
  have r4 := rankB_two hb
  rw [hml] at r1
  rw [hvl] at r2
  rw [← hn] at r3
  rw [← hl, ← hn] at r4
  have hmn : ∀ k, k ≤ n → hat m k ≤ hat a k ∧ hat m k ≤ hat b k := fun k hk => by rw [hm' k hk]; unfold mn; split <;> omega
  have hmx : ∀ k, k ≤ n → hat a k ≤ hat v k ∧ hat b k ≤ hat v k := fun k hk => by rw [hv' k hk]; unfold mx; split <;> omega
  refine ⟨belowB_mk hm ha (by omega) (fun k hk => (hmn k (by omega)).1), belowB_mk hm hb (by omega) (fun k hk => (hmn k (by omega)).2), belowB_mk ha hv (by omega) (fun k hk => (hmx k (by omega)).1), belowB_mk hb hv (by omega) (fun k hk => (hmx k (by omega)).2), by omega, ?_, ?_⟩
  · unfold distB
    rw [if_pos h, ← hn, t2]
    omega
  · rcases hbb : belowB a b with _ | _
    · symm
      apply decide_eq_false
      intro he
      have : belowB m b = true := belowB_mk hm hb (by omega) (fun k hk => (hmn k (by omega)).2)
      rw [he, hbb] at this
      cases this
    · symm
      apply decide_eq_true
      unfold belowB at hbb
      rw [Bool.and_eq_true] at hbb
      have h2 := (leTo_iff _).1 hbb.2
      refine hat_inj hm ha (by omega) fun k hk => ?_
      have h3 := h2 k (by omega)
      rw [hm' k (by omega)]
      unfold mn
      split <;> omega
/-- What is said of a cover. -/
structure CovOk (w c : List UInt8) : Prop where
  be : belowB w c = true
  rk : rankB c = rankB w + 1
  ds : distB w c = 1
  len : c.length = w.length
theorem cov_mem {l c : List UInt8} : ∀ k, c ∈ cov l k → ∃ j, j < k ∧ valB l j = true ∧ c = covW l j
  | 0, h => by simp [cov] at h
  | k + 1, h => by
    rw [cov] at h
    by_cases hv : valB l k = true
    · rw [if_pos hv] at h
      rcases List.mem_append.1 h with h1 | h1
      · obtain ⟨j, a, b⟩ := cov_mem k h1
        exact ⟨j, by omega, b⟩
      · simp at h1
        exact ⟨k, by omega, hv, h1⟩
    · rw [if_neg hv] at h
      obtain ⟨j, a, b⟩ := cov_mem k h
      exact ⟨j, by omega, b⟩
theorem covW_at {l : List UInt8} {k : Nat} (hk : k + 1 < l.length) (j : Nat) : (covW l k)[j]? = if j = k then some 117 else if j = k + 1 then some 100 else l[j]? := by
  unfold covW
  have h1 : (l.take k).length = k := by rw [List.length_take]; omega
  rcases Nat.lt_trichotomy j k with h | h | h
  · rw [if_neg (by omega), if_neg (by omega), List.append_assoc, List.getElem?_append_left (by omega), List.getElem?_take_of_lt h]
  · subst h
    rw [if_pos rfl, List.append_assoc, List.getElem?_append_right (by omega), h1, Nat.sub_self]; rfl
  · rw [if_neg (by omega)]
    by_cases h2 : j = k + 1
    · subst h2
      rw [if_pos rfl, List.append_assoc, List.getElem?_append_right (by omega), h1, show k + 1 - k = 1 by omega]; rfl
    · rw [if_neg h2, List.getElem?_append_right (by simp; omega), List.length_append, h1, List.getElem?_drop]
      congr 1
      simp
      omega
theorem cov_ok {l c : List UInt8} (hd : dyck l = true) (h : c ∈ coversB l) : CovOk l c := by
  unfold coversB at h
  rw [if_pos hd] at h
  obtain ⟨k, hk, hv, rfl⟩ := cov_mem _ h
  have hk1 : k + 1 < l.length := by omega
  rw [valB_at hk1, Bool.and_eq_true, beq_iff_eq, beq_iff_eq] at hv
  have e1 : l[k]? = some 100 := by rw [List.getElem?_eq_getElem (by omega), hv.1]
  have e2 : l[k + 1]? = some 117 := by rw [List.getElem?_eq_getElem hk1, hv.2]
  have hat' : ∀ j, j ≤ l.length → hat (covW l k) j = hat l j + (if j = k + 1 then 2 else 0) := by
    intro j
    induction j with
    | zero => intro _; rw [if_neg (by omega)]; rfl
    | succ j ih =>
      intro hj
      have i1 := ih (by omega)
      have hc := covW_at hk1 j
      rw [hat, hat, hc, i1]
      rcases Nat.lt_trichotomy j k with h | h | h
      · rw [if_neg (show ¬ j = k by omega), if_neg (show ¬ j = k + 1 by omega), if_neg (show ¬ j + 1 = k + 1 by omega)]
        split <;> omega
      · subst h
        rw [if_pos rfl, if_pos rfl, if_neg (show ¬ j = j + 1 by omega), if_pos rfl, e1, if_neg (by decide)]
        omega
      · by_cases h2 : j = k + 1
        · subst h2
          rw [if_neg (show ¬ k + 1 = k by omega), if_pos rfl, if_pos rfl, if_neg (by decide), e2, if_pos rfl, if_neg (show ¬ k + 1 + 1 = k + 1 by omega)]
          omega
        · rw [if_neg (show ¬ j = k by omega), if_neg h2, if_neg h2, if_neg (show ¬ j + 1 = k + 1 by omega)]
          split <;> omega
  have hlen : (covW l k).length = l.length := by unfold covW; simp; omega
  have hdp := dyck_pathB hd
  have hok : ∀ j, j ≤ l.length → okB (covW l k) j = true := by
    intro j
    induction j with
    | zero => intro _; rfl
    | succ j ih =>
      intro hj
      have hn := dyck_nn hd (j + 1) hj
      have h1 := okB_mono hdp.2.1 hj
      simp only [okB, Bool.and_eq_true] at h1
      rw [okB, ih (by omega), covW_at hk1 j, decide_eq_true (by rw [hat' _ hj]; split <;> omega)]
      by_cases h2 : j = k
      · rw [if_pos h2]; rfl
      · rw [if_neg h2]
        by_cases h3 : j = k + 1
        · rw [if_pos h3]; rfl
        · rw [if_neg h3, h1.1.2]; rfl
  have hdc : dyck (covW l k) = true := by
    unfold dyck pathB
    rw [hlen, hok _ (Nat.le_refl _), hat' _ (Nat.le_refl _), if_neg (by omega), hdp.2.2, decide_eq_true hdp.1]; rfl
  have s1 : ∀ j, j ≤ l.length + 1 → rsum (covW l k) j = rsum l j + (if k + 1 < j then 2 else 0) ∧ dsum l (covW l k) j = (if k + 1 < j then 2 else 0) := by
    intro j
    induction j with
    | zero => intro _; simp [rsum, dsum]
    | succ j ih =>
      intro hj
      obtain ⟨i1, i2⟩ := ih (by omega)
      have e := hat' j (by omega)
      rw [rsum, rsum, dsum, i1, i2, e, max_if]
      rcases Nat.lt_trichotomy j (k + 1) with h | h | h
      · rw [if_neg (show ¬ k + 1 < j by omega), if_neg (show ¬ k + 1 < j + 1 by omega), if_neg (show ¬ j = k + 1 by omega)]
        constructor
        · omega
        · split <;> omega
      · rw [if_neg (show ¬ k + 1 < j by omega), if_pos (show k + 1 < j + 1 by omega), if_pos h]
        constructor
        · omega
        · split <;> omega
      · rw [if_pos (show k + 1 < j by omega), if_pos (show k + 1 < j + 1 by omega), if_neg (show ¬ j = k + 1 by omega)]
        constructor
        · omega
        · split <;> omega
  obtain ⟨t1, t2⟩ := s1 (l.length + 1) (Nat.le_refl _)
  rw [if_pos (by omega)] at t1 t2
  have r1 := rankB_two hdc
  have r2 := rankB_two hd
  rw [hlen, t1] at r1
  refine ⟨belowB_mk hd hdc hlen.symm (fun j hj => by rw [hat' j hj]; split <;> omega), by omega, ?_, hlen⟩
  unfold distB
  rw [if_pos (fitB_mk hd hdc hlen.symm), t2]; rfl

end Go.Proofs.Yteiffomekjadgaa
