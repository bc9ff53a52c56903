/- The search by breadth and the way back. No program is named here. -/
import Derived.Test.YteekkcjbflehlaaRotLr
import Derived.Test.YteekkcjbflehlaaIrw
import Derived.Test.YteekkcjbflehlaaTrees
namespace Go.Proofs.Yteekkcjbflehlaa
set_option linter.unusedVariables false
open Go.RowKit Go.Deep

abbrev Txt := List UInt8
abbrev BS := List Txt × List Int
def stepB (i : Nat) (s : BS) (x : Txt) : BS := if x ∈ s.1 then s else (s.1 ++ [x], s.2 ++ [(i : Int)])
def rowB (i : Nat) (s : BS) : BS := (nbB (s.1.getD i [])).foldl (stepB i) s
def stB (a : Txt) : Nat → BS
  | 0 => ([a], [-1])
  | k + 1 => if k < (stB a k).1.length then rowB k (stB a k) else stB a k
/-- One begins the other. -/
def Pre (s s' : BS) : Prop := (∃ u, s'.1 = s.1 ++ u) ∧ ∃ v, s'.2 = s.2 ++ v
theorem Pre.refl (s : BS) : Pre s s := ⟨⟨[], by simp⟩, ⟨[], by simp⟩⟩
theorem Pre.trans {a b c : BS} (h : Pre a b) (h' : Pre b c) : Pre a c := by
  obtain ⟨⟨u, hu⟩, ⟨v, hv⟩⟩ := h
  obtain ⟨⟨u', hu'⟩, ⟨v', hv'⟩⟩ := h'
  exact ⟨⟨u ++ u', by rw [hu', hu, List.append_assoc]⟩, ⟨v ++ v', by rw [hv', hv, List.append_assoc]⟩⟩
theorem stepB_pre (i : Nat) (s : BS) (x : Txt) : Pre s (stepB i s x) := by
  unfold stepB
  split
  · exact Pre.refl s
  · exact ⟨⟨[x], rfl⟩, ⟨[(i : Int)], rfl⟩⟩
theorem fold_pre (i : Nat) : ∀ (xs : List Txt) (s : BS), Pre s (xs.foldl (stepB i) s)
  | [], s => Pre.refl s
  | x :: xs, s => (stepB_pre i s x).trans (fold_pre i xs _)
theorem stB_pre1 (a : Txt) (k : Nat) : Pre (stB a k) (stB a (k + 1)) := by
  rw [stB]
  split
  · exact fold_pre k _ _
  · exact Pre.refl _
theorem stB_pre (a : Txt) (k : Nat) : ∀ m, Pre (stB a k) (stB a (k + m))
  | 0 => Pre.refl _
  | m + 1 => (stB_pre a k m).trans (stB_pre1 a (k + m))
theorem Pre.mem {s s' : BS} (h : Pre s s') {x : Txt} (hx : x ∈ s.1) : x ∈ s'.1 := by
  obtain ⟨⟨u, hu⟩, _⟩ := h
  rw [hu]; exact List.mem_append_left _ hx
theorem Pre.at1 {s s' : BS} (h : Pre s s') {j : Nat} (hj : j < s.1.length) : s'.1.getD j [] = s.1.getD j [] := by
  obtain ⟨⟨u, hu⟩, _⟩ := h
  rw [hu, List.getD_eq_getElem?_getD, List.getD_eq_getElem?_getD, List.getElem?_append_left hj]
theorem Pre.at2 {s s' : BS} (h : Pre s s') {j : Nat} (hj : j < s.2.length) : s'.2.getD j (-1) = s.2.getD j (-1) := by
  obtain ⟨_, ⟨v, hv⟩⟩ := h
  rw [hv, List.getD_eq_getElem?_getD, List.getD_eq_getElem?_getD, List.getElem?_append_left hj]
theorem Pre.len {s s' : BS} (h : Pre s s') : s.1.length ≤ s'.1.length := by
  obtain ⟨⟨u, hu⟩, _⟩ := h
  rw [hu, List.length_append]; omega
theorem fold_mem (i : Nat) : ∀ (xs : List Txt) (s : BS), ∀ x ∈ xs, x ∈ (xs.foldl (stepB i) s).1
  | x :: xs, s, y, h => by
    rcases List.mem_cons.1 h with rfl | h
    · refine (fold_pre i xs _).mem ?_
      unfold stepB
      split
      · assumption
      · simp
    · exact fold_mem i xs _ y h
def Isn (n : Nat) (x : Txt) : Prop := ∃ t, x = tx t ∧ nodes t = n ∧ sh t = t
structure Inv (n : Nat) (s : BS) : Prop where
  len : s.1.length = s.2.length
  pos : 0 < s.1.length
  nd : s.1.Nodup
  tr : ∀ x ∈ s.1, Isn n x
  par : ∀ (j : Nat) (y : Int), s.2[j]? = some y → -1 ≤ y ∧ y < j ∧ (y = -1 → j = 0)
theorem Inv.step {n i : Nat} {s : BS} {x : Txt} (h : Inv n s) (hi : i < s.1.length) (hx : Isn n x) : Inv n (stepB i s x) := by
  unfold stepB
  split
  · exact h
  · next hn =>
    refine ⟨by simp [h.len], by simp, ?_, ?_, ?_⟩
    · rw [List.nodup_append]
      refine ⟨h.nd, List.nodup_cons.2 ⟨by simp, List.nodup_nil⟩, ?_⟩
      intro y hy z hz e
      simp at hz
      subst hz; subst e
      exact hn hy
    · intro y hy
      rcases List.mem_append.1 hy with h1 | h1
      · exact h.tr y h1
      · simp at h1; rw [h1]; exact hx
    · intro j y hy
      have hl := h.len
      rcases Nat.lt_or_ge j s.2.length with h1 | h1
      · rw [List.getElem?_append_left h1] at hy; exact h.par j y hy
      · rw [List.getElem?_append_right h1] at hy
        have h2 := (List.getElem?_eq_some_iff.1 hy).1
        simp at h2
        rw [show j - s.2.length = 0 by omega] at hy
        simp at hy
        subst hy
        exact ⟨by omega, by omega, fun e => by omega⟩
theorem Inv.fold {n i : Nat} : ∀ (xs : List Txt) (s : BS), Inv n s → i < s.1.length → (∀ x ∈ xs, Isn n x) → Inv n (xs.foldl (stepB i) s)
  | [], s, h, _, _ => h
  | x :: xs, s, h, hi, hx => Inv.fold xs _ (h.step hi (hx x (List.mem_cons_self ..))) (Nat.lt_of_lt_of_le hi (stepB_pre i s x).len) fun y hy => hx y (List.mem_cons_of_mem _ hy)
theorem nb_isn {n : Nat} {l x : Txt} (hl : Isn n l) (h : x ∈ nbB l) : Isn n x := by
  obtain ⟨t, y, e, hs, h8, rfl, hy, hn, _⟩ := nb_form h
  obtain ⟨t', e', hn', _⟩ := hl
  refine ⟨y, rfl, ?_, hy⟩
  have := congrArg List.length (e.symm.trans e')
  rw [tx_len, tx_len] at this
  omega
theorem getDt_mem {l : List Txt} {k : Nat} (h : k < l.length) : l.getD k [] ∈ l := by
  rw [List.getD_eq_getElem?_getD, List.getElem?_eq_getElem h]; exact List.getElem_mem h
theorem stB_inv {n : Nat} {a : Txt} (ha : Isn n a) : ∀ k, Inv n (stB a k)
  | 0 => ⟨rfl, by simp [stB], by simp [stB], by intro x hx; simp [stB] at hx; rw [hx]; exact ha, by
      intro j y hy
      cases j with
      | zero => simp [stB] at hy; subst hy; exact ⟨by omega, by omega, fun _ => rfl⟩
      | succ j => simp [stB] at hy⟩
  | k + 1 => by
    rw [stB]
    split
    · next h => exact Inv.fold _ _ (stB_inv ha k) h fun x hx => nb_isn ((stB_inv ha k).tr _ (getDt_mem h)) hx
    · exact stB_inv ha k
theorem isn_trees {n : Nat} {x : Txt} (h : Isn n x) : x ∈ treesB n := by
  obtain ⟨t, rfl, hn, hs⟩ := h
  unfold treesB
  refine List.mem_map.2 ⟨wd t, by rw [← hn]; exact wd_mem t, ?_⟩
  rw [tw_wd, tx_sh]
theorem stB_bd {n : Nat} {a : Txt} (hn : n ≤ 5) (ha : Isn n a) (k : Nat) : (stB a k).1.length ≤ 65536 :=
  Nat.le_trans (nodup_len _ _ (stB_inv ha k).nd fun x hx => isn_trees ((stB_inv ha k).tr x hx)) (treesB_len (by omega))
theorem stB_stay {a : Txt} {k : Nat} (h : (stB a k).1.length ≤ k) : ∀ m, stB a (k + m) = stB a k
  | 0 => rfl
  | m + 1 => by
    have ih := stB_stay h m
    show (if k + m < (stB a (k + m)).1.length then _ else _) = _
    rw [ih, if_neg (by omega)]
    exact ih
theorem stB_run {a : Txt} {k : Nat} (h : k ≤ (stB a k).1.length) {j : Nat} (hj : j < k) : j < (stB a j).1.length := by
  rcases Nat.lt_or_ge j (stB a j).1.length with h1 | h1
  · exact h1
  · have := stB_stay h1 (k - j)
    rw [show j + (k - j) = k by omega] at this
    rw [this] at h; omega
theorem stB_closed {a : Txt} {k : Nat} (h : (stB a k).1.length = k) : ∀ x ∈ (stB a k).1, ∀ y ∈ nbB x, y ∈ (stB a k).1 := by
  intro x hx y hy
  obtain ⟨j, hj, rfl⟩ := List.getElem_of_mem hx
  have h1 := stB_run (a := a) (k := k) (by omega) (show j < k by omega)
  have h2 : (stB a k).1.getD j [] = (stB a j).1.getD j [] := by
    have := (stB_pre a j (k - j)).at1 h1
    rwa [show j + (k - j) = k by omega] at this
  have h3 : (stB a k).1[j] = (stB a j).1.getD j [] := by rw [← h2, List.getD_eq_getElem?_getD, List.getElem?_eq_getElem hj]; rfl
  rw [h3] at hy
  have h4 : y ∈ (stB a (j + 1)).1 := by
    rw [stB, if_pos h1]
    exact fold_mem j _ _ y hy
  have := (stB_pre a (j + 1) (k - (j + 1))).mem h4
  rwa [show j + 1 + (k - (j + 1)) = k by omega] at this
def stF (a : Txt) : BS := stB a 65537
theorem stF_eq {a : Txt} {k : Nat} (h : (stB a k).1.length = k) (hk : k ≤ 65536) : stF a = stB a k := by
  have := stB_stay (a := a) (k := k) (by omega) (65537 - k)
  rw [show k + (65537 - k) = 65537 by omega] at this
  exact this
theorem stF_pre {n : Nat} {a : Txt} (hn : n ≤ 5) (ha : Isn n a) {k : Nat} (hk : k ≤ (stB a k).1.length) : Pre (stB a k) (stF a) := by
  have := stB_bd hn ha k
  have h := stB_pre a k (65537 - k)
  rwa [show k + (65537 - k) = 65537 by omega] at h
theorem stB_a (a : Txt) (k : Nat) : a ∈ (stB a k).1 := by
  have := (stB_pre a 0 k).mem (x := a) (by simp [stB])
  rwa [Nat.zero_add] at this
/-- At the end all trees of the size are there. -/
theorem stB_all {n : Nat} {a b : Txt} (hn : n ≤ 5) (ha : Isn n a) (hb : Isn n b) {k : Nat} (h : (stB a k).1.length = k) : b ∈ (stB a k).1 := by
  obtain ⟨t, rfl, h1, h2⟩ := ha
  obtain ⟨s, rfl, h3, h4⟩ := hb
  exact closed_all (stB_closed h) (by omega) h2 h4 (by omega) (stB_a _ k)

/-- The way back from the k-th, in the order of going. -/
def wy (s : BS) : Nat → Int → List Txt
  | 0, _ => []
  | f + 1, k => if k < 0 then [] else wy s f (s.2.getD k.toNat (-1)) ++ [s.1.getD k.toNat []]
theorem wy_neg (s : BS) (f : Nat) {k : Int} (h : k < 0) : wy s f k = [] := by
  cases f with
  | zero => rfl
  | succ f => rw [wy, if_pos h]
theorem wy_par {n : Nat} {s : BS} (h : Inv n s) {k : Int} (h0 : 0 ≤ k) (h1 : k < s.1.length) : -1 ≤ s.2.getD k.toNat (-1) ∧ s.2.getD k.toNat (-1) < k := by
  have hl := h.len
  have hk : k.toNat < s.2.length := by omega
  have e : s.2[k.toNat]? = some s.2[k.toNat] := List.getElem?_eq_getElem hk
  have := h.par _ _ e
  rw [List.getD_eq_getElem?_getD, e]
  show -1 ≤ s.2[k.toNat] ∧ s.2[k.toNat] < k
  omega
theorem wy_fuel {n : Nat} {s : BS} (h : Inv n s) : ∀ (f g : Nat) (k : Int), k < f → k < g → k < s.1.length → wy s f k = wy s g k
  | 0, g, k, h1, _, _ => by rw [wy_neg s g (by omega)]; rfl
  | f + 1, g, k, h1, h2, h3 => by
    rcases Int.lt_or_le k 0 with h0 | h0
    · rw [wy_neg s _ h0, wy_neg s _ h0]
    · obtain ⟨g', rfl⟩ : ∃ g', g = g' + 1 := ⟨g - 1, by omega⟩
      obtain ⟨p1, p2⟩ := wy_par h h0 h3
      rw [wy, wy, if_neg (by omega), if_neg (by omega), wy_fuel h f g' _ (by omega) (by omega) (by omega)]
def wyN (s : BS) (k : Int) : List Txt := wy s (k + 1).toNat k
theorem wyN_step {n : Nat} {s : BS} (h : Inv n s) {k : Nat} (h1 : k < s.1.length) : wyN s (k : Int) = wyN s (s.2.getD k (-1)) ++ [s.1.getD k []] := by
  obtain ⟨p1, p2⟩ := wy_par h (k := (k : Int)) (by omega) (by omega)
  have e0 : ((k : Int)).toNat = k := by omega
  rw [e0] at p1 p2
  unfold wyN
  rw [show ((k : Int) + 1).toNat = k + 1 by omega, wy, if_neg (by omega), e0, wy_fuel h k (s.2.getD k (-1) + 1).toNat _ (by omega) (by omega) (by omega)]
theorem wyN_neg (s : BS) : wyN s (-1) = [] := rfl
theorem wy_pre {n : Nat} {s s' : BS} (hp : Pre s s') (h : Inv n s) : ∀ (f : Nat) (k : Int), k < s.1.length → wy s' f k = wy s f k
  | 0, _, _ => rfl
  | f + 1, k, hk => by
    rcases Int.lt_or_le k 0 with h0 | h0
    · rw [wy_neg _ _ h0, wy_neg _ _ h0]
    · obtain ⟨p1, p2⟩ := wy_par h h0 hk
      have hl := h.len
      rw [wy, wy, if_neg (by omega), if_neg (by omega), hp.at1 (by omega), hp.at2 (by omega), wy_pre hp h f _ (by omega)]
theorem wy_len (s : BS) : ∀ (f : Nat) (k : Int), (wy s f k).length ≤ f
  | 0, _ => Nat.le_refl _
  | f + 1, k => by
    rw [wy]
    split
    · simp
    · have := wy_len s f (s.2.getD k.toNat (-1)); rw [List.length_append, List.length_singleton]; omega
def wayB (a b : Txt) : List Txt := wyN (stF a) ((stF a).1.idxOf b : Nat)
def rwB (a b : Txt) : List Txt × Bool := if alikeB a b 5 then (wayB a b, true) else ([], false)
theorem rwB_len (a b : Txt) : (rwB a b).1.length ≤ 1048576 := by
  unfold rwB
  split
  · next h =>
    obtain ⟨t, s, rfl, rfl, h1, h2, h3, h4, h5, h6⟩ := alike_yes h
    have hb := stB_bd (n := nodes t) (by omega) ⟨t, rfl, rfl, h3⟩ 65537
    show (wy _ _ _).length ≤ _
    have h7 := wy_len (stF (tx t)) (((stF (tx t)).1.idxOf (tx s) : Nat) + 1 : Int).toNat ((stF (tx t)).1.idxOf (tx s) : Nat)
    have h8 : (stF (tx t)).1.idxOf (tx s) ≤ (stF (tx t)).1.length := List.idxOf_le_length
    have h9 : (stF (tx t)).1.length ≤ 65536 := hb
    omega
  · simp
/-- Where the tree lies at an earlier time. -/
theorem way_early {n : Nat} {a b : Txt} (hn : n ≤ 5) (ha : Isn n a) {k : Nat} (hk : k ≤ (stB a k).1.length) (hb : b ∈ (stB a k).1) : wayB a b = wyN (stB a k) ((stB a k).1.idxOf b : Nat) := by
  have hp := stF_pre hn ha hk
  have hi : (stF a).1.idxOf b = (stB a k).1.idxOf b := by
    obtain ⟨⟨u, hu⟩, _⟩ := hp
    rw [hu, List.idxOf_append, if_pos hb]
  have hl := List.idxOf_lt_length_iff.2 hb
  unfold wayB wyN
  rw [hi]
  exact wy_pre hp (stB_inv ha k) _ _ (by omega)

end Go.Proofs.Yteekkcjbflehlaa
