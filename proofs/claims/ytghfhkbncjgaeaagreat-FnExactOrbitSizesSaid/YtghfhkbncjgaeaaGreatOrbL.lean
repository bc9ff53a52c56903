/- The orbits of the turns. No program is named here. -/
import Derived.Test.YtghfhkbncjgaeaaGreatMg18
namespace Go.Proofs.YtghfhkbncjgaeaaGreat
set_option linter.unusedVariables false
open Go.RowKit

/-- One orbit: what was seen before, where the turn stands, how many were new. -/
def inn (nx : List Nat) : Nat → List Nat → Nat → Nat → Option (List Nat × Nat)
  | 0, _, _, _ => none
  | F + 1, v, a, s => if a ∈ v then some (v, s) else inn nx F (v ++ [a]) (nx.getD a 0) (s + 1)
def orb (nx : List Nat) : Nat → Option (List Nat × List Int)
  | 0 => some ([], [])
  | k + 1 => (orb nx k).bind fun p => (inn nx 50 p.1 k 0).map fun q => (q.1, if q.2 = 0 then p.2 else p.2 ++ [(q.2 : Int)])
def orbB (n : Nat) (nx : List Nat) : Bool := (orb nx (paths n).length).isSome
theorem orb_all : ((List.range 6).all fun n => orbB n (nxMs.getD n []) && (orbB n (nxPs.getD n []) && orbB n (nxTs.getD n []))) = true := by decide +kernel
theorem orb_ok {f : List UInt8} (hf : famB f) {n : Nat} (hn : n ≤ 5) : ∃ R, orb (nxT f n) (paths n).length = some R := by
  have := List.all_eq_true.1 orb_all n (List.mem_range.2 (by omega))
  rw [Bool.and_eq_true, Bool.and_eq_true] at this
  rw [← Option.isSome_iff_exists]
  rcases hf with rfl | rfl | rfl
  · rw [nxT_M]; exact this.1
  · rw [nxT_P]; exact this.2.1
  · rw [nxT_T]; exact this.2.2
theorem orb_pre {nx : List Nat} : ∀ {m k : Nat} {R : List Nat × List Int}, orb nx m = some R → k ≤ m → ∃ r, orb nx k = some r
  | 0, k, R, h, hk => ⟨R, by rw [show k = 0 by omega]; exact h⟩
  | m + 1, k, R, h, hk => by
    by_cases he : k = m + 1
    · rw [he]; exact ⟨R, h⟩
    · rw [orb, Option.bind_eq_some_iff] at h
      obtain ⟨p, hp, _⟩ := h
      exact orb_pre hp (by omega)
theorem orb_step {nx : List Nat} {m k : Nat} {R : List Nat × List Int} (h : orb nx m = some R) (hk : k < m) {v : List Nat} {o : List Int} (hv : orb nx k = some (v, o)) :
    ∃ v' s, inn nx 50 v k 0 = some (v', s) ∧ orb nx (k + 1) = some (v', if s = 0 then o else o ++ [(s : Int)]) := by
  obtain ⟨r, hr⟩ := orb_pre h (show k + 1 ≤ m by omega)
  have h2 := hr
  rw [orb, hv, Option.bind_some, Option.map_eq_some_iff] at h2
  obtain ⟨⟨v', s⟩, h3, h4⟩ := h2
  exact ⟨v', s, h3, by rw [hr, ← h4]⟩
theorem inn_stop {nx : List Nat} {F : Nat} {v : List Nat} {a s : Nat} {R : List Nat × Nat} (h : inn nx F v a s = some R) (ha : a ∈ v) : R = (v, s) := by
  cases F with
  | zero => cases h
  | succ F => rw [inn, if_pos ha] at h; injection h with h; exact h.symm
theorem inn_go {nx : List Nat} {s : Nat} {v : List Nat} {a : Nat} {R : List Nat × Nat} (h : inn nx (50 - s) v a s = some R) (ha : a ∉ v) : s < 50 ∧ inn nx (50 - (s + 1)) (v ++ [a]) (nx.getD a 0) (s + 1) = some R := by
  rcases hF : 50 - s with _ | F
  · rw [hF] at h; cases h
  · rw [hF, inn, if_neg ha] at h
    exact ⟨by omega, by rw [show 50 - (s + 1) = F by omega]; exact h⟩
theorem inn_zero {nx : List Nat} {F : Nat} {v v' : List Nat} {a : Nat} (h : inn nx (F + 1) v a 0 = some (v', 0)) : a ∈ v := by
  by_cases ha : a ∈ v
  · exact ha
  · rw [inn, if_neg ha] at h
    have : ∀ (F : Nat) (v : List Nat) (a s : Nat) (R : List Nat × Nat), inn nx F v a s = some R → s ≤ R.2 := by
      intro F
      induction F with
      | zero => intro v a s R h; cases h
      | succ F ih =>
        intro v a s R h
        rw [inn] at h
        split at h
        · injection h with h; rw [← h]; exact Nat.le_refl _
        · have := ih _ _ _ _ h; omega
    have := this _ _ _ _ _ h
    simp at this
/-- What was seen, as flags. -/
def bvis (m : Nat) (v : List Nat) : List Value := (List.range m).map fun j => .bool (decide (j ∈ v))
theorem bvis_len (m : Nat) (v : List Nat) : (bvis m v).length = m := by simp [bvis]
theorem bvis_nil (m : Nat) : List.replicate m (Value.bool false) = bvis m [] := by
  unfold bvis
  apply List.ext_getElem?
  intro i
  simp [List.getElem?_replicate]
  by_cases h : i < m <;> simp [h]
theorem bvis_at {m a : Nat} (v : List Nat) (h : a < m) : (bvis m v)[a]? = some (.bool (decide (a ∈ v))) := by
  unfold bvis
  rw [List.getElem?_map, List.getElem?_range h]; rfl
theorem bvis_set {m a : Nat} (v : List Nat) (h : a < m) : (bvis m v).set a (.bool true) = bvis m (v ++ [a]) := by
  apply List.ext_getElem?
  intro i
  by_cases hi : i < m
  · rw [List.getElem?_set, bvis_at _ hi, bvis_at _ hi, bvis_len]
    by_cases e : a = i
    · rw [if_pos e, if_pos h, e]; simp
    · rw [if_neg e]; congr 2; simp [show ¬ i = a from fun x => e x.symm]
  · rw [List.getElem?_eq_none (by simp [bvis_len]; omega), List.getElem?_eq_none (by simp [bvis_len]; omega)]
/-- The orbit sizes that both sides hand back. -/
def orbT (f : List UInt8) (n : Int) : List Int × Bool := if ordT f n < 0 then ([], false) else (((orb (nxT f n.toNat) (paths n.toNat).length).getD ([], [])).2, true)
theorem orbT_no {f : List UInt8} {n : Int} (h : ordT f n = -1) : orbT f n = ([], false) := by unfold orbT; rw [h]; rfl
theorem orb_len {nx : List Nat} : ∀ {k : Nat} {R : List Nat × List Int}, orb nx k = some R → R.2.length ≤ k
  | 0, R, h => by rw [orb] at h; injection h with h; rw [← h]; exact Nat.le_refl _
  | k + 1, R, h => by
    rw [orb, Option.bind_eq_some_iff] at h
    obtain ⟨p, hp, h2⟩ := h
    rw [Option.map_eq_some_iff] at h2
    obtain ⟨q, _, rfl⟩ := h2
    have := orb_len hp
    show (if q.2 = 0 then p.2 else p.2 ++ [(q.2 : Int)]).length ≤ k + 1
    split
    · omega
    · rw [List.length_append]; simpa using this
theorem orbT_len (f : List UInt8) (n : Int) : (orbT f n).1.length ≤ 1048576 := by
  rcases ordT_cases f n with h1 | ⟨N, rfl, hN1, hN5, hf, ho, ho1, ho2⟩
  · rw [orbT_no h1]; exact Nat.zero_le _
  · obtain ⟨R, hR⟩ := orb_ok hf hN5
    have := orb_len hR
    have h42 := paths_5 hN5
    unfold orbT
    rw [if_neg (by omega), Int.toNat_natCast, hR]
    show R.2.length ≤ 1048576
    omega
/-- Whether a text lies in a list. -/
def hasT (l : List (List UInt8)) (x : List UInt8) : Bool := l.contains x
theorem hasT_no {l : List (List UInt8)} {x : List UInt8} (h : ∀ j, j < l.length → (l.getD j [] == x) = false) : hasT l x = false := by
  unfold hasT
  rw [List.contains_eq_any_beq, List.any_eq_false]
  intro y hy
  obtain ⟨j, hj, rfl⟩ := List.mem_iff_getElem.1 hy
  have := h j hj
  rw [List.getD_eq_getElem?_getD, List.getElem?_eq_getElem hj] at this
  simp at this ⊢
  exact fun e => this e.symm
theorem hasT_yes {l : List (List UInt8)} {x : List UInt8} {j : Nat} (h : l[j]? = some x) : hasT l x = true := by
  unfold hasT
  rw [List.contains_iff_mem]
  exact List.mem_of_getElem? h
theorem hasT_P {n : Nat} (hn : n ≤ 5) {v : List Nat} {a : Nat} (hv : ∀ j ∈ v, j < (paths n).length) (ha : a < (paths n).length) : hasT (v.map (P n)) (P n a) = decide (a ∈ v) := by
  by_cases h : a ∈ v
  · rw [decide_eq_true h]
    unfold hasT
    rw [List.contains_iff_mem]
    exact List.mem_map.2 ⟨a, h, rfl⟩
  · rw [decide_eq_false h]
    unfold hasT
    rw [← Bool.not_eq_true, List.contains_iff_mem, List.mem_map]
    rintro ⟨j, hj, e⟩
    have := (P_ok2 hn).inj (hv j hj) ha e
    subst this
    exact h hj

end Go.Proofs.YtghfhkbncjgaeaaGreat
