/- The join of two partitions: blocks that meet are put together; what has been numbered is a partition. No program is named here. -/
import Derived.Test.YtdjkmeepkodhjaaClosS
import Derived.Test.YtdjkmeepkodhjaaNonc
namespace Go.Proofs.Ytdjkmeepkodhjaa
open Go.RowKit

theorem renO_pre (l : List Int) : ∀ (n k : Nat), k < n → (renO l n)[k]? = some ((renN l k).idxOf (l.getD k 0) : Int)
  | n + 1, k, h => by
    by_cases hk : k = n
    · subst hk
      rw [renO, List.getElem?_append_right (by rw [renO_len]; exact Nat.le_refl _), renO_len, Nat.sub_self]; rfl
    · rw [renO, List.getElem?_append_left (by rw [renO_len]; omega), renO_pre l n k (by omega)]
theorem renL_nx (l : List Int) : ∀ k : Nat, k ≤ l.length → nx (renL l) k = ((renN l k).length : Int)
  | 0, _ => rfl
  | k + 1, h => by
    rw [nx, renL_nx l k (by omega)]
    have e : (renL l)[k]? = some ((renN l k).idxOf (l.getD k 0) : Int) := renO_pre l l.length k (by omega)
    rw [e]
    by_cases hm : l.getD k 0 ∈ renN l k
    · have h1 := List.idxOf_lt_length_iff.2 hm
      rw [if_neg (by simp only [Option.some.injEq]; omega)]
      show _ = ((if _ then _ else _ : List Int).length : Int)
      rw [if_pos hm]
    · rw [List.idxOf_eq_length hm, if_pos rfl]
      show _ = ((if _ then _ else _ : List Int).length : Int)
      rw [if_neg hm, List.length_append]; simp
theorem renL_okP (l : List Int) : ∀ k : Nat, k ≤ l.length → okP (renL l) k = true
  | 0, _ => rfl
  | k + 1, h => by
    have e : (renL l)[k]? = some ((renN l k).idxOf (l.getD k 0) : Int) := renO_pre l l.length k (by omega)
    rw [okP_step e, renL_okP l k (by omega), renL_nx l k (by omega)]
    have := List.idxOf_le_length (a := l.getD k 0) (l := renN l k)
    rw [Bool.true_and]
    exact inB_iff.2 (by omega)
theorem renL_par {l : List Int} (h : l.length ≤ 8) : isPar (renL l) = true := by
  unfold isPar
  rw [renL_len, renL_okP l _ (Nat.le_refl _), decide_eq_true h]; rfl

def jst (q : List Int) (i k : Nat) (L : List Int) : List Int := if q.getD i 0 = q.getD k 0 then mrg L (L.getD k 0) (L.getD i 0) else L
def jrow (q : List Int) (i : Nat) (L : List Int) : List Int := lp (jst q i) L 0 i
def jn (p q : List Int) (n : Nat) : List Int := lp (jrow q) p 0 n
theorem mrg_same (l : List Int) (x : Int) : mrg l x x = l := by
  unfold mrg
  rw [show (fun z => if z = x then x else z) = id from by funext z; show (if z = x then x else z) = z; split <;> simp_all]
  exact List.map_id l
theorem jst_len (q : List Int) (i k : Nat) (L : List Int) : (jst q i k L).length = L.length := by unfold jst; split; exact mrg_len _ _ _; rfl
theorem jn_len (p q : List Int) (n : Nat) : (jn p q n).length = p.length :=
  lp_keep (P := fun L : List Int => L.length = p.length) rfl n fun i _ _ _ h => lp_keep (P := fun L : List Int => L.length = p.length) h i fun _ _ _ _ h => (jst_len _ _ _ _).trans h
theorem jst_no {q : List Int} {i k : Nat} {L : List Int} (h : q.getD i 0 ≠ q.getD k 0) : jst q i k L = L := by unfold jst; rw [if_neg h]
theorem jst_eq {q : List Int} {i k : Nat} {L : List Int} {x : Int} (h1 : L.getD i 0 = x) (h2 : L.getD k 0 = x) : jst q i k L = L := by
  unfold jst; rw [h1, h2, mrg_same]; split <;> rfl
theorem jst_yes {q : List Int} {i k : Nat} {L : List Int} (h : q.getD i 0 = q.getD k 0) : jst q i k L = mrg L (L.getD k 0) (L.getD i 0) := by unfold jst; rw [if_pos h]
/-- What both joins give. -/
def joi (p q : List Int) : List Int × Bool := if nonc p && nonc q && (p.length == q.length) then (renL (closB (jn p q q.length)), true) else ([], false)
theorem joi_len (p q : List Int) : (joi p q).1.length ≤ 1048576 := by
  unfold joi
  split
  · next h =>
    simp only [Bool.and_eq_true] at h
    have := (isPar_iff (nonc_par h.1.1)).1
    show (renL _).length ≤ _
    rw [renL_len, clos_len, jn_len]; omega
  · simp

end Go.Proofs.Ytdjkmeepkodhjaa
