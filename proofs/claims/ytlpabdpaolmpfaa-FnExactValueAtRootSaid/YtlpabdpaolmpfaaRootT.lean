/- The powers of x modulo the cyclotomic polynomials 1 to 16, and the fold of a polynomial. -/
import Derived.Test.YtlpabdpaolmpfaaRootL
import Derived.Test.YtlpabdpaolmpfaaCycT
namespace Go.Proofs.Ytlpabdpaolmpfaa
open Go.RowKit

def rt0 : List (List Int) := []
def rt1 : List (List Int) := [[1]]
def rt2 : List (List Int) := [[1], [-1]]
def rt3 : List (List Int) := [[1, 0], [0, 1], [-1, -1]]
def rt4 : List (List Int) := [[1, 0], [0, 1], [-1, 0], [0, -1]]
def rt5 : List (List Int) := [[1, 0, 0, 0], [0, 1, 0, 0], [0, 0, 1, 0], [0, 0, 0, 1], [-1, -1, -1, -1]]
def rt6 : List (List Int) := [[1, 0], [0, 1], [-1, 1], [-1, 0], [0, -1], [1, -1]]
def rt7 : List (List Int) := [[1, 0, 0, 0, 0, 0], [0, 1, 0, 0, 0, 0], [0, 0, 1, 0, 0, 0], [0, 0, 0, 1, 0, 0], [0, 0, 0, 0, 1, 0], [0, 0, 0, 0, 0, 1], [-1, -1, -1, -1, -1, -1]]
def rt8 : List (List Int) := [[1, 0, 0, 0], [0, 1, 0, 0], [0, 0, 1, 0], [0, 0, 0, 1], [-1, 0, 0, 0], [0, -1, 0, 0], [0, 0, -1, 0], [0, 0, 0, -1]]
def rt9 : List (List Int) := [[1, 0, 0, 0, 0, 0], [0, 1, 0, 0, 0, 0], [0, 0, 1, 0, 0, 0], [0, 0, 0, 1, 0, 0], [0, 0, 0, 0, 1, 0], [0, 0, 0, 0, 0, 1], [-1, 0, 0, -1, 0, 0], [0, -1, 0, 0, -1, 0], [0, 0, -1, 0, 0, -1]]
def rt10 : List (List Int) := [[1, 0, 0, 0], [0, 1, 0, 0], [0, 0, 1, 0], [0, 0, 0, 1], [-1, 1, -1, 1], [-1, 0, 0, 0], [0, -1, 0, 0], [0, 0, -1, 0], [0, 0, 0, -1], [1, -1, 1, -1]]
def rt11 : List (List Int) := [[1, 0, 0, 0, 0, 0, 0, 0, 0, 0], [0, 1, 0, 0, 0, 0, 0, 0, 0, 0], [0, 0, 1, 0, 0, 0, 0, 0, 0, 0], [0, 0, 0, 1, 0, 0, 0, 0, 0, 0], [0, 0, 0, 0, 1, 0, 0, 0, 0, 0], [0, 0, 0, 0, 0, 1, 0, 0, 0, 0], [0, 0, 0, 0, 0, 0, 1, 0, 0, 0], [0, 0, 0, 0, 0, 0, 0, 1, 0, 0], [0, 0, 0, 0, 0, 0, 0, 0, 1, 0], [0, 0, 0, 0, 0, 0, 0, 0, 0, 1], [-1, -1, -1, -1, -1, -1, -1, -1, -1, -1]]
def rt12 : List (List Int) := [[1, 0, 0, 0], [0, 1, 0, 0], [0, 0, 1, 0], [0, 0, 0, 1], [-1, 0, 1, 0], [0, -1, 0, 1], [-1, 0, 0, 0], [0, -1, 0, 0], [0, 0, -1, 0], [0, 0, 0, -1], [1, 0, -1, 0], [0, 1, 0, -1]]
def rt13 : List (List Int) := [[1, 0, 0, 0, 0, 0, 0, 0, 0, 0, 0, 0], [0, 1, 0, 0, 0, 0, 0, 0, 0, 0, 0, 0], [0, 0, 1, 0, 0, 0, 0, 0, 0, 0, 0, 0], [0, 0, 0, 1, 0, 0, 0, 0, 0, 0, 0, 0], [0, 0, 0, 0, 1, 0, 0, 0, 0, 0, 0, 0], [0, 0, 0, 0, 0, 1, 0, 0, 0, 0, 0, 0], [0, 0, 0, 0, 0, 0, 1, 0, 0, 0, 0, 0], [0, 0, 0, 0, 0, 0, 0, 1, 0, 0, 0, 0], [0, 0, 0, 0, 0, 0, 0, 0, 1, 0, 0, 0], [0, 0, 0, 0, 0, 0, 0, 0, 0, 1, 0, 0], [0, 0, 0, 0, 0, 0, 0, 0, 0, 0, 1, 0], [0, 0, 0, 0, 0, 0, 0, 0, 0, 0, 0, 1], [-1, -1, -1, -1, -1, -1, -1, -1, -1, -1, -1, -1]]
def rt14 : List (List Int) := [[1, 0, 0, 0, 0, 0], [0, 1, 0, 0, 0, 0], [0, 0, 1, 0, 0, 0], [0, 0, 0, 1, 0, 0], [0, 0, 0, 0, 1, 0], [0, 0, 0, 0, 0, 1], [-1, 1, -1, 1, -1, 1], [-1, 0, 0, 0, 0, 0], [0, -1, 0, 0, 0, 0], [0, 0, -1, 0, 0, 0], [0, 0, 0, -1, 0, 0], [0, 0, 0, 0, -1, 0], [0, 0, 0, 0, 0, -1], [1, -1, 1, -1, 1, -1]]
def rt15 : List (List Int) := [[1, 0, 0, 0, 0, 0, 0, 0], [0, 1, 0, 0, 0, 0, 0, 0], [0, 0, 1, 0, 0, 0, 0, 0], [0, 0, 0, 1, 0, 0, 0, 0], [0, 0, 0, 0, 1, 0, 0, 0], [0, 0, 0, 0, 0, 1, 0, 0], [0, 0, 0, 0, 0, 0, 1, 0], [0, 0, 0, 0, 0, 0, 0, 1], [-1, 1, 0, -1, 1, -1, 0, 1], [-1, 0, 1, -1, 0, 0, -1, 1], [-1, 0, 0, 0, 0, -1, 0, 0], [0, -1, 0, 0, 0, 0, -1, 0], [0, 0, -1, 0, 0, 0, 0, -1], [1, -1, 0, 0, -1, 1, 0, -1], [1, 0, -1, 1, -1, 0, 1, -1]]
def rt16 : List (List Int) := [[1, 0, 0, 0, 0, 0, 0, 0], [0, 1, 0, 0, 0, 0, 0, 0], [0, 0, 1, 0, 0, 0, 0, 0], [0, 0, 0, 1, 0, 0, 0, 0], [0, 0, 0, 0, 1, 0, 0, 0], [0, 0, 0, 0, 0, 1, 0, 0], [0, 0, 0, 0, 0, 0, 1, 0], [0, 0, 0, 0, 0, 0, 0, 1], [-1, 0, 0, 0, 0, 0, 0, 0], [0, -1, 0, 0, 0, 0, 0, 0], [0, 0, -1, 0, 0, 0, 0, 0], [0, 0, 0, -1, 0, 0, 0, 0], [0, 0, 0, 0, -1, 0, 0, 0], [0, 0, 0, 0, 0, -1, 0, 0], [0, 0, 0, 0, 0, 0, -1, 0], [0, 0, 0, 0, 0, 0, 0, -1]]
def rtT : Nat → List (List Int)
  | 0 => rt0
  | 1 => rt1
  | 2 => rt2
  | 3 => rt3
  | 4 => rt4
  | 5 => rt5
  | 6 => rt6
  | 7 => rt7
  | 8 => rt8
  | 9 => rt9
  | 10 => rt10
  | 11 => rt11
  | 12 => rt12
  | 13 => rt13
  | 14 => rt14
  | 15 => rt15
  | 16 => rt16
  | _ => []
def phi (d t j : Nat) : Int := ((rtT d).getD (j % d) []).getD t 0
def rtOk (d : Nat) : Bool :=
  let m := (cycT d).length - 1
  (decide (1 ≤ m) && decide (m ≤ 12) && decide (m ≤ d) && ((cycT d).getD m 0 == 1)) &&
  (List.range m).all fun t => ((List.range m).all fun j => phi d t j == if j = t then 1 else 0) && ((List.range d).all fun z => (sm (cycT d).length (fun k => (cycT d).getD k 0 * phi d t (z + k)) == 0) && decide (-5 ≤ phi d t z) && decide (phi d t z ≤ 5))
theorem rtOk_16 : ∀ d : Nat, d < 17 → 1 ≤ d → rtOk d = true := by decide +kernel
theorem phi_mod (d t j : Nat) : phi d t (j % d) = phi d t j := by unfold phi; rw [Nat.mod_mod]
theorem rtMaps {d : Nat} (h : d < 17) (h1 : 1 ≤ d) : Maps (cycT d) ((cycT d).length - 1) (phi d) := by
  have h0 := rtOk_16 d h h1
  unfold rtOk at h0
  simp only [Bool.and_eq_true, List.all_eq_true, List.mem_range, decide_eq_true_eq, beq_iff_eq] at h0
  obtain ⟨⟨⟨⟨g1, g2⟩, g3⟩, g4⟩, g5⟩ := h0
  refine ⟨by omega, g1, g2, g4, fun t j ht hj => (g5 t ht).1 j hj, fun t z ht => ?_, fun t j ht => ?_⟩
  · unfold Kills
    have := (((g5 t ht).2 (z % d) (Nat.mod_lt _ (by omega))).1).1
    refine Eq.trans ?_ this
    apply sm_congr
    intro k _
    rw [← phi_mod d t (z + k), ← phi_mod d t (z % d + k), Nat.mod_add_mod]
  · have h2 := (g5 t ht).2 (j % d) (Nat.mod_lt _ (by omega))
    rw [phi_mod] at h2
    exact ⟨h2.1.2, h2.2⟩

/-- The fold of the first k coefficients. -/
def foldP (p : List Int) (d : Nat) : Nat → List Int
  | 0 => List.replicate d 0
  | k + 1 => (foldP p d k).set (k % d) ((foldP p d k).getD (k % d) 0 + p.getD k 0)
theorem foldP_len (p : List Int) (d : Nat) : ∀ k, (foldP p d k).length = d
  | 0 => by simp [foldP]
  | k + 1 => by simp [foldP, foldP_len p d k]
theorem foldP_bd {p : List Int} {d : Nat} (hd : 1 ≤ d) (hp : ∀ j, -100000 ≤ p.getD j 0 ∧ p.getD j 0 ≤ 100000) : ∀ k j : Nat, -(k * 100000 : Int) ≤ (foldP p d k).getD j 0 ∧ (foldP p d k).getD j 0 ≤ k * 100000
  | 0, j => by rw [foldP, getD_rep]; simp
  | k + 1, j => by
    have h1 := foldP_bd hd hp k
    have hl := foldP_len p d k
    rw [foldP, getD_set _ _ _ _ (by rw [hl]; exact Nat.mod_lt _ hd)]
    have h2 := h1 j
    have h3 := h1 (k % d)
    have h4 := hp k
    split <;> omega
theorem V_set (f : Nat → Int) (r : List Int) (i : Nat) (x : Int) (hi : i < r.length) (hr : r.length ≤ 80) : V f (r.set i x) = V f r + (x - r.getD i 0) * f i := by
  unfold V
  have e : sm 80 (fun j => (r.set i x).getD j 0 * f j) = sm 80 (fun j => r.getD j 0 * f j + (if j = i then (x - r.getD i 0) * f i else 0)) := by
    apply sm_congr
    intro j _
    rw [getD_set _ _ _ _ hi]
    by_cases h : i = j
    · subst h; rw [if_pos rfl, if_pos rfl, ← Int.add_mul]; congr 1; omega
    · rw [if_neg h, if_neg (fun h' => h h'.symm), Int.add_zero]
  rw [e, sm_add]
  congr 1
  rw [sm_one (i := i) 80 (by omega) (fun j _ hj => by rw [if_neg hj]), if_pos rfl]
theorem V_fold (p : List Int) {d t : Nat} (hd : 1 ≤ d) (hd' : d < 17) : ∀ k, V (phi d t) (foldP p d k) = sm k (fun j => p.getD j 0 * phi d t j)
  | 0 => by
    unfold V
    rw [sm_zero]
    · rfl
    · intro j _; rw [foldP, getD_rep, Int.zero_mul]
  | k + 1 => by
    have hl := foldP_len p d k
    rw [foldP, V_set _ _ _ _ (by rw [hl]; exact Nat.mod_lt _ hd) (by omega), V_fold p hd hd' k, sm]
    congr 1
    rw [phi_mod]
    congr 1
    omega
theorem V_of_len (f : Nat → Int) (p : List Int) (hp : p.length ≤ 80) : V f p = sm p.length (fun j => p.getD j 0 * f j) := by
  unfold V
  obtain ⟨k, hk⟩ : ∃ k, 80 = p.length + k := ⟨80 - p.length, by omega⟩
  rw [hk, sm_tail]
  intro j h1 _
  rw [getD_out h1, Int.zero_mul]

/-- What ValueAtRoot answers by the remainder. -/
def vr1 (r : List Int) : Int × Bool := match r with
  | [] => (0, true)
  | [c] => (c, true)
  | _ => (0, false)
def remP (p : List Int) (d : Nat) : List Int := match divQ p (cycT d) with
  | none => []
  | some (_, r) => trimL r
def vrP (p : List Int) (d : Int) : Int × Bool := if isFac p && inB d 1 16 then vr1 (remP p d.toNat) else (0, false)
theorem fac_getD {p : List Int} (h : isFac p = true) (j : Nat) : -100000 ≤ p.getD j 0 ∧ p.getD j 0 ≤ 100000 := by
  have := (isFac_iff h).2
  rw [List.getD_eq_getElem?_getD]
  rcases hg : p[j]? with _ | x
  · simp
  · exact this x (List.mem_of_getElem? hg)
theorem foldP_mem {p : List Int} (h : isFac p = true) {d : Nat} (hd : 1 ≤ d) : ∀ x ∈ foldP p d p.length, -6100000 ≤ x ∧ x ≤ 6100000 := by
  intro x hx
  obtain ⟨j, hj⟩ := List.mem_iff_getElem?.1 hx
  have h1 := foldP_bd hd (fac_getD h) p.length j
  have h2 := (isFac_iff h).1
  rw [List.getD_eq_getElem?_getD, hj] at h1
  simp at h1
  omega
/-- The division of a factor ends well. -/
theorem div_fac {p : List Int} (h : isFac p = true) {d : Nat} (hd : 1 ≤ d) (hd' : d < 17) : ∃ q r, divQ p (cycT d) = some (q, r) ∧ remP p d = trimL r := by
  obtain ⟨q, r, h1, _, _⟩ := divQ_maps (b := 100000) (rtMaps hd' hd) (isFac_iff h).1 (isFac_iff h).2 (by have := (isFac_iff h).1; omega)
  exact ⟨q, r, h1, by rw [remP, h1]⟩
/-- So does that of its fold, with the same remainder. -/
theorem div_fold {p : List Int} (h : isFac p = true) {d : Nat} (hd : 1 ≤ d) (hd' : d < 17) : ∃ q r, divQ (foldP p d p.length) (cycT d) = some (q, r) ∧ remP p d = trimL r := by
  obtain ⟨q, r, h1, h2, h3⟩ := divQ_maps (b := 100000) (rtMaps hd' hd) (isFac_iff h).1 (isFac_iff h).2 (by have := (isFac_iff h).1; omega)
  have hl := foldP_len p d p.length
  obtain ⟨q', r', h1', h2', h3'⟩ := divQ_maps (b := 6100000) (rtMaps hd' hd) (p := foldP p d p.length) (by omega) (foldP_mem h hd) (by rw [hl]; omega)
  refine ⟨q', r', h1', ?_⟩
  rw [remP, h1]
  apply trimL_congr
  intro j
  rcases Nat.lt_or_ge j ((cycT d).length - 1) with hj | hj
  · rw [h3 j hj, h3' j hj, V_fold p hd hd', V_of_len _ _ (by have := (isFac_iff h).1; omega)]
  · rw [h2 j hj, h2' j hj]

end Go.Proofs.Ytlpabdpaolmpfaa
