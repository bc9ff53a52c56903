/- Words of letters u and d: heights, and which words are Dyck paths of at most 8 letters u. No program is named here. -/
import Derived.Test.YteiffomekjadgaaInts
namespace Go.Proofs.Yteiffomekjadgaa
open Go.RowKit

/-- The height behind the first k letters. -/
def hat (l : List UInt8) : Nat → Int
  | 0 => 0
  | k + 1 => if l[k]? = some 117 then hat l k + 1 else hat l k - 1
/-- The first k letters are u and d, and never more d than u. -/
def okB (l : List UInt8) : Nat → Bool
  | 0 => true
  | k + 1 => okB l k && ((l[k]? == some 117) || (l[k]? == some 100)) && decide (0 ≤ hat l (k + 1))
def pathB (l : List UInt8) : Bool := okB l l.length && (hat l l.length == 0)
def dyck (l : List UInt8) : Bool := decide (l.length ≤ 16) && pathB l
def htsTo (l : List UInt8) (k : Nat) : List Int := (List.range k).map (hat l)
def hts (l : List UInt8) : List Int := htsTo l (l.length + 1)
theorem htsTo_len (l : List UInt8) (k : Nat) : (htsTo l k).length = k := by simp [htsTo]
theorem hts_len (l : List UInt8) : (hts l).length = l.length + 1 := htsTo_len _ _
theorem htsTo_succ (l : List UInt8) (k : Nat) : htsTo l (k + 1) = htsTo l k ++ [hat l k] := by simp [htsTo, List.range_succ]
theorem hts_at {l : List UInt8} {k : Nat} {x : Int} (h : (hts l)[k]? = some x) : x = hat l k ∧ k ≤ l.length := by
  unfold hts htsTo at h
  rw [List.getElem?_map, Option.map_eq_some_iff] at h
  obtain ⟨j, hj, rfl⟩ := h
  obtain ⟨h1, h2⟩ := List.getElem?_eq_some_iff.1 hj
  simp at h1 h2
  subst h2
  exact ⟨rfl, by omega⟩
theorem hat_bd (l : List UInt8) : ∀ k : Nat, -(k : Int) ≤ hat l k ∧ hat l k ≤ k
  | 0 => by simp [hat]
  | k + 1 => by
    have := hat_bd l k
    simp only [hat]
    split <;> omega
theorem okB_nn {l : List UInt8} {k : Nat} (h : okB l k = true) : 0 ≤ hat l k := by
  cases k with
  | zero => simp [hat]
  | succ k => simp only [okB, Bool.and_eq_true, decide_eq_true_eq] at h; exact h.2
theorem hat_u {l : List UInt8} {k : Nat} (h : l[k]? = some 117) : hat l (k + 1) = hat l k + 1 := by simp [hat, h]
theorem hat_d {l : List UInt8} {k : Nat} {c : UInt8} (h : l[k]? = some c) (hc : c ≠ 117) : hat l (k + 1) = hat l k - 1 := by
  rw [hat, h, if_neg]; simpa using hc
theorem okB_mono {l : List UInt8} {j k : Nat} (h : okB l k = true) (hj : j ≤ k) : okB l j = true := by
  induction k with
  | zero => obtain rfl : j = 0 := by omega
            exact h
  | succ k ih =>
    rcases Nat.lt_or_ge j (k + 1) with hlt | hge
    · simp only [okB, Bool.and_eq_true] at h
      exact ih h.1.1 (by omega)
    · obtain rfl : j = k + 1 := by omega
      exact h
theorem okB_false {l : List UInt8} {k n : Nat} (h : okB l k = false) (hk : k ≤ n) : okB l n = false := by
  rcases hb : okB l n with _ | _
  · rfl
  · rw [okB_mono hb hk] at h; exact h
theorem okB_u {l : List UInt8} {k : Nat} (h : okB l k = true) (hu : l[k]? = some 117) : okB l (k + 1) = true := by
  have h0 := okB_nn h
  simp only [okB, h, hu, hat_u hu, Bool.and_eq_true, decide_eq_true_eq]
  exact ⟨by decide, by omega⟩
theorem okB_d {l : List UInt8} {k : Nat} (h : okB l k = true) (hu : l[k]? = some 100) (hh : 1 ≤ hat l k) : okB l (k + 1) = true := by
  simp only [okB, h, hu, hat_d hu (by decide), Bool.and_eq_true, decide_eq_true_eq]
  exact ⟨by decide, by omega⟩
theorem okB_d' {l : List UInt8} {k : Nat} (hu : l[k]? = some 100) (hh : hat l k < 1) : okB l (k + 1) = false := by
  have : ¬ 0 ≤ hat l (k + 1) := by rw [hat_d hu (by decide)]; omega
  simp [okB, this]
theorem okB_x {l : List UInt8} {k : Nat} {c : UInt8} (hu : l[k]? = some c) (h1 : c ≠ 117) (h2 : c ≠ 100) : okB l (k + 1) = false := by
  simp [okB, hu, h1, h2]
theorem pathB_false {l : List UInt8} {k : Nat} (h : okB l k = false) (hk : k ≤ l.length) : pathB l = false := by
  simp [pathB, okB_false h hk]
theorem dyck_pathB {l : List UInt8} (h : dyck l = true) : l.length ≤ 16 ∧ okB l l.length = true ∧ hat l l.length = 0 := by
  simpa [dyck, pathB, and_assoc] using h
theorem u8_ne {c d : UInt8} (h : c ≠ d) : ((c.toNat : Int) == (d.toNat : Int)) = false := by
  simp only [beq_eq_false_iff_ne, ne_eq]
  intro he
  apply h
  have : c.toNat = d.toNat := by omega
  exact UInt8.toNat_inj.1 this

end Go.Proofs.Yteiffomekjadgaa
