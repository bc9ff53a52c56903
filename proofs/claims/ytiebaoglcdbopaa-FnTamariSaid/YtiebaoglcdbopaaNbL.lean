/- Counting and listing rotations. No program is named here. -/
import Derived.Test.YtiebaoglcdbopaaTreeL
namespace Go.Proofs.Ytiebaoglcdbopaa
open Go.RowKit Go.Deep

def ctR (t : Tr) : Nat → Int
  | 0 => 0
  | k + 1 => if (rotR t k).isSome then ctR t k + 1 else ctR t k
theorem ctR_bd (t : Tr) : ∀ k : Nat, 0 ≤ ctR t k ∧ ctR t k ≤ k
  | 0 => by simp [ctR]
  | k + 1 => by have := ctR_bd t k; unfold ctR; split <;> omega
def crB (l : List UInt8) : Int := match parseB l with
  | none => -1
  | some t => ctR t (nodes t)
theorem crB_no {l : List UInt8} (h : isB l = false) : crB l = -1 := by
  unfold isB at h
  rcases hp : parseB l with _ | t
  · rw [crB, hp]
  · rw [hp] at h; cases h
theorem crB_tx {t : Tr} (h : nodes t ≤ 8) (hs : sh t = t) : crB (tx t) = ctR t (nodes t) := by rw [crB, parseB_tx h, hs]
def rts (f : Tr → Nat → Option Tr) (t : Tr) : Nat → List (List UInt8)
  | 0 => []
  | k + 1 => match f t k with
    | none => rts f t k
    | some x => rts f t k ++ [tx x]
theorem rts_none {f : Tr → Nat → Option Tr} {t : Tr} {k : Nat} (h : f t k = none) : rts f t (k + 1) = rts f t k := by rw [rts, h]
theorem rts_some {f : Tr → Nat → Option Tr} {t x : Tr} {k : Nat} (h : f t k = some x) : rts f t (k + 1) = rts f t k ++ [tx x] := by rw [rts, h]
theorem rts_len (f : Tr → Nat → Option Tr) (t : Tr) : ∀ k : Nat, (rts f t k).length ≤ k
  | 0 => Nat.le_refl _
  | k + 1 => by
    have := rts_len f t k
    rcases h : f t k with _ | x
    · rw [rts_none h]; omega
    · rw [rts_some h, List.length_append]; simp; omega
def rtsB (f : Tr → Nat → Option Tr) (l : List UInt8) : List (List UInt8) := match parseB l with
  | none => []
  | some t => rts f t (nodes t)
theorem rtsB_no {f : Tr → Nat → Option Tr} {l : List UInt8} (h : isB l = false) : rtsB f l = [] := by
  unfold isB at h
  rcases hp : parseB l with _ | t
  · rw [rtsB, hp]
  · rw [hp] at h; cases h
theorem rtsB_tx {f : Tr → Nat → Option Tr} {t : Tr} (h : nodes t ≤ 8) (hs : sh t = t) : rtsB f (tx t) = rts f t (nodes t) := by rw [rtsB, parseB_tx h, hs]
theorem rtsB_len (f : Tr → Nat → Option Tr) (l : List UInt8) : (rtsB f l).length ≤ 8 := by
  rcases isB_cases l with hb | ⟨t, rfl, h8, hs⟩
  · rw [rtsB_no hb]; simp
  · rw [rtsB_tx h8 hs]; have := rts_len f t (nodes t); omega
def nbB (l : List UInt8) : List (List UInt8) := rtsB rotR l ++ rtsB rotL l

end Go.Proofs.Ytiebaoglcdbopaa
