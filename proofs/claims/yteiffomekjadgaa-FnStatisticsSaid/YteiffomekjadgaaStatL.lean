/- The statistics of a path, as loops count them. No program is named here. -/
import Derived.Test.YteiffomekjadgaaPartL
import Derived.Test.YteiffomekjadgaaBlocks
namespace Go.Proofs.Yteiffomekjadgaa
set_option linter.unusedVariables false
open Go.RowKit

def pk (l : List UInt8) : Nat → Nat
  | 0 => 0
  | k + 1 => if l[k]? = some 117 ∧ l[k + 1]? = some 100 then pk l k + 1 else pk l k
def rtn (l : List UInt8) : Nat → Nat
  | 0 => 0
  | k + 1 => if hat l (k + 1) = 0 then rtn l k + 1 else rtn l k
def mjr (l : List UInt8) : Nat → Nat
  | 0 => 0
  | k + 1 => if l[k]? = some 100 ∧ l[k + 1]? = some 117 then mjr l k + (k + 1) else mjr l k
def ars (l : List UInt8) : Nat → Int
  | 0 => 0
  | k + 1 => if l[k]? = some 117 then ars l k + hat l k else ars l k
def dps (l : List UInt8) : Nat → Int
  | 0 => 0
  | k + 1 => if dps l k < hat l k then hat l k else dps l k
def runC (c : UInt8) (l : List UInt8) : Nat := (l.takeWhile (· == c)).length
theorem runC_eq {c : UInt8} : ∀ {l : List UInt8} {k : Nat}, (∀ j, j < k → l[j]? = some c) → l[k]? ≠ some c → runC c l = k
  | [], 0, _, _ => rfl
  | [], k + 1, h, _ => by have := h 0 (by omega); simp at this
  | x :: l, 0, _, h => by
    have : ¬ x = c := by simpa using h
    simp [runC, this]
  | x :: l, k + 1, h, he => by
    have hx : x = c := by have := h 0 (by omega); simpa using this
    have := runC_eq (l := l) (k := k) (fun j hj => by have := h (j + 1) (by omega); simpa using this) (by simpa using he)
    unfold runC at this ⊢
    simp [hx, this]
theorem pk_le (l : List UInt8) : ∀ k, pk l k ≤ k
  | 0 => Nat.le_refl _
  | k + 1 => by have := pk_le l k; rw [pk]; split <;> omega
theorem rtn_le (l : List UInt8) : ∀ k, rtn l k ≤ k
  | 0 => Nat.le_refl _
  | k + 1 => by have := rtn_le l k; rw [rtn]; split <;> omega
theorem mjr_le (l : List UInt8) : ∀ k, mjr l k ≤ k * k
  | 0 => Nat.le_refl _
  | k + 1 => by
    have := mjr_le l k
    have h2 : (k + 1) * (k + 1) = k * k + k + k + 1 := by rw [Nat.add_mul, Nat.mul_add]; omega
    rw [mjr]; split <;> omega
theorem ars_bd {l : List UInt8} {n : Nat} (h : okB l n = true) (hn : n ≤ 16) : ∀ k, k ≤ n → 0 ≤ ars l k ∧ ars l k ≤ k * 16
  | 0, _ => by simp [ars]
  | k + 1, hk => by
    have h1 := ars_bd h hn k (by omega)
    have h2 := okB_nn (okB_mono h (show k ≤ n by omega))
    have h3 := hat_bd l k
    rw [ars]
    split <;> omega
theorem dps_bd (l : List UInt8) : ∀ k, 0 ≤ dps l k ∧ dps l k ≤ k
  | 0 => by simp [dps]
  | k + 1 => by
    have h1 := dps_bd l k
    have h3 := hat_bd l k
    rw [dps]
    split <;> omega
theorem runC_le (c : UInt8) (l : List UInt8) : runC c l ≤ l.length := by
  unfold runC
  induction l with
  | nil => exact Nat.le_refl _
  | cons x l ih => rw [List.takeWhile_cons]; split <;> simp <;> omega

/-! The plane tree: the stack of open nodes, the parents. -/
def stkS (l : List UInt8) (k : Nat) : List Int := 0 :: opP (fun j => ups l j + 1) l k
def tpS (l : List UInt8) (k : Nat) : Nat := ((stkS l k).getD ((stkS l k).length - 1) 0).toNat
def plP (l : List UInt8) : Nat → List Int
  | 0 => [-1]
  | k + 1 => if l[k]? = some 117 then plP l k ++ [(tpS l k : Int)] else plP l k
theorem plP_len (l : List UInt8) : ∀ k, (plP l k).length = ups l k + 1
  | 0 => rfl
  | k + 1 => by rw [plP, ups]; split <;> simp [plP_len l k]
/-- The node x lies on the way from v up to the root. -/
def onCh (p : List Int) : Nat → Nat → Int → Bool
  | 0, _, _ => false
  | F + 1, v, x => (x == (v : Int)) || (!(v == 0) && onCh p F (p.getD v 0).toNat x)
/-- A list of parents that fits: each but the first lies ahead, on the way up from the node ahead. -/
def planeB (p : List Int) : Bool := decide (1 ≤ p.length) && decide (p.length ≤ 9) && (p.getD 0 0 == -1) && (List.range p.length).all fun i => (i == 0) || (decide (0 ≤ p.getD i 0) && decide (p.getD i 0 < i) && onCh p 10 (i - 1) (p.getD i 0))
def chP (p : List Int) (v : Nat) : Nat → List Int
  | 0 => []
  | i + 1 => if p.getD i 0 = (v : Int) then chP p v i ++ [(i : Int)] else chP p v i
theorem chP_len (p : List Int) (v : Nat) : ∀ i, (chP p v i).length ≤ i
  | 0 => Nat.le_refl _
  | i + 1 => by have := chP_len p v i; rw [chP]; split <;> simp <;> omega
def lvP (p : List Int) : Nat → Nat
  | 0 => 0
  | v + 1 => if (chP p v p.length).length = 0 then lvP p v + 1 else lvP p v
theorem lvP_le (p : List Int) : ∀ k, lvP p k ≤ k
  | 0 => Nat.le_refl _
  | k + 1 => by have := lvP_le p k; rw [lvP]; split <;> omega
/-- The parent of the top node is the one below it. -/
def tpB (l : List UInt8) : Bool := (List.range l.length).all fun k => (l[k]? == some 117) || ((plP l k).getD (tpS l k) 0 == (tpS l (k + 1) : Int))
/-- The stack shrinks by its top. -/
def lvN (l : List UInt8) : Nat := if l = [] then 1 else pk l (l.length - 1)
def blkB (p : List Int) (x : Nat) : Bool := isPar p && (nx p p.length == (x : Int))
def goodB (l : List UInt8) : Bool := tpB l && planeB (plP l l.length) && (lvP (plP l l.length) (plP l l.length).length == lvN l) && blkB (parI l).1 (pk l (l.length - 1)) && blkB (parS l).1 (pk l (l.length - 1))
def goodN (n : Nat) : Bool := (paths n).all goodB
theorem good_6 : (List.range 7).all goodN = true := by decide +kernel
def u8d8 : List UInt8 := [117, 117, 117, 117, 117, 117, 117, 117, 100, 100, 100, 100, 100, 100, 100, 100]
theorem good_u8 : goodB u8d8 = true := by decide +kernel
theorem good_p {n : Nat} (hn : n ≤ 6) {l : List UInt8} (h : l ∈ paths n) : goodB l = true := List.all_eq_true.1 (List.all_eq_true.1 good_6 n (List.mem_range.2 (by omega))) l h

end Go.Proofs.Yteiffomekjadgaa
