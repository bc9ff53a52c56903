/- Merged: Lib PathsL. -/
import Derived.WalkKit
import Derived.WalkSpells
import Derived.WalkLawsBesides
import Derived.Deep.QuietTactic
import Derived.Deep.RegionWith
import Derived.Deep.RegionHeld3
import Derived.Deep.DeepCutAuto
import Derived.Deep.LoopGhost
import Derived.Deep.Trees
import Derived.BigQuiet
import Derived.Outline
import Derived.Lib.Hide
import Derived.IntWalk

namespace Go.Proofs.YtghfhkbncjgaeaaGreat
open Go.RowKit

/-- A test of a range, kept behind a name. -/
def inB (x lo hi : Int) : Bool := decide (lo ≤ x) && decide (x ≤ hi)
theorem inB_true {x lo hi : Int} (h1 : lo ≤ x) (h2 : x ≤ hi) : inB x lo hi = true := by simp [inB, h1, h2]
theorem inB_false {x lo hi : Int} (h : x < lo ∨ hi < x) : inB x lo hi = false := by
  unfold inB; rcases h with h | h <;> simp <;> omega
theorem inB_iff {x lo hi : Int} : inB x lo hi = true ↔ lo ≤ x ∧ x ≤ hi := by simp [inB]
theorem inB_not {x lo hi : Int} : inB x lo hi = false ↔ x < lo ∨ hi < x := by
  rcases h : inB x lo hi with _ | _
  · unfold inB at h; simp at h; simp; omega
  · rw [inB_iff] at h; simp; omega

/-- A text out of its bytes. -/
def bs (l : List UInt8) : ByteArray := ⟨⟨l⟩⟩
theorem size_bs (l : List UInt8) : (bs l).size = l.length := rfl
theorem bs_append (a b : List UInt8) : bs a ++ bs b = bs (a ++ b) := by
  apply ByteArray.ext; simp [bs]
theorem toList_bs (l : List UInt8) : (bs l).data.toList = l := rfl
theorem bs_toList (s : ByteArray) : bs s.data.toList = s := by cases s; rfl
theorem bs_lit (a : Array UInt8) : ({ data := a } : ByteArray) = bs a.toList := by cases a; rfl
theorem toList_bs' (l : List UInt8) : (bs l).toList = l := (ByteArray.toList_eq _).trans rfl
theorem getElem_bs (l : List UInt8) (k : Nat) (h : k < (bs l).size) : (bs l)[k]'h = l[k]'h := rfl
theorem extract_bs (l : List UInt8) (a b : Nat) : (bs l).extract a b = bs ((l.drop a).take (b - a)) := by
  apply ByteArray.ext; simp [bs]
theorem ex_bs (s : ByteArray) : ∃ l, s = bs l := ⟨s.data.toList, (bs_toList s).symm⟩
attribute [simp, go_sem] size_bs bs_append toList_bs' getElem_bs extract_bs toList_bs
theorem bs_inj {a b : List UInt8} (h : bs a = bs b) : a = b := by
  have := congrArg (fun s => s.data.toList) h; simpa [bs] using this

theorem ret_bool {a b : Bool} (h : a = b) : Ending.returned (.bool a) = .returned (.bool b) := by rw [h]
theorem ret_int {a b : Int} (h : a = b) : Ending.returned (.int .i64 a) = .returned (.int .i64 b) := by rw [h]
theorem ret_str {a b : List UInt8} (h : a = b) : Ending.returned (.string (bs a)) = .returned (.string (bs b)) := by rw [h]

/-- What a walk is told of a slice of integers that came in (the kit's shells have it so). -/
def IsRow (k : IntKind) (w : World) (a : Option Addr) (len cap : Nat) (zs : List Int) : Prop :=
  (a = none ∧ len = 0 ∧ cap = 0 ∧ zs = []) ∨
  ∃ x, a = some x ∧ len ≤ cap ∧ cap ≤ maxLen ∧ zs.length = cap ∧ (∀ i, i < zs.length → w.cell? (x.add i) = some (.int k (zs.getD i 0))) ∧ ∀ n ∈ zs, (Lit.int k n).wf = true
/-- The like of a slice of strings. -/
def IsStrs (w : World) (a : Option Addr) (len cap : Nat) (zs : List ByteArray) : Prop :=
  (a = none ∧ len = 0 ∧ cap = 0 ∧ zs = []) ∨
  ∃ x, a = some x ∧ len ≤ cap ∧ cap ≤ maxLen ∧ zs.length = cap ∧ (∀ i, i < zs.length → w.cell? (x.add i) = some (.string (zs.getD i ByteArray.empty))) ∧ ∀ s ∈ zs, s.size ≤ maxLen

end Go.Proofs.YtghfhkbncjgaeaaGreat

namespace Go.Proofs.YtghfhkbncjgaeaaGreat

/-- The ways to go on with so many letters u and d; f is fuel. -/
def pth : Nat → List UInt8 → Nat → Nat → List (List UInt8)
  | 0, l, _, _ => [l]
  | f + 1, l, u, d => if d = 0 then [l] else (if 0 < u then pth f (l ++ [117]) (u - 1) d else []) ++ (if u < d then pth f (l ++ [100]) u (d - 1) else [])
def paths (n : Nat) : List (List UInt8) := pth (2 * n) [] n n
theorem pth_done {f : Nat} {l : List UInt8} {u : Nat} : pth f l u 0 = [l] := by cases f <;> simp [pth]
theorem pth_go {f : Nat} {l : List UInt8} {u d : Nat} (hd : 0 < d) : pth (f + 1) l u d = (if 0 < u then pth f (l ++ [117]) (u - 1) d else []) ++ (if u < d then pth f (l ++ [100]) u (d - 1) else []) := by
  rw [pth, if_neg (by omega)]
theorem pth_len : ∀ (f : Nat) (l : List UInt8) (u d : Nat), (pth f l u d).length ≤ 2 ^ f
  | 0, _, _, _ => by simp [pth]
  | f + 1, l, u, d => by
    have h1 := pth_len f (l ++ [117]) (u - 1) d
    have h2 := pth_len f (l ++ [100]) u (d - 1)
    have h3 : 0 < 2 ^ f := Nat.two_pow_pos f
    rw [Nat.pow_succ]
    unfold pth
    split
    · simp; omega
    · rw [List.length_append]
      split <;> split <;> simp <;> omega
theorem pth_mem : ∀ (f : Nat) (l : List UInt8) (u d : Nat), ∀ x ∈ pth f l u d, x.length ≤ l.length + f
  | 0, l, u, d, x, hx => by simp [pth] at hx; subst hx; omega
  | f + 1, l, u, d, x, hx => by
    unfold pth at hx
    split at hx
    · simp at hx; subst hx; omega
    · rw [List.mem_append] at hx
      rcases hx with hx | hx
      · split at hx
        · have := pth_mem f _ _ _ x hx; simp at this; omega
        · cases hx
      · split at hx
        · have := pth_mem f _ _ _ x hx; simp at this; omega
        · cases hx
theorem pow16 {f : Nat} (h : f ≤ 16) : 2 ^ f ≤ 65536 := Nat.pow_le_pow_right (by omega) h
theorem paths_len {n : Nat} (h : n ≤ 8) : (paths n).length ≤ 65536 := Nat.le_trans (pth_len _ _ _ _) (pow16 (by omega))
theorem paths_mem {n : Nat} {x : List UInt8} (hx : x ∈ paths n) : x.length ≤ 2 * n := by have := pth_mem _ _ _ _ x hx; simpa using this

end Go.Proofs.YtghfhkbncjgaeaaGreat
