/- General words of this claim's own: texts as lists of bytes, ranges, trees that lie in memory. No program is named here. -/
import Derived.WalkKit
import Derived.WalkSpells
import Derived.WalkLawsBesides
import Derived.Deep.QuietTactic
import Derived.Deep.RegionWith
import Derived.Deep.RegionHeld3
import Derived.Deep.DeepCutAuto
import Derived.Deep.LoopGhost
import Derived.Deep.Trees
import Derived.BigQuiet
import Derived.Outline
import Derived.Lib.Hide
import Derived.IntWalk
namespace Go.Proofs.Yteiffomekjadgaa
open Go.RowKit

/-- A test of a range, kept behind a name. -/
def inB (x lo hi : Int) : Bool := decide (lo ≤ x) && decide (x ≤ hi)
theorem inB_true {x lo hi : Int} (h1 : lo ≤ x) (h2 : x ≤ hi) : inB x lo hi = true := by simp [inB, h1, h2]
theorem inB_false {x lo hi : Int} (h : x < lo ∨ hi < x) : inB x lo hi = false := by
  unfold inB; rcases h with h | h <;> simp <;> omega
theorem inB_iff {x lo hi : Int} : inB x lo hi = true ↔ lo ≤ x ∧ x ≤ hi := by simp [inB]
theorem inB_not {x lo hi : Int} : inB x lo hi = false ↔ x < lo ∨ hi < x := by
  rcases h : inB x lo hi with _ | _
  · unfold inB at h; simp at h; simp; omega
  · rw [inB_iff] at h; simp; omega

/-- A text out of its bytes. -/
def bs (l : List UInt8) : ByteArray := ⟨⟨l⟩⟩
theorem size_bs (l : List UInt8) : (bs l).size = l.length := rfl
theorem bs_append (a b : List UInt8) : bs a ++ bs b = bs (a ++ b) := by
  apply ByteArray.ext; simp [bs]
theorem toList_bs (l : List UInt8) : (bs l).data.toList = l := rfl
theorem bs_toList (s : ByteArray) : bs s.data.toList = s := by cases s; rfl
theorem bs_lit (a : Array UInt8) : ({ data := a } : ByteArray) = bs a.toList := by cases a; rfl
theorem toList_bs' (l : List UInt8) : (bs l).toList = l := (ByteArray.toList_eq _).trans rfl
theorem getElem_bs (l : List UInt8) (k : Nat) (h : k < (bs l).size) : (bs l)[k]'h = l[k]'h := rfl
theorem extract_bs (l : List UInt8) (a b : Nat) : (bs l).extract a b = bs ((l.drop a).take (b - a)) := by
  apply ByteArray.ext; simp [bs]
theorem ex_bs (s : ByteArray) : ∃ l, s = bs l := ⟨s.data.toList, (bs_toList s).symm⟩
attribute [simp, go_sem] size_bs bs_append toList_bs' getElem_bs extract_bs toList_bs
theorem bs_inj {a b : List UInt8} (h : bs a = bs b) : a = b := by
  have := congrArg (fun s => s.data.toList) h; simpa [bs] using this

theorem ret_bool {a b : Bool} (h : a = b) : Ending.returned (.bool a) = .returned (.bool b) := by rw [h]
theorem ret_int {a b : Int} (h : a = b) : Ending.returned (.int .i64 a) = .returned (.int .i64 b) := by rw [h]
theorem ret_str {a b : List UInt8} (h : a = b) : Ending.returned (.string (bs a)) = .returned (.string (bs b)) := by rw [h]

/-- What a walk is told of a slice of integers that came in (the kit's shells have it so). -/
def IsRow (k : IntKind) (w : World) (a : Option Addr) (len cap : Nat) (zs : List Int) : Prop :=
  (a = none ∧ len = 0 ∧ cap = 0 ∧ zs = []) ∨
  ∃ x, a = some x ∧ len ≤ cap ∧ cap ≤ maxLen ∧ zs.length = cap ∧ (∀ i, i < zs.length → w.cell? (x.add i) = some (.int k (zs.getD i 0))) ∧ ∀ n ∈ zs, (Lit.int k n).wf = true
/-- The like of a slice of strings. -/
def IsStrs (w : World) (a : Option Addr) (len cap : Nat) (zs : List ByteArray) : Prop :=
  (a = none ∧ len = 0 ∧ cap = 0 ∧ zs = []) ∨
  ∃ x, a = some x ∧ len ≤ cap ∧ cap ≤ maxLen ∧ zs.length = cap ∧ (∀ i, i < zs.length → w.cell? (x.add i) = some (.string (zs.getD i ByteArray.empty))) ∧ ∀ s ∈ zs, s.size ≤ maxLen

end Go.Proofs.Yteiffomekjadgaa
