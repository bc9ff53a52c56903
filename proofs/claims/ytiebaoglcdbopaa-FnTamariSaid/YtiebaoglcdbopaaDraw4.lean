/- Words of paths that are drawn, spoiled or not. -/
import Derived.Test.YtiebaoglcdbopaaDraw3
namespace Go.Proofs.Ytiebaoglcdbopaa
set_option linter.unusedVariables false
open Go.RowKit

theorem RetDS.imp {p q : List UInt8 → Prop} {g n c : Nat} {A : Option Addr} {zs : List Int} {w : World} {e : Ending} {w' : World} (h : RetDS p g A n c zs w e w') (hpq : ∀ l, p l → q l) : RetDS q g A n c zs w e w' := by
  obtain ⟨l, hl, r⟩ := h
  exact ⟨l, hpq l hl, r⟩


/-- Two words that are drawn. -/
def RetW2 (w : World) (e : Ending) (w' : World) : Prop :=
  ∃ a b : List UInt8, a.length ≤ 1000 ∧ b.length ≤ 1000 ∧ e = .returned (.tuple #[.string (bs a), .string (bs b)]) ∧ Below w.heap.size w w'
/-- A word that is drawn. -/
def RetW1 (w : World) (e : Ending) (w' : World) : Prop :=
  ∃ a : List UInt8, a.length ≤ 1000 ∧ e = .returned (.string (bs a)) ∧ Below w.heap.size w w'
/-- A number that is drawn. -/
def RetN1 (lo hi : Int) (w : World) (e : Ending) (w' : World) : Prop :=
  ∃ x : Int, lo ≤ x ∧ x ≤ hi ∧ e = .returned (.int .i64 x) ∧ Below w.heap.size w w'

end Go.Proofs.Ytiebaoglcdbopaa
