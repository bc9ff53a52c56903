/- JointTable, AreEquidistributed and IsJointlySymmetric, both sides. -/
import Derived.Test.YteiffomekjadgaaJtL
import Derived.Test.YteiffomekjadgaaDst
import Derived.Test.YteiffomekjadgaaWays
import Derived.Test.YteiffomekjadgaaSame
namespace Go.Proofs.Yteiffomekjadgaa
set_option linter.unusedVariables false
open Go.RowKit

/-- A table and a bool are handed back. -/
def RetRB (w : World) (R : List (List Int)) (b : Bool) (e : Ending) (w' : World) : Prop :=
  ∃ (A : Option Addr) (n c : Nat) (vs : List Value), n = R.length ∧ e = .returned (.tuple #[.slice A n c, .bool b]) ∧ O2 w' w.heap.size A n c vs R ∧ Below w.heap.size w w'
/-- The table (its rows are written) and the words (they are read). -/
structure Jt (w0 wr : World) (A : Option Addr) (M c : Nat) (vs : List Value) (R : List (List Int)) (Ap : Option Addr) (m cp : Nat) (xs : List (List UInt8)) : Prop where
  o2 : O2 wr w0.heap.size A M c vs R
  inp : Own wr 9 w0.heap.size Ap m cp (sv xs)
  below : Below w0.heap.size w0 wr
section
variable {w0 wr w' : World} {A Ap : Option Addr} {M c m cp : Nat} {vs : List Value} {R : List (List Int)} {xs : List (List UInt8)}
theorem Jt.by_ (h : Jt w0 wr A M c vs R Ap m cp xs) (hb : Below wr.heap.size wr w') : Jt w0 w' A M c vs R Ap m cp xs :=
  ⟨h.o2.below hb, h.inp.below hb, h.below.trans (hb.mono h.below.size)⟩
theorem Jt.drew (h : Jt w0 wr A M c vs R Ap m cp xs) : Jt w0 wr.drew A M c vs R Ap m cp xs := ⟨h.o2.drew, h.inp.drew, h.below.drew⟩
theorem Jt.drewN (h : Jt w0 wr A M c vs R Ap m cp xs) (k : Nat) : Jt w0 (wr.drewN k) A M c vs R Ap m cp xs := ⟨h.o2.drewN k, h.inp.drewN k, below_drewN' h.below k⟩
theorem Jt.put {s t gt cj : Nat} {x : Int} {old : List Int} (h : Jt w0 wr A M c vs R Ap m cp xs) (hs : R[s]? = some old) (hv : vs[s]? = some (.slice (some ⟨gt, 0, none⟩) old.length cj)) (hg : w0.heap.size ≤ gt) :
    Jt w0 (wr.setCell ⟨gt, t, none⟩ (.int .i64 x)) A M c vs (R.set s (old.set t x)) Ap m cp xs where
  o2 := h.o2.fill hs hv
  inp := h.inp.set_far (fun gg hgg e => by
    subst e
    obtain ⟨Aj, cj', h1, h2⟩ := h.o2.row s old hs
    rw [hv] at h1
    cases h1
    have h3 := h.inp
    rw [hgg] at h3
    exact own_ne h2 h3 (by decide) rfl) _
  below := h.below.setCell (p := ⟨gt, t, none⟩) hg _
end
theorem zeros_snoc (M t : Nat) : zeros M (t + 1) = zeros M t ++ [List.replicate M 0] := by unfold zeros; rw [List.replicate_succ']
theorem zeros_len (M t : Nat) : (zeros M t).length = t := by unfold zeros; simp


end Go.Proofs.Yteiffomekjadgaa
