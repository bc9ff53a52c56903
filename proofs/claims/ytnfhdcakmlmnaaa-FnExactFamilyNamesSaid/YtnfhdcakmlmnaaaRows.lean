/-
  No cell of these rows narrows 'for every input' (looked for: loops, veiled, ifaces, maps, wideKeys, modest, calm, conditions, laid).
  DERIVED. THE GIVEN ROWS OF THIS SEAT. 6 by the template 'for every input the law returns true; each argument reads behind the call as it read before'; 0 by the template 'total and deterministic' (their statements: YtnfhdcakmlmnaaaTotals.lean).
  GIVEN WITH THE SEED: the statements are not yours to turn. If you find one false, say at which input.
  Laid BY PROGRAM, IN A SANDBOX (cutbox-rows.mjs): the forced cells as the released guide's own fill.sh prints them over the translation 70a77eb27c84a4d9… (all of the seat's roots in one cut). By AI agents, Wed Nov 11 2026. No macro, syntax, notation, axiom, sorry.
-/
import Derived.Test.YtnfhdcakmlmnaaaChecked
import GoSem.Claim
import GoSem.ClaimJoined
import GoSem.ClaimMapViews
import Derived.JoinedTies
import Derived.KernelRfl
namespace Go.Proofs.Ytnfhdcakmlmnaaa
/- THE CELL 'sum', in the pinned program and in every row, IS THE sha256 OF THE DUMP (.gsa) THAT YtnfhdcakmlmnaaaProg.lean LOADS. Nothing in Lean hashes anything: it is a label: what it is worth is what the hold of that sum in a sandbox is worth. -/
noncomputable def Try.pinned : Pinned := { name := "ytnfhdcakmlmnaaa", sum := "70a77eb27c84a4d902e7223bf57bc098b574ce13f7c1314b7f79f452819895e1", checked := Try.checked }
namespace Rows
def none {H : Type} : Left H := { results := [], args := [] }

/-- 'laws.FnExactRightComb': WHATEVER THE INPUT: true; the input reads as it did. -/
def fnExactRightCombSpec : ChangeSpec := { name := "fnExactRightComb", fn := fun _ => fun
  | [d] => { results := [.lit (.bool true)], args := [d] }
  | _ => none }
def fnExactRightCombRow : OpenClaim := { program := "ytnfhdcakmlmnaaa", sum := "70a77eb27c84a4d902e7223bf57bc098b574ce13f7c1314b7f79f452819895e1", func := "loop.example/g03401/laws.FnExactRightComb", spec := "fnExactRightComb", recurses := true, apart := false }
def FnExactRightCombSaid : Prop := fnExactRightCombRow.holds Try.pinned (OpenSpec.ofChange fnExactRightCombSpec)

/-- ITS FALSE NEIGHBOUR: 'it returns false'. Refute it at one input. -/
def fnExactRightCombWrong : ChangeSpec := { name := "fnExactRightComb", fn := fun _ => fun
  | [d] => { results := [.lit (.bool false)], args := [d] }
  | _ => none }
def FnExactRightCombWrongFalsely : Prop := fnExactRightCombRow.holds Try.pinned (OpenSpec.ofChange fnExactRightCombWrong)

/-- 'laws.FnExactOrderOfTurn': WHATEVER THE INPUT: true; the input reads as it did. -/
def fnExactOrderOfTurnSpec : ChangeSpec := { name := "fnExactOrderOfTurn", fn := fun _ => fun
  | [d1, d2] => { results := [.lit (.bool true)], args := [d1, d2] }
  | _ => none }
def fnExactOrderOfTurnRow : OpenClaim := { program := "ytnfhdcakmlmnaaa", sum := "70a77eb27c84a4d902e7223bf57bc098b574ce13f7c1314b7f79f452819895e1", func := "loop.example/g03401/laws.FnExactOrderOfTurn", spec := "fnExactOrderOfTurn", apart := false }
def FnExactOrderOfTurnSaid : Prop := fnExactOrderOfTurnRow.holds Try.pinned (OpenSpec.ofChange fnExactOrderOfTurnSpec)

/-- ITS FALSE NEIGHBOUR: 'it returns false'. Refute it at one input. -/
def fnExactOrderOfTurnWrong : ChangeSpec := { name := "fnExactOrderOfTurn", fn := fun _ => fun
  | [d1, d2] => { results := [.lit (.bool false)], args := [d1, d2] }
  | _ => none }
def FnExactOrderOfTurnWrongFalsely : Prop := fnExactOrderOfTurnRow.holds Try.pinned (OpenSpec.ofChange fnExactOrderOfTurnWrong)

/-- 'laws.FnExactIntervalFormula': WHATEVER THE INPUT: true; the input reads as it did. -/
def fnExactIntervalFormulaSpec : ChangeSpec := { name := "fnExactIntervalFormula", fn := fun _ => fun
  | [d] => { results := [.lit (.bool true)], args := [d] }
  | _ => none }
def fnExactIntervalFormulaRow : OpenClaim := { program := "ytnfhdcakmlmnaaa", sum := "70a77eb27c84a4d902e7223bf57bc098b574ce13f7c1314b7f79f452819895e1", func := "loop.example/g03401/laws.FnExactIntervalFormula", spec := "fnExactIntervalFormula", apart := false }
def FnExactIntervalFormulaSaid : Prop := fnExactIntervalFormulaRow.holds Try.pinned (OpenSpec.ofChange fnExactIntervalFormulaSpec)

/-- ITS FALSE NEIGHBOUR: 'it returns false'. Refute it at one input. -/
def fnExactIntervalFormulaWrong : ChangeSpec := { name := "fnExactIntervalFormula", fn := fun _ => fun
  | [d] => { results := [.lit (.bool false)], args := [d] }
  | _ => none }
def FnExactIntervalFormulaWrongFalsely : Prop := fnExactIntervalFormulaRow.holds Try.pinned (OpenSpec.ofChange fnExactIntervalFormulaWrong)

/-- 'laws.FnExactIsPolynomial': WHATEVER THE INPUT: true; the input reads as it did. -/
def fnExactIsPolynomialSpec : ChangeSpec := { name := "fnExactIsPolynomial", fn := fun _ => fun
  | [d] => { results := [.lit (.bool true)], args := [d] }
  | _ => none }
def fnExactIsPolynomialRow : OpenClaim := { program := "ytnfhdcakmlmnaaa", sum := "70a77eb27c84a4d902e7223bf57bc098b574ce13f7c1314b7f79f452819895e1", func := "loop.example/g03401/laws.FnExactIsPolynomial", spec := "fnExactIsPolynomial", apart := false }
def FnExactIsPolynomialSaid : Prop := fnExactIsPolynomialRow.holds Try.pinned (OpenSpec.ofChange fnExactIsPolynomialSpec)

/-- ITS FALSE NEIGHBOUR: 'it returns false'. Refute it at one input. -/
def fnExactIsPolynomialWrong : ChangeSpec := { name := "fnExactIsPolynomial", fn := fun _ => fun
  | [d] => { results := [.lit (.bool false)], args := [d] }
  | _ => none }
def FnExactIsPolynomialWrongFalsely : Prop := fnExactIsPolynomialRow.holds Try.pinned (OpenSpec.ofChange fnExactIsPolynomialWrong)

/-- 'laws.FnExactFamilyNames': WHATEVER THE INPUT: true; the input reads as it did. -/
def fnExactFamilyNamesSpec : ChangeSpec := { name := "fnExactFamilyNames", fn := fun _ => fun
  | [] => { results := [.lit (.bool true)], args := [] }
  | _ => none }
def fnExactFamilyNamesRow : OpenClaim := { program := "ytnfhdcakmlmnaaa", sum := "70a77eb27c84a4d902e7223bf57bc098b574ce13f7c1314b7f79f452819895e1", func := "loop.example/g03401/laws.FnExactFamilyNames", spec := "fnExactFamilyNames", apart := false }
def FnExactFamilyNamesSaid : Prop := fnExactFamilyNamesRow.holds Try.pinned (OpenSpec.ofChange fnExactFamilyNamesSpec)

/-- ITS FALSE NEIGHBOUR: 'it returns false'. Refute it at one input. -/
def fnExactFamilyNamesWrong : ChangeSpec := { name := "fnExactFamilyNames", fn := fun _ => fun
  | [] => { results := [.lit (.bool false)], args := [] }
  | _ => none }
def FnExactFamilyNamesWrongFalsely : Prop := fnExactFamilyNamesRow.holds Try.pinned (OpenSpec.ofChange fnExactFamilyNamesWrong)

/-- 'laws.FnExactNumberPolynomial': WHATEVER THE INPUT: true; the input reads as it did. -/
def fnExactNumberPolynomialSpec : ChangeSpec := { name := "fnExactNumberPolynomial", fn := fun _ => fun
  | [d] => { results := [.lit (.bool true)], args := [d] }
  | _ => none }
def fnExactNumberPolynomialRow : OpenClaim := { program := "ytnfhdcakmlmnaaa", sum := "70a77eb27c84a4d902e7223bf57bc098b574ce13f7c1314b7f79f452819895e1", func := "loop.example/g03401/laws.FnExactNumberPolynomial", spec := "fnExactNumberPolynomial", apart := false }
def FnExactNumberPolynomialSaid : Prop := fnExactNumberPolynomialRow.holds Try.pinned (OpenSpec.ofChange fnExactNumberPolynomialSpec)

/-- ITS FALSE NEIGHBOUR: 'it returns false'. Refute it at one input. -/
def fnExactNumberPolynomialWrong : ChangeSpec := { name := "fnExactNumberPolynomial", fn := fun _ => fun
  | [d] => { results := [.lit (.bool false)], args := [d] }
  | _ => none }
def FnExactNumberPolynomialWrongFalsely : Prop := fnExactNumberPolynomialRow.holds Try.pinned (OpenSpec.ofChange fnExactNumberPolynomialWrong)

/- THE SECOND FORM. 'bulk': how many values and letters a reading holds, each counted each time it is reached (what is shared counts as often as it is met; a slice's spare places count too). A statement '..UptoSaid' is the law's where the arguments, and the package variables that the reading takes, are together of bulk at most 1048576: NARROWER than '..Said'. Prove '..Said' where nothing that the law and all that it calls make is longer than what came in: it says more and counts as full. Else prove '..UptoSaid'. A law counts once. -/
mutual
def uptoBulk {H : Type} : DataW H → Nat
  | .lit (.string bytes) => bytes.length + 1
  | .lit _ => 1
  | .nil => 1
  | .ptr d => uptoBulk d + 1
  | .slice elems spare => uptoBulkAll elems + uptoBulkAll spare + 1
  | .agg parts => uptoBulkAll parts + 1
  | .iface _ d => uptoBulk d + 1
  | .map entries => uptoBulkEntries entries + 1
  | .held _ => 1
def uptoBulkAll {H : Type} : List (DataW H) → Nat
  | [] => 0
  | d :: r => uptoBulk d + uptoBulkAll r
def uptoBulkEntries {H : Type} : List (Lit × DataW H) → Nat
  | [] => 0
  | x :: r => uptoBulkEntry x + uptoBulkEntries r
def uptoBulkEntry {H : Type} : Lit × DataW H → Nat
  | (.string bytes, d) => bytes.length + uptoBulk d + 1
  | (_, d) => uptoBulk d + 1
 end
def uptoSmall : (H : Type) → List (DataW H) → Bool := fun _ ds => decide (uptoBulkAll ds ≤ 1048576)
def OpenSpec.upto (s : _root_.Go.ChangeSpec) : _root_.Go.OpenSpec := { _root_.Go.OpenSpec.ofChange s with cond := some uptoSmall }

/-- 'laws.FnExactRightComb', WHERE WHAT IT READS IS OF BULK AT MOST 1048576: true; the input reads as it did. -/
def fnExactRightCombUptoRow : OpenClaim := { program := "ytnfhdcakmlmnaaa", sum := "70a77eb27c84a4d902e7223bf57bc098b574ce13f7c1314b7f79f452819895e1", func := "loop.example/g03401/laws.FnExactRightComb", spec := "fnExactRightComb", recurses := true, apart := false, narrowed := true }
def FnExactRightCombUptoSaid : Prop := fnExactRightCombUptoRow.holds Try.pinned (OpenSpec.upto fnExactRightCombSpec)

/-- 'laws.FnExactOrderOfTurn', WHERE WHAT IT READS IS OF BULK AT MOST 1048576: true; the input reads as it did. -/
def fnExactOrderOfTurnUptoRow : OpenClaim := { program := "ytnfhdcakmlmnaaa", sum := "70a77eb27c84a4d902e7223bf57bc098b574ce13f7c1314b7f79f452819895e1", func := "loop.example/g03401/laws.FnExactOrderOfTurn", spec := "fnExactOrderOfTurn", apart := false, narrowed := true }
def FnExactOrderOfTurnUptoSaid : Prop := fnExactOrderOfTurnUptoRow.holds Try.pinned (OpenSpec.upto fnExactOrderOfTurnSpec)

/-- 'laws.FnExactIntervalFormula', WHERE WHAT IT READS IS OF BULK AT MOST 1048576: true; the input reads as it did. -/
def fnExactIntervalFormulaUptoRow : OpenClaim := { program := "ytnfhdcakmlmnaaa", sum := "70a77eb27c84a4d902e7223bf57bc098b574ce13f7c1314b7f79f452819895e1", func := "loop.example/g03401/laws.FnExactIntervalFormula", spec := "fnExactIntervalFormula", apart := false, narrowed := true }
def FnExactIntervalFormulaUptoSaid : Prop := fnExactIntervalFormulaUptoRow.holds Try.pinned (OpenSpec.upto fnExactIntervalFormulaSpec)

/-- 'laws.FnExactIsPolynomial', WHERE WHAT IT READS IS OF BULK AT MOST 1048576: true; the input reads as it did. -/
def fnExactIsPolynomialUptoRow : OpenClaim := { program := "ytnfhdcakmlmnaaa", sum := "70a77eb27c84a4d902e7223bf57bc098b574ce13f7c1314b7f79f452819895e1", func := "loop.example/g03401/laws.FnExactIsPolynomial", spec := "fnExactIsPolynomial", apart := false, narrowed := true }
def FnExactIsPolynomialUptoSaid : Prop := fnExactIsPolynomialUptoRow.holds Try.pinned (OpenSpec.upto fnExactIsPolynomialSpec)

/-- 'laws.FnExactFamilyNames', WHERE WHAT IT READS IS OF BULK AT MOST 1048576: true; the input reads as it did. -/
def fnExactFamilyNamesUptoRow : OpenClaim := { program := "ytnfhdcakmlmnaaa", sum := "70a77eb27c84a4d902e7223bf57bc098b574ce13f7c1314b7f79f452819895e1", func := "loop.example/g03401/laws.FnExactFamilyNames", spec := "fnExactFamilyNames", apart := false, narrowed := true }
def FnExactFamilyNamesUptoSaid : Prop := fnExactFamilyNamesUptoRow.holds Try.pinned (OpenSpec.upto fnExactFamilyNamesSpec)

/-- 'laws.FnExactNumberPolynomial', WHERE WHAT IT READS IS OF BULK AT MOST 1048576: true; the input reads as it did. -/
def fnExactNumberPolynomialUptoRow : OpenClaim := { program := "ytnfhdcakmlmnaaa", sum := "70a77eb27c84a4d902e7223bf57bc098b574ce13f7c1314b7f79f452819895e1", func := "loop.example/g03401/laws.FnExactNumberPolynomial", spec := "fnExactNumberPolynomial", apart := false, narrowed := true }
def FnExactNumberPolynomialUptoSaid : Prop := fnExactNumberPolynomialUptoRow.holds Try.pinned (OpenSpec.upto fnExactNumberPolynomialSpec)

end Rows
end Go.Proofs.Ytnfhdcakmlmnaaa
