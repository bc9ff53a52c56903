/-
  No cell of these rows narrows 'for every input' (looked for: loops, veiled, ifaces, maps, wideKeys, modest, calm, conditions, laid).
  DERIVED. THE GIVEN ROWS OF THIS SEAT. 10 by the template 'for every input the law returns true; each argument reads behind the call as it read before'; 0 by the template 'total and deterministic' (their statements: YtlpabdpaolmpfaaTotals.lean).
  GIVEN WITH THE SEED: the statements are not yours to turn. If you find one false, say at which input.
  Laid BY PROGRAM, IN A SANDBOX (cutbox-rows.mjs): the forced cells as the released guide's own fill.sh prints them over the translation f9dbc14752531475… (all of the seat's roots in one cut). By AI agents, Wed Nov 11 2026. No macro, syntax, notation, axiom, sorry.
-/
import Derived.Test.YtlpabdpaolmpfaaChecked
import GoSem.Claim
import GoSem.ClaimJoined
import GoSem.ClaimMapViews
import Derived.JoinedTies
import Derived.KernelRfl
namespace Go.Proofs.Ytlpabdpaolmpfaa
/- THE CELL 'sum', in the pinned program and in every row, IS THE sha256 OF THE DUMP (.gsa) THAT YtlpabdpaolmpfaaProg.lean LOADS. Nothing in Lean hashes anything: it is a label: what it is worth is what the hold of that sum in a sandbox is worth. -/
noncomputable def Try.pinned : Pinned := { name := "ytlpabdpaolmpfaa", sum := "f9dbc14752531475d8f89345d4299b3b0d2ab315279f0b337a0faaf54cb0b4a5", checked := Try.checked }
namespace Rows
def none {H : Type} : Left H := { results := [], args := [] }

/-- 'laws.FnExactValueAt': WHATEVER THE INPUT: true; the input reads as it did. -/
def fnExactValueAtSpec : ChangeSpec := { name := "fnExactValueAt", fn := fun _ => fun
  | [d1, d2] => { results := [.lit (.bool true)], args := [d1, d2] }
  | _ => none }
def fnExactValueAtRow : OpenClaim := { program := "ytlpabdpaolmpfaa", sum := "f9dbc14752531475d8f89345d4299b3b0d2ab315279f0b337a0faaf54cb0b4a5", func := "loop.example/g03401/laws.FnExactValueAt", spec := "fnExactValueAt", apart := false }
def FnExactValueAtSaid : Prop := fnExactValueAtRow.holds Try.pinned (OpenSpec.ofChange fnExactValueAtSpec)

/-- ITS FALSE NEIGHBOUR: 'it returns false'. Refute it at one input. -/
def fnExactValueAtWrong : ChangeSpec := { name := "fnExactValueAt", fn := fun _ => fun
  | [d1, d2] => { results := [.lit (.bool false)], args := [d1, d2] }
  | _ => none }
def FnExactValueAtWrongFalsely : Prop := fnExactValueAtRow.holds Try.pinned (OpenSpec.ofChange fnExactValueAtWrong)

/-- 'laws.FnExactBinomialPolynomial': WHATEVER THE INPUT: true; the input reads as it did. -/
def fnExactBinomialPolynomialSpec : ChangeSpec := { name := "fnExactBinomialPolynomial", fn := fun _ => fun
  | [d1, d2] => { results := [.lit (.bool true)], args := [d1, d2] }
  | _ => none }
def fnExactBinomialPolynomialRow : OpenClaim := { program := "ytlpabdpaolmpfaa", sum := "f9dbc14752531475d8f89345d4299b3b0d2ab315279f0b337a0faaf54cb0b4a5", func := "loop.example/g03401/laws.FnExactBinomialPolynomial", spec := "fnExactBinomialPolynomial", recurses := true, apart := false }
def FnExactBinomialPolynomialSaid : Prop := fnExactBinomialPolynomialRow.holds Try.pinned (OpenSpec.ofChange fnExactBinomialPolynomialSpec)

/-- ITS FALSE NEIGHBOUR: 'it returns false'. Refute it at one input. -/
def fnExactBinomialPolynomialWrong : ChangeSpec := { name := "fnExactBinomialPolynomial", fn := fun _ => fun
  | [d1, d2] => { results := [.lit (.bool false)], args := [d1, d2] }
  | _ => none }
def FnExactBinomialPolynomialWrongFalsely : Prop := fnExactBinomialPolynomialRow.holds Try.pinned (OpenSpec.ofChange fnExactBinomialPolynomialWrong)

/-- 'laws.FnExactAddPolynomials': WHATEVER THE INPUT: true; the input reads as it did. -/
def fnExactAddPolynomialsSpec : ChangeSpec := { name := "fnExactAddPolynomials", fn := fun _ => fun
  | [d1, d2] => { results := [.lit (.bool true)], args := [d1, d2] }
  | _ => none }
def fnExactAddPolynomialsRow : OpenClaim := { program := "ytlpabdpaolmpfaa", sum := "f9dbc14752531475d8f89345d4299b3b0d2ab315279f0b337a0faaf54cb0b4a5", func := "loop.example/g03401/laws.FnExactAddPolynomials", spec := "fnExactAddPolynomials", apart := false }
def FnExactAddPolynomialsSaid : Prop := fnExactAddPolynomialsRow.holds Try.pinned (OpenSpec.ofChange fnExactAddPolynomialsSpec)

/-- ITS FALSE NEIGHBOUR: 'it returns false'. Refute it at one input. -/
def fnExactAddPolynomialsWrong : ChangeSpec := { name := "fnExactAddPolynomials", fn := fun _ => fun
  | [d1, d2] => { results := [.lit (.bool false)], args := [d1, d2] }
  | _ => none }
def FnExactAddPolynomialsWrongFalsely : Prop := fnExactAddPolynomialsRow.holds Try.pinned (OpenSpec.ofChange fnExactAddPolynomialsWrong)

/-- 'laws.FnExactCyclotomicPolynomial': WHATEVER THE INPUT: true; the input reads as it did. -/
def fnExactCyclotomicPolynomialSpec : ChangeSpec := { name := "fnExactCyclotomicPolynomial", fn := fun _ => fun
  | [d] => { results := [.lit (.bool true)], args := [d] }
  | _ => none }
def fnExactCyclotomicPolynomialRow : OpenClaim := { program := "ytlpabdpaolmpfaa", sum := "f9dbc14752531475d8f89345d4299b3b0d2ab315279f0b337a0faaf54cb0b4a5", func := "loop.example/g03401/laws.FnExactCyclotomicPolynomial", spec := "fnExactCyclotomicPolynomial", recurses := true, apart := false }
def FnExactCyclotomicPolynomialSaid : Prop := fnExactCyclotomicPolynomialRow.holds Try.pinned (OpenSpec.ofChange fnExactCyclotomicPolynomialSpec)

/-- ITS FALSE NEIGHBOUR: 'it returns false'. Refute it at one input. -/
def fnExactCyclotomicPolynomialWrong : ChangeSpec := { name := "fnExactCyclotomicPolynomial", fn := fun _ => fun
  | [d] => { results := [.lit (.bool false)], args := [d] }
  | _ => none }
def FnExactCyclotomicPolynomialWrongFalsely : Prop := fnExactCyclotomicPolynomialRow.holds Try.pinned (OpenSpec.ofChange fnExactCyclotomicPolynomialWrong)

/-- 'laws.FnExactFormatPolynomial': WHATEVER THE INPUT: true; the input reads as it did. -/
def fnExactFormatPolynomialSpec : ChangeSpec := { name := "fnExactFormatPolynomial", fn := fun _ => fun
  | [d] => { results := [.lit (.bool true)], args := [d] }
  | _ => none }
def fnExactFormatPolynomialRow : OpenClaim := { program := "ytlpabdpaolmpfaa", sum := "f9dbc14752531475d8f89345d4299b3b0d2ab315279f0b337a0faaf54cb0b4a5", func := "loop.example/g03401/laws.FnExactFormatPolynomial", spec := "fnExactFormatPolynomial", apart := false }
def FnExactFormatPolynomialSaid : Prop := fnExactFormatPolynomialRow.holds Try.pinned (OpenSpec.ofChange fnExactFormatPolynomialSpec)

/-- ITS FALSE NEIGHBOUR: 'it returns false'. Refute it at one input. -/
def fnExactFormatPolynomialWrong : ChangeSpec := { name := "fnExactFormatPolynomial", fn := fun _ => fun
  | [d] => { results := [.lit (.bool false)], args := [d] }
  | _ => none }
def FnExactFormatPolynomialWrongFalsely : Prop := fnExactFormatPolynomialRow.holds Try.pinned (OpenSpec.ofChange fnExactFormatPolynomialWrong)

/-- 'laws.FnExactMultiplyPolynomials': WHATEVER THE INPUT: true; the input reads as it did. -/
def fnExactMultiplyPolynomialsSpec : ChangeSpec := { name := "fnExactMultiplyPolynomials", fn := fun _ => fun
  | [d1, d2] => { results := [.lit (.bool true)], args := [d1, d2] }
  | _ => none }
def fnExactMultiplyPolynomialsRow : OpenClaim := { program := "ytlpabdpaolmpfaa", sum := "f9dbc14752531475d8f89345d4299b3b0d2ab315279f0b337a0faaf54cb0b4a5", func := "loop.example/g03401/laws.FnExactMultiplyPolynomials", spec := "fnExactMultiplyPolynomials", apart := false }
def FnExactMultiplyPolynomialsSaid : Prop := fnExactMultiplyPolynomialsRow.holds Try.pinned (OpenSpec.ofChange fnExactMultiplyPolynomialsSpec)

/-- ITS FALSE NEIGHBOUR: 'it returns false'. Refute it at one input. -/
def fnExactMultiplyPolynomialsWrong : ChangeSpec := { name := "fnExactMultiplyPolynomials", fn := fun _ => fun
  | [d1, d2] => { results := [.lit (.bool false)], args := [d1, d2] }
  | _ => none }
def FnExactMultiplyPolynomialsWrongFalsely : Prop := fnExactMultiplyPolynomialsRow.holds Try.pinned (OpenSpec.ofChange fnExactMultiplyPolynomialsWrong)

/-- 'laws.FnExactDividePolynomials': WHATEVER THE INPUT: true; the input reads as it did. -/
def fnExactDividePolynomialsSpec : ChangeSpec := { name := "fnExactDividePolynomials", fn := fun _ => fun
  | [d1, d2] => { results := [.lit (.bool true)], args := [d1, d2] }
  | _ => none }
def fnExactDividePolynomialsRow : OpenClaim := { program := "ytlpabdpaolmpfaa", sum := "f9dbc14752531475d8f89345d4299b3b0d2ab315279f0b337a0faaf54cb0b4a5", func := "loop.example/g03401/laws.FnExactDividePolynomials", spec := "fnExactDividePolynomials", apart := false }
def FnExactDividePolynomialsSaid : Prop := fnExactDividePolynomialsRow.holds Try.pinned (OpenSpec.ofChange fnExactDividePolynomialsSpec)

/-- ITS FALSE NEIGHBOUR: 'it returns false'. Refute it at one input. -/
def fnExactDividePolynomialsWrong : ChangeSpec := { name := "fnExactDividePolynomials", fn := fun _ => fun
  | [d1, d2] => { results := [.lit (.bool false)], args := [d1, d2] }
  | _ => none }
def FnExactDividePolynomialsWrongFalsely : Prop := fnExactDividePolynomialsRow.holds Try.pinned (OpenSpec.ofChange fnExactDividePolynomialsWrong)

/-- 'laws.FnExactAreaPolynomial': WHATEVER THE INPUT: true; the input reads as it did. -/
def fnExactAreaPolynomialSpec : ChangeSpec := { name := "fnExactAreaPolynomial", fn := fun _ => fun
  | [d] => { results := [.lit (.bool true)], args := [d] }
  | _ => none }
def fnExactAreaPolynomialRow : OpenClaim := { program := "ytlpabdpaolmpfaa", sum := "f9dbc14752531475d8f89345d4299b3b0d2ab315279f0b337a0faaf54cb0b4a5", func := "loop.example/g03401/laws.FnExactAreaPolynomial", spec := "fnExactAreaPolynomial", unfollowed := true, recurses := true, apart := false }
def FnExactAreaPolynomialSaid : Prop := fnExactAreaPolynomialRow.holds Try.pinned (OpenSpec.ofChange fnExactAreaPolynomialSpec)

/-- ITS FALSE NEIGHBOUR: 'it returns false'. Refute it at one input. -/
def fnExactAreaPolynomialWrong : ChangeSpec := { name := "fnExactAreaPolynomial", fn := fun _ => fun
  | [d] => { results := [.lit (.bool false)], args := [d] }
  | _ => none }
def FnExactAreaPolynomialWrongFalsely : Prop := fnExactAreaPolynomialRow.holds Try.pinned (OpenSpec.ofChange fnExactAreaPolynomialWrong)

/-- 'laws.FnExactValueAtRoot': WHATEVER THE INPUT: true; the input reads as it did. -/
def fnExactValueAtRootSpec : ChangeSpec := { name := "fnExactValueAtRoot", fn := fun _ => fun
  | [d1, d2] => { results := [.lit (.bool true)], args := [d1, d2] }
  | _ => none }
def fnExactValueAtRootRow : OpenClaim := { program := "ytlpabdpaolmpfaa", sum := "f9dbc14752531475d8f89345d4299b3b0d2ab315279f0b337a0faaf54cb0b4a5", func := "loop.example/g03401/laws.FnExactValueAtRoot", spec := "fnExactValueAtRoot", recurses := true, apart := false }
def FnExactValueAtRootSaid : Prop := fnExactValueAtRootRow.holds Try.pinned (OpenSpec.ofChange fnExactValueAtRootSpec)

/-- ITS FALSE NEIGHBOUR: 'it returns false'. Refute it at one input. -/
def fnExactValueAtRootWrong : ChangeSpec := { name := "fnExactValueAtRoot", fn := fun _ => fun
  | [d1, d2] => { results := [.lit (.bool false)], args := [d1, d2] }
  | _ => none }
def FnExactValueAtRootWrongFalsely : Prop := fnExactValueAtRootRow.holds Try.pinned (OpenSpec.ofChange fnExactValueAtRootWrong)

/-- 'laws.FnExactCatalanPolynomial': WHATEVER THE INPUT: true; the input reads as it did. -/
def fnExactCatalanPolynomialSpec : ChangeSpec := { name := "fnExactCatalanPolynomial", fn := fun _ => fun
  | [d] => { results := [.lit (.bool true)], args := [d] }
  | _ => none }
def fnExactCatalanPolynomialRow : OpenClaim := { program := "ytlpabdpaolmpfaa", sum := "f9dbc14752531475d8f89345d4299b3b0d2ab315279f0b337a0faaf54cb0b4a5", func := "loop.example/g03401/laws.FnExactCatalanPolynomial", spec := "fnExactCatalanPolynomial", recurses := true, apart := false }
def FnExactCatalanPolynomialSaid : Prop := fnExactCatalanPolynomialRow.holds Try.pinned (OpenSpec.ofChange fnExactCatalanPolynomialSpec)

/-- ITS FALSE NEIGHBOUR: 'it returns false'. Refute it at one input. -/
def fnExactCatalanPolynomialWrong : ChangeSpec := { name := "fnExactCatalanPolynomial", fn := fun _ => fun
  | [d] => { results := [.lit (.bool false)], args := [d] }
  | _ => none }
def FnExactCatalanPolynomialWrongFalsely : Prop := fnExactCatalanPolynomialRow.holds Try.pinned (OpenSpec.ofChange fnExactCatalanPolynomialWrong)

/- THE SECOND FORM. 'bulk': how many values and letters a reading holds, each counted each time it is reached (what is shared counts as often as it is met; a slice's spare places count too). A statement '..UptoSaid' is the law's where the arguments, and the package variables that the reading takes, are together of bulk at most 1048576: NARROWER than '..Said'. Prove '..Said' where nothing that the law and all that it calls make is longer than what came in: it says more and counts as full. Else prove '..UptoSaid'. A law counts once. -/
mutual
def uptoBulk {H : Type} : DataW H → Nat
  | .lit (.string bytes) => bytes.length + 1
  | .lit _ => 1
  | .nil => 1
  | .ptr d => uptoBulk d + 1
  | .slice elems spare => uptoBulkAll elems + uptoBulkAll spare + 1
  | .agg parts => uptoBulkAll parts + 1
  | .iface _ d => uptoBulk d + 1
  | .map entries => uptoBulkEntries entries + 1
  | .held _ => 1
def uptoBulkAll {H : Type} : List (DataW H) → Nat
  | [] => 0
  | d :: r => uptoBulk d + uptoBulkAll r
def uptoBulkEntries {H : Type} : List (Lit × DataW H) → Nat
  | [] => 0
  | x :: r => uptoBulkEntry x + uptoBulkEntries r
def uptoBulkEntry {H : Type} : Lit × DataW H → Nat
  | (.string bytes, d) => bytes.length + uptoBulk d + 1
  | (_, d) => uptoBulk d + 1
 end
def uptoSmall : (H : Type) → List (DataW H) → Bool := fun _ ds => decide (uptoBulkAll ds ≤ 1048576)
def OpenSpec.upto (s : _root_.Go.ChangeSpec) : _root_.Go.OpenSpec := { _root_.Go.OpenSpec.ofChange s with cond := some uptoSmall }

/-- 'laws.FnExactValueAt', WHERE WHAT IT READS IS OF BULK AT MOST 1048576: true; the input reads as it did. -/
def fnExactValueAtUptoRow : OpenClaim := { program := "ytlpabdpaolmpfaa", sum := "f9dbc14752531475d8f89345d4299b3b0d2ab315279f0b337a0faaf54cb0b4a5", func := "loop.example/g03401/laws.FnExactValueAt", spec := "fnExactValueAt", apart := false, narrowed := true }
def FnExactValueAtUptoSaid : Prop := fnExactValueAtUptoRow.holds Try.pinned (OpenSpec.upto fnExactValueAtSpec)

/-- 'laws.FnExactBinomialPolynomial', WHERE WHAT IT READS IS OF BULK AT MOST 1048576: true; the input reads as it did. -/
def fnExactBinomialPolynomialUptoRow : OpenClaim := { program := "ytlpabdpaolmpfaa", sum := "f9dbc14752531475d8f89345d4299b3b0d2ab315279f0b337a0faaf54cb0b4a5", func := "loop.example/g03401/laws.FnExactBinomialPolynomial", spec := "fnExactBinomialPolynomial", recurses := true, apart := false, narrowed := true }
def FnExactBinomialPolynomialUptoSaid : Prop := fnExactBinomialPolynomialUptoRow.holds Try.pinned (OpenSpec.upto fnExactBinomialPolynomialSpec)

/-- 'laws.FnExactAddPolynomials', WHERE WHAT IT READS IS OF BULK AT MOST 1048576: true; the input reads as it did. -/
def fnExactAddPolynomialsUptoRow : OpenClaim := { program := "ytlpabdpaolmpfaa", sum := "f9dbc14752531475d8f89345d4299b3b0d2ab315279f0b337a0faaf54cb0b4a5", func := "loop.example/g03401/laws.FnExactAddPolynomials", spec := "fnExactAddPolynomials", apart := false, narrowed := true }
def FnExactAddPolynomialsUptoSaid : Prop := fnExactAddPolynomialsUptoRow.holds Try.pinned (OpenSpec.upto fnExactAddPolynomialsSpec)

/-- 'laws.FnExactCyclotomicPolynomial', WHERE WHAT IT READS IS OF BULK AT MOST 1048576: true; the input reads as it did. -/
def fnExactCyclotomicPolynomialUptoRow : OpenClaim := { program := "ytlpabdpaolmpfaa", sum := "f9dbc14752531475d8f89345d4299b3b0d2ab315279f0b337a0faaf54cb0b4a5", func := "loop.example/g03401/laws.FnExactCyclotomicPolynomial", spec := "fnExactCyclotomicPolynomial", recurses := true, apart := false, narrowed := true }
def FnExactCyclotomicPolynomialUptoSaid : Prop := fnExactCyclotomicPolynomialUptoRow.holds Try.pinned (OpenSpec.upto fnExactCyclotomicPolynomialSpec)

/-- 'laws.FnExactFormatPolynomial', WHERE WHAT IT READS IS OF BULK AT MOST 1048576: true; the input reads as it did. -/
def fnExactFormatPolynomialUptoRow : OpenClaim := { program := "ytlpabdpaolmpfaa", sum := "f9dbc14752531475d8f89345d4299b3b0d2ab315279f0b337a0faaf54cb0b4a5", func := "loop.example/g03401/laws.FnExactFormatPolynomial", spec := "fnExactFormatPolynomial", apart := false, narrowed := true }
def FnExactFormatPolynomialUptoSaid : Prop := fnExactFormatPolynomialUptoRow.holds Try.pinned (OpenSpec.upto fnExactFormatPolynomialSpec)

/-- 'laws.FnExactMultiplyPolynomials', WHERE WHAT IT READS IS OF BULK AT MOST 1048576: true; the input reads as it did. -/
def fnExactMultiplyPolynomialsUptoRow : OpenClaim := { program := "ytlpabdpaolmpfaa", sum := "f9dbc14752531475d8f89345d4299b3b0d2ab315279f0b337a0faaf54cb0b4a5", func := "loop.example/g03401/laws.FnExactMultiplyPolynomials", spec := "fnExactMultiplyPolynomials", apart := false, narrowed := true }
def FnExactMultiplyPolynomialsUptoSaid : Prop := fnExactMultiplyPolynomialsUptoRow.holds Try.pinned (OpenSpec.upto fnExactMultiplyPolynomialsSpec)

/-- 'laws.FnExactDividePolynomials', WHERE WHAT IT READS IS OF BULK AT MOST 1048576: true; the input reads as it did. -/
def fnExactDividePolynomialsUptoRow : OpenClaim := { program := "ytlpabdpaolmpfaa", sum := "f9dbc14752531475d8f89345d4299b3b0d2ab315279f0b337a0faaf54cb0b4a5", func := "loop.example/g03401/laws.FnExactDividePolynomials", spec := "fnExactDividePolynomials", apart := false, narrowed := true }
def FnExactDividePolynomialsUptoSaid : Prop := fnExactDividePolynomialsUptoRow.holds Try.pinned (OpenSpec.upto fnExactDividePolynomialsSpec)

/-- 'laws.FnExactAreaPolynomial', WHERE WHAT IT READS IS OF BULK AT MOST 1048576: true; the input reads as it did. -/
def fnExactAreaPolynomialUptoRow : OpenClaim := { program := "ytlpabdpaolmpfaa", sum := "f9dbc14752531475d8f89345d4299b3b0d2ab315279f0b337a0faaf54cb0b4a5", func := "loop.example/g03401/laws.FnExactAreaPolynomial", spec := "fnExactAreaPolynomial", unfollowed := true, recurses := true, apart := false, narrowed := true }
def FnExactAreaPolynomialUptoSaid : Prop := fnExactAreaPolynomialUptoRow.holds Try.pinned (OpenSpec.upto fnExactAreaPolynomialSpec)

/-- 'laws.FnExactValueAtRoot', WHERE WHAT IT READS IS OF BULK AT MOST 1048576: true; the input reads as it did. -/
def fnExactValueAtRootUptoRow : OpenClaim := { program := "ytlpabdpaolmpfaa", sum := "f9dbc14752531475d8f89345d4299b3b0d2ab315279f0b337a0faaf54cb0b4a5", func := "loop.example/g03401/laws.FnExactValueAtRoot", spec := "fnExactValueAtRoot", recurses := true, apart := false, narrowed := true }
def FnExactValueAtRootUptoSaid : Prop := fnExactValueAtRootUptoRow.holds Try.pinned (OpenSpec.upto fnExactValueAtRootSpec)

/-- 'laws.FnExactCatalanPolynomial', WHERE WHAT IT READS IS OF BULK AT MOST 1048576: true; the input reads as it did. -/
def fnExactCatalanPolynomialUptoRow : OpenClaim := { program := "ytlpabdpaolmpfaa", sum := "f9dbc14752531475d8f89345d4299b3b0d2ab315279f0b337a0faaf54cb0b4a5", func := "loop.example/g03401/laws.FnExactCatalanPolynomial", spec := "fnExactCatalanPolynomial", recurses := true, apart := false, narrowed := true }
def FnExactCatalanPolynomialUptoSaid : Prop := fnExactCatalanPolynomialUptoRow.holds Try.pinned (OpenSpec.upto fnExactCatalanPolynomialSpec)

end Rows
end Go.Proofs.Ytlpabdpaolmpfaa
