/-
  No cell of these rows narrows 'for every input' (looked for: loops, veiled, ifaces, maps, wideKeys, modest, calm, conditions, laid).
  DERIVED. THE GIVEN ROWS OF THIS SEAT. 4 by the template 'for every input the law returns true; each argument reads behind the call as it read before'; 0 by the template 'total and deterministic' (their statements: YtghfhkbncjgaeaaTotals.lean).
  GIVEN WITH THE SEED: the statements are not yours to turn. If you find one false, say at which input.
  Laid BY PROGRAM, IN A SANDBOX (cutbox-rows.mjs): the forced cells as the released guide's own fill.sh prints them over the translation 6b02746079462536… (all of the seat's roots in one cut). By AI agents, Wed Nov 11 2026. No macro, syntax, notation, axiom, sorry.
-/
import Derived.Test.YtghfhkbncjgaeaaChecked
import GoSem.Claim
import GoSem.ClaimJoined
import GoSem.ClaimMapViews
import Derived.JoinedTies
import Derived.KernelRfl
namespace Go.Proofs.Ytghfhkbncjgaeaa
/- THE CELL 'sum', in the pinned program and in every row, IS THE sha256 OF THE DUMP (.gsa) THAT YtghfhkbncjgaeaaProg.lean LOADS. Nothing in Lean hashes anything: it is a label: what it is worth is what the hold of that sum in a sandbox is worth. -/
noncomputable def Try.pinned : Pinned := { name := "ytghfhkbncjgaeaa", sum := "6b0274607946253637ed730088da4003d5fa2ae3ba021909bce8ba3266192d2c", checked := Try.checked }
namespace Rows
def none {H : Type} : Left H := { results := [], args := [] }

/-- 'laws.FnExactComplement': WHATEVER THE INPUT: true; the input reads as it did. -/
def fnExactComplementSpec : ChangeSpec := { name := "fnExactComplement", fn := fun _ => fun
  | [d] => { results := [.lit (.bool true)], args := [d] }
  | _ => none }
def fnExactComplementRow : OpenClaim := { program := "ytghfhkbncjgaeaa", sum := "6b0274607946253637ed730088da4003d5fa2ae3ba021909bce8ba3266192d2c", func := "loop.example/g03401/laws.FnExactComplement", spec := "fnExactComplement", apart := false }
def FnExactComplementSaid : Prop := fnExactComplementRow.holds Try.pinned (OpenSpec.ofChange fnExactComplementSpec)

/-- ITS FALSE NEIGHBOUR: 'it returns false'. Refute it at one input. -/
def fnExactComplementWrong : ChangeSpec := { name := "fnExactComplement", fn := fun _ => fun
  | [d] => { results := [.lit (.bool false)], args := [d] }
  | _ => none }
def FnExactComplementWrongFalsely : Prop := fnExactComplementRow.holds Try.pinned (OpenSpec.ofChange fnExactComplementWrong)

/-- 'laws.FnExactCountChains': WHATEVER THE INPUT: true; the input reads as it did. -/
def fnExactCountChainsSpec : ChangeSpec := { name := "fnExactCountChains", fn := fun _ => fun
  | [d1, d2] => { results := [.lit (.bool true)], args := [d1, d2] }
  | _ => none }
def fnExactCountChainsRow : OpenClaim := { program := "ytghfhkbncjgaeaa", sum := "6b0274607946253637ed730088da4003d5fa2ae3ba021909bce8ba3266192d2c", func := "loop.example/g03401/laws.FnExactCountChains", spec := "fnExactCountChains", unfollowed := true, recurses := true, apart := false }
def FnExactCountChainsSaid : Prop := fnExactCountChainsRow.holds Try.pinned (OpenSpec.ofChange fnExactCountChainsSpec)

/-- ITS FALSE NEIGHBOUR: 'it returns false'. Refute it at one input. -/
def fnExactCountChainsWrong : ChangeSpec := { name := "fnExactCountChains", fn := fun _ => fun
  | [d1, d2] => { results := [.lit (.bool false)], args := [d1, d2] }
  | _ => none }
def FnExactCountChainsWrongFalsely : Prop := fnExactCountChainsRow.holds Try.pinned (OpenSpec.ofChange fnExactCountChainsWrong)

/-- 'laws.FnExactMoebiusOf': WHATEVER THE INPUT: true; the input reads as it did. -/
def fnExactMoebiusOfSpec : ChangeSpec := { name := "fnExactMoebiusOf", fn := fun _ => fun
  | [d1, d2] => { results := [.lit (.bool true)], args := [d1, d2] }
  | _ => none }
def fnExactMoebiusOfRow : OpenClaim := { program := "ytghfhkbncjgaeaa", sum := "6b0274607946253637ed730088da4003d5fa2ae3ba021909bce8ba3266192d2c", func := "loop.example/g03401/laws.FnExactMoebiusOf", spec := "fnExactMoebiusOf", unfollowed := true, recurses := true, apart := false }
def FnExactMoebiusOfSaid : Prop := fnExactMoebiusOfRow.holds Try.pinned (OpenSpec.ofChange fnExactMoebiusOfSpec)

/-- ITS FALSE NEIGHBOUR: 'it returns false'. Refute it at one input. -/
def fnExactMoebiusOfWrong : ChangeSpec := { name := "fnExactMoebiusOf", fn := fun _ => fun
  | [d1, d2] => { results := [.lit (.bool false)], args := [d1, d2] }
  | _ => none }
def FnExactMoebiusOfWrongFalsely : Prop := fnExactMoebiusOfRow.holds Try.pinned (OpenSpec.ofChange fnExactMoebiusOfWrong)

/-- 'laws.FnExactFixedByTurn': WHATEVER THE INPUT: true; the input reads as it did. -/
def fnExactFixedByTurnSpec : ChangeSpec := { name := "fnExactFixedByTurn", fn := fun _ => fun
  | [d1, d2, d3] => { results := [.lit (.bool true)], args := [d1, d2, d3] }
  | _ => none }
def fnExactFixedByTurnRow : OpenClaim := { program := "ytghfhkbncjgaeaa", sum := "6b0274607946253637ed730088da4003d5fa2ae3ba021909bce8ba3266192d2c", func := "loop.example/g03401/laws.FnExactFixedByTurn", spec := "fnExactFixedByTurn", unfollowed := true, recurses := true, apart := false }
def FnExactFixedByTurnSaid : Prop := fnExactFixedByTurnRow.holds Try.pinned (OpenSpec.ofChange fnExactFixedByTurnSpec)

/-- ITS FALSE NEIGHBOUR: 'it returns false'. Refute it at one input. -/
def fnExactFixedByTurnWrong : ChangeSpec := { name := "fnExactFixedByTurn", fn := fun _ => fun
  | [d1, d2, d3] => { results := [.lit (.bool false)], args := [d1, d2, d3] }
  | _ => none }
def FnExactFixedByTurnWrongFalsely : Prop := fnExactFixedByTurnRow.holds Try.pinned (OpenSpec.ofChange fnExactFixedByTurnWrong)

/- THE SECOND FORM. 'bulk': how many values and letters a reading holds, each counted each time it is reached (what is shared counts as often as it is met; a slice's spare places count too). A statement '..UptoSaid' is the law's where the arguments, and the package variables that the reading takes, are together of bulk at most 1048576: NARROWER than '..Said'. Prove '..Said' where nothing that the law and all that it calls make is longer than what came in: it says more and counts as full. Else prove '..UptoSaid'. A law counts once. -/
mutual
def uptoBulk {H : Type} : DataW H → Nat
  | .lit (.string bytes) => bytes.length + 1
  | .lit _ => 1
  | .nil => 1
  | .ptr d => uptoBulk d + 1
  | .slice elems spare => uptoBulkAll elems + uptoBulkAll spare + 1
  | .agg parts => uptoBulkAll parts + 1
  | .iface _ d => uptoBulk d + 1
  | .map entries => uptoBulkEntries entries + 1
  | .held _ => 1
def uptoBulkAll {H : Type} : List (DataW H) → Nat
  | [] => 0
  | d :: r => uptoBulk d + uptoBulkAll r
def uptoBulkEntries {H : Type} : List (Lit × DataW H) → Nat
  | [] => 0
  | x :: r => uptoBulkEntry x + uptoBulkEntries r
def uptoBulkEntry {H : Type} : Lit × DataW H → Nat
  | (.string bytes, d) => bytes.length + uptoBulk d + 1
  | (_, d) => uptoBulk d + 1
 end
def uptoSmall : (H : Type) → List (DataW H) → Bool := fun _ ds => decide (uptoBulkAll ds ≤ 1048576)
def OpenSpec.upto (s : _root_.Go.ChangeSpec) : _root_.Go.OpenSpec := { _root_.Go.OpenSpec.ofChange s with cond := some uptoSmall }

/-- 'laws.FnExactComplement', WHERE WHAT IT READS IS OF BULK AT MOST 1048576: true; the input reads as it did. -/
def fnExactComplementUptoRow : OpenClaim := { program := "ytghfhkbncjgaeaa", sum := "6b0274607946253637ed730088da4003d5fa2ae3ba021909bce8ba3266192d2c", func := "loop.example/g03401/laws.FnExactComplement", spec := "fnExactComplement", apart := false, narrowed := true }
def FnExactComplementUptoSaid : Prop := fnExactComplementUptoRow.holds Try.pinned (OpenSpec.upto fnExactComplementSpec)

/-- 'laws.FnExactCountChains', WHERE WHAT IT READS IS OF BULK AT MOST 1048576: true; the input reads as it did. -/
def fnExactCountChainsUptoRow : OpenClaim := { program := "ytghfhkbncjgaeaa", sum := "6b0274607946253637ed730088da4003d5fa2ae3ba021909bce8ba3266192d2c", func := "loop.example/g03401/laws.FnExactCountChains", spec := "fnExactCountChains", unfollowed := true, recurses := true, apart := false, narrowed := true }
def FnExactCountChainsUptoSaid : Prop := fnExactCountChainsUptoRow.holds Try.pinned (OpenSpec.upto fnExactCountChainsSpec)

/-- 'laws.FnExactMoebiusOf', WHERE WHAT IT READS IS OF BULK AT MOST 1048576: true; the input reads as it did. -/
def fnExactMoebiusOfUptoRow : OpenClaim := { program := "ytghfhkbncjgaeaa", sum := "6b0274607946253637ed730088da4003d5fa2ae3ba021909bce8ba3266192d2c", func := "loop.example/g03401/laws.FnExactMoebiusOf", spec := "fnExactMoebiusOf", unfollowed := true, recurses := true, apart := false, narrowed := true }
def FnExactMoebiusOfUptoSaid : Prop := fnExactMoebiusOfUptoRow.holds Try.pinned (OpenSpec.upto fnExactMoebiusOfSpec)

/-- 'laws.FnExactFixedByTurn', WHERE WHAT IT READS IS OF BULK AT MOST 1048576: true; the input reads as it did. -/
def fnExactFixedByTurnUptoRow : OpenClaim := { program := "ytghfhkbncjgaeaa", sum := "6b0274607946253637ed730088da4003d5fa2ae3ba021909bce8ba3266192d2c", func := "loop.example/g03401/laws.FnExactFixedByTurn", spec := "fnExactFixedByTurn", unfollowed := true, recurses := true, apart := false, narrowed := true }
def FnExactFixedByTurnUptoSaid : Prop := fnExactFixedByTurnUptoRow.holds Try.pinned (OpenSpec.upto fnExactFixedByTurnSpec)

end Rows
end Go.Proofs.Ytghfhkbncjgaeaa
