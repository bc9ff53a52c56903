/-
  No cell of these rows narrows 'for every input' (looked for: loops, veiled, ifaces, maps, wideKeys, modest, calm, conditions, laid).
  DERIVED. THE GIVEN ROWS OF THIS SEAT. 12 by the template 'for every input the law returns true; each argument reads behind the call as it read before'; 0 by the template 'total and deterministic' (their statements: YtdjkmeepkodhjaaTotals.lean).
  GIVEN WITH THE SEED: the statements are not yours to turn. If you find one false, say at which input.
  Laid BY PROGRAM, IN A SANDBOX (cutbox-rows.mjs): the forced cells as the released guide's own fill.sh prints them over the translation e8b840441d2a7e76… (all of the seat's roots in one cut). By AI agents, Wed Nov 11 2026. No macro, syntax, notation, axiom, sorry.
-/
import Derived.Test.YtdjkmeepkodhjaaChecked
import GoSem.Claim
import GoSem.ClaimJoined
import GoSem.ClaimMapViews
import Derived.JoinedTies
import Derived.KernelRfl
namespace Go.Proofs.Ytdjkmeepkodhjaa
/- THE CELL 'sum', in the pinned program and in every row, IS THE sha256 OF THE DUMP (.gsa) THAT YtdjkmeepkodhjaaProg.lean LOADS. Nothing in Lean hashes anything: it is a label: what it is worth is what the hold of that sum in a sandbox is worth. -/
noncomputable def Try.pinned : Pinned := { name := "ytdjkmeepkodhjaa", sum := "e8b840441d2a7e76476d47462b168144641ad6a1ecf096d029e8ce7b157cfdab", checked := Try.checked }
namespace Rows
def none {H : Type} : Left H := { results := [], args := [] }

/-- 'laws.FnExactIsFiner': WHATEVER THE INPUT: true; the input reads as it did. -/
def fnExactIsFinerSpec : ChangeSpec := { name := "fnExactIsFiner", fn := fun _ => fun
  | [d1, d2] => { results := [.lit (.bool true)], args := [d1, d2] }
  | _ => none }
def fnExactIsFinerRow : OpenClaim := { program := "ytdjkmeepkodhjaa", sum := "e8b840441d2a7e76476d47462b168144641ad6a1ecf096d029e8ce7b157cfdab", func := "loop.example/g03401/laws.FnExactIsFiner", spec := "fnExactIsFiner", apart := false }
def FnExactIsFinerSaid : Prop := fnExactIsFinerRow.holds Try.pinned (OpenSpec.ofChange fnExactIsFinerSpec)

/-- ITS FALSE NEIGHBOUR: 'it returns false'. Refute it at one input. -/
def fnExactIsFinerWrong : ChangeSpec := { name := "fnExactIsFiner", fn := fun _ => fun
  | [d1, d2] => { results := [.lit (.bool false)], args := [d1, d2] }
  | _ => none }
def FnExactIsFinerWrongFalsely : Prop := fnExactIsFinerRow.holds Try.pinned (OpenSpec.ofChange fnExactIsFinerWrong)

/-- 'laws.FnExactRankOfPartition': WHATEVER THE INPUT: true; the input reads as it did. -/
def fnExactRankOfPartitionSpec : ChangeSpec := { name := "fnExactRankOfPartition", fn := fun _ => fun
  | [d] => { results := [.lit (.bool true)], args := [d] }
  | _ => none }
def fnExactRankOfPartitionRow : OpenClaim := { program := "ytdjkmeepkodhjaa", sum := "e8b840441d2a7e76476d47462b168144641ad6a1ecf096d029e8ce7b157cfdab", func := "loop.example/g03401/laws.FnExactRankOfPartition", spec := "fnExactRankOfPartition", apart := false }
def FnExactRankOfPartitionSaid : Prop := fnExactRankOfPartitionRow.holds Try.pinned (OpenSpec.ofChange fnExactRankOfPartitionSpec)

/-- ITS FALSE NEIGHBOUR: 'it returns false'. Refute it at one input. -/
def fnExactRankOfPartitionWrong : ChangeSpec := { name := "fnExactRankOfPartition", fn := fun _ => fun
  | [d] => { results := [.lit (.bool false)], args := [d] }
  | _ => none }
def FnExactRankOfPartitionWrongFalsely : Prop := fnExactRankOfPartitionRow.holds Try.pinned (OpenSpec.ofChange fnExactRankOfPartitionWrong)

/-- 'laws.FnExactDistanceBetween': WHATEVER THE INPUT: true; the input reads as it did. -/
def fnExactDistanceBetweenSpec : ChangeSpec := { name := "fnExactDistanceBetween", fn := fun _ => fun
  | [d1, d2] => { results := [.lit (.bool true)], args := [d1, d2] }
  | _ => none }
def fnExactDistanceBetweenRow : OpenClaim := { program := "ytdjkmeepkodhjaa", sum := "e8b840441d2a7e76476d47462b168144641ad6a1ecf096d029e8ce7b157cfdab", func := "loop.example/g03401/laws.FnExactDistanceBetween", spec := "fnExactDistanceBetween", apart := false }
def FnExactDistanceBetweenSaid : Prop := fnExactDistanceBetweenRow.holds Try.pinned (OpenSpec.ofChange fnExactDistanceBetweenSpec)

/-- ITS FALSE NEIGHBOUR: 'it returns false'. Refute it at one input. -/
def fnExactDistanceBetweenWrong : ChangeSpec := { name := "fnExactDistanceBetween", fn := fun _ => fun
  | [d1, d2] => { results := [.lit (.bool false)], args := [d1, d2] }
  | _ => none }
def FnExactDistanceBetweenWrongFalsely : Prop := fnExactDistanceBetweenRow.holds Try.pinned (OpenSpec.ofChange fnExactDistanceBetweenWrong)

/-- 'laws.FnExactIsBelow': WHATEVER THE INPUT: true; the input reads as it did. -/
def fnExactIsBelowSpec : ChangeSpec := { name := "fnExactIsBelow", fn := fun _ => fun
  | [d1, d2] => { results := [.lit (.bool true)], args := [d1, d2] }
  | _ => none }
def fnExactIsBelowRow : OpenClaim := { program := "ytdjkmeepkodhjaa", sum := "e8b840441d2a7e76476d47462b168144641ad6a1ecf096d029e8ce7b157cfdab", func := "loop.example/g03401/laws.FnExactIsBelow", spec := "fnExactIsBelow", apart := false }
def FnExactIsBelowSaid : Prop := fnExactIsBelowRow.holds Try.pinned (OpenSpec.ofChange fnExactIsBelowSpec)

/-- ITS FALSE NEIGHBOUR: 'it returns false'. Refute it at one input. -/
def fnExactIsBelowWrong : ChangeSpec := { name := "fnExactIsBelow", fn := fun _ => fun
  | [d1, d2] => { results := [.lit (.bool false)], args := [d1, d2] }
  | _ => none }
def FnExactIsBelowWrongFalsely : Prop := fnExactIsBelowRow.holds Try.pinned (OpenSpec.ofChange fnExactIsBelowWrong)

/-- 'laws.FnExactRankOfPath': WHATEVER THE INPUT: true; the input reads as it did. -/
def fnExactRankOfPathSpec : ChangeSpec := { name := "fnExactRankOfPath", fn := fun _ => fun
  | [d] => { results := [.lit (.bool true)], args := [d] }
  | _ => none }
def fnExactRankOfPathRow : OpenClaim := { program := "ytdjkmeepkodhjaa", sum := "e8b840441d2a7e76476d47462b168144641ad6a1ecf096d029e8ce7b157cfdab", func := "loop.example/g03401/laws.FnExactRankOfPath", spec := "fnExactRankOfPath", apart := false }
def FnExactRankOfPathSaid : Prop := fnExactRankOfPathRow.holds Try.pinned (OpenSpec.ofChange fnExactRankOfPathSpec)

/-- ITS FALSE NEIGHBOUR: 'it returns false'. Refute it at one input. -/
def fnExactRankOfPathWrong : ChangeSpec := { name := "fnExactRankOfPath", fn := fun _ => fun
  | [d] => { results := [.lit (.bool false)], args := [d] }
  | _ => none }
def FnExactRankOfPathWrongFalsely : Prop := fnExactRankOfPathRow.holds Try.pinned (OpenSpec.ofChange fnExactRankOfPathWrong)

/-- 'laws.FnExactCoversOf': WHATEVER THE INPUT: true; the input reads as it did. -/
def fnExactCoversOfSpec : ChangeSpec := { name := "fnExactCoversOf", fn := fun _ => fun
  | [d] => { results := [.lit (.bool true)], args := [d] }
  | _ => none }
def fnExactCoversOfRow : OpenClaim := { program := "ytdjkmeepkodhjaa", sum := "e8b840441d2a7e76476d47462b168144641ad6a1ecf096d029e8ce7b157cfdab", func := "loop.example/g03401/laws.FnExactCoversOf", spec := "fnExactCoversOf", apart := false }
def FnExactCoversOfSaid : Prop := fnExactCoversOfRow.holds Try.pinned (OpenSpec.ofChange fnExactCoversOfSpec)

/-- ITS FALSE NEIGHBOUR: 'it returns false'. Refute it at one input. -/
def fnExactCoversOfWrong : ChangeSpec := { name := "fnExactCoversOf", fn := fun _ => fun
  | [d] => { results := [.lit (.bool false)], args := [d] }
  | _ => none }
def FnExactCoversOfWrongFalsely : Prop := fnExactCoversOfRow.holds Try.pinned (OpenSpec.ofChange fnExactCoversOfWrong)

/-- 'laws.FnExactFinerMeet': WHATEVER THE INPUT: true; the input reads as it did. -/
def fnExactFinerMeetSpec : ChangeSpec := { name := "fnExactFinerMeet", fn := fun _ => fun
  | [d1, d2] => { results := [.lit (.bool true)], args := [d1, d2] }
  | _ => none }
def fnExactFinerMeetRow : OpenClaim := { program := "ytdjkmeepkodhjaa", sum := "e8b840441d2a7e76476d47462b168144641ad6a1ecf096d029e8ce7b157cfdab", func := "loop.example/g03401/laws.FnExactFinerMeet", spec := "fnExactFinerMeet", apart := false }
def FnExactFinerMeetSaid : Prop := fnExactFinerMeetRow.holds Try.pinned (OpenSpec.ofChange fnExactFinerMeetSpec)

/-- ITS FALSE NEIGHBOUR: 'it returns false'. Refute it at one input. -/
def fnExactFinerMeetWrong : ChangeSpec := { name := "fnExactFinerMeet", fn := fun _ => fun
  | [d1, d2] => { results := [.lit (.bool false)], args := [d1, d2] }
  | _ => none }
def FnExactFinerMeetWrongFalsely : Prop := fnExactFinerMeetRow.holds Try.pinned (OpenSpec.ofChange fnExactFinerMeetWrong)

/-- 'laws.FnExactLowerPath': WHATEVER THE INPUT: true; the input reads as it did. -/
def fnExactLowerPathSpec : ChangeSpec := { name := "fnExactLowerPath", fn := fun _ => fun
  | [d1, d2] => { results := [.lit (.bool true)], args := [d1, d2] }
  | _ => none }
def fnExactLowerPathRow : OpenClaim := { program := "ytdjkmeepkodhjaa", sum := "e8b840441d2a7e76476d47462b168144641ad6a1ecf096d029e8ce7b157cfdab", func := "loop.example/g03401/laws.FnExactLowerPath", spec := "fnExactLowerPath", unfollowed := true, recurses := true, apart := false }
def FnExactLowerPathSaid : Prop := fnExactLowerPathRow.holds Try.pinned (OpenSpec.ofChange fnExactLowerPathSpec)

/-- ITS FALSE NEIGHBOUR: 'it returns false'. Refute it at one input. -/
def fnExactLowerPathWrong : ChangeSpec := { name := "fnExactLowerPath", fn := fun _ => fun
  | [d1, d2] => { results := [.lit (.bool false)], args := [d1, d2] }
  | _ => none }
def FnExactLowerPathWrongFalsely : Prop := fnExactLowerPathRow.holds Try.pinned (OpenSpec.ofChange fnExactLowerPathWrong)

/-- 'laws.FnExactUpperPath': WHATEVER THE INPUT: true; the input reads as it did. -/
def fnExactUpperPathSpec : ChangeSpec := { name := "fnExactUpperPath", fn := fun _ => fun
  | [d1, d2] => { results := [.lit (.bool true)], args := [d1, d2] }
  | _ => none }
def fnExactUpperPathRow : OpenClaim := { program := "ytdjkmeepkodhjaa", sum := "e8b840441d2a7e76476d47462b168144641ad6a1ecf096d029e8ce7b157cfdab", func := "loop.example/g03401/laws.FnExactUpperPath", spec := "fnExactUpperPath", unfollowed := true, recurses := true, apart := false }
def FnExactUpperPathSaid : Prop := fnExactUpperPathRow.holds Try.pinned (OpenSpec.ofChange fnExactUpperPathSpec)

/-- ITS FALSE NEIGHBOUR: 'it returns false'. Refute it at one input. -/
def fnExactUpperPathWrong : ChangeSpec := { name := "fnExactUpperPath", fn := fun _ => fun
  | [d1, d2] => { results := [.lit (.bool false)], args := [d1, d2] }
  | _ => none }
def FnExactUpperPathWrongFalsely : Prop := fnExactUpperPathRow.holds Try.pinned (OpenSpec.ofChange fnExactUpperPathWrong)

/-- 'laws.FnExactNoncrossingClosure': WHATEVER THE INPUT: true; the input reads as it did. -/
def fnExactNoncrossingClosureSpec : ChangeSpec := { name := "fnExactNoncrossingClosure", fn := fun _ => fun
  | [d] => { results := [.lit (.bool true)], args := [d] }
  | _ => none }
def fnExactNoncrossingClosureRow : OpenClaim := { program := "ytdjkmeepkodhjaa", sum := "e8b840441d2a7e76476d47462b168144641ad6a1ecf096d029e8ce7b157cfdab", func := "loop.example/g03401/laws.FnExactNoncrossingClosure", spec := "fnExactNoncrossingClosure", apart := false }
def FnExactNoncrossingClosureSaid : Prop := fnExactNoncrossingClosureRow.holds Try.pinned (OpenSpec.ofChange fnExactNoncrossingClosureSpec)

/-- ITS FALSE NEIGHBOUR: 'it returns false'. Refute it at one input. -/
def fnExactNoncrossingClosureWrong : ChangeSpec := { name := "fnExactNoncrossingClosure", fn := fun _ => fun
  | [d] => { results := [.lit (.bool false)], args := [d] }
  | _ => none }
def FnExactNoncrossingClosureWrongFalsely : Prop := fnExactNoncrossingClosureRow.holds Try.pinned (OpenSpec.ofChange fnExactNoncrossingClosureWrong)

/-- 'laws.FnExactCountBelow': WHATEVER THE INPUT: true; the input reads as it did. -/
def fnExactCountBelowSpec : ChangeSpec := { name := "fnExactCountBelow", fn := fun _ => fun
  | [d] => { results := [.lit (.bool true)], args := [d] }
  | _ => none }
def fnExactCountBelowRow : OpenClaim := { program := "ytdjkmeepkodhjaa", sum := "e8b840441d2a7e76476d47462b168144641ad6a1ecf096d029e8ce7b157cfdab", func := "loop.example/g03401/laws.FnExactCountBelow", spec := "fnExactCountBelow", unfollowed := true, recurses := true, apart := false }
def FnExactCountBelowSaid : Prop := fnExactCountBelowRow.holds Try.pinned (OpenSpec.ofChange fnExactCountBelowSpec)

/-- ITS FALSE NEIGHBOUR: 'it returns false'. Refute it at one input. -/
def fnExactCountBelowWrong : ChangeSpec := { name := "fnExactCountBelow", fn := fun _ => fun
  | [d] => { results := [.lit (.bool false)], args := [d] }
  | _ => none }
def FnExactCountBelowWrongFalsely : Prop := fnExactCountBelowRow.holds Try.pinned (OpenSpec.ofChange fnExactCountBelowWrong)

/-- 'laws.FnExactCoarserJoin': WHATEVER THE INPUT: true; the input reads as it did. -/
def fnExactCoarserJoinSpec : ChangeSpec := { name := "fnExactCoarserJoin", fn := fun _ => fun
  | [d1, d2] => { results := [.lit (.bool true)], args := [d1, d2] }
  | _ => none }
def fnExactCoarserJoinRow : OpenClaim := { program := "ytdjkmeepkodhjaa", sum := "e8b840441d2a7e76476d47462b168144641ad6a1ecf096d029e8ce7b157cfdab", func := "loop.example/g03401/laws.FnExactCoarserJoin", spec := "fnExactCoarserJoin", apart := false }
def FnExactCoarserJoinSaid : Prop := fnExactCoarserJoinRow.holds Try.pinned (OpenSpec.ofChange fnExactCoarserJoinSpec)

/-- ITS FALSE NEIGHBOUR: 'it returns false'. Refute it at one input. -/
def fnExactCoarserJoinWrong : ChangeSpec := { name := "fnExactCoarserJoin", fn := fun _ => fun
  | [d1, d2] => { results := [.lit (.bool false)], args := [d1, d2] }
  | _ => none }
def FnExactCoarserJoinWrongFalsely : Prop := fnExactCoarserJoinRow.holds Try.pinned (OpenSpec.ofChange fnExactCoarserJoinWrong)

/- THE SECOND FORM. 'bulk': how many values and letters a reading holds, each counted each time it is reached (what is shared counts as often as it is met; a slice's spare places count too). A statement '..UptoSaid' is the law's where the arguments, and the package variables that the reading takes, are together of bulk at most 1048576: NARROWER than '..Said'. Prove '..Said' where nothing that the law and all that it calls make is longer than what came in: it says more and counts as full. Else prove '..UptoSaid'. A law counts once. -/
mutual
def uptoBulk {H : Type} : DataW H → Nat
  | .lit (.string bytes) => bytes.length + 1
  | .lit _ => 1
  | .nil => 1
  | .ptr d => uptoBulk d + 1
  | .slice elems spare => uptoBulkAll elems + uptoBulkAll spare + 1
  | .agg parts => uptoBulkAll parts + 1
  | .iface _ d => uptoBulk d + 1
  | .map entries => uptoBulkEntries entries + 1
  | .held _ => 1
def uptoBulkAll {H : Type} : List (DataW H) → Nat
  | [] => 0
  | d :: r => uptoBulk d + uptoBulkAll r
def uptoBulkEntries {H : Type} : List (Lit × DataW H) → Nat
  | [] => 0
  | x :: r => uptoBulkEntry x + uptoBulkEntries r
def uptoBulkEntry {H : Type} : Lit × DataW H → Nat
  | (.string bytes, d) => bytes.length + uptoBulk d + 1
  | (_, d) => uptoBulk d + 1
 end
def uptoSmall : (H : Type) → List (DataW H) → Bool := fun _ ds => decide (uptoBulkAll ds ≤ 1048576)
def OpenSpec.upto (s : _root_.Go.ChangeSpec) : _root_.Go.OpenSpec := { _root_.Go.OpenSpec.ofChange s with cond := some uptoSmall }

/-- 'laws.FnExactIsFiner', WHERE WHAT IT READS IS OF BULK AT MOST 1048576: true; the input reads as it did. -/
def fnExactIsFinerUptoRow : OpenClaim := { program := "ytdjkmeepkodhjaa", sum := "e8b840441d2a7e76476d47462b168144641ad6a1ecf096d029e8ce7b157cfdab", func := "loop.example/g03401/laws.FnExactIsFiner", spec := "fnExactIsFiner", apart := false, narrowed := true }
def FnExactIsFinerUptoSaid : Prop := fnExactIsFinerUptoRow.holds Try.pinned (OpenSpec.upto fnExactIsFinerSpec)

/-- 'laws.FnExactRankOfPartition', WHERE WHAT IT READS IS OF BULK AT MOST 1048576: true; the input reads as it did. -/
def fnExactRankOfPartitionUptoRow : OpenClaim := { program := "ytdjkmeepkodhjaa", sum := "e8b840441d2a7e76476d47462b168144641ad6a1ecf096d029e8ce7b157cfdab", func := "loop.example/g03401/laws.FnExactRankOfPartition", spec := "fnExactRankOfPartition", apart := false, narrowed := true }
def FnExactRankOfPartitionUptoSaid : Prop := fnExactRankOfPartitionUptoRow.holds Try.pinned (OpenSpec.upto fnExactRankOfPartitionSpec)

/-- 'laws.FnExactDistanceBetween', WHERE WHAT IT READS IS OF BULK AT MOST 1048576: true; the input reads as it did. -/
def fnExactDistanceBetweenUptoRow : OpenClaim := { program := "ytdjkmeepkodhjaa", sum := "e8b840441d2a7e76476d47462b168144641ad6a1ecf096d029e8ce7b157cfdab", func := "loop.example/g03401/laws.FnExactDistanceBetween", spec := "fnExactDistanceBetween", apart := false, narrowed := true }
def FnExactDistanceBetweenUptoSaid : Prop := fnExactDistanceBetweenUptoRow.holds Try.pinned (OpenSpec.upto fnExactDistanceBetweenSpec)

/-- 'laws.FnExactIsBelow', WHERE WHAT IT READS IS OF BULK AT MOST 1048576: true; the input reads as it did. -/
def fnExactIsBelowUptoRow : OpenClaim := { program := "ytdjkmeepkodhjaa", sum := "e8b840441d2a7e76476d47462b168144641ad6a1ecf096d029e8ce7b157cfdab", func := "loop.example/g03401/laws.FnExactIsBelow", spec := "fnExactIsBelow", apart := false, narrowed := true }
def FnExactIsBelowUptoSaid : Prop := fnExactIsBelowUptoRow.holds Try.pinned (OpenSpec.upto fnExactIsBelowSpec)

/-- 'laws.FnExactRankOfPath', WHERE WHAT IT READS IS OF BULK AT MOST 1048576: true; the input reads as it did. -/
def fnExactRankOfPathUptoRow : OpenClaim := { program := "ytdjkmeepkodhjaa", sum := "e8b840441d2a7e76476d47462b168144641ad6a1ecf096d029e8ce7b157cfdab", func := "loop.example/g03401/laws.FnExactRankOfPath", spec := "fnExactRankOfPath", apart := false, narrowed := true }
def FnExactRankOfPathUptoSaid : Prop := fnExactRankOfPathUptoRow.holds Try.pinned (OpenSpec.upto fnExactRankOfPathSpec)

/-- 'laws.FnExactCoversOf', WHERE WHAT IT READS IS OF BULK AT MOST 1048576: true; the input reads as it did. -/
def fnExactCoversOfUptoRow : OpenClaim := { program := "ytdjkmeepkodhjaa", sum := "e8b840441d2a7e76476d47462b168144641ad6a1ecf096d029e8ce7b157cfdab", func := "loop.example/g03401/laws.FnExactCoversOf", spec := "fnExactCoversOf", apart := false, narrowed := true }
def FnExactCoversOfUptoSaid : Prop := fnExactCoversOfUptoRow.holds Try.pinned (OpenSpec.upto fnExactCoversOfSpec)

/-- 'laws.FnExactFinerMeet', WHERE WHAT IT READS IS OF BULK AT MOST 1048576: true; the input reads as it did. -/
def fnExactFinerMeetUptoRow : OpenClaim := { program := "ytdjkmeepkodhjaa", sum := "e8b840441d2a7e76476d47462b168144641ad6a1ecf096d029e8ce7b157cfdab", func := "loop.example/g03401/laws.FnExactFinerMeet", spec := "fnExactFinerMeet", apart := false, narrowed := true }
def FnExactFinerMeetUptoSaid : Prop := fnExactFinerMeetUptoRow.holds Try.pinned (OpenSpec.upto fnExactFinerMeetSpec)

/-- 'laws.FnExactLowerPath', WHERE WHAT IT READS IS OF BULK AT MOST 1048576: true; the input reads as it did. -/
def fnExactLowerPathUptoRow : OpenClaim := { program := "ytdjkmeepkodhjaa", sum := "e8b840441d2a7e76476d47462b168144641ad6a1ecf096d029e8ce7b157cfdab", func := "loop.example/g03401/laws.FnExactLowerPath", spec := "fnExactLowerPath", unfollowed := true, recurses := true, apart := false, narrowed := true }
def FnExactLowerPathUptoSaid : Prop := fnExactLowerPathUptoRow.holds Try.pinned (OpenSpec.upto fnExactLowerPathSpec)

/-- 'laws.FnExactUpperPath', WHERE WHAT IT READS IS OF BULK AT MOST 1048576: true; the input reads as it did. -/
def fnExactUpperPathUptoRow : OpenClaim := { program := "ytdjkmeepkodhjaa", sum := "e8b840441d2a7e76476d47462b168144641ad6a1ecf096d029e8ce7b157cfdab", func := "loop.example/g03401/laws.FnExactUpperPath", spec := "fnExactUpperPath", unfollowed := true, recurses := true, apart := false, narrowed := true }
def FnExactUpperPathUptoSaid : Prop := fnExactUpperPathUptoRow.holds Try.pinned (OpenSpec.upto fnExactUpperPathSpec)

/-- 'laws.FnExactNoncrossingClosure', WHERE WHAT IT READS IS OF BULK AT MOST 1048576: true; the input reads as it did. -/
def fnExactNoncrossingClosureUptoRow : OpenClaim := { program := "ytdjkmeepkodhjaa", sum := "e8b840441d2a7e76476d47462b168144641ad6a1ecf096d029e8ce7b157cfdab", func := "loop.example/g03401/laws.FnExactNoncrossingClosure", spec := "fnExactNoncrossingClosure", apart := false, narrowed := true }
def FnExactNoncrossingClosureUptoSaid : Prop := fnExactNoncrossingClosureUptoRow.holds Try.pinned (OpenSpec.upto fnExactNoncrossingClosureSpec)

/-- 'laws.FnExactCountBelow', WHERE WHAT IT READS IS OF BULK AT MOST 1048576: true; the input reads as it did. -/
def fnExactCountBelowUptoRow : OpenClaim := { program := "ytdjkmeepkodhjaa", sum := "e8b840441d2a7e76476d47462b168144641ad6a1ecf096d029e8ce7b157cfdab", func := "loop.example/g03401/laws.FnExactCountBelow", spec := "fnExactCountBelow", unfollowed := true, recurses := true, apart := false, narrowed := true }
def FnExactCountBelowUptoSaid : Prop := fnExactCountBelowUptoRow.holds Try.pinned (OpenSpec.upto fnExactCountBelowSpec)

/-- 'laws.FnExactCoarserJoin', WHERE WHAT IT READS IS OF BULK AT MOST 1048576: true; the input reads as it did. -/
def fnExactCoarserJoinUptoRow : OpenClaim := { program := "ytdjkmeepkodhjaa", sum := "e8b840441d2a7e76476d47462b168144641ad6a1ecf096d029e8ce7b157cfdab", func := "loop.example/g03401/laws.FnExactCoarserJoin", spec := "fnExactCoarserJoin", apart := false, narrowed := true }
def FnExactCoarserJoinUptoSaid : Prop := fnExactCoarserJoinUptoRow.holds Try.pinned (OpenSpec.upto fnExactCoarserJoinSpec)

end Rows
end Go.Proofs.Ytdjkmeepkodhjaa
