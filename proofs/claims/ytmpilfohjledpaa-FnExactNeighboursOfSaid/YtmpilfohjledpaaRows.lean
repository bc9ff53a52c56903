/-
  No cell of these rows narrows 'for every input' (looked for: loops, veiled, ifaces, maps, wideKeys, modest, calm, conditions, laid).
  DERIVED. THE GIVEN ROWS OF THIS SEAT. 11 by the template 'for every input the law returns true; each argument reads behind the call as it read before'; 0 by the template 'total and deterministic' (their statements: YtmpilfohjledpaaTotals.lean).
  GIVEN WITH THE SEED: the statements are not yours to turn. If you find one false, say at which input.
  Laid BY PROGRAM, IN A SANDBOX (cutbox-rows.mjs): the forced cells as the released guide's own fill.sh prints them over the translation 2dece1c83970b893… (all of the seat's roots in one cut). By AI agents, Wed Nov 11 2026. No macro, syntax, notation, axiom, sorry.
-/
import Derived.Test.YtmpilfohjledpaaChecked
import GoSem.Claim
import GoSem.ClaimJoined
import GoSem.ClaimMapViews
import Derived.JoinedTies
import Derived.KernelRfl
namespace Go.Proofs.Ytmpilfohjledpaa
/- THE CELL 'sum', in the pinned program and in every row, IS THE sha256 OF THE DUMP (.gsa) THAT YtmpilfohjledpaaProg.lean LOADS. Nothing in Lean hashes anything: it is a label: what it is worth is what the hold of that sum in a sandbox is worth. -/
noncomputable def Try.pinned : Pinned := { name := "ytmpilfohjledpaa", sum := "2dece1c83970b8936251fb5657d3cf879d342f12108264e9556e805e65fe88ed", checked := Try.checked }
namespace Rows
def none {H : Type} : Left H := { results := [], args := [] }

/-- 'laws.FnExactNodeAt': WHATEVER THE INPUT: true; the input reads as it did. -/
def fnExactNodeAtSpec : ChangeSpec := { name := "fnExactNodeAt", fn := fun _ => fun
  | [d1, d2] => { results := [.lit (.bool true)], args := [d1, d2] }
  | _ => none }
def fnExactNodeAtRow : OpenClaim := { program := "ytmpilfohjledpaa", sum := "2dece1c83970b8936251fb5657d3cf879d342f12108264e9556e805e65fe88ed", func := "loop.example/g03401/laws.FnExactNodeAt", spec := "fnExactNodeAt", recurses := true, apart := false }
def FnExactNodeAtSaid : Prop := fnExactNodeAtRow.holds Try.pinned (OpenSpec.ofChange fnExactNodeAtSpec)

/-- ITS FALSE NEIGHBOUR: 'it returns false'. Refute it at one input. -/
def fnExactNodeAtWrong : ChangeSpec := { name := "fnExactNodeAt", fn := fun _ => fun
  | [d1, d2] => { results := [.lit (.bool false)], args := [d1, d2] }
  | _ => none }
def FnExactNodeAtWrongFalsely : Prop := fnExactNodeAtRow.holds Try.pinned (OpenSpec.ofChange fnExactNodeAtWrong)

/-- 'laws.FnExactLeftComb': WHATEVER THE INPUT: true; the input reads as it did. -/
def fnExactLeftCombSpec : ChangeSpec := { name := "fnExactLeftComb", fn := fun _ => fun
  | [d] => { results := [.lit (.bool true)], args := [d] }
  | _ => none }
def fnExactLeftCombRow : OpenClaim := { program := "ytmpilfohjledpaa", sum := "2dece1c83970b8936251fb5657d3cf879d342f12108264e9556e805e65fe88ed", func := "loop.example/g03401/laws.FnExactLeftComb", spec := "fnExactLeftComb", recurses := true, apart := false }
def FnExactLeftCombSaid : Prop := fnExactLeftCombRow.holds Try.pinned (OpenSpec.ofChange fnExactLeftCombSpec)

/-- ITS FALSE NEIGHBOUR: 'it returns false'. Refute it at one input. -/
def fnExactLeftCombWrong : ChangeSpec := { name := "fnExactLeftComb", fn := fun _ => fun
  | [d] => { results := [.lit (.bool false)], args := [d] }
  | _ => none }
def FnExactLeftCombWrongFalsely : Prop := fnExactLeftCombRow.holds Try.pinned (OpenSpec.ofChange fnExactLeftCombWrong)

/-- 'laws.FnExactWeightsOf': WHATEVER THE INPUT: true; the input reads as it did. -/
def fnExactWeightsOfSpec : ChangeSpec := { name := "fnExactWeightsOf", fn := fun _ => fun
  | [d] => { results := [.lit (.bool true)], args := [d] }
  | _ => none }
def fnExactWeightsOfRow : OpenClaim := { program := "ytmpilfohjledpaa", sum := "2dece1c83970b8936251fb5657d3cf879d342f12108264e9556e805e65fe88ed", func := "loop.example/g03401/laws.FnExactWeightsOf", spec := "fnExactWeightsOf", recurses := true, apart := false }
def FnExactWeightsOfSaid : Prop := fnExactWeightsOfRow.holds Try.pinned (OpenSpec.ofChange fnExactWeightsOfSpec)

/-- ITS FALSE NEIGHBOUR: 'it returns false'. Refute it at one input. -/
def fnExactWeightsOfWrong : ChangeSpec := { name := "fnExactWeightsOf", fn := fun _ => fun
  | [d] => { results := [.lit (.bool false)], args := [d] }
  | _ => none }
def FnExactWeightsOfWrongFalsely : Prop := fnExactWeightsOfRow.holds Try.pinned (OpenSpec.ofChange fnExactWeightsOfWrong)

/-- 'laws.FnExactIsTamariLess': WHATEVER THE INPUT: true; the input reads as it did. -/
def fnExactIsTamariLessSpec : ChangeSpec := { name := "fnExactIsTamariLess", fn := fun _ => fun
  | [d1, d2] => { results := [.lit (.bool true)], args := [d1, d2] }
  | _ => none }
def fnExactIsTamariLessRow : OpenClaim := { program := "ytmpilfohjledpaa", sum := "2dece1c83970b8936251fb5657d3cf879d342f12108264e9556e805e65fe88ed", func := "loop.example/g03401/laws.FnExactIsTamariLess", spec := "fnExactIsTamariLess", recurses := true, apart := false }
def FnExactIsTamariLessSaid : Prop := fnExactIsTamariLessRow.holds Try.pinned (OpenSpec.ofChange fnExactIsTamariLessSpec)

/-- ITS FALSE NEIGHBOUR: 'it returns false'. Refute it at one input. -/
def fnExactIsTamariLessWrong : ChangeSpec := { name := "fnExactIsTamariLess", fn := fun _ => fun
  | [d1, d2] => { results := [.lit (.bool false)], args := [d1, d2] }
  | _ => none }
def FnExactIsTamariLessWrongFalsely : Prop := fnExactIsTamariLessRow.holds Try.pinned (OpenSpec.ofChange fnExactIsTamariLessWrong)

/-- 'laws.FnExactRotateLeft': WHATEVER THE INPUT: true; the input reads as it did. -/
def fnExactRotateLeftSpec : ChangeSpec := { name := "fnExactRotateLeft", fn := fun _ => fun
  | [d1, d2] => { results := [.lit (.bool true)], args := [d1, d2] }
  | _ => none }
def fnExactRotateLeftRow : OpenClaim := { program := "ytmpilfohjledpaa", sum := "2dece1c83970b8936251fb5657d3cf879d342f12108264e9556e805e65fe88ed", func := "loop.example/g03401/laws.FnExactRotateLeft", spec := "fnExactRotateLeft", recurses := true, apart := false }
def FnExactRotateLeftSaid : Prop := fnExactRotateLeftRow.holds Try.pinned (OpenSpec.ofChange fnExactRotateLeftSpec)

/-- ITS FALSE NEIGHBOUR: 'it returns false'. Refute it at one input. -/
def fnExactRotateLeftWrong : ChangeSpec := { name := "fnExactRotateLeft", fn := fun _ => fun
  | [d1, d2] => { results := [.lit (.bool false)], args := [d1, d2] }
  | _ => none }
def FnExactRotateLeftWrongFalsely : Prop := fnExactRotateLeftRow.holds Try.pinned (OpenSpec.ofChange fnExactRotateLeftWrong)

/-- 'laws.FnExactRotateRight': WHATEVER THE INPUT: true; the input reads as it did. -/
def fnExactRotateRightSpec : ChangeSpec := { name := "fnExactRotateRight", fn := fun _ => fun
  | [d1, d2] => { results := [.lit (.bool true)], args := [d1, d2] }
  | _ => none }
def fnExactRotateRightRow : OpenClaim := { program := "ytmpilfohjledpaa", sum := "2dece1c83970b8936251fb5657d3cf879d342f12108264e9556e805e65fe88ed", func := "loop.example/g03401/laws.FnExactRotateRight", spec := "fnExactRotateRight", recurses := true, apart := false }
def FnExactRotateRightSaid : Prop := fnExactRotateRightRow.holds Try.pinned (OpenSpec.ofChange fnExactRotateRightSpec)

/-- ITS FALSE NEIGHBOUR: 'it returns false'. Refute it at one input. -/
def fnExactRotateRightWrong : ChangeSpec := { name := "fnExactRotateRight", fn := fun _ => fun
  | [d1, d2] => { results := [.lit (.bool false)], args := [d1, d2] }
  | _ => none }
def FnExactRotateRightWrongFalsely : Prop := fnExactRotateRightRow.holds Try.pinned (OpenSpec.ofChange fnExactRotateRightWrong)

/-- 'laws.FnExactCountRight': WHATEVER THE INPUT: true; the input reads as it did. -/
def fnExactCountRightSpec : ChangeSpec := { name := "fnExactCountRight", fn := fun _ => fun
  | [d] => { results := [.lit (.bool true)], args := [d] }
  | _ => none }
def fnExactCountRightRow : OpenClaim := { program := "ytmpilfohjledpaa", sum := "2dece1c83970b8936251fb5657d3cf879d342f12108264e9556e805e65fe88ed", func := "loop.example/g03401/laws.FnExactCountRight", spec := "fnExactCountRight", recurses := true, apart := false }
def FnExactCountRightSaid : Prop := fnExactCountRightRow.holds Try.pinned (OpenSpec.ofChange fnExactCountRightSpec)

/-- ITS FALSE NEIGHBOUR: 'it returns false'. Refute it at one input. -/
def fnExactCountRightWrong : ChangeSpec := { name := "fnExactCountRight", fn := fun _ => fun
  | [d] => { results := [.lit (.bool false)], args := [d] }
  | _ => none }
def FnExactCountRightWrongFalsely : Prop := fnExactCountRightRow.holds Try.pinned (OpenSpec.ofChange fnExactCountRightWrong)

/-- 'laws.FnExactBinaryOfWeights': WHATEVER THE INPUT: true; the input reads as it did. -/
def fnExactBinaryOfWeightsSpec : ChangeSpec := { name := "fnExactBinaryOfWeights", fn := fun _ => fun
  | [d] => { results := [.lit (.bool true)], args := [d] }
  | _ => none }
def fnExactBinaryOfWeightsRow : OpenClaim := { program := "ytmpilfohjledpaa", sum := "2dece1c83970b8936251fb5657d3cf879d342f12108264e9556e805e65fe88ed", func := "loop.example/g03401/laws.FnExactBinaryOfWeights", spec := "fnExactBinaryOfWeights", recurses := true, apart := false }
def FnExactBinaryOfWeightsSaid : Prop := fnExactBinaryOfWeightsRow.holds Try.pinned (OpenSpec.ofChange fnExactBinaryOfWeightsSpec)

/-- ITS FALSE NEIGHBOUR: 'it returns false'. Refute it at one input. -/
def fnExactBinaryOfWeightsWrong : ChangeSpec := { name := "fnExactBinaryOfWeights", fn := fun _ => fun
  | [d] => { results := [.lit (.bool false)], args := [d] }
  | _ => none }
def FnExactBinaryOfWeightsWrongFalsely : Prop := fnExactBinaryOfWeightsRow.holds Try.pinned (OpenSpec.ofChange fnExactBinaryOfWeightsWrong)

/-- 'laws.FnExactTamariMeet': WHATEVER THE INPUT: true; the input reads as it did. -/
def fnExactTamariMeetSpec : ChangeSpec := { name := "fnExactTamariMeet", fn := fun _ => fun
  | [d1, d2] => { results := [.lit (.bool true)], args := [d1, d2] }
  | _ => none }
def fnExactTamariMeetRow : OpenClaim := { program := "ytmpilfohjledpaa", sum := "2dece1c83970b8936251fb5657d3cf879d342f12108264e9556e805e65fe88ed", func := "loop.example/g03401/laws.FnExactTamariMeet", spec := "fnExactTamariMeet", recurses := true, apart := false }
def FnExactTamariMeetSaid : Prop := fnExactTamariMeetRow.holds Try.pinned (OpenSpec.ofChange fnExactTamariMeetSpec)

/-- ITS FALSE NEIGHBOUR: 'it returns false'. Refute it at one input. -/
def fnExactTamariMeetWrong : ChangeSpec := { name := "fnExactTamariMeet", fn := fun _ => fun
  | [d1, d2] => { results := [.lit (.bool false)], args := [d1, d2] }
  | _ => none }
def FnExactTamariMeetWrongFalsely : Prop := fnExactTamariMeetRow.holds Try.pinned (OpenSpec.ofChange fnExactTamariMeetWrong)

/-- 'laws.FnExactNeighboursOf': WHATEVER THE INPUT: true; the input reads as it did. -/
def fnExactNeighboursOfSpec : ChangeSpec := { name := "fnExactNeighboursOf", fn := fun _ => fun
  | [d] => { results := [.lit (.bool true)], args := [d] }
  | _ => none }
def fnExactNeighboursOfRow : OpenClaim := { program := "ytmpilfohjledpaa", sum := "2dece1c83970b8936251fb5657d3cf879d342f12108264e9556e805e65fe88ed", func := "loop.example/g03401/laws.FnExactNeighboursOf", spec := "fnExactNeighboursOf", unfollowed := true, recurses := true, apart := false }
def FnExactNeighboursOfSaid : Prop := fnExactNeighboursOfRow.holds Try.pinned (OpenSpec.ofChange fnExactNeighboursOfSpec)

/-- ITS FALSE NEIGHBOUR: 'it returns false'. Refute it at one input. -/
def fnExactNeighboursOfWrong : ChangeSpec := { name := "fnExactNeighboursOf", fn := fun _ => fun
  | [d] => { results := [.lit (.bool false)], args := [d] }
  | _ => none }
def FnExactNeighboursOfWrongFalsely : Prop := fnExactNeighboursOfRow.holds Try.pinned (OpenSpec.ofChange fnExactNeighboursOfWrong)

/-- 'laws.FnExactTamariJoin': WHATEVER THE INPUT: true; the input reads as it did. -/
def fnExactTamariJoinSpec : ChangeSpec := { name := "fnExactTamariJoin", fn := fun _ => fun
  | [d1, d2] => { results := [.lit (.bool true)], args := [d1, d2] }
  | _ => none }
def fnExactTamariJoinRow : OpenClaim := { program := "ytmpilfohjledpaa", sum := "2dece1c83970b8936251fb5657d3cf879d342f12108264e9556e805e65fe88ed", func := "loop.example/g03401/laws.FnExactTamariJoin", spec := "fnExactTamariJoin", recurses := true, apart := false }
def FnExactTamariJoinSaid : Prop := fnExactTamariJoinRow.holds Try.pinned (OpenSpec.ofChange fnExactTamariJoinSpec)

/-- ITS FALSE NEIGHBOUR: 'it returns false'. Refute it at one input. -/
def fnExactTamariJoinWrong : ChangeSpec := { name := "fnExactTamariJoin", fn := fun _ => fun
  | [d1, d2] => { results := [.lit (.bool false)], args := [d1, d2] }
  | _ => none }
def FnExactTamariJoinWrongFalsely : Prop := fnExactTamariJoinRow.holds Try.pinned (OpenSpec.ofChange fnExactTamariJoinWrong)

/- THE SECOND FORM. 'bulk': how many values and letters a reading holds, each counted each time it is reached (what is shared counts as often as it is met; a slice's spare places count too). A statement '..UptoSaid' is the law's where the arguments, and the package variables that the reading takes, are together of bulk at most 1048576: NARROWER than '..Said'. Prove '..Said' where nothing that the law and all that it calls make is longer than what came in: it says more and counts as full. Else prove '..UptoSaid'. A law counts once. -/
mutual
def uptoBulk {H : Type} : DataW H → Nat
  | .lit (.string bytes) => bytes.length + 1
  | .lit _ => 1
  | .nil => 1
  | .ptr d => uptoBulk d + 1
  | .slice elems spare => uptoBulkAll elems + uptoBulkAll spare + 1
  | .agg parts => uptoBulkAll parts + 1
  | .iface _ d => uptoBulk d + 1
  | .map entries => uptoBulkEntries entries + 1
  | .held _ => 1
def uptoBulkAll {H : Type} : List (DataW H) → Nat
  | [] => 0
  | d :: r => uptoBulk d + uptoBulkAll r
def uptoBulkEntries {H : Type} : List (Lit × DataW H) → Nat
  | [] => 0
  | x :: r => uptoBulkEntry x + uptoBulkEntries r
def uptoBulkEntry {H : Type} : Lit × DataW H → Nat
  | (.string bytes, d) => bytes.length + uptoBulk d + 1
  | (_, d) => uptoBulk d + 1
 end
def uptoSmall : (H : Type) → List (DataW H) → Bool := fun _ ds => decide (uptoBulkAll ds ≤ 1048576)
def OpenSpec.upto (s : _root_.Go.ChangeSpec) : _root_.Go.OpenSpec := { _root_.Go.OpenSpec.ofChange s with cond := some uptoSmall }

/-- 'laws.FnExactNodeAt', WHERE WHAT IT READS IS OF BULK AT MOST 1048576: true; the input reads as it did. -/
def fnExactNodeAtUptoRow : OpenClaim := { program := "ytmpilfohjledpaa", sum := "2dece1c83970b8936251fb5657d3cf879d342f12108264e9556e805e65fe88ed", func := "loop.example/g03401/laws.FnExactNodeAt", spec := "fnExactNodeAt", recurses := true, apart := false, narrowed := true }
def FnExactNodeAtUptoSaid : Prop := fnExactNodeAtUptoRow.holds Try.pinned (OpenSpec.upto fnExactNodeAtSpec)

/-- 'laws.FnExactLeftComb', WHERE WHAT IT READS IS OF BULK AT MOST 1048576: true; the input reads as it did. -/
def fnExactLeftCombUptoRow : OpenClaim := { program := "ytmpilfohjledpaa", sum := "2dece1c83970b8936251fb5657d3cf879d342f12108264e9556e805e65fe88ed", func := "loop.example/g03401/laws.FnExactLeftComb", spec := "fnExactLeftComb", recurses := true, apart := false, narrowed := true }
def FnExactLeftCombUptoSaid : Prop := fnExactLeftCombUptoRow.holds Try.pinned (OpenSpec.upto fnExactLeftCombSpec)

/-- 'laws.FnExactWeightsOf', WHERE WHAT IT READS IS OF BULK AT MOST 1048576: true; the input reads as it did. -/
def fnExactWeightsOfUptoRow : OpenClaim := { program := "ytmpilfohjledpaa", sum := "2dece1c83970b8936251fb5657d3cf879d342f12108264e9556e805e65fe88ed", func := "loop.example/g03401/laws.FnExactWeightsOf", spec := "fnExactWeightsOf", recurses := true, apart := false, narrowed := true }
def FnExactWeightsOfUptoSaid : Prop := fnExactWeightsOfUptoRow.holds Try.pinned (OpenSpec.upto fnExactWeightsOfSpec)

/-- 'laws.FnExactIsTamariLess', WHERE WHAT IT READS IS OF BULK AT MOST 1048576: true; the input reads as it did. -/
def fnExactIsTamariLessUptoRow : OpenClaim := { program := "ytmpilfohjledpaa", sum := "2dece1c83970b8936251fb5657d3cf879d342f12108264e9556e805e65fe88ed", func := "loop.example/g03401/laws.FnExactIsTamariLess", spec := "fnExactIsTamariLess", recurses := true, apart := false, narrowed := true }
def FnExactIsTamariLessUptoSaid : Prop := fnExactIsTamariLessUptoRow.holds Try.pinned (OpenSpec.upto fnExactIsTamariLessSpec)

/-- 'laws.FnExactRotateLeft', WHERE WHAT IT READS IS OF BULK AT MOST 1048576: true; the input reads as it did. -/
def fnExactRotateLeftUptoRow : OpenClaim := { program := "ytmpilfohjledpaa", sum := "2dece1c83970b8936251fb5657d3cf879d342f12108264e9556e805e65fe88ed", func := "loop.example/g03401/laws.FnExactRotateLeft", spec := "fnExactRotateLeft", recurses := true, apart := false, narrowed := true }
def FnExactRotateLeftUptoSaid : Prop := fnExactRotateLeftUptoRow.holds Try.pinned (OpenSpec.upto fnExactRotateLeftSpec)

/-- 'laws.FnExactRotateRight', WHERE WHAT IT READS IS OF BULK AT MOST 1048576: true; the input reads as it did. -/
def fnExactRotateRightUptoRow : OpenClaim := { program := "ytmpilfohjledpaa", sum := "2dece1c83970b8936251fb5657d3cf879d342f12108264e9556e805e65fe88ed", func := "loop.example/g03401/laws.FnExactRotateRight", spec := "fnExactRotateRight", recurses := true, apart := false, narrowed := true }
def FnExactRotateRightUptoSaid : Prop := fnExactRotateRightUptoRow.holds Try.pinned (OpenSpec.upto fnExactRotateRightSpec)

/-- 'laws.FnExactCountRight', WHERE WHAT IT READS IS OF BULK AT MOST 1048576: true; the input reads as it did. -/
def fnExactCountRightUptoRow : OpenClaim := { program := "ytmpilfohjledpaa", sum := "2dece1c83970b8936251fb5657d3cf879d342f12108264e9556e805e65fe88ed", func := "loop.example/g03401/laws.FnExactCountRight", spec := "fnExactCountRight", recurses := true, apart := false, narrowed := true }
def FnExactCountRightUptoSaid : Prop := fnExactCountRightUptoRow.holds Try.pinned (OpenSpec.upto fnExactCountRightSpec)

/-- 'laws.FnExactBinaryOfWeights', WHERE WHAT IT READS IS OF BULK AT MOST 1048576: true; the input reads as it did. -/
def fnExactBinaryOfWeightsUptoRow : OpenClaim := { program := "ytmpilfohjledpaa", sum := "2dece1c83970b8936251fb5657d3cf879d342f12108264e9556e805e65fe88ed", func := "loop.example/g03401/laws.FnExactBinaryOfWeights", spec := "fnExactBinaryOfWeights", recurses := true, apart := false, narrowed := true }
def FnExactBinaryOfWeightsUptoSaid : Prop := fnExactBinaryOfWeightsUptoRow.holds Try.pinned (OpenSpec.upto fnExactBinaryOfWeightsSpec)

/-- 'laws.FnExactTamariMeet', WHERE WHAT IT READS IS OF BULK AT MOST 1048576: true; the input reads as it did. -/
def fnExactTamariMeetUptoRow : OpenClaim := { program := "ytmpilfohjledpaa", sum := "2dece1c83970b8936251fb5657d3cf879d342f12108264e9556e805e65fe88ed", func := "loop.example/g03401/laws.FnExactTamariMeet", spec := "fnExactTamariMeet", recurses := true, apart := false, narrowed := true }
def FnExactTamariMeetUptoSaid : Prop := fnExactTamariMeetUptoRow.holds Try.pinned (OpenSpec.upto fnExactTamariMeetSpec)

/-- 'laws.FnExactNeighboursOf', WHERE WHAT IT READS IS OF BULK AT MOST 1048576: true; the input reads as it did. -/
def fnExactNeighboursOfUptoRow : OpenClaim := { program := "ytmpilfohjledpaa", sum := "2dece1c83970b8936251fb5657d3cf879d342f12108264e9556e805e65fe88ed", func := "loop.example/g03401/laws.FnExactNeighboursOf", spec := "fnExactNeighboursOf", unfollowed := true, recurses := true, apart := false, narrowed := true }
def FnExactNeighboursOfUptoSaid : Prop := fnExactNeighboursOfUptoRow.holds Try.pinned (OpenSpec.upto fnExactNeighboursOfSpec)

/-- 'laws.FnExactTamariJoin', WHERE WHAT IT READS IS OF BULK AT MOST 1048576: true; the input reads as it did. -/
def fnExactTamariJoinUptoRow : OpenClaim := { program := "ytmpilfohjledpaa", sum := "2dece1c83970b8936251fb5657d3cf879d342f12108264e9556e805e65fe88ed", func := "loop.example/g03401/laws.FnExactTamariJoin", spec := "fnExactTamariJoin", recurses := true, apart := false, narrowed := true }
def FnExactTamariJoinUptoSaid : Prop := fnExactTamariJoinUptoRow.holds Try.pinned (OpenSpec.upto fnExactTamariJoinSpec)

end Rows
end Go.Proofs.Ytmpilfohjledpaa
