/-
  No cell of these rows narrows 'for every input' (looked for: loops, veiled, ifaces, maps, wideKeys, modest, calm, conditions, laid).
  DERIVED. THE GIVEN ROWS OF THIS SEAT. 10 by the template 'for every input the law returns true; each argument reads behind the call as it read before'; 0 by the template 'total and deterministic' (their statements: YteekkcjbflehlaaTotals.lean).
  GIVEN WITH THE SEED: the statements are not yours to turn. If you find one false, say at which input.
  Laid BY PROGRAM, IN A SANDBOX (cutbox-rows.mjs): the forced cells as the released guide's own fill.sh prints them over the translation 970085d11d017746… (all of the seat's roots in one cut). By AI agents, Wed Nov 11 2026. No macro, syntax, notation, axiom, sorry.
-/
import Derived.Test.YteekkcjbflehlaaChecked
import GoSem.Claim
import GoSem.ClaimJoined
import GoSem.ClaimMapViews
import Derived.JoinedTies
import Derived.KernelRfl
namespace Go.Proofs.Yteekkcjbflehlaa
/- THE CELL 'sum', in the pinned program and in every row, IS THE sha256 OF THE DUMP (.gsa) THAT YteekkcjbflehlaaProg.lean LOADS. Nothing in Lean hashes anything: it is a label: what it is worth is what the hold of that sum in a sandbox is worth. -/
noncomputable def Try.pinned : Pinned := { name := "yteekkcjbflehlaa", sum := "970085d11d017746058dad5056d0a7007ccf1a497acb7225ba29a257532fcef9", checked := Try.checked }
namespace Rows
def none {H : Type} : Left H := { results := [], args := [] }

/-- 'laws.FnTamari': WHATEVER THE INPUT: true; the input reads as it did. -/
def fnTamariSpec : ChangeSpec := { name := "fnTamari", fn := fun _ => fun
  | [d] => { results := [.lit (.bool true)], args := [d] }
  | _ => none }
def fnTamariRow : OpenClaim := { program := "yteekkcjbflehlaa", sum := "970085d11d017746058dad5056d0a7007ccf1a497acb7225ba29a257532fcef9", func := "loop.example/g03401/laws.FnTamari", spec := "fnTamari", unfollowed := true, recurses := true, apart := false }
def FnTamariSaid : Prop := fnTamariRow.holds Try.pinned (OpenSpec.ofChange fnTamariSpec)

/-- ITS FALSE NEIGHBOUR: 'it returns false'. Refute it at one input. -/
def fnTamariWrong : ChangeSpec := { name := "fnTamari", fn := fun _ => fun
  | [d] => { results := [.lit (.bool false)], args := [d] }
  | _ => none }
def FnTamariWrongFalsely : Prop := fnTamariRow.holds Try.pinned (OpenSpec.ofChange fnTamariWrong)

/-- 'laws.FnExactLongestChain': WHATEVER THE INPUT: true; the input reads as it did. -/
def fnExactLongestChainSpec : ChangeSpec := { name := "fnExactLongestChain", fn := fun _ => fun
  | [d1, d2] => { results := [.lit (.bool true)], args := [d1, d2] }
  | _ => none }
def fnExactLongestChainRow : OpenClaim := { program := "yteekkcjbflehlaa", sum := "970085d11d017746058dad5056d0a7007ccf1a497acb7225ba29a257532fcef9", func := "loop.example/g03401/laws.FnExactLongestChain", spec := "fnExactLongestChain", unfollowed := true, recurses := true, apart := false }
def FnExactLongestChainSaid : Prop := fnExactLongestChainRow.holds Try.pinned (OpenSpec.ofChange fnExactLongestChainSpec)

/-- ITS FALSE NEIGHBOUR: 'it returns false'. Refute it at one input. -/
def fnExactLongestChainWrong : ChangeSpec := { name := "fnExactLongestChain", fn := fun _ => fun
  | [d1, d2] => { results := [.lit (.bool false)], args := [d1, d2] }
  | _ => none }
def FnExactLongestChainWrongFalsely : Prop := fnExactLongestChainRow.holds Try.pinned (OpenSpec.ofChange fnExactLongestChainWrong)

/-- 'laws.FnExactShortestChain': WHATEVER THE INPUT: true; the input reads as it did. -/
def fnExactShortestChainSpec : ChangeSpec := { name := "fnExactShortestChain", fn := fun _ => fun
  | [d1, d2] => { results := [.lit (.bool true)], args := [d1, d2] }
  | _ => none }
def fnExactShortestChainRow : OpenClaim := { program := "yteekkcjbflehlaa", sum := "970085d11d017746058dad5056d0a7007ccf1a497acb7225ba29a257532fcef9", func := "loop.example/g03401/laws.FnExactShortestChain", spec := "fnExactShortestChain", unfollowed := true, recurses := true, apart := false }
def FnExactShortestChainSaid : Prop := fnExactShortestChainRow.holds Try.pinned (OpenSpec.ofChange fnExactShortestChainSpec)

/-- ITS FALSE NEIGHBOUR: 'it returns false'. Refute it at one input. -/
def fnExactShortestChainWrong : ChangeSpec := { name := "fnExactShortestChain", fn := fun _ => fun
  | [d1, d2] => { results := [.lit (.bool false)], args := [d1, d2] }
  | _ => none }
def FnExactShortestChainWrongFalsely : Prop := fnExactShortestChainRow.holds Try.pinned (OpenSpec.ofChange fnExactShortestChainWrong)

/-- 'laws.FnExactIsRotationWay': WHATEVER THE INPUT: true; the input reads as it did. -/
def fnExactIsRotationWaySpec : ChangeSpec := { name := "fnExactIsRotationWay", fn := fun _ => fun
  | [d] => { results := [.lit (.bool true)], args := [d] }
  | _ => none }
def fnExactIsRotationWayRow : OpenClaim := { program := "yteekkcjbflehlaa", sum := "970085d11d017746058dad5056d0a7007ccf1a497acb7225ba29a257532fcef9", func := "loop.example/g03401/laws.FnExactIsRotationWay", spec := "fnExactIsRotationWay", unfollowed := true, recurses := true, apart := false }
def FnExactIsRotationWaySaid : Prop := fnExactIsRotationWayRow.holds Try.pinned (OpenSpec.ofChange fnExactIsRotationWaySpec)

/-- ITS FALSE NEIGHBOUR: 'it returns false'. Refute it at one input. -/
def fnExactIsRotationWayWrong : ChangeSpec := { name := "fnExactIsRotationWay", fn := fun _ => fun
  | [d] => { results := [.lit (.bool false)], args := [d] }
  | _ => none }
def FnExactIsRotationWayWrongFalsely : Prop := fnExactIsRotationWayRow.holds Try.pinned (OpenSpec.ofChange fnExactIsRotationWayWrong)

/-- 'laws.FnExactRotationDistance': WHATEVER THE INPUT: true; the input reads as it did. -/
def fnExactRotationDistanceSpec : ChangeSpec := { name := "fnExactRotationDistance", fn := fun _ => fun
  | [d1, d2] => { results := [.lit (.bool true)], args := [d1, d2] }
  | _ => none }
def fnExactRotationDistanceRow : OpenClaim := { program := "yteekkcjbflehlaa", sum := "970085d11d017746058dad5056d0a7007ccf1a497acb7225ba29a257532fcef9", func := "loop.example/g03401/laws.FnExactRotationDistance", spec := "fnExactRotationDistance", unfollowed := true, recurses := true, apart := false }
def FnExactRotationDistanceSaid : Prop := fnExactRotationDistanceRow.holds Try.pinned (OpenSpec.ofChange fnExactRotationDistanceSpec)

/-- ITS FALSE NEIGHBOUR: 'it returns false'. Refute it at one input. -/
def fnExactRotationDistanceWrong : ChangeSpec := { name := "fnExactRotationDistance", fn := fun _ => fun
  | [d1, d2] => { results := [.lit (.bool false)], args := [d1, d2] }
  | _ => none }
def FnExactRotationDistanceWrongFalsely : Prop := fnExactRotationDistanceRow.holds Try.pinned (OpenSpec.ofChange fnExactRotationDistanceWrong)

/-- 'laws.FnExactIntervalSize': WHATEVER THE INPUT: true; the input reads as it did. -/
def fnExactIntervalSizeSpec : ChangeSpec := { name := "fnExactIntervalSize", fn := fun _ => fun
  | [d1, d2] => { results := [.lit (.bool true)], args := [d1, d2] }
  | _ => none }
def fnExactIntervalSizeRow : OpenClaim := { program := "yteekkcjbflehlaa", sum := "970085d11d017746058dad5056d0a7007ccf1a497acb7225ba29a257532fcef9", func := "loop.example/g03401/laws.FnExactIntervalSize", spec := "fnExactIntervalSize", unfollowed := true, recurses := true, apart := false }
def FnExactIntervalSizeSaid : Prop := fnExactIntervalSizeRow.holds Try.pinned (OpenSpec.ofChange fnExactIntervalSizeSpec)

/-- ITS FALSE NEIGHBOUR: 'it returns false'. Refute it at one input. -/
def fnExactIntervalSizeWrong : ChangeSpec := { name := "fnExactIntervalSize", fn := fun _ => fun
  | [d1, d2] => { results := [.lit (.bool false)], args := [d1, d2] }
  | _ => none }
def FnExactIntervalSizeWrongFalsely : Prop := fnExactIntervalSizeRow.holds Try.pinned (OpenSpec.ofChange fnExactIntervalSizeWrong)

/-- 'laws.FnExactCountIntervals': WHATEVER THE INPUT: true; the input reads as it did. -/
def fnExactCountIntervalsSpec : ChangeSpec := { name := "fnExactCountIntervals", fn := fun _ => fun
  | [d] => { results := [.lit (.bool true)], args := [d] }
  | _ => none }
def fnExactCountIntervalsRow : OpenClaim := { program := "yteekkcjbflehlaa", sum := "970085d11d017746058dad5056d0a7007ccf1a497acb7225ba29a257532fcef9", func := "loop.example/g03401/laws.FnExactCountIntervals", spec := "fnExactCountIntervals", unfollowed := true, recurses := true, apart := false }
def FnExactCountIntervalsSaid : Prop := fnExactCountIntervalsRow.holds Try.pinned (OpenSpec.ofChange fnExactCountIntervalsSpec)

/-- ITS FALSE NEIGHBOUR: 'it returns false'. Refute it at one input. -/
def fnExactCountIntervalsWrong : ChangeSpec := { name := "fnExactCountIntervals", fn := fun _ => fun
  | [d] => { results := [.lit (.bool false)], args := [d] }
  | _ => none }
def FnExactCountIntervalsWrongFalsely : Prop := fnExactCountIntervalsRow.holds Try.pinned (OpenSpec.ofChange fnExactCountIntervalsWrong)

/-- 'laws.FnExactRotationWay': WHATEVER THE INPUT: true; the input reads as it did. -/
def fnExactRotationWaySpec : ChangeSpec := { name := "fnExactRotationWay", fn := fun _ => fun
  | [d1, d2] => { results := [.lit (.bool true)], args := [d1, d2] }
  | _ => none }
def fnExactRotationWayRow : OpenClaim := { program := "yteekkcjbflehlaa", sum := "970085d11d017746058dad5056d0a7007ccf1a497acb7225ba29a257532fcef9", func := "loop.example/g03401/laws.FnExactRotationWay", spec := "fnExactRotationWay", unfollowed := true, recurses := true, apart := false }
def FnExactRotationWaySaid : Prop := fnExactRotationWayRow.holds Try.pinned (OpenSpec.ofChange fnExactRotationWaySpec)

/-- ITS FALSE NEIGHBOUR: 'it returns false'. Refute it at one input. -/
def fnExactRotationWayWrong : ChangeSpec := { name := "fnExactRotationWay", fn := fun _ => fun
  | [d1, d2] => { results := [.lit (.bool false)], args := [d1, d2] }
  | _ => none }
def FnExactRotationWayWrongFalsely : Prop := fnExactRotationWayRow.holds Try.pinned (OpenSpec.ofChange fnExactRotationWayWrong)

/-- 'laws.FnExactDiameterOf': WHATEVER THE INPUT: true; the input reads as it did. -/
def fnExactDiameterOfSpec : ChangeSpec := { name := "fnExactDiameterOf", fn := fun _ => fun
  | [d] => { results := [.lit (.bool true)], args := [d] }
  | _ => none }
def fnExactDiameterOfRow : OpenClaim := { program := "yteekkcjbflehlaa", sum := "970085d11d017746058dad5056d0a7007ccf1a497acb7225ba29a257532fcef9", func := "loop.example/g03401/laws.FnExactDiameterOf", spec := "fnExactDiameterOf", unfollowed := true, recurses := true, apart := false }
def FnExactDiameterOfSaid : Prop := fnExactDiameterOfRow.holds Try.pinned (OpenSpec.ofChange fnExactDiameterOfSpec)

/-- ITS FALSE NEIGHBOUR: 'it returns false'. Refute it at one input. -/
def fnExactDiameterOfWrong : ChangeSpec := { name := "fnExactDiameterOf", fn := fun _ => fun
  | [d] => { results := [.lit (.bool false)], args := [d] }
  | _ => none }
def FnExactDiameterOfWrongFalsely : Prop := fnExactDiameterOfRow.holds Try.pinned (OpenSpec.ofChange fnExactDiameterOfWrong)

/-- 'laws.FnRotations': WHATEVER THE INPUT: true; the input reads as it did. -/
def fnRotationsSpec : ChangeSpec := { name := "fnRotations", fn := fun _ => fun
  | [d] => { results := [.lit (.bool true)], args := [d] }
  | _ => none }
def fnRotationsRow : OpenClaim := { program := "yteekkcjbflehlaa", sum := "970085d11d017746058dad5056d0a7007ccf1a497acb7225ba29a257532fcef9", func := "loop.example/g03401/laws.FnRotations", spec := "fnRotations", unfollowed := true, recurses := true, apart := false }
def FnRotationsSaid : Prop := fnRotationsRow.holds Try.pinned (OpenSpec.ofChange fnRotationsSpec)

/-- ITS FALSE NEIGHBOUR: 'it returns false'. Refute it at one input. -/
def fnRotationsWrong : ChangeSpec := { name := "fnRotations", fn := fun _ => fun
  | [d] => { results := [.lit (.bool false)], args := [d] }
  | _ => none }
def FnRotationsWrongFalsely : Prop := fnRotationsRow.holds Try.pinned (OpenSpec.ofChange fnRotationsWrong)

/- THE SECOND FORM. 'bulk': how many values and letters a reading holds, each counted each time it is reached (what is shared counts as often as it is met; a slice's spare places count too). A statement '..UptoSaid' is the law's where the arguments, and the package variables that the reading takes, are together of bulk at most 1048576: NARROWER than '..Said'. Prove '..Said' where nothing that the law and all that it calls make is longer than what came in: it says more and counts as full. Else prove '..UptoSaid'. A law counts once. -/
mutual
def uptoBulk {H : Type} : DataW H → Nat
  | .lit (.string bytes) => bytes.length + 1
  | .lit _ => 1
  | .nil => 1
  | .ptr d => uptoBulk d + 1
  | .slice elems spare => uptoBulkAll elems + uptoBulkAll spare + 1
  | .agg parts => uptoBulkAll parts + 1
  | .iface _ d => uptoBulk d + 1
  | .map entries => uptoBulkEntries entries + 1
  | .held _ => 1
def uptoBulkAll {H : Type} : List (DataW H) → Nat
  | [] => 0
  | d :: r => uptoBulk d + uptoBulkAll r
def uptoBulkEntries {H : Type} : List (Lit × DataW H) → Nat
  | [] => 0
  | x :: r => uptoBulkEntry x + uptoBulkEntries r
def uptoBulkEntry {H : Type} : Lit × DataW H → Nat
  | (.string bytes, d) => bytes.length + uptoBulk d + 1
  | (_, d) => uptoBulk d + 1
 end
def uptoSmall : (H : Type) → List (DataW H) → Bool := fun _ ds => decide (uptoBulkAll ds ≤ 1048576)
def OpenSpec.upto (s : _root_.Go.ChangeSpec) : _root_.Go.OpenSpec := { _root_.Go.OpenSpec.ofChange s with cond := some uptoSmall }

/-- 'laws.FnTamari', WHERE WHAT IT READS IS OF BULK AT MOST 1048576: true; the input reads as it did. -/
def fnTamariUptoRow : OpenClaim := { program := "yteekkcjbflehlaa", sum := "970085d11d017746058dad5056d0a7007ccf1a497acb7225ba29a257532fcef9", func := "loop.example/g03401/laws.FnTamari", spec := "fnTamari", unfollowed := true, recurses := true, apart := false, narrowed := true }
def FnTamariUptoSaid : Prop := fnTamariUptoRow.holds Try.pinned (OpenSpec.upto fnTamariSpec)

/-- 'laws.FnExactLongestChain', WHERE WHAT IT READS IS OF BULK AT MOST 1048576: true; the input reads as it did. -/
def fnExactLongestChainUptoRow : OpenClaim := { program := "yteekkcjbflehlaa", sum := "970085d11d017746058dad5056d0a7007ccf1a497acb7225ba29a257532fcef9", func := "loop.example/g03401/laws.FnExactLongestChain", spec := "fnExactLongestChain", unfollowed := true, recurses := true, apart := false, narrowed := true }
def FnExactLongestChainUptoSaid : Prop := fnExactLongestChainUptoRow.holds Try.pinned (OpenSpec.upto fnExactLongestChainSpec)

/-- 'laws.FnExactShortestChain', WHERE WHAT IT READS IS OF BULK AT MOST 1048576: true; the input reads as it did. -/
def fnExactShortestChainUptoRow : OpenClaim := { program := "yteekkcjbflehlaa", sum := "970085d11d017746058dad5056d0a7007ccf1a497acb7225ba29a257532fcef9", func := "loop.example/g03401/laws.FnExactShortestChain", spec := "fnExactShortestChain", unfollowed := true, recurses := true, apart := false, narrowed := true }
def FnExactShortestChainUptoSaid : Prop := fnExactShortestChainUptoRow.holds Try.pinned (OpenSpec.upto fnExactShortestChainSpec)

/-- 'laws.FnExactIsRotationWay', WHERE WHAT IT READS IS OF BULK AT MOST 1048576: true; the input reads as it did. -/
def fnExactIsRotationWayUptoRow : OpenClaim := { program := "yteekkcjbflehlaa", sum := "970085d11d017746058dad5056d0a7007ccf1a497acb7225ba29a257532fcef9", func := "loop.example/g03401/laws.FnExactIsRotationWay", spec := "fnExactIsRotationWay", unfollowed := true, recurses := true, apart := false, narrowed := true }
def FnExactIsRotationWayUptoSaid : Prop := fnExactIsRotationWayUptoRow.holds Try.pinned (OpenSpec.upto fnExactIsRotationWaySpec)

/-- 'laws.FnExactRotationDistance', WHERE WHAT IT READS IS OF BULK AT MOST 1048576: true; the input reads as it did. -/
def fnExactRotationDistanceUptoRow : OpenClaim := { program := "yteekkcjbflehlaa", sum := "970085d11d017746058dad5056d0a7007ccf1a497acb7225ba29a257532fcef9", func := "loop.example/g03401/laws.FnExactRotationDistance", spec := "fnExactRotationDistance", unfollowed := true, recurses := true, apart := false, narrowed := true }
def FnExactRotationDistanceUptoSaid : Prop := fnExactRotationDistanceUptoRow.holds Try.pinned (OpenSpec.upto fnExactRotationDistanceSpec)

/-- 'laws.FnExactIntervalSize', WHERE WHAT IT READS IS OF BULK AT MOST 1048576: true; the input reads as it did. -/
def fnExactIntervalSizeUptoRow : OpenClaim := { program := "yteekkcjbflehlaa", sum := "970085d11d017746058dad5056d0a7007ccf1a497acb7225ba29a257532fcef9", func := "loop.example/g03401/laws.FnExactIntervalSize", spec := "fnExactIntervalSize", unfollowed := true, recurses := true, apart := false, narrowed := true }
def FnExactIntervalSizeUptoSaid : Prop := fnExactIntervalSizeUptoRow.holds Try.pinned (OpenSpec.upto fnExactIntervalSizeSpec)

/-- 'laws.FnExactCountIntervals', WHERE WHAT IT READS IS OF BULK AT MOST 1048576: true; the input reads as it did. -/
def fnExactCountIntervalsUptoRow : OpenClaim := { program := "yteekkcjbflehlaa", sum := "970085d11d017746058dad5056d0a7007ccf1a497acb7225ba29a257532fcef9", func := "loop.example/g03401/laws.FnExactCountIntervals", spec := "fnExactCountIntervals", unfollowed := true, recurses := true, apart := false, narrowed := true }
def FnExactCountIntervalsUptoSaid : Prop := fnExactCountIntervalsUptoRow.holds Try.pinned (OpenSpec.upto fnExactCountIntervalsSpec)

/-- 'laws.FnExactRotationWay', WHERE WHAT IT READS IS OF BULK AT MOST 1048576: true; the input reads as it did. -/
def fnExactRotationWayUptoRow : OpenClaim := { program := "yteekkcjbflehlaa", sum := "970085d11d017746058dad5056d0a7007ccf1a497acb7225ba29a257532fcef9", func := "loop.example/g03401/laws.FnExactRotationWay", spec := "fnExactRotationWay", unfollowed := true, recurses := true, apart := false, narrowed := true }
def FnExactRotationWayUptoSaid : Prop := fnExactRotationWayUptoRow.holds Try.pinned (OpenSpec.upto fnExactRotationWaySpec)

/-- 'laws.FnExactDiameterOf', WHERE WHAT IT READS IS OF BULK AT MOST 1048576: true; the input reads as it did. -/
def fnExactDiameterOfUptoRow : OpenClaim := { program := "yteekkcjbflehlaa", sum := "970085d11d017746058dad5056d0a7007ccf1a497acb7225ba29a257532fcef9", func := "loop.example/g03401/laws.FnExactDiameterOf", spec := "fnExactDiameterOf", unfollowed := true, recurses := true, apart := false, narrowed := true }
def FnExactDiameterOfUptoSaid : Prop := fnExactDiameterOfUptoRow.holds Try.pinned (OpenSpec.upto fnExactDiameterOfSpec)

/-- 'laws.FnRotations', WHERE WHAT IT READS IS OF BULK AT MOST 1048576: true; the input reads as it did. -/
def fnRotationsUptoRow : OpenClaim := { program := "yteekkcjbflehlaa", sum := "970085d11d017746058dad5056d0a7007ccf1a497acb7225ba29a257532fcef9", func := "loop.example/g03401/laws.FnRotations", spec := "fnRotations", unfollowed := true, recurses := true, apart := false, narrowed := true }
def FnRotationsUptoSaid : Prop := fnRotationsUptoRow.holds Try.pinned (OpenSpec.upto fnRotationsSpec)

end Rows
end Go.Proofs.Yteekkcjbflehlaa
