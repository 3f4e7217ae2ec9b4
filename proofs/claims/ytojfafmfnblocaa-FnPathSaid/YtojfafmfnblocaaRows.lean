/-
  No cell of these rows narrows 'for every input' (looked for: loops, veiled, ifaces, maps, wideKeys, modest, calm, conditions, laid).
  DERIVED. THE GIVEN ROWS OF THIS SEAT. 12 by the template 'for every input the law returns true; each argument reads behind the call as it read before'; 0 by the template 'total and deterministic' (their statements: YtojfafmfnblocaaTotals.lean).
  GIVEN WITH THE SEED: the statements are not yours to turn. If you find one false, say at which input.
  Laid BY PROGRAM, IN A SANDBOX (cutbox-rows.mjs): the forced cells as the released guide's own fill.sh prints them over the translation 22ff7aa79025a99c… (all of the seat's roots in one cut). By AI agents, Wed Nov 11 2026. No macro, syntax, notation, axiom, sorry.
-/
import Derived.Test.YtojfafmfnblocaaChecked
import GoSem.Claim
import GoSem.ClaimJoined
import GoSem.ClaimMapViews
import Derived.JoinedTies
import Derived.KernelRfl
namespace Go.Proofs.Ytojfafmfnblocaa
/- THE CELL 'sum', in the pinned program and in every row, IS THE sha256 OF THE DUMP (.gsa) THAT YtojfafmfnblocaaProg.lean LOADS. Nothing in Lean hashes anything: it is a label: what it is worth is what the hold of that sum in a sandbox is worth. -/
noncomputable def Try.pinned : Pinned := { name := "ytojfafmfnblocaa", sum := "22ff7aa79025a99c111c6987d2234b7ae6b1c33951518ad21ff0ba9c166a3d11", checked := Try.checked }
namespace Rows
def none {H : Type} : Left H := { results := [], args := [] }

/-- 'laws.FnGraph': WHATEVER THE INPUT: true; the input reads as it did. -/
def fnGraphSpec : ChangeSpec := { name := "fnGraph", fn := fun _ => fun
  | [d] => { results := [.lit (.bool true)], args := [d] }
  | _ => none }
def fnGraphRow : OpenClaim := { program := "ytojfafmfnblocaa", sum := "22ff7aa79025a99c111c6987d2234b7ae6b1c33951518ad21ff0ba9c166a3d11", func := "loop.example/faultcodes/laws.FnGraph", spec := "fnGraph", unfollowed := true, recurses := true, apart := false }
def FnGraphSaid : Prop := fnGraphRow.holds Try.pinned (OpenSpec.ofChange fnGraphSpec)

/-- ITS FALSE NEIGHBOUR: 'it returns false'. Refute it at one input. -/
def fnGraphWrong : ChangeSpec := { name := "fnGraph", fn := fun _ => fun
  | [d] => { results := [.lit (.bool false)], args := [d] }
  | _ => none }
def FnGraphWrongFalsely : Prop := fnGraphRow.holds Try.pinned (OpenSpec.ofChange fnGraphWrong)

/-- 'laws.FnBalls': WHATEVER THE INPUT: true; the input reads as it did. -/
def fnBallsSpec : ChangeSpec := { name := "fnBalls", fn := fun _ => fun
  | [d] => { results := [.lit (.bool true)], args := [d] }
  | _ => none }
def fnBallsRow : OpenClaim := { program := "ytojfafmfnblocaa", sum := "22ff7aa79025a99c111c6987d2234b7ae6b1c33951518ad21ff0ba9c166a3d11", func := "loop.example/faultcodes/laws.FnBalls", spec := "fnBalls", unfollowed := true, recurses := true, apart := false }
def FnBallsSaid : Prop := fnBallsRow.holds Try.pinned (OpenSpec.ofChange fnBallsSpec)

/-- ITS FALSE NEIGHBOUR: 'it returns false'. Refute it at one input. -/
def fnBallsWrong : ChangeSpec := { name := "fnBalls", fn := fun _ => fun
  | [d] => { results := [.lit (.bool false)], args := [d] }
  | _ => none }
def FnBallsWrongFalsely : Prop := fnBallsRow.holds Try.pinned (OpenSpec.ofChange fnBallsWrong)

/-- 'laws.FnOther': WHATEVER THE INPUT: true; the input reads as it did. -/
def fnOtherSpec : ChangeSpec := { name := "fnOther", fn := fun _ => fun
  | [d] => { results := [.lit (.bool true)], args := [d] }
  | _ => none }
def fnOtherRow : OpenClaim := { program := "ytojfafmfnblocaa", sum := "22ff7aa79025a99c111c6987d2234b7ae6b1c33951518ad21ff0ba9c166a3d11", func := "loop.example/faultcodes/laws.FnOther", spec := "fnOther", unfollowed := true, recurses := true, apart := false }
def FnOtherSaid : Prop := fnOtherRow.holds Try.pinned (OpenSpec.ofChange fnOtherSpec)

/-- ITS FALSE NEIGHBOUR: 'it returns false'. Refute it at one input. -/
def fnOtherWrong : ChangeSpec := { name := "fnOther", fn := fun _ => fun
  | [d] => { results := [.lit (.bool false)], args := [d] }
  | _ => none }
def FnOtherWrongFalsely : Prop := fnOtherRow.holds Try.pinned (OpenSpec.ofChange fnOtherWrong)

/-- 'laws.FnDistances': WHATEVER THE INPUT: true; the input reads as it did. -/
def fnDistancesSpec : ChangeSpec := { name := "fnDistances", fn := fun _ => fun
  | [d] => { results := [.lit (.bool true)], args := [d] }
  | _ => none }
def fnDistancesRow : OpenClaim := { program := "ytojfafmfnblocaa", sum := "22ff7aa79025a99c111c6987d2234b7ae6b1c33951518ad21ff0ba9c166a3d11", func := "loop.example/faultcodes/laws.FnDistances", spec := "fnDistances", unfollowed := true, recurses := true, apart := false }
def FnDistancesSaid : Prop := fnDistancesRow.holds Try.pinned (OpenSpec.ofChange fnDistancesSpec)

/-- ITS FALSE NEIGHBOUR: 'it returns false'. Refute it at one input. -/
def fnDistancesWrong : ChangeSpec := { name := "fnDistances", fn := fun _ => fun
  | [d] => { results := [.lit (.bool false)], args := [d] }
  | _ => none }
def FnDistancesWrongFalsely : Prop := fnDistancesRow.holds Try.pinned (OpenSpec.ofChange fnDistancesWrong)

/-- 'laws.FnConnected': WHATEVER THE INPUT: true; the input reads as it did. -/
def fnConnectedSpec : ChangeSpec := { name := "fnConnected", fn := fun _ => fun
  | [d] => { results := [.lit (.bool true)], args := [d] }
  | _ => none }
def fnConnectedRow : OpenClaim := { program := "ytojfafmfnblocaa", sum := "22ff7aa79025a99c111c6987d2234b7ae6b1c33951518ad21ff0ba9c166a3d11", func := "loop.example/faultcodes/laws.FnConnected", spec := "fnConnected", unfollowed := true, recurses := true, apart := false }
def FnConnectedSaid : Prop := fnConnectedRow.holds Try.pinned (OpenSpec.ofChange fnConnectedSpec)

/-- ITS FALSE NEIGHBOUR: 'it returns false'. Refute it at one input. -/
def fnConnectedWrong : ChangeSpec := { name := "fnConnected", fn := fun _ => fun
  | [d] => { results := [.lit (.bool false)], args := [d] }
  | _ => none }
def FnConnectedWrongFalsely : Prop := fnConnectedRow.holds Try.pinned (OpenSpec.ofChange fnConnectedWrong)

/-- 'laws.FnTwins': WHATEVER THE INPUT: true; the input reads as it did. -/
def fnTwinsSpec : ChangeSpec := { name := "fnTwins", fn := fun _ => fun
  | [d] => { results := [.lit (.bool true)], args := [d] }
  | _ => none }
def fnTwinsRow : OpenClaim := { program := "ytojfafmfnblocaa", sum := "22ff7aa79025a99c111c6987d2234b7ae6b1c33951518ad21ff0ba9c166a3d11", func := "loop.example/faultcodes/laws.FnTwins", spec := "fnTwins", unfollowed := true, recurses := true, apart := false }
def FnTwinsSaid : Prop := fnTwinsRow.holds Try.pinned (OpenSpec.ofChange fnTwinsSpec)

/-- ITS FALSE NEIGHBOUR: 'it returns false'. Refute it at one input. -/
def fnTwinsWrong : ChangeSpec := { name := "fnTwins", fn := fun _ => fun
  | [d] => { results := [.lit (.bool false)], args := [d] }
  | _ => none }
def FnTwinsWrongFalsely : Prop := fnTwinsRow.holds Try.pinned (OpenSpec.ofChange fnTwinsWrong)

/-- 'laws.FnTree': WHATEVER THE INPUT: true; the input reads as it did. -/
def fnTreeSpec : ChangeSpec := { name := "fnTree", fn := fun _ => fun
  | [d] => { results := [.lit (.bool true)], args := [d] }
  | _ => none }
def fnTreeRow : OpenClaim := { program := "ytojfafmfnblocaa", sum := "22ff7aa79025a99c111c6987d2234b7ae6b1c33951518ad21ff0ba9c166a3d11", func := "loop.example/faultcodes/laws.FnTree", spec := "fnTree", unfollowed := true, recurses := true, apart := false }
def FnTreeSaid : Prop := fnTreeRow.holds Try.pinned (OpenSpec.ofChange fnTreeSpec)

/-- ITS FALSE NEIGHBOUR: 'it returns false'. Refute it at one input. -/
def fnTreeWrong : ChangeSpec := { name := "fnTree", fn := fun _ => fun
  | [d] => { results := [.lit (.bool false)], args := [d] }
  | _ => none }
def FnTreeWrongFalsely : Prop := fnTreeRow.holds Try.pinned (OpenSpec.ofChange fnTreeWrong)

/-- 'laws.FnLeaves': WHATEVER THE INPUT: true; the input reads as it did. -/
def fnLeavesSpec : ChangeSpec := { name := "fnLeaves", fn := fun _ => fun
  | [d] => { results := [.lit (.bool true)], args := [d] }
  | _ => none }
def fnLeavesRow : OpenClaim := { program := "ytojfafmfnblocaa", sum := "22ff7aa79025a99c111c6987d2234b7ae6b1c33951518ad21ff0ba9c166a3d11", func := "loop.example/faultcodes/laws.FnLeaves", spec := "fnLeaves", unfollowed := true, recurses := true, apart := false }
def FnLeavesSaid : Prop := fnLeavesRow.holds Try.pinned (OpenSpec.ofChange fnLeavesSpec)

/-- ITS FALSE NEIGHBOUR: 'it returns false'. Refute it at one input. -/
def fnLeavesWrong : ChangeSpec := { name := "fnLeaves", fn := fun _ => fun
  | [d] => { results := [.lit (.bool false)], args := [d] }
  | _ => none }
def FnLeavesWrongFalsely : Prop := fnLeavesRow.holds Try.pinned (OpenSpec.ofChange fnLeavesWrong)

/-- 'laws.FnPath': WHATEVER THE INPUT: true; the input reads as it did. -/
def fnPathSpec : ChangeSpec := { name := "fnPath", fn := fun _ => fun
  | [d] => { results := [.lit (.bool true)], args := [d] }
  | _ => none }
def fnPathRow : OpenClaim := { program := "ytojfafmfnblocaa", sum := "22ff7aa79025a99c111c6987d2234b7ae6b1c33951518ad21ff0ba9c166a3d11", func := "loop.example/faultcodes/laws.FnPath", spec := "fnPath", unfollowed := true, recurses := true, apart := false }
def FnPathSaid : Prop := fnPathRow.holds Try.pinned (OpenSpec.ofChange fnPathSpec)

/-- ITS FALSE NEIGHBOUR: 'it returns false'. Refute it at one input. -/
def fnPathWrong : ChangeSpec := { name := "fnPath", fn := fun _ => fun
  | [d] => { results := [.lit (.bool false)], args := [d] }
  | _ => none }
def FnPathWrongFalsely : Prop := fnPathRow.holds Try.pinned (OpenSpec.ofChange fnPathWrong)

/-- 'laws.FnRingDominates': WHATEVER THE INPUT: true; the input reads as it did. -/
def fnRingDominatesSpec : ChangeSpec := { name := "fnRingDominates", fn := fun _ => fun
  | [d] => { results := [.lit (.bool true)], args := [d] }
  | _ => none }
def fnRingDominatesRow : OpenClaim := { program := "ytojfafmfnblocaa", sum := "22ff7aa79025a99c111c6987d2234b7ae6b1c33951518ad21ff0ba9c166a3d11", func := "loop.example/faultcodes/laws.FnRingDominates", spec := "fnRingDominates", unfollowed := true, recurses := true, apart := false }
def FnRingDominatesSaid : Prop := fnRingDominatesRow.holds Try.pinned (OpenSpec.ofChange fnRingDominatesSpec)

/-- ITS FALSE NEIGHBOUR: 'it returns false'. Refute it at one input. -/
def fnRingDominatesWrong : ChangeSpec := { name := "fnRingDominates", fn := fun _ => fun
  | [d] => { results := [.lit (.bool false)], args := [d] }
  | _ => none }
def FnRingDominatesWrongFalsely : Prop := fnRingDominatesRow.holds Try.pinned (OpenSpec.ofChange fnRingDominatesWrong)

/-- 'laws.FnRing': WHATEVER THE INPUT: true; the input reads as it did. -/
def fnRingSpec : ChangeSpec := { name := "fnRing", fn := fun _ => fun
  | [d] => { results := [.lit (.bool true)], args := [d] }
  | _ => none }
def fnRingRow : OpenClaim := { program := "ytojfafmfnblocaa", sum := "22ff7aa79025a99c111c6987d2234b7ae6b1c33951518ad21ff0ba9c166a3d11", func := "loop.example/faultcodes/laws.FnRing", spec := "fnRing", unfollowed := true, recurses := true, apart := false }
def FnRingSaid : Prop := fnRingRow.holds Try.pinned (OpenSpec.ofChange fnRingSpec)

/-- ITS FALSE NEIGHBOUR: 'it returns false'. Refute it at one input. -/
def fnRingWrong : ChangeSpec := { name := "fnRing", fn := fun _ => fun
  | [d] => { results := [.lit (.bool false)], args := [d] }
  | _ => none }
def FnRingWrongFalsely : Prop := fnRingRow.holds Try.pinned (OpenSpec.ofChange fnRingWrong)

/-- 'laws.FnBound': WHATEVER THE INPUT: true; the input reads as it did. -/
def fnBoundSpec : ChangeSpec := { name := "fnBound", fn := fun _ => fun
  | [d] => { results := [.lit (.bool true)], args := [d] }
  | _ => none }
def fnBoundRow : OpenClaim := { program := "ytojfafmfnblocaa", sum := "22ff7aa79025a99c111c6987d2234b7ae6b1c33951518ad21ff0ba9c166a3d11", func := "loop.example/faultcodes/laws.FnBound", spec := "fnBound", unfollowed := true, recurses := true, apart := false }
def FnBoundSaid : Prop := fnBoundRow.holds Try.pinned (OpenSpec.ofChange fnBoundSpec)

/-- ITS FALSE NEIGHBOUR: 'it returns false'. Refute it at one input. -/
def fnBoundWrong : ChangeSpec := { name := "fnBound", fn := fun _ => fun
  | [d] => { results := [.lit (.bool false)], args := [d] }
  | _ => none }
def FnBoundWrongFalsely : Prop := fnBoundRow.holds Try.pinned (OpenSpec.ofChange fnBoundWrong)

/- THE SECOND FORM. 'bulk': how many values and letters a reading holds, each counted each time it is reached (what is shared counts as often as it is met; a slice's spare places count too). A statement '..UptoSaid' is the law's where the arguments, and the package variables that the reading takes, are together of bulk at most 1048576: NARROWER than '..Said'. Prove '..Said' where nothing that the law and all that it calls make is longer than what came in: it says more and counts as full. Else prove '..UptoSaid'. A law counts once. -/
mutual
def uptoBulk {H : Type} : DataW H → Nat
  | .lit (.string bytes) => bytes.length + 1
  | .lit _ => 1
  | .nil => 1
  | .ptr d => uptoBulk d + 1
  | .slice elems spare => uptoBulkAll elems + uptoBulkAll spare + 1
  | .agg parts => uptoBulkAll parts + 1
  | .iface _ d => uptoBulk d + 1
  | .map entries => uptoBulkEntries entries + 1
  | .held _ => 1
def uptoBulkAll {H : Type} : List (DataW H) → Nat
  | [] => 0
  | d :: r => uptoBulk d + uptoBulkAll r
def uptoBulkEntries {H : Type} : List (Lit × DataW H) → Nat
  | [] => 0
  | x :: r => uptoBulkEntry x + uptoBulkEntries r
def uptoBulkEntry {H : Type} : Lit × DataW H → Nat
  | (.string bytes, d) => bytes.length + uptoBulk d + 1
  | (_, d) => uptoBulk d + 1
 end
def uptoSmall : (H : Type) → List (DataW H) → Bool := fun _ ds => decide (uptoBulkAll ds ≤ 1048576)
def OpenSpec.upto (s : _root_.Go.ChangeSpec) : _root_.Go.OpenSpec := { _root_.Go.OpenSpec.ofChange s with cond := some uptoSmall }

/-- 'laws.FnGraph', WHERE WHAT IT READS IS OF BULK AT MOST 1048576: true; the input reads as it did. -/
def fnGraphUptoRow : OpenClaim := { program := "ytojfafmfnblocaa", sum := "22ff7aa79025a99c111c6987d2234b7ae6b1c33951518ad21ff0ba9c166a3d11", func := "loop.example/faultcodes/laws.FnGraph", spec := "fnGraph", unfollowed := true, recurses := true, apart := false, narrowed := true }
def FnGraphUptoSaid : Prop := fnGraphUptoRow.holds Try.pinned (OpenSpec.upto fnGraphSpec)

/-- 'laws.FnBalls', WHERE WHAT IT READS IS OF BULK AT MOST 1048576: true; the input reads as it did. -/
def fnBallsUptoRow : OpenClaim := { program := "ytojfafmfnblocaa", sum := "22ff7aa79025a99c111c6987d2234b7ae6b1c33951518ad21ff0ba9c166a3d11", func := "loop.example/faultcodes/laws.FnBalls", spec := "fnBalls", unfollowed := true, recurses := true, apart := false, narrowed := true }
def FnBallsUptoSaid : Prop := fnBallsUptoRow.holds Try.pinned (OpenSpec.upto fnBallsSpec)

/-- 'laws.FnOther', WHERE WHAT IT READS IS OF BULK AT MOST 1048576: true; the input reads as it did. -/
def fnOtherUptoRow : OpenClaim := { program := "ytojfafmfnblocaa", sum := "22ff7aa79025a99c111c6987d2234b7ae6b1c33951518ad21ff0ba9c166a3d11", func := "loop.example/faultcodes/laws.FnOther", spec := "fnOther", unfollowed := true, recurses := true, apart := false, narrowed := true }
def FnOtherUptoSaid : Prop := fnOtherUptoRow.holds Try.pinned (OpenSpec.upto fnOtherSpec)

/-- 'laws.FnDistances', WHERE WHAT IT READS IS OF BULK AT MOST 1048576: true; the input reads as it did. -/
def fnDistancesUptoRow : OpenClaim := { program := "ytojfafmfnblocaa", sum := "22ff7aa79025a99c111c6987d2234b7ae6b1c33951518ad21ff0ba9c166a3d11", func := "loop.example/faultcodes/laws.FnDistances", spec := "fnDistances", unfollowed := true, recurses := true, apart := false, narrowed := true }
def FnDistancesUptoSaid : Prop := fnDistancesUptoRow.holds Try.pinned (OpenSpec.upto fnDistancesSpec)

/-- 'laws.FnConnected', WHERE WHAT IT READS IS OF BULK AT MOST 1048576: true; the input reads as it did. -/
def fnConnectedUptoRow : OpenClaim := { program := "ytojfafmfnblocaa", sum := "22ff7aa79025a99c111c6987d2234b7ae6b1c33951518ad21ff0ba9c166a3d11", func := "loop.example/faultcodes/laws.FnConnected", spec := "fnConnected", unfollowed := true, recurses := true, apart := false, narrowed := true }
def FnConnectedUptoSaid : Prop := fnConnectedUptoRow.holds Try.pinned (OpenSpec.upto fnConnectedSpec)

/-- 'laws.FnTwins', WHERE WHAT IT READS IS OF BULK AT MOST 1048576: true; the input reads as it did. -/
def fnTwinsUptoRow : OpenClaim := { program := "ytojfafmfnblocaa", sum := "22ff7aa79025a99c111c6987d2234b7ae6b1c33951518ad21ff0ba9c166a3d11", func := "loop.example/faultcodes/laws.FnTwins", spec := "fnTwins", unfollowed := true, recurses := true, apart := false, narrowed := true }
def FnTwinsUptoSaid : Prop := fnTwinsUptoRow.holds Try.pinned (OpenSpec.upto fnTwinsSpec)

/-- 'laws.FnTree', WHERE WHAT IT READS IS OF BULK AT MOST 1048576: true; the input reads as it did. -/
def fnTreeUptoRow : OpenClaim := { program := "ytojfafmfnblocaa", sum := "22ff7aa79025a99c111c6987d2234b7ae6b1c33951518ad21ff0ba9c166a3d11", func := "loop.example/faultcodes/laws.FnTree", spec := "fnTree", unfollowed := true, recurses := true, apart := false, narrowed := true }
def FnTreeUptoSaid : Prop := fnTreeUptoRow.holds Try.pinned (OpenSpec.upto fnTreeSpec)

/-- 'laws.FnLeaves', WHERE WHAT IT READS IS OF BULK AT MOST 1048576: true; the input reads as it did. -/
def fnLeavesUptoRow : OpenClaim := { program := "ytojfafmfnblocaa", sum := "22ff7aa79025a99c111c6987d2234b7ae6b1c33951518ad21ff0ba9c166a3d11", func := "loop.example/faultcodes/laws.FnLeaves", spec := "fnLeaves", unfollowed := true, recurses := true, apart := false, narrowed := true }
def FnLeavesUptoSaid : Prop := fnLeavesUptoRow.holds Try.pinned (OpenSpec.upto fnLeavesSpec)

/-- 'laws.FnPath', WHERE WHAT IT READS IS OF BULK AT MOST 1048576: true; the input reads as it did. -/
def fnPathUptoRow : OpenClaim := { program := "ytojfafmfnblocaa", sum := "22ff7aa79025a99c111c6987d2234b7ae6b1c33951518ad21ff0ba9c166a3d11", func := "loop.example/faultcodes/laws.FnPath", spec := "fnPath", unfollowed := true, recurses := true, apart := false, narrowed := true }
def FnPathUptoSaid : Prop := fnPathUptoRow.holds Try.pinned (OpenSpec.upto fnPathSpec)

/-- 'laws.FnRingDominates', WHERE WHAT IT READS IS OF BULK AT MOST 1048576: true; the input reads as it did. -/
def fnRingDominatesUptoRow : OpenClaim := { program := "ytojfafmfnblocaa", sum := "22ff7aa79025a99c111c6987d2234b7ae6b1c33951518ad21ff0ba9c166a3d11", func := "loop.example/faultcodes/laws.FnRingDominates", spec := "fnRingDominates", unfollowed := true, recurses := true, apart := false, narrowed := true }
def FnRingDominatesUptoSaid : Prop := fnRingDominatesUptoRow.holds Try.pinned (OpenSpec.upto fnRingDominatesSpec)

/-- 'laws.FnRing', WHERE WHAT IT READS IS OF BULK AT MOST 1048576: true; the input reads as it did. -/
def fnRingUptoRow : OpenClaim := { program := "ytojfafmfnblocaa", sum := "22ff7aa79025a99c111c6987d2234b7ae6b1c33951518ad21ff0ba9c166a3d11", func := "loop.example/faultcodes/laws.FnRing", spec := "fnRing", unfollowed := true, recurses := true, apart := false, narrowed := true }
def FnRingUptoSaid : Prop := fnRingUptoRow.holds Try.pinned (OpenSpec.upto fnRingSpec)

/-- 'laws.FnBound', WHERE WHAT IT READS IS OF BULK AT MOST 1048576: true; the input reads as it did. -/
def fnBoundUptoRow : OpenClaim := { program := "ytojfafmfnblocaa", sum := "22ff7aa79025a99c111c6987d2234b7ae6b1c33951518ad21ff0ba9c166a3d11", func := "loop.example/faultcodes/laws.FnBound", spec := "fnBound", unfollowed := true, recurses := true, apart := false, narrowed := true }
def FnBoundUptoSaid : Prop := fnBoundUptoRow.holds Try.pinned (OpenSpec.upto fnBoundSpec)

end Rows
end Go.Proofs.Ytojfafmfnblocaa
