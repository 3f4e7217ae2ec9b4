/-
  No cell of these rows narrows 'for every input' (looked for: loops, veiled, ifaces, maps, wideKeys, modest, calm, conditions, laid).
  DERIVED. THE GIVEN ROWS OF THIS SEAT. 12 by the template 'for every input the law returns true; each argument reads behind the call as it read before'; 0 by the template 'total and deterministic' (their statements: YtgifjpaadflboaaTotals.lean).
  GIVEN WITH THE SEED: the statements are not yours to turn. If you find one false, say at which input.
  Laid BY PROGRAM, IN A SANDBOX (cutbox-rows.mjs): the forced cells as the released guide's own fill.sh prints them over the translation b6410c861dc418ef… (all of the seat's roots in one cut). By AI agents, Wed Nov 11 2026. No macro, syntax, notation, axiom, sorry.
-/
import Derived.Test.YtgifjpaadflboaaChecked
import GoSem.Claim
import GoSem.ClaimJoined
import GoSem.ClaimMapViews
import Derived.JoinedTies
import Derived.KernelRfl
namespace Go.Proofs.Ytgifjpaadflboaa
/- THE CELL 'sum', in the pinned program and in every row, IS THE sha256 OF THE DUMP (.gsa) THAT YtgifjpaadflboaaProg.lean LOADS. Nothing in Lean hashes anything: it is a label: what it is worth is what the hold of that sum in a sandbox is worth. -/
noncomputable def Try.pinned : Pinned := { name := "ytgifjpaadflboaa", sum := "b6410c861dc418ef99b111c9d8fe2b700a19aa0980de1031a83e79c743fcf1dc", checked := Try.checked }
namespace Rows
def none {H : Type} : Left H := { results := [], args := [] }

/-- 'laws.FnExactLeastBound': WHATEVER THE INPUT: true; the input reads as it did. -/
def fnExactLeastBoundSpec : ChangeSpec := { name := "fnExactLeastBound", fn := fun _ => fun
  | [d] => { results := [.lit (.bool true)], args := [d] }
  | _ => none }
def fnExactLeastBoundRow : OpenClaim := { program := "ytgifjpaadflboaa", sum := "b6410c861dc418ef99b111c9d8fe2b700a19aa0980de1031a83e79c743fcf1dc", func := "loop.example/faultcodes/laws.FnExactLeastBound", spec := "fnExactLeastBound", unfollowed := true, recurses := true, apart := false }
def FnExactLeastBoundSaid : Prop := fnExactLeastBoundRow.holds Try.pinned (OpenSpec.ofChange fnExactLeastBoundSpec)

/-- ITS FALSE NEIGHBOUR: 'it returns false'. Refute it at one input. -/
def fnExactLeastBoundWrong : ChangeSpec := { name := "fnExactLeastBound", fn := fun _ => fun
  | [d] => { results := [.lit (.bool false)], args := [d] }
  | _ => none }
def FnExactLeastBoundWrongFalsely : Prop := fnExactLeastBoundRow.holds Try.pinned (OpenSpec.ofChange fnExactLeastBoundWrong)

/-- 'laws.FnExactGraphOther': WHATEVER THE INPUT: true; the input reads as it did. -/
def fnExactGraphOtherSpec : ChangeSpec := { name := "fnExactGraphOther", fn := fun _ => fun
  | [d] => { results := [.lit (.bool true)], args := [d] }
  | _ => none }
def fnExactGraphOtherRow : OpenClaim := { program := "ytgifjpaadflboaa", sum := "b6410c861dc418ef99b111c9d8fe2b700a19aa0980de1031a83e79c743fcf1dc", func := "loop.example/faultcodes/laws.FnExactGraphOther", spec := "fnExactGraphOther", unfollowed := true, recurses := true, apart := false }
def FnExactGraphOtherSaid : Prop := fnExactGraphOtherRow.holds Try.pinned (OpenSpec.ofChange fnExactGraphOtherSpec)

/-- ITS FALSE NEIGHBOUR: 'it returns false'. Refute it at one input. -/
def fnExactGraphOtherWrong : ChangeSpec := { name := "fnExactGraphOther", fn := fun _ => fun
  | [d] => { results := [.lit (.bool false)], args := [d] }
  | _ => none }
def FnExactGraphOtherWrongFalsely : Prop := fnExactGraphOtherRow.holds Try.pinned (OpenSpec.ofChange fnExactGraphOtherWrong)

/-- 'laws.FnExactGraphBalls': WHATEVER THE INPUT: true; the input reads as it did. -/
def fnExactGraphBallsSpec : ChangeSpec := { name := "fnExactGraphBalls", fn := fun _ => fun
  | [d] => { results := [.lit (.bool true)], args := [d] }
  | _ => none }
def fnExactGraphBallsRow : OpenClaim := { program := "ytgifjpaadflboaa", sum := "b6410c861dc418ef99b111c9d8fe2b700a19aa0980de1031a83e79c743fcf1dc", func := "loop.example/faultcodes/laws.FnExactGraphBalls", spec := "fnExactGraphBalls", unfollowed := true, recurses := true, apart := false }
def FnExactGraphBallsSaid : Prop := fnExactGraphBallsRow.holds Try.pinned (OpenSpec.ofChange fnExactGraphBallsSpec)

/-- ITS FALSE NEIGHBOUR: 'it returns false'. Refute it at one input. -/
def fnExactGraphBallsWrong : ChangeSpec := { name := "fnExactGraphBalls", fn := fun _ => fun
  | [d] => { results := [.lit (.bool false)], args := [d] }
  | _ => none }
def FnExactGraphBallsWrongFalsely : Prop := fnExactGraphBallsRow.holds Try.pinned (OpenSpec.ofChange fnExactGraphBallsWrong)

/-- 'laws.FnGraphOf': WHATEVER THE INPUT: true; the input reads as it did. -/
def fnGraphOfSpec : ChangeSpec := { name := "fnGraphOf", fn := fun _ => fun
  | [d] => { results := [.lit (.bool true)], args := [d] }
  | _ => none }
def fnGraphOfRow : OpenClaim := { program := "ytgifjpaadflboaa", sum := "b6410c861dc418ef99b111c9d8fe2b700a19aa0980de1031a83e79c743fcf1dc", func := "loop.example/faultcodes/laws.FnGraphOf", spec := "fnGraphOf", unfollowed := true, recurses := true, apart := false }
def FnGraphOfSaid : Prop := fnGraphOfRow.holds Try.pinned (OpenSpec.ofChange fnGraphOfSpec)

/-- ITS FALSE NEIGHBOUR: 'it returns false'. Refute it at one input. -/
def fnGraphOfWrong : ChangeSpec := { name := "fnGraphOf", fn := fun _ => fun
  | [d] => { results := [.lit (.bool false)], args := [d] }
  | _ => none }
def FnGraphOfWrongFalsely : Prop := fnGraphOfRow.holds Try.pinned (OpenSpec.ofChange fnGraphOfWrong)

/-- 'laws.FnExactCodeHas': WHATEVER THE INPUT: true; the input reads as it did. -/
def fnExactCodeHasSpec : ChangeSpec := { name := "fnExactCodeHas", fn := fun _ => fun
  | [d] => { results := [.lit (.bool true)], args := [d] }
  | _ => none }
def fnExactCodeHasRow : OpenClaim := { program := "ytgifjpaadflboaa", sum := "b6410c861dc418ef99b111c9d8fe2b700a19aa0980de1031a83e79c743fcf1dc", func := "loop.example/faultcodes/laws.FnExactCodeHas", spec := "fnExactCodeHas", unfollowed := true, recurses := true, apart := false }
def FnExactCodeHasSaid : Prop := fnExactCodeHasRow.holds Try.pinned (OpenSpec.ofChange fnExactCodeHasSpec)

/-- ITS FALSE NEIGHBOUR: 'it returns false'. Refute it at one input. -/
def fnExactCodeHasWrong : ChangeSpec := { name := "fnExactCodeHas", fn := fun _ => fun
  | [d] => { results := [.lit (.bool false)], args := [d] }
  | _ => none }
def FnExactCodeHasWrongFalsely : Prop := fnExactCodeHasRow.holds Try.pinned (OpenSpec.ofChange fnExactCodeHasWrong)

/-- 'laws.FnExactGraphOf': WHATEVER THE INPUT: true; the input reads as it did. -/
def fnExactGraphOfSpec : ChangeSpec := { name := "fnExactGraphOf", fn := fun _ => fun
  | [d1, d2] => { results := [.lit (.bool true)], args := [d1, d2] }
  | _ => none }
def fnExactGraphOfRow : OpenClaim := { program := "ytgifjpaadflboaa", sum := "b6410c861dc418ef99b111c9d8fe2b700a19aa0980de1031a83e79c743fcf1dc", func := "loop.example/faultcodes/laws.FnExactGraphOf", spec := "fnExactGraphOf", apart := false }
def FnExactGraphOfSaid : Prop := fnExactGraphOfRow.holds Try.pinned (OpenSpec.ofChange fnExactGraphOfSpec)

/-- ITS FALSE NEIGHBOUR: 'it returns false'. Refute it at one input. -/
def fnExactGraphOfWrong : ChangeSpec := { name := "fnExactGraphOf", fn := fun _ => fun
  | [d1, d2] => { results := [.lit (.bool false)], args := [d1, d2] }
  | _ => none }
def FnExactGraphOfWrongFalsely : Prop := fnExactGraphOfRow.holds Try.pinned (OpenSpec.ofChange fnExactGraphOfWrong)

/-- 'laws.FnExactGraphMoved': WHATEVER THE INPUT: true; the input reads as it did. -/
def fnExactGraphMovedSpec : ChangeSpec := { name := "fnExactGraphMoved", fn := fun _ => fun
  | [d1, d2] => { results := [.lit (.bool true)], args := [d1, d2] }
  | _ => none }
def fnExactGraphMovedRow : OpenClaim := { program := "ytgifjpaadflboaa", sum := "b6410c861dc418ef99b111c9d8fe2b700a19aa0980de1031a83e79c743fcf1dc", func := "loop.example/faultcodes/laws.FnExactGraphMoved", spec := "fnExactGraphMoved", unfollowed := true, recurses := true, apart := false }
def FnExactGraphMovedSaid : Prop := fnExactGraphMovedRow.holds Try.pinned (OpenSpec.ofChange fnExactGraphMovedSpec)

/-- ITS FALSE NEIGHBOUR: 'it returns false'. Refute it at one input. -/
def fnExactGraphMovedWrong : ChangeSpec := { name := "fnExactGraphMoved", fn := fun _ => fun
  | [d1, d2] => { results := [.lit (.bool false)], args := [d1, d2] }
  | _ => none }
def FnExactGraphMovedWrongFalsely : Prop := fnExactGraphMovedRow.holds Try.pinned (OpenSpec.ofChange fnExactGraphMovedWrong)

/-- 'laws.FnExactGraphConnected': WHATEVER THE INPUT: true; the input reads as it did. -/
def fnExactGraphConnectedSpec : ChangeSpec := { name := "fnExactGraphConnected", fn := fun _ => fun
  | [d] => { results := [.lit (.bool true)], args := [d] }
  | _ => none }
def fnExactGraphConnectedRow : OpenClaim := { program := "ytgifjpaadflboaa", sum := "b6410c861dc418ef99b111c9d8fe2b700a19aa0980de1031a83e79c743fcf1dc", func := "loop.example/faultcodes/laws.FnExactGraphConnected", spec := "fnExactGraphConnected", unfollowed := true, recurses := true, apart := false }
def FnExactGraphConnectedSaid : Prop := fnExactGraphConnectedRow.holds Try.pinned (OpenSpec.ofChange fnExactGraphConnectedSpec)

/-- ITS FALSE NEIGHBOUR: 'it returns false'. Refute it at one input. -/
def fnExactGraphConnectedWrong : ChangeSpec := { name := "fnExactGraphConnected", fn := fun _ => fun
  | [d] => { results := [.lit (.bool false)], args := [d] }
  | _ => none }
def FnExactGraphConnectedWrongFalsely : Prop := fnExactGraphConnectedRow.holds Try.pinned (OpenSpec.ofChange fnExactGraphConnectedWrong)

/-- 'laws.FnExactGraphDistances': WHATEVER THE INPUT: true; the input reads as it did. -/
def fnExactGraphDistancesSpec : ChangeSpec := { name := "fnExactGraphDistances", fn := fun _ => fun
  | [d1, d2] => { results := [.lit (.bool true)], args := [d1, d2] }
  | _ => none }
def fnExactGraphDistancesRow : OpenClaim := { program := "ytgifjpaadflboaa", sum := "b6410c861dc418ef99b111c9d8fe2b700a19aa0980de1031a83e79c743fcf1dc", func := "loop.example/faultcodes/laws.FnExactGraphDistances", spec := "fnExactGraphDistances", unfollowed := true, recurses := true, apart := false }
def FnExactGraphDistancesSaid : Prop := fnExactGraphDistancesRow.holds Try.pinned (OpenSpec.ofChange fnExactGraphDistancesSpec)

/-- ITS FALSE NEIGHBOUR: 'it returns false'. Refute it at one input. -/
def fnExactGraphDistancesWrong : ChangeSpec := { name := "fnExactGraphDistances", fn := fun _ => fun
  | [d1, d2] => { results := [.lit (.bool false)], args := [d1, d2] }
  | _ => none }
def FnExactGraphDistancesWrongFalsely : Prop := fnExactGraphDistancesRow.holds Try.pinned (OpenSpec.ofChange fnExactGraphDistancesWrong)

/-- 'laws.FnKind': WHATEVER THE INPUT: true; the input reads as it did. -/
def fnKindSpec : ChangeSpec := { name := "fnKind", fn := fun _ => fun
  | [d] => { results := [.lit (.bool true)], args := [d] }
  | _ => none }
def fnKindRow : OpenClaim := { program := "ytgifjpaadflboaa", sum := "b6410c861dc418ef99b111c9d8fe2b700a19aa0980de1031a83e79c743fcf1dc", func := "loop.example/faultcodes/laws.FnKind", spec := "fnKind", unfollowed := true, recurses := true, apart := false }
def FnKindSaid : Prop := fnKindRow.holds Try.pinned (OpenSpec.ofChange fnKindSpec)

/-- ITS FALSE NEIGHBOUR: 'it returns false'. Refute it at one input. -/
def fnKindWrong : ChangeSpec := { name := "fnKind", fn := fun _ => fun
  | [d] => { results := [.lit (.bool false)], args := [d] }
  | _ => none }
def FnKindWrongFalsely : Prop := fnKindRow.holds Try.pinned (OpenSpec.ofChange fnKindWrong)

/-- 'laws.FnExactGraphTwins': WHATEVER THE INPUT: true; the input reads as it did. -/
def fnExactGraphTwinsSpec : ChangeSpec := { name := "fnExactGraphTwins", fn := fun _ => fun
  | [d] => { results := [.lit (.bool true)], args := [d] }
  | _ => none }
def fnExactGraphTwinsRow : OpenClaim := { program := "ytgifjpaadflboaa", sum := "b6410c861dc418ef99b111c9d8fe2b700a19aa0980de1031a83e79c743fcf1dc", func := "loop.example/faultcodes/laws.FnExactGraphTwins", spec := "fnExactGraphTwins", unfollowed := true, recurses := true, apart := false }
def FnExactGraphTwinsSaid : Prop := fnExactGraphTwinsRow.holds Try.pinned (OpenSpec.ofChange fnExactGraphTwinsSpec)

/-- ITS FALSE NEIGHBOUR: 'it returns false'. Refute it at one input. -/
def fnExactGraphTwinsWrong : ChangeSpec := { name := "fnExactGraphTwins", fn := fun _ => fun
  | [d] => { results := [.lit (.bool false)], args := [d] }
  | _ => none }
def FnExactGraphTwinsWrongFalsely : Prop := fnExactGraphTwinsRow.holds Try.pinned (OpenSpec.ofChange fnExactGraphTwinsWrong)

/-- 'laws.FnExactCodeMarks': WHATEVER THE INPUT: true; the input reads as it did. -/
def fnExactCodeMarksSpec : ChangeSpec := { name := "fnExactCodeMarks", fn := fun _ => fun
  | [d1, d2] => { results := [.lit (.bool true)], args := [d1, d2] }
  | _ => none }
def fnExactCodeMarksRow : OpenClaim := { program := "ytgifjpaadflboaa", sum := "b6410c861dc418ef99b111c9d8fe2b700a19aa0980de1031a83e79c743fcf1dc", func := "loop.example/faultcodes/laws.FnExactCodeMarks", spec := "fnExactCodeMarks", unfollowed := true, recurses := true, apart := false }
def FnExactCodeMarksSaid : Prop := fnExactCodeMarksRow.holds Try.pinned (OpenSpec.ofChange fnExactCodeMarksSpec)

/-- ITS FALSE NEIGHBOUR: 'it returns false'. Refute it at one input. -/
def fnExactCodeMarksWrong : ChangeSpec := { name := "fnExactCodeMarks", fn := fun _ => fun
  | [d1, d2] => { results := [.lit (.bool false)], args := [d1, d2] }
  | _ => none }
def FnExactCodeMarksWrongFalsely : Prop := fnExactCodeMarksRow.holds Try.pinned (OpenSpec.ofChange fnExactCodeMarksWrong)

/- THE SECOND FORM. 'bulk': how many values and letters a reading holds, each counted each time it is reached (what is shared counts as often as it is met; a slice's spare places count too). A statement '..UptoSaid' is the law's where the arguments, and the package variables that the reading takes, are together of bulk at most 1048576: NARROWER than '..Said'. Prove '..Said' where nothing that the law and all that it calls make is longer than what came in: it says more and counts as full. Else prove '..UptoSaid'. A law counts once. -/
mutual
def uptoBulk {H : Type} : DataW H → Nat
  | .lit (.string bytes) => bytes.length + 1
  | .lit _ => 1
  | .nil => 1
  | .ptr d => uptoBulk d + 1
  | .slice elems spare => uptoBulkAll elems + uptoBulkAll spare + 1
  | .agg parts => uptoBulkAll parts + 1
  | .iface _ d => uptoBulk d + 1
  | .map entries => uptoBulkEntries entries + 1
  | .held _ => 1
def uptoBulkAll {H : Type} : List (DataW H) → Nat
  | [] => 0
  | d :: r => uptoBulk d + uptoBulkAll r
def uptoBulkEntries {H : Type} : List (Lit × DataW H) → Nat
  | [] => 0
  | x :: r => uptoBulkEntry x + uptoBulkEntries r
def uptoBulkEntry {H : Type} : Lit × DataW H → Nat
  | (.string bytes, d) => bytes.length + uptoBulk d + 1
  | (_, d) => uptoBulk d + 1
 end
def uptoSmall : (H : Type) → List (DataW H) → Bool := fun _ ds => decide (uptoBulkAll ds ≤ 1048576)
def OpenSpec.upto (s : _root_.Go.ChangeSpec) : _root_.Go.OpenSpec := { _root_.Go.OpenSpec.ofChange s with cond := some uptoSmall }

/-- 'laws.FnExactLeastBound', WHERE WHAT IT READS IS OF BULK AT MOST 1048576: true; the input reads as it did. -/
def fnExactLeastBoundUptoRow : OpenClaim := { program := "ytgifjpaadflboaa", sum := "b6410c861dc418ef99b111c9d8fe2b700a19aa0980de1031a83e79c743fcf1dc", func := "loop.example/faultcodes/laws.FnExactLeastBound", spec := "fnExactLeastBound", unfollowed := true, recurses := true, apart := false, narrowed := true }
def FnExactLeastBoundUptoSaid : Prop := fnExactLeastBoundUptoRow.holds Try.pinned (OpenSpec.upto fnExactLeastBoundSpec)

/-- 'laws.FnExactGraphOther', WHERE WHAT IT READS IS OF BULK AT MOST 1048576: true; the input reads as it did. -/
def fnExactGraphOtherUptoRow : OpenClaim := { program := "ytgifjpaadflboaa", sum := "b6410c861dc418ef99b111c9d8fe2b700a19aa0980de1031a83e79c743fcf1dc", func := "loop.example/faultcodes/laws.FnExactGraphOther", spec := "fnExactGraphOther", unfollowed := true, recurses := true, apart := false, narrowed := true }
def FnExactGraphOtherUptoSaid : Prop := fnExactGraphOtherUptoRow.holds Try.pinned (OpenSpec.upto fnExactGraphOtherSpec)

/-- 'laws.FnExactGraphBalls', WHERE WHAT IT READS IS OF BULK AT MOST 1048576: true; the input reads as it did. -/
def fnExactGraphBallsUptoRow : OpenClaim := { program := "ytgifjpaadflboaa", sum := "b6410c861dc418ef99b111c9d8fe2b700a19aa0980de1031a83e79c743fcf1dc", func := "loop.example/faultcodes/laws.FnExactGraphBalls", spec := "fnExactGraphBalls", unfollowed := true, recurses := true, apart := false, narrowed := true }
def FnExactGraphBallsUptoSaid : Prop := fnExactGraphBallsUptoRow.holds Try.pinned (OpenSpec.upto fnExactGraphBallsSpec)

/-- 'laws.FnGraphOf', WHERE WHAT IT READS IS OF BULK AT MOST 1048576: true; the input reads as it did. -/
def fnGraphOfUptoRow : OpenClaim := { program := "ytgifjpaadflboaa", sum := "b6410c861dc418ef99b111c9d8fe2b700a19aa0980de1031a83e79c743fcf1dc", func := "loop.example/faultcodes/laws.FnGraphOf", spec := "fnGraphOf", unfollowed := true, recurses := true, apart := false, narrowed := true }
def FnGraphOfUptoSaid : Prop := fnGraphOfUptoRow.holds Try.pinned (OpenSpec.upto fnGraphOfSpec)

/-- 'laws.FnExactCodeHas', WHERE WHAT IT READS IS OF BULK AT MOST 1048576: true; the input reads as it did. -/
def fnExactCodeHasUptoRow : OpenClaim := { program := "ytgifjpaadflboaa", sum := "b6410c861dc418ef99b111c9d8fe2b700a19aa0980de1031a83e79c743fcf1dc", func := "loop.example/faultcodes/laws.FnExactCodeHas", spec := "fnExactCodeHas", unfollowed := true, recurses := true, apart := false, narrowed := true }
def FnExactCodeHasUptoSaid : Prop := fnExactCodeHasUptoRow.holds Try.pinned (OpenSpec.upto fnExactCodeHasSpec)

/-- 'laws.FnExactGraphOf', WHERE WHAT IT READS IS OF BULK AT MOST 1048576: true; the input reads as it did. -/
def fnExactGraphOfUptoRow : OpenClaim := { program := "ytgifjpaadflboaa", sum := "b6410c861dc418ef99b111c9d8fe2b700a19aa0980de1031a83e79c743fcf1dc", func := "loop.example/faultcodes/laws.FnExactGraphOf", spec := "fnExactGraphOf", apart := false, narrowed := true }
def FnExactGraphOfUptoSaid : Prop := fnExactGraphOfUptoRow.holds Try.pinned (OpenSpec.upto fnExactGraphOfSpec)

/-- 'laws.FnExactGraphMoved', WHERE WHAT IT READS IS OF BULK AT MOST 1048576: true; the input reads as it did. -/
def fnExactGraphMovedUptoRow : OpenClaim := { program := "ytgifjpaadflboaa", sum := "b6410c861dc418ef99b111c9d8fe2b700a19aa0980de1031a83e79c743fcf1dc", func := "loop.example/faultcodes/laws.FnExactGraphMoved", spec := "fnExactGraphMoved", unfollowed := true, recurses := true, apart := false, narrowed := true }
def FnExactGraphMovedUptoSaid : Prop := fnExactGraphMovedUptoRow.holds Try.pinned (OpenSpec.upto fnExactGraphMovedSpec)

/-- 'laws.FnExactGraphConnected', WHERE WHAT IT READS IS OF BULK AT MOST 1048576: true; the input reads as it did. -/
def fnExactGraphConnectedUptoRow : OpenClaim := { program := "ytgifjpaadflboaa", sum := "b6410c861dc418ef99b111c9d8fe2b700a19aa0980de1031a83e79c743fcf1dc", func := "loop.example/faultcodes/laws.FnExactGraphConnected", spec := "fnExactGraphConnected", unfollowed := true, recurses := true, apart := false, narrowed := true }
def FnExactGraphConnectedUptoSaid : Prop := fnExactGraphConnectedUptoRow.holds Try.pinned (OpenSpec.upto fnExactGraphConnectedSpec)

/-- 'laws.FnExactGraphDistances', WHERE WHAT IT READS IS OF BULK AT MOST 1048576: true; the input reads as it did. -/
def fnExactGraphDistancesUptoRow : OpenClaim := { program := "ytgifjpaadflboaa", sum := "b6410c861dc418ef99b111c9d8fe2b700a19aa0980de1031a83e79c743fcf1dc", func := "loop.example/faultcodes/laws.FnExactGraphDistances", spec := "fnExactGraphDistances", unfollowed := true, recurses := true, apart := false, narrowed := true }
def FnExactGraphDistancesUptoSaid : Prop := fnExactGraphDistancesUptoRow.holds Try.pinned (OpenSpec.upto fnExactGraphDistancesSpec)

/-- 'laws.FnKind', WHERE WHAT IT READS IS OF BULK AT MOST 1048576: true; the input reads as it did. -/
def fnKindUptoRow : OpenClaim := { program := "ytgifjpaadflboaa", sum := "b6410c861dc418ef99b111c9d8fe2b700a19aa0980de1031a83e79c743fcf1dc", func := "loop.example/faultcodes/laws.FnKind", spec := "fnKind", unfollowed := true, recurses := true, apart := false, narrowed := true }
def FnKindUptoSaid : Prop := fnKindUptoRow.holds Try.pinned (OpenSpec.upto fnKindSpec)

/-- 'laws.FnExactGraphTwins', WHERE WHAT IT READS IS OF BULK AT MOST 1048576: true; the input reads as it did. -/
def fnExactGraphTwinsUptoRow : OpenClaim := { program := "ytgifjpaadflboaa", sum := "b6410c861dc418ef99b111c9d8fe2b700a19aa0980de1031a83e79c743fcf1dc", func := "loop.example/faultcodes/laws.FnExactGraphTwins", spec := "fnExactGraphTwins", unfollowed := true, recurses := true, apart := false, narrowed := true }
def FnExactGraphTwinsUptoSaid : Prop := fnExactGraphTwinsUptoRow.holds Try.pinned (OpenSpec.upto fnExactGraphTwinsSpec)

/-- 'laws.FnExactCodeMarks', WHERE WHAT IT READS IS OF BULK AT MOST 1048576: true; the input reads as it did. -/
def fnExactCodeMarksUptoRow : OpenClaim := { program := "ytgifjpaadflboaa", sum := "b6410c861dc418ef99b111c9d8fe2b700a19aa0980de1031a83e79c743fcf1dc", func := "loop.example/faultcodes/laws.FnExactCodeMarks", spec := "fnExactCodeMarks", unfollowed := true, recurses := true, apart := false, narrowed := true }
def FnExactCodeMarksUptoSaid : Prop := fnExactCodeMarksUptoRow.holds Try.pinned (OpenSpec.upto fnExactCodeMarksSpec)

end Rows
end Go.Proofs.Ytgifjpaadflboaa
