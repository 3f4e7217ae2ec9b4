/-
  No cell of these rows narrows 'for every input' (looked for: loops, veiled, ifaces, maps, wideKeys, modest, calm, conditions, laid).
  DERIVED. THE GIVEN ROWS OF THIS SEAT. 11 by the template 'for every input the law returns true; each argument reads behind the call as it read before'; 0 by the template 'total and deterministic' (their statements: YtipimkfmkdihpaaTotals.lean).
  GIVEN WITH THE SEED: the statements are not yours to turn. If you find one false, say at which input.
  Laid BY PROGRAM, IN A SANDBOX (cutbox-rows.mjs): the forced cells as the released guide's own fill.sh prints them over the translation 5052206b23d33829… (all of the seat's roots in one cut). By AI agents, Wed Nov 11 2026. No macro, syntax, notation, axiom, sorry.
-/
import Derived.Test.YtipimkfmkdihpaaChecked
import GoSem.Claim
import GoSem.ClaimJoined
import GoSem.ClaimMapViews
import Derived.JoinedTies
import Derived.KernelRfl
namespace Go.Proofs.Ytipimkfmkdihpaa
/- THE CELL 'sum', in the pinned program and in every row, IS THE sha256 OF THE DUMP (.gsa) THAT YtipimkfmkdihpaaProg.lean LOADS. Nothing in Lean hashes anything: it is a label: what it is worth is what the hold of that sum in a sandbox is worth. -/
noncomputable def Try.pinned : Pinned := { name := "ytipimkfmkdihpaa", sum := "5052206b23d33829651f8b871941950cc832d0d2231b973f8b36d4af50504fdc", checked := Try.checked }
namespace Rows
def none {H : Type} : Left H := { results := [], args := [] }

/-- 'laws.FnExactTreeIn': WHATEVER THE INPUT: true; the input reads as it did. -/
def fnExactTreeInSpec : ChangeSpec := { name := "fnExactTreeIn", fn := fun _ => fun
  | [d] => { results := [.lit (.bool true)], args := [d] }
  | _ => none }
def fnExactTreeInRow : OpenClaim := { program := "ytipimkfmkdihpaa", sum := "5052206b23d33829651f8b871941950cc832d0d2231b973f8b36d4af50504fdc", func := "loop.example/faultcodes/laws.FnExactTreeIn", spec := "fnExactTreeIn", unfollowed := true, recurses := true, apart := false }
def FnExactTreeInSaid : Prop := fnExactTreeInRow.holds Try.pinned (OpenSpec.ofChange fnExactTreeInSpec)

/-- ITS FALSE NEIGHBOUR: 'it returns false'. Refute it at one input. -/
def fnExactTreeInWrong : ChangeSpec := { name := "fnExactTreeIn", fn := fun _ => fun
  | [d] => { results := [.lit (.bool false)], args := [d] }
  | _ => none }
def FnExactTreeInWrongFalsely : Prop := fnExactTreeInRow.holds Try.pinned (OpenSpec.ofChange fnExactTreeInWrong)

/-- 'laws.FnExactCodeVectors': WHATEVER THE INPUT: true; the input reads as it did. -/
def fnExactCodeVectorsSpec : ChangeSpec := { name := "fnExactCodeVectors", fn := fun _ => fun
  | [d1, d2] => { results := [.lit (.bool true)], args := [d1, d2] }
  | _ => none }
def fnExactCodeVectorsRow : OpenClaim := { program := "ytipimkfmkdihpaa", sum := "5052206b23d33829651f8b871941950cc832d0d2231b973f8b36d4af50504fdc", func := "loop.example/faultcodes/laws.FnExactCodeVectors", spec := "fnExactCodeVectors", unfollowed := true, recurses := true, apart := false }
def FnExactCodeVectorsSaid : Prop := fnExactCodeVectorsRow.holds Try.pinned (OpenSpec.ofChange fnExactCodeVectorsSpec)

/-- ITS FALSE NEIGHBOUR: 'it returns false'. Refute it at one input. -/
def fnExactCodeVectorsWrong : ChangeSpec := { name := "fnExactCodeVectors", fn := fun _ => fun
  | [d1, d2] => { results := [.lit (.bool false)], args := [d1, d2] }
  | _ => none }
def FnExactCodeVectorsWrongFalsely : Prop := fnExactCodeVectorsRow.holds Try.pinned (OpenSpec.ofChange fnExactCodeVectorsWrong)

/-- 'laws.FnExactTreeLeaves': WHATEVER THE INPUT: true; the input reads as it did. -/
def fnExactTreeLeavesSpec : ChangeSpec := { name := "fnExactTreeLeaves", fn := fun _ => fun
  | [d] => { results := [.lit (.bool true)], args := [d] }
  | _ => none }
def fnExactTreeLeavesRow : OpenClaim := { program := "ytipimkfmkdihpaa", sum := "5052206b23d33829651f8b871941950cc832d0d2231b973f8b36d4af50504fdc", func := "loop.example/faultcodes/laws.FnExactTreeLeaves", spec := "fnExactTreeLeaves", unfollowed := true, recurses := true, apart := false }
def FnExactTreeLeavesSaid : Prop := fnExactTreeLeavesRow.holds Try.pinned (OpenSpec.ofChange fnExactTreeLeavesSpec)

/-- ITS FALSE NEIGHBOUR: 'it returns false'. Refute it at one input. -/
def fnExactTreeLeavesWrong : ChangeSpec := { name := "fnExactTreeLeaves", fn := fun _ => fun
  | [d] => { results := [.lit (.bool false)], args := [d] }
  | _ => none }
def FnExactTreeLeavesWrongFalsely : Prop := fnExactTreeLeavesRow.holds Try.pinned (OpenSpec.ofChange fnExactTreeLeavesWrong)

/-- 'laws.FnExactCodeIn': WHATEVER THE INPUT: true; the input reads as it did. -/
def fnExactCodeInSpec : ChangeSpec := { name := "fnExactCodeIn", fn := fun _ => fun
  | [d1, d2, d3] => { results := [.lit (.bool true)], args := [d1, d2, d3] }
  | _ => none }
def fnExactCodeInRow : OpenClaim := { program := "ytipimkfmkdihpaa", sum := "5052206b23d33829651f8b871941950cc832d0d2231b973f8b36d4af50504fdc", func := "loop.example/faultcodes/laws.FnExactCodeIn", spec := "fnExactCodeIn", unfollowed := true, recurses := true, apart := false }
def FnExactCodeInSaid : Prop := fnExactCodeInRow.holds Try.pinned (OpenSpec.ofChange fnExactCodeInSpec)

/-- ITS FALSE NEIGHBOUR: 'it returns false'. Refute it at one input. -/
def fnExactCodeInWrong : ChangeSpec := { name := "fnExactCodeIn", fn := fun _ => fun
  | [d1, d2, d3] => { results := [.lit (.bool false)], args := [d1, d2, d3] }
  | _ => none }
def FnExactCodeInWrongFalsely : Prop := fnExactCodeInRow.holds Try.pinned (OpenSpec.ofChange fnExactCodeInWrong)

/-- 'laws.FnExactCodeFind': WHATEVER THE INPUT: true; the input reads as it did. -/
def fnExactCodeFindSpec : ChangeSpec := { name := "fnExactCodeFind", fn := fun _ => fun
  | [d1, d2, d3] => { results := [.lit (.bool true)], args := [d1, d2, d3] }
  | _ => none }
def fnExactCodeFindRow : OpenClaim := { program := "ytipimkfmkdihpaa", sum := "5052206b23d33829651f8b871941950cc832d0d2231b973f8b36d4af50504fdc", func := "loop.example/faultcodes/laws.FnExactCodeFind", spec := "fnExactCodeFind", unfollowed := true, recurses := true, apart := false }
def FnExactCodeFindSaid : Prop := fnExactCodeFindRow.holds Try.pinned (OpenSpec.ofChange fnExactCodeFindSpec)

/-- ITS FALSE NEIGHBOUR: 'it returns false'. Refute it at one input. -/
def fnExactCodeFindWrong : ChangeSpec := { name := "fnExactCodeFind", fn := fun _ => fun
  | [d1, d2, d3] => { results := [.lit (.bool false)], args := [d1, d2, d3] }
  | _ => none }
def FnExactCodeFindWrongFalsely : Prop := fnExactCodeFindRow.holds Try.pinned (OpenSpec.ofChange fnExactCodeFindWrong)

/-- 'laws.FnExactTreeForks': WHATEVER THE INPUT: true; the input reads as it did. -/
def fnExactTreeForksSpec : ChangeSpec := { name := "fnExactTreeForks", fn := fun _ => fun
  | [d] => { results := [.lit (.bool true)], args := [d] }
  | _ => none }
def fnExactTreeForksRow : OpenClaim := { program := "ytipimkfmkdihpaa", sum := "5052206b23d33829651f8b871941950cc832d0d2231b973f8b36d4af50504fdc", func := "loop.example/faultcodes/laws.FnExactTreeForks", spec := "fnExactTreeForks", unfollowed := true, recurses := true, apart := false }
def FnExactTreeForksSaid : Prop := fnExactTreeForksRow.holds Try.pinned (OpenSpec.ofChange fnExactTreeForksSpec)

/-- ITS FALSE NEIGHBOUR: 'it returns false'. Refute it at one input. -/
def fnExactTreeForksWrong : ChangeSpec := { name := "fnExactTreeForks", fn := fun _ => fun
  | [d] => { results := [.lit (.bool false)], args := [d] }
  | _ => none }
def FnExactTreeForksWrongFalsely : Prop := fnExactTreeForksRow.holds Try.pinned (OpenSpec.ofChange fnExactTreeForksWrong)

/-- 'laws.FnExactCodeThin': WHATEVER THE INPUT: true; the input reads as it did. -/
def fnExactCodeThinSpec : ChangeSpec := { name := "fnExactCodeThin", fn := fun _ => fun
  | [d1, d2, d3] => { results := [.lit (.bool true)], args := [d1, d2, d3] }
  | _ => none }
def fnExactCodeThinRow : OpenClaim := { program := "ytipimkfmkdihpaa", sum := "5052206b23d33829651f8b871941950cc832d0d2231b973f8b36d4af50504fdc", func := "loop.example/faultcodes/laws.FnExactCodeThin", spec := "fnExactCodeThin", unfollowed := true, recurses := true, apart := false }
def FnExactCodeThinSaid : Prop := fnExactCodeThinRow.holds Try.pinned (OpenSpec.ofChange fnExactCodeThinSpec)

/-- ITS FALSE NEIGHBOUR: 'it returns false'. Refute it at one input. -/
def fnExactCodeThinWrong : ChangeSpec := { name := "fnExactCodeThin", fn := fun _ => fun
  | [d1, d2, d3] => { results := [.lit (.bool false)], args := [d1, d2, d3] }
  | _ => none }
def FnExactCodeThinWrongFalsely : Prop := fnExactCodeThinRow.holds Try.pinned (OpenSpec.ofChange fnExactCodeThinWrong)

/-- 'laws.FnExactTreeResolves': WHATEVER THE INPUT: true; the input reads as it did. -/
def fnExactTreeResolvesSpec : ChangeSpec := { name := "fnExactTreeResolves", fn := fun _ => fun
  | [d] => { results := [.lit (.bool true)], args := [d] }
  | _ => none }
def fnExactTreeResolvesRow : OpenClaim := { program := "ytipimkfmkdihpaa", sum := "5052206b23d33829651f8b871941950cc832d0d2231b973f8b36d4af50504fdc", func := "loop.example/faultcodes/laws.FnExactTreeResolves", spec := "fnExactTreeResolves", unfollowed := true, recurses := true, apart := false }
def FnExactTreeResolvesSaid : Prop := fnExactTreeResolvesRow.holds Try.pinned (OpenSpec.ofChange fnExactTreeResolvesSpec)

/-- ITS FALSE NEIGHBOUR: 'it returns false'. Refute it at one input. -/
def fnExactTreeResolvesWrong : ChangeSpec := { name := "fnExactTreeResolves", fn := fun _ => fun
  | [d] => { results := [.lit (.bool false)], args := [d] }
  | _ => none }
def FnExactTreeResolvesWrongFalsely : Prop := fnExactTreeResolvesRow.holds Try.pinned (OpenSpec.ofChange fnExactTreeResolvesWrong)

/-- 'laws.FnExactCodeCount': WHATEVER THE INPUT: true; the input reads as it did. -/
def fnExactCodeCountSpec : ChangeSpec := { name := "fnExactCodeCount", fn := fun _ => fun
  | [d1, d2, d3] => { results := [.lit (.bool true)], args := [d1, d2, d3] }
  | _ => none }
def fnExactCodeCountRow : OpenClaim := { program := "ytipimkfmkdihpaa", sum := "5052206b23d33829651f8b871941950cc832d0d2231b973f8b36d4af50504fdc", func := "loop.example/faultcodes/laws.FnExactCodeCount", spec := "fnExactCodeCount", unfollowed := true, recurses := true, apart := false }
def FnExactCodeCountSaid : Prop := fnExactCodeCountRow.holds Try.pinned (OpenSpec.ofChange fnExactCodeCountSpec)

/-- ITS FALSE NEIGHBOUR: 'it returns false'. Refute it at one input. -/
def fnExactCodeCountWrong : ChangeSpec := { name := "fnExactCodeCount", fn := fun _ => fun
  | [d1, d2, d3] => { results := [.lit (.bool false)], args := [d1, d2, d3] }
  | _ => none }
def FnExactCodeCountWrongFalsely : Prop := fnExactCodeCountRow.holds Try.pinned (OpenSpec.ofChange fnExactCodeCountWrong)

/-- 'laws.FnExactCodeLeast': WHATEVER THE INPUT: true; the input reads as it did. -/
def fnExactCodeLeastSpec : ChangeSpec := { name := "fnExactCodeLeast", fn := fun _ => fun
  | [d1, d2] => { results := [.lit (.bool true)], args := [d1, d2] }
  | _ => none }
def fnExactCodeLeastRow : OpenClaim := { program := "ytipimkfmkdihpaa", sum := "5052206b23d33829651f8b871941950cc832d0d2231b973f8b36d4af50504fdc", func := "loop.example/faultcodes/laws.FnExactCodeLeast", spec := "fnExactCodeLeast", unfollowed := true, recurses := true, apart := false }
def FnExactCodeLeastSaid : Prop := fnExactCodeLeastRow.holds Try.pinned (OpenSpec.ofChange fnExactCodeLeastSpec)

/-- ITS FALSE NEIGHBOUR: 'it returns false'. Refute it at one input. -/
def fnExactCodeLeastWrong : ChangeSpec := { name := "fnExactCodeLeast", fn := fun _ => fun
  | [d1, d2] => { results := [.lit (.bool false)], args := [d1, d2] }
  | _ => none }
def FnExactCodeLeastWrongFalsely : Prop := fnExactCodeLeastRow.holds Try.pinned (OpenSpec.ofChange fnExactCodeLeastWrong)

/-- 'laws.FnExactCodePlace': WHATEVER THE INPUT: true; the input reads as it did. -/
def fnExactCodePlaceSpec : ChangeSpec := { name := "fnExactCodePlace", fn := fun _ => fun
  | [d1, d2, d3] => { results := [.lit (.bool true)], args := [d1, d2, d3] }
  | _ => none }
def fnExactCodePlaceRow : OpenClaim := { program := "ytipimkfmkdihpaa", sum := "5052206b23d33829651f8b871941950cc832d0d2231b973f8b36d4af50504fdc", func := "loop.example/faultcodes/laws.FnExactCodePlace", spec := "fnExactCodePlace", unfollowed := true, recurses := true, apart := false }
def FnExactCodePlaceSaid : Prop := fnExactCodePlaceRow.holds Try.pinned (OpenSpec.ofChange fnExactCodePlaceSpec)

/-- ITS FALSE NEIGHBOUR: 'it returns false'. Refute it at one input. -/
def fnExactCodePlaceWrong : ChangeSpec := { name := "fnExactCodePlace", fn := fun _ => fun
  | [d1, d2, d3] => { results := [.lit (.bool false)], args := [d1, d2, d3] }
  | _ => none }
def FnExactCodePlaceWrongFalsely : Prop := fnExactCodePlaceRow.holds Try.pinned (OpenSpec.ofChange fnExactCodePlaceWrong)

/- THE SECOND FORM. 'bulk': how many values and letters a reading holds, each counted each time it is reached (what is shared counts as often as it is met; a slice's spare places count too). A statement '..UptoSaid' is the law's where the arguments, and the package variables that the reading takes, are together of bulk at most 1048576: NARROWER than '..Said'. Prove '..Said' where nothing that the law and all that it calls make is longer than what came in: it says more and counts as full. Else prove '..UptoSaid'. A law counts once. -/
mutual
def uptoBulk {H : Type} : DataW H → Nat
  | .lit (.string bytes) => bytes.length + 1
  | .lit _ => 1
  | .nil => 1
  | .ptr d => uptoBulk d + 1
  | .slice elems spare => uptoBulkAll elems + uptoBulkAll spare + 1
  | .agg parts => uptoBulkAll parts + 1
  | .iface _ d => uptoBulk d + 1
  | .map entries => uptoBulkEntries entries + 1
  | .held _ => 1
def uptoBulkAll {H : Type} : List (DataW H) → Nat
  | [] => 0
  | d :: r => uptoBulk d + uptoBulkAll r
def uptoBulkEntries {H : Type} : List (Lit × DataW H) → Nat
  | [] => 0
  | x :: r => uptoBulkEntry x + uptoBulkEntries r
def uptoBulkEntry {H : Type} : Lit × DataW H → Nat
  | (.string bytes, d) => bytes.length + uptoBulk d + 1
  | (_, d) => uptoBulk d + 1
 end
def uptoSmall : (H : Type) → List (DataW H) → Bool := fun _ ds => decide (uptoBulkAll ds ≤ 1048576)
def OpenSpec.upto (s : _root_.Go.ChangeSpec) : _root_.Go.OpenSpec := { _root_.Go.OpenSpec.ofChange s with cond := some uptoSmall }

/-- 'laws.FnExactTreeIn', WHERE WHAT IT READS IS OF BULK AT MOST 1048576: true; the input reads as it did. -/
def fnExactTreeInUptoRow : OpenClaim := { program := "ytipimkfmkdihpaa", sum := "5052206b23d33829651f8b871941950cc832d0d2231b973f8b36d4af50504fdc", func := "loop.example/faultcodes/laws.FnExactTreeIn", spec := "fnExactTreeIn", unfollowed := true, recurses := true, apart := false, narrowed := true }
def FnExactTreeInUptoSaid : Prop := fnExactTreeInUptoRow.holds Try.pinned (OpenSpec.upto fnExactTreeInSpec)

/-- 'laws.FnExactCodeVectors', WHERE WHAT IT READS IS OF BULK AT MOST 1048576: true; the input reads as it did. -/
def fnExactCodeVectorsUptoRow : OpenClaim := { program := "ytipimkfmkdihpaa", sum := "5052206b23d33829651f8b871941950cc832d0d2231b973f8b36d4af50504fdc", func := "loop.example/faultcodes/laws.FnExactCodeVectors", spec := "fnExactCodeVectors", unfollowed := true, recurses := true, apart := false, narrowed := true }
def FnExactCodeVectorsUptoSaid : Prop := fnExactCodeVectorsUptoRow.holds Try.pinned (OpenSpec.upto fnExactCodeVectorsSpec)

/-- 'laws.FnExactTreeLeaves', WHERE WHAT IT READS IS OF BULK AT MOST 1048576: true; the input reads as it did. -/
def fnExactTreeLeavesUptoRow : OpenClaim := { program := "ytipimkfmkdihpaa", sum := "5052206b23d33829651f8b871941950cc832d0d2231b973f8b36d4af50504fdc", func := "loop.example/faultcodes/laws.FnExactTreeLeaves", spec := "fnExactTreeLeaves", unfollowed := true, recurses := true, apart := false, narrowed := true }
def FnExactTreeLeavesUptoSaid : Prop := fnExactTreeLeavesUptoRow.holds Try.pinned (OpenSpec.upto fnExactTreeLeavesSpec)

/-- 'laws.FnExactCodeIn', WHERE WHAT IT READS IS OF BULK AT MOST 1048576: true; the input reads as it did. -/
def fnExactCodeInUptoRow : OpenClaim := { program := "ytipimkfmkdihpaa", sum := "5052206b23d33829651f8b871941950cc832d0d2231b973f8b36d4af50504fdc", func := "loop.example/faultcodes/laws.FnExactCodeIn", spec := "fnExactCodeIn", unfollowed := true, recurses := true, apart := false, narrowed := true }
def FnExactCodeInUptoSaid : Prop := fnExactCodeInUptoRow.holds Try.pinned (OpenSpec.upto fnExactCodeInSpec)

/-- 'laws.FnExactCodeFind', WHERE WHAT IT READS IS OF BULK AT MOST 1048576: true; the input reads as it did. -/
def fnExactCodeFindUptoRow : OpenClaim := { program := "ytipimkfmkdihpaa", sum := "5052206b23d33829651f8b871941950cc832d0d2231b973f8b36d4af50504fdc", func := "loop.example/faultcodes/laws.FnExactCodeFind", spec := "fnExactCodeFind", unfollowed := true, recurses := true, apart := false, narrowed := true }
def FnExactCodeFindUptoSaid : Prop := fnExactCodeFindUptoRow.holds Try.pinned (OpenSpec.upto fnExactCodeFindSpec)

/-- 'laws.FnExactTreeForks', WHERE WHAT IT READS IS OF BULK AT MOST 1048576: true; the input reads as it did. -/
def fnExactTreeForksUptoRow : OpenClaim := { program := "ytipimkfmkdihpaa", sum := "5052206b23d33829651f8b871941950cc832d0d2231b973f8b36d4af50504fdc", func := "loop.example/faultcodes/laws.FnExactTreeForks", spec := "fnExactTreeForks", unfollowed := true, recurses := true, apart := false, narrowed := true }
def FnExactTreeForksUptoSaid : Prop := fnExactTreeForksUptoRow.holds Try.pinned (OpenSpec.upto fnExactTreeForksSpec)

/-- 'laws.FnExactCodeThin', WHERE WHAT IT READS IS OF BULK AT MOST 1048576: true; the input reads as it did. -/
def fnExactCodeThinUptoRow : OpenClaim := { program := "ytipimkfmkdihpaa", sum := "5052206b23d33829651f8b871941950cc832d0d2231b973f8b36d4af50504fdc", func := "loop.example/faultcodes/laws.FnExactCodeThin", spec := "fnExactCodeThin", unfollowed := true, recurses := true, apart := false, narrowed := true }
def FnExactCodeThinUptoSaid : Prop := fnExactCodeThinUptoRow.holds Try.pinned (OpenSpec.upto fnExactCodeThinSpec)

/-- 'laws.FnExactTreeResolves', WHERE WHAT IT READS IS OF BULK AT MOST 1048576: true; the input reads as it did. -/
def fnExactTreeResolvesUptoRow : OpenClaim := { program := "ytipimkfmkdihpaa", sum := "5052206b23d33829651f8b871941950cc832d0d2231b973f8b36d4af50504fdc", func := "loop.example/faultcodes/laws.FnExactTreeResolves", spec := "fnExactTreeResolves", unfollowed := true, recurses := true, apart := false, narrowed := true }
def FnExactTreeResolvesUptoSaid : Prop := fnExactTreeResolvesUptoRow.holds Try.pinned (OpenSpec.upto fnExactTreeResolvesSpec)

/-- 'laws.FnExactCodeCount', WHERE WHAT IT READS IS OF BULK AT MOST 1048576: true; the input reads as it did. -/
def fnExactCodeCountUptoRow : OpenClaim := { program := "ytipimkfmkdihpaa", sum := "5052206b23d33829651f8b871941950cc832d0d2231b973f8b36d4af50504fdc", func := "loop.example/faultcodes/laws.FnExactCodeCount", spec := "fnExactCodeCount", unfollowed := true, recurses := true, apart := false, narrowed := true }
def FnExactCodeCountUptoSaid : Prop := fnExactCodeCountUptoRow.holds Try.pinned (OpenSpec.upto fnExactCodeCountSpec)

/-- 'laws.FnExactCodeLeast', WHERE WHAT IT READS IS OF BULK AT MOST 1048576: true; the input reads as it did. -/
def fnExactCodeLeastUptoRow : OpenClaim := { program := "ytipimkfmkdihpaa", sum := "5052206b23d33829651f8b871941950cc832d0d2231b973f8b36d4af50504fdc", func := "loop.example/faultcodes/laws.FnExactCodeLeast", spec := "fnExactCodeLeast", unfollowed := true, recurses := true, apart := false, narrowed := true }
def FnExactCodeLeastUptoSaid : Prop := fnExactCodeLeastUptoRow.holds Try.pinned (OpenSpec.upto fnExactCodeLeastSpec)

/-- 'laws.FnExactCodePlace', WHERE WHAT IT READS IS OF BULK AT MOST 1048576: true; the input reads as it did. -/
def fnExactCodePlaceUptoRow : OpenClaim := { program := "ytipimkfmkdihpaa", sum := "5052206b23d33829651f8b871941950cc832d0d2231b973f8b36d4af50504fdc", func := "loop.example/faultcodes/laws.FnExactCodePlace", spec := "fnExactCodePlace", unfollowed := true, recurses := true, apart := false, narrowed := true }
def FnExactCodePlaceUptoSaid : Prop := fnExactCodePlaceUptoRow.holds Try.pinned (OpenSpec.upto fnExactCodePlaceSpec)

end Rows
end Go.Proofs.Ytipimkfmkdihpaa
