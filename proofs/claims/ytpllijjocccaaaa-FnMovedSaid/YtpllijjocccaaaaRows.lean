/-
  No cell of these rows narrows 'for every input' (looked for: loops, veiled, ifaces, maps, wideKeys, modest, calm, conditions, laid).
  DERIVED. THE GIVEN ROWS OF THIS SEAT. 12 by the template 'for every input the law returns true; each argument reads behind the call as it read before'; 0 by the template 'total and deterministic' (their statements: YtpllijjocccaaaaTotals.lean).
  GIVEN WITH THE SEED: the statements are not yours to turn. If you find one false, say at which input.
  Laid BY PROGRAM, IN A SANDBOX (cutbox-rows.mjs): the forced cells as the released guide's own fill.sh prints them over the translation 4eff25db2410dc39… (all of the seat's roots in one cut). By AI agents, Wed Nov 11 2026. No macro, syntax, notation, axiom, sorry.
-/
import Derived.Test.YtpllijjocccaaaaChecked
import GoSem.Claim
import GoSem.ClaimJoined
import GoSem.ClaimMapViews
import Derived.JoinedTies
import Derived.KernelRfl
namespace Go.Proofs.Ytpllijjocccaaaa
/- THE CELL 'sum', in the pinned program and in every row, IS THE sha256 OF THE DUMP (.gsa) THAT YtpllijjocccaaaaProg.lean LOADS. Nothing in Lean hashes anything: it is a label: what it is worth is what the hold of that sum in a sandbox is worth. -/
noncomputable def Try.pinned : Pinned := { name := "ytpllijjocccaaaa", sum := "4eff25db2410dc3984dd01bb8b6cee4edf24cbd7f8ad75b873750e7bf2346f26", checked := Try.checked }
namespace Rows
def none {H : Type} : Left H := { results := [], args := [] }

/-- 'laws.FnCount': WHATEVER THE INPUT: true; the input reads as it did. -/
def fnCountSpec : ChangeSpec := { name := "fnCount", fn := fun _ => fun
  | [d] => { results := [.lit (.bool true)], args := [d] }
  | _ => none }
def fnCountRow : OpenClaim := { program := "ytpllijjocccaaaa", sum := "4eff25db2410dc3984dd01bb8b6cee4edf24cbd7f8ad75b873750e7bf2346f26", func := "loop.example/faultcodes/laws.FnCount", spec := "fnCount", unfollowed := true, recurses := true, apart := false }
def FnCountSaid : Prop := fnCountRow.holds Try.pinned (OpenSpec.ofChange fnCountSpec)

/-- ITS FALSE NEIGHBOUR: 'it returns false'. Refute it at one input. -/
def fnCountWrong : ChangeSpec := { name := "fnCount", fn := fun _ => fun
  | [d] => { results := [.lit (.bool false)], args := [d] }
  | _ => none }
def FnCountWrongFalsely : Prop := fnCountRow.holds Try.pinned (OpenSpec.ofChange fnCountWrong)

/-- 'laws.FnLeast': WHATEVER THE INPUT: true; the input reads as it did. -/
def fnLeastSpec : ChangeSpec := { name := "fnLeast", fn := fun _ => fun
  | [d] => { results := [.lit (.bool true)], args := [d] }
  | _ => none }
def fnLeastRow : OpenClaim := { program := "ytpllijjocccaaaa", sum := "4eff25db2410dc3984dd01bb8b6cee4edf24cbd7f8ad75b873750e7bf2346f26", func := "loop.example/faultcodes/laws.FnLeast", spec := "fnLeast", unfollowed := true, recurses := true, apart := false }
def FnLeastSaid : Prop := fnLeastRow.holds Try.pinned (OpenSpec.ofChange fnLeastSpec)

/-- ITS FALSE NEIGHBOUR: 'it returns false'. Refute it at one input. -/
def fnLeastWrong : ChangeSpec := { name := "fnLeast", fn := fun _ => fun
  | [d] => { results := [.lit (.bool false)], args := [d] }
  | _ => none }
def FnLeastWrongFalsely : Prop := fnLeastRow.holds Try.pinned (OpenSpec.ofChange fnLeastWrong)

/-- 'laws.FnPlace': WHATEVER THE INPUT: true; the input reads as it did. -/
def fnPlaceSpec : ChangeSpec := { name := "fnPlace", fn := fun _ => fun
  | [d] => { results := [.lit (.bool true)], args := [d] }
  | _ => none }
def fnPlaceRow : OpenClaim := { program := "ytpllijjocccaaaa", sum := "4eff25db2410dc3984dd01bb8b6cee4edf24cbd7f8ad75b873750e7bf2346f26", func := "loop.example/faultcodes/laws.FnPlace", spec := "fnPlace", unfollowed := true, recurses := true, apart := false }
def FnPlaceSaid : Prop := fnPlaceRow.holds Try.pinned (OpenSpec.ofChange fnPlaceSpec)

/-- ITS FALSE NEIGHBOUR: 'it returns false'. Refute it at one input. -/
def fnPlaceWrong : ChangeSpec := { name := "fnPlace", fn := fun _ => fun
  | [d] => { results := [.lit (.bool false)], args := [d] }
  | _ => none }
def FnPlaceWrongFalsely : Prop := fnPlaceRow.holds Try.pinned (OpenSpec.ofChange fnPlaceWrong)

/-- 'laws.FnHas': WHATEVER THE INPUT: true; the input reads as it did. -/
def fnHasSpec : ChangeSpec := { name := "fnHas", fn := fun _ => fun
  | [d] => { results := [.lit (.bool true)], args := [d] }
  | _ => none }
def fnHasRow : OpenClaim := { program := "ytpllijjocccaaaa", sum := "4eff25db2410dc3984dd01bb8b6cee4edf24cbd7f8ad75b873750e7bf2346f26", func := "loop.example/faultcodes/laws.FnHas", spec := "fnHas", unfollowed := true, recurses := true, apart := false }
def FnHasSaid : Prop := fnHasRow.holds Try.pinned (OpenSpec.ofChange fnHasSpec)

/-- ITS FALSE NEIGHBOUR: 'it returns false'. Refute it at one input. -/
def fnHasWrong : ChangeSpec := { name := "fnHas", fn := fun _ => fun
  | [d] => { results := [.lit (.bool false)], args := [d] }
  | _ => none }
def FnHasWrongFalsely : Prop := fnHasRow.holds Try.pinned (OpenSpec.ofChange fnHasWrong)

/-- 'laws.FnMarks': WHATEVER THE INPUT: true; the input reads as it did. -/
def fnMarksSpec : ChangeSpec := { name := "fnMarks", fn := fun _ => fun
  | [d] => { results := [.lit (.bool true)], args := [d] }
  | _ => none }
def fnMarksRow : OpenClaim := { program := "ytpllijjocccaaaa", sum := "4eff25db2410dc3984dd01bb8b6cee4edf24cbd7f8ad75b873750e7bf2346f26", func := "loop.example/faultcodes/laws.FnMarks", spec := "fnMarks", unfollowed := true, recurses := true, apart := false }
def FnMarksSaid : Prop := fnMarksRow.holds Try.pinned (OpenSpec.ofChange fnMarksSpec)

/-- ITS FALSE NEIGHBOUR: 'it returns false'. Refute it at one input. -/
def fnMarksWrong : ChangeSpec := { name := "fnMarks", fn := fun _ => fun
  | [d] => { results := [.lit (.bool false)], args := [d] }
  | _ => none }
def FnMarksWrongFalsely : Prop := fnMarksRow.holds Try.pinned (OpenSpec.ofChange fnMarksWrong)

/-- 'laws.FnLeastNone': WHATEVER THE INPUT: true; the input reads as it did. -/
def fnLeastNoneSpec : ChangeSpec := { name := "fnLeastNone", fn := fun _ => fun
  | [d] => { results := [.lit (.bool true)], args := [d] }
  | _ => none }
def fnLeastNoneRow : OpenClaim := { program := "ytpllijjocccaaaa", sum := "4eff25db2410dc3984dd01bb8b6cee4edf24cbd7f8ad75b873750e7bf2346f26", func := "loop.example/faultcodes/laws.FnLeastNone", spec := "fnLeastNone", unfollowed := true, recurses := true, apart := false }
def FnLeastNoneSaid : Prop := fnLeastNoneRow.holds Try.pinned (OpenSpec.ofChange fnLeastNoneSpec)

/-- ITS FALSE NEIGHBOUR: 'it returns false'. Refute it at one input. -/
def fnLeastNoneWrong : ChangeSpec := { name := "fnLeastNone", fn := fun _ => fun
  | [d] => { results := [.lit (.bool false)], args := [d] }
  | _ => none }
def FnLeastNoneWrongFalsely : Prop := fnLeastNoneRow.holds Try.pinned (OpenSpec.ofChange fnLeastNoneWrong)

/-- 'laws.FnCode': WHATEVER THE INPUT: true; the input reads as it did. -/
def fnCodeSpec : ChangeSpec := { name := "fnCode", fn := fun _ => fun
  | [d] => { results := [.lit (.bool true)], args := [d] }
  | _ => none }
def fnCodeRow : OpenClaim := { program := "ytpllijjocccaaaa", sum := "4eff25db2410dc3984dd01bb8b6cee4edf24cbd7f8ad75b873750e7bf2346f26", func := "loop.example/faultcodes/laws.FnCode", spec := "fnCode", unfollowed := true, recurses := true, apart := false }
def FnCodeSaid : Prop := fnCodeRow.holds Try.pinned (OpenSpec.ofChange fnCodeSpec)

/-- ITS FALSE NEIGHBOUR: 'it returns false'. Refute it at one input. -/
def fnCodeWrong : ChangeSpec := { name := "fnCode", fn := fun _ => fun
  | [d] => { results := [.lit (.bool false)], args := [d] }
  | _ => none }
def FnCodeWrongFalsely : Prop := fnCodeRow.holds Try.pinned (OpenSpec.ofChange fnCodeWrong)

/-- 'laws.FnLocatingResolves': WHATEVER THE INPUT: true; the input reads as it did. -/
def fnLocatingResolvesSpec : ChangeSpec := { name := "fnLocatingResolves", fn := fun _ => fun
  | [d] => { results := [.lit (.bool true)], args := [d] }
  | _ => none }
def fnLocatingResolvesRow : OpenClaim := { program := "ytpllijjocccaaaa", sum := "4eff25db2410dc3984dd01bb8b6cee4edf24cbd7f8ad75b873750e7bf2346f26", func := "loop.example/faultcodes/laws.FnLocatingResolves", spec := "fnLocatingResolves", unfollowed := true, recurses := true, apart := false }
def FnLocatingResolvesSaid : Prop := fnLocatingResolvesRow.holds Try.pinned (OpenSpec.ofChange fnLocatingResolvesSpec)

/-- ITS FALSE NEIGHBOUR: 'it returns false'. Refute it at one input. -/
def fnLocatingResolvesWrong : ChangeSpec := { name := "fnLocatingResolves", fn := fun _ => fun
  | [d] => { results := [.lit (.bool false)], args := [d] }
  | _ => none }
def FnLocatingResolvesWrongFalsely : Prop := fnLocatingResolvesRow.holds Try.pinned (OpenSpec.ofChange fnLocatingResolvesWrong)

/-- 'laws.FnMoved': WHATEVER THE INPUT: true; the input reads as it did. -/
def fnMovedSpec : ChangeSpec := { name := "fnMoved", fn := fun _ => fun
  | [d] => { results := [.lit (.bool true)], args := [d] }
  | _ => none }
def fnMovedRow : OpenClaim := { program := "ytpllijjocccaaaa", sum := "4eff25db2410dc3984dd01bb8b6cee4edf24cbd7f8ad75b873750e7bf2346f26", func := "loop.example/faultcodes/laws.FnMoved", spec := "fnMoved", unfollowed := true, recurses := true, apart := false }
def FnMovedSaid : Prop := fnMovedRow.holds Try.pinned (OpenSpec.ofChange fnMovedSpec)

/-- ITS FALSE NEIGHBOUR: 'it returns false'. Refute it at one input. -/
def fnMovedWrong : ChangeSpec := { name := "fnMoved", fn := fun _ => fun
  | [d] => { results := [.lit (.bool false)], args := [d] }
  | _ => none }
def FnMovedWrongFalsely : Prop := fnMovedRow.holds Try.pinned (OpenSpec.ofChange fnMovedWrong)

/-- 'laws.FnVectors': WHATEVER THE INPUT: true; the input reads as it did. -/
def fnVectorsSpec : ChangeSpec := { name := "fnVectors", fn := fun _ => fun
  | [d] => { results := [.lit (.bool true)], args := [d] }
  | _ => none }
def fnVectorsRow : OpenClaim := { program := "ytpllijjocccaaaa", sum := "4eff25db2410dc3984dd01bb8b6cee4edf24cbd7f8ad75b873750e7bf2346f26", func := "loop.example/faultcodes/laws.FnVectors", spec := "fnVectors", unfollowed := true, recurses := true, apart := false }
def FnVectorsSaid : Prop := fnVectorsRow.holds Try.pinned (OpenSpec.ofChange fnVectorsSpec)

/-- ITS FALSE NEIGHBOUR: 'it returns false'. Refute it at one input. -/
def fnVectorsWrong : ChangeSpec := { name := "fnVectors", fn := fun _ => fun
  | [d] => { results := [.lit (.bool false)], args := [d] }
  | _ => none }
def FnVectorsWrongFalsely : Prop := fnVectorsRow.holds Try.pinned (OpenSpec.ofChange fnVectorsWrong)

/-- 'laws.FnThin': WHATEVER THE INPUT: true; the input reads as it did. -/
def fnThinSpec : ChangeSpec := { name := "fnThin", fn := fun _ => fun
  | [d] => { results := [.lit (.bool true)], args := [d] }
  | _ => none }
def fnThinRow : OpenClaim := { program := "ytpllijjocccaaaa", sum := "4eff25db2410dc3984dd01bb8b6cee4edf24cbd7f8ad75b873750e7bf2346f26", func := "loop.example/faultcodes/laws.FnThin", spec := "fnThin", unfollowed := true, recurses := true, apart := false }
def FnThinSaid : Prop := fnThinRow.holds Try.pinned (OpenSpec.ofChange fnThinSpec)

/-- ITS FALSE NEIGHBOUR: 'it returns false'. Refute it at one input. -/
def fnThinWrong : ChangeSpec := { name := "fnThin", fn := fun _ => fun
  | [d] => { results := [.lit (.bool false)], args := [d] }
  | _ => none }
def FnThinWrongFalsely : Prop := fnThinRow.holds Try.pinned (OpenSpec.ofChange fnThinWrong)

/-- 'laws.FnFind': WHATEVER THE INPUT: true; the input reads as it did. -/
def fnFindSpec : ChangeSpec := { name := "fnFind", fn := fun _ => fun
  | [d] => { results := [.lit (.bool true)], args := [d] }
  | _ => none }
def fnFindRow : OpenClaim := { program := "ytpllijjocccaaaa", sum := "4eff25db2410dc3984dd01bb8b6cee4edf24cbd7f8ad75b873750e7bf2346f26", func := "loop.example/faultcodes/laws.FnFind", spec := "fnFind", unfollowed := true, recurses := true, apart := false }
def FnFindSaid : Prop := fnFindRow.holds Try.pinned (OpenSpec.ofChange fnFindSpec)

/-- ITS FALSE NEIGHBOUR: 'it returns false'. Refute it at one input. -/
def fnFindWrong : ChangeSpec := { name := "fnFind", fn := fun _ => fun
  | [d] => { results := [.lit (.bool false)], args := [d] }
  | _ => none }
def FnFindWrongFalsely : Prop := fnFindRow.holds Try.pinned (OpenSpec.ofChange fnFindWrong)

/- THE SECOND FORM. 'bulk': how many values and letters a reading holds, each counted each time it is reached (what is shared counts as often as it is met; a slice's spare places count too). A statement '..UptoSaid' is the law's where the arguments, and the package variables that the reading takes, are together of bulk at most 1048576: NARROWER than '..Said'. Prove '..Said' where nothing that the law and all that it calls make is longer than what came in: it says more and counts as full. Else prove '..UptoSaid'. A law counts once. -/
mutual
def uptoBulk {H : Type} : DataW H → Nat
  | .lit (.string bytes) => bytes.length + 1
  | .lit _ => 1
  | .nil => 1
  | .ptr d => uptoBulk d + 1
  | .slice elems spare => uptoBulkAll elems + uptoBulkAll spare + 1
  | .agg parts => uptoBulkAll parts + 1
  | .iface _ d => uptoBulk d + 1
  | .map entries => uptoBulkEntries entries + 1
  | .held _ => 1
def uptoBulkAll {H : Type} : List (DataW H) → Nat
  | [] => 0
  | d :: r => uptoBulk d + uptoBulkAll r
def uptoBulkEntries {H : Type} : List (Lit × DataW H) → Nat
  | [] => 0
  | x :: r => uptoBulkEntry x + uptoBulkEntries r
def uptoBulkEntry {H : Type} : Lit × DataW H → Nat
  | (.string bytes, d) => bytes.length + uptoBulk d + 1
  | (_, d) => uptoBulk d + 1
 end
def uptoSmall : (H : Type) → List (DataW H) → Bool := fun _ ds => decide (uptoBulkAll ds ≤ 1048576)
def OpenSpec.upto (s : _root_.Go.ChangeSpec) : _root_.Go.OpenSpec := { _root_.Go.OpenSpec.ofChange s with cond := some uptoSmall }

/-- 'laws.FnCount', WHERE WHAT IT READS IS OF BULK AT MOST 1048576: true; the input reads as it did. -/
def fnCountUptoRow : OpenClaim := { program := "ytpllijjocccaaaa", sum := "4eff25db2410dc3984dd01bb8b6cee4edf24cbd7f8ad75b873750e7bf2346f26", func := "loop.example/faultcodes/laws.FnCount", spec := "fnCount", unfollowed := true, recurses := true, apart := false, narrowed := true }
def FnCountUptoSaid : Prop := fnCountUptoRow.holds Try.pinned (OpenSpec.upto fnCountSpec)

/-- 'laws.FnLeast', WHERE WHAT IT READS IS OF BULK AT MOST 1048576: true; the input reads as it did. -/
def fnLeastUptoRow : OpenClaim := { program := "ytpllijjocccaaaa", sum := "4eff25db2410dc3984dd01bb8b6cee4edf24cbd7f8ad75b873750e7bf2346f26", func := "loop.example/faultcodes/laws.FnLeast", spec := "fnLeast", unfollowed := true, recurses := true, apart := false, narrowed := true }
def FnLeastUptoSaid : Prop := fnLeastUptoRow.holds Try.pinned (OpenSpec.upto fnLeastSpec)

/-- 'laws.FnPlace', WHERE WHAT IT READS IS OF BULK AT MOST 1048576: true; the input reads as it did. -/
def fnPlaceUptoRow : OpenClaim := { program := "ytpllijjocccaaaa", sum := "4eff25db2410dc3984dd01bb8b6cee4edf24cbd7f8ad75b873750e7bf2346f26", func := "loop.example/faultcodes/laws.FnPlace", spec := "fnPlace", unfollowed := true, recurses := true, apart := false, narrowed := true }
def FnPlaceUptoSaid : Prop := fnPlaceUptoRow.holds Try.pinned (OpenSpec.upto fnPlaceSpec)

/-- 'laws.FnHas', WHERE WHAT IT READS IS OF BULK AT MOST 1048576: true; the input reads as it did. -/
def fnHasUptoRow : OpenClaim := { program := "ytpllijjocccaaaa", sum := "4eff25db2410dc3984dd01bb8b6cee4edf24cbd7f8ad75b873750e7bf2346f26", func := "loop.example/faultcodes/laws.FnHas", spec := "fnHas", unfollowed := true, recurses := true, apart := false, narrowed := true }
def FnHasUptoSaid : Prop := fnHasUptoRow.holds Try.pinned (OpenSpec.upto fnHasSpec)

/-- 'laws.FnMarks', WHERE WHAT IT READS IS OF BULK AT MOST 1048576: true; the input reads as it did. -/
def fnMarksUptoRow : OpenClaim := { program := "ytpllijjocccaaaa", sum := "4eff25db2410dc3984dd01bb8b6cee4edf24cbd7f8ad75b873750e7bf2346f26", func := "loop.example/faultcodes/laws.FnMarks", spec := "fnMarks", unfollowed := true, recurses := true, apart := false, narrowed := true }
def FnMarksUptoSaid : Prop := fnMarksUptoRow.holds Try.pinned (OpenSpec.upto fnMarksSpec)

/-- 'laws.FnLeastNone', WHERE WHAT IT READS IS OF BULK AT MOST 1048576: true; the input reads as it did. -/
def fnLeastNoneUptoRow : OpenClaim := { program := "ytpllijjocccaaaa", sum := "4eff25db2410dc3984dd01bb8b6cee4edf24cbd7f8ad75b873750e7bf2346f26", func := "loop.example/faultcodes/laws.FnLeastNone", spec := "fnLeastNone", unfollowed := true, recurses := true, apart := false, narrowed := true }
def FnLeastNoneUptoSaid : Prop := fnLeastNoneUptoRow.holds Try.pinned (OpenSpec.upto fnLeastNoneSpec)

/-- 'laws.FnCode', WHERE WHAT IT READS IS OF BULK AT MOST 1048576: true; the input reads as it did. -/
def fnCodeUptoRow : OpenClaim := { program := "ytpllijjocccaaaa", sum := "4eff25db2410dc3984dd01bb8b6cee4edf24cbd7f8ad75b873750e7bf2346f26", func := "loop.example/faultcodes/laws.FnCode", spec := "fnCode", unfollowed := true, recurses := true, apart := false, narrowed := true }
def FnCodeUptoSaid : Prop := fnCodeUptoRow.holds Try.pinned (OpenSpec.upto fnCodeSpec)

/-- 'laws.FnLocatingResolves', WHERE WHAT IT READS IS OF BULK AT MOST 1048576: true; the input reads as it did. -/
def fnLocatingResolvesUptoRow : OpenClaim := { program := "ytpllijjocccaaaa", sum := "4eff25db2410dc3984dd01bb8b6cee4edf24cbd7f8ad75b873750e7bf2346f26", func := "loop.example/faultcodes/laws.FnLocatingResolves", spec := "fnLocatingResolves", unfollowed := true, recurses := true, apart := false, narrowed := true }
def FnLocatingResolvesUptoSaid : Prop := fnLocatingResolvesUptoRow.holds Try.pinned (OpenSpec.upto fnLocatingResolvesSpec)

/-- 'laws.FnMoved', WHERE WHAT IT READS IS OF BULK AT MOST 1048576: true; the input reads as it did. -/
def fnMovedUptoRow : OpenClaim := { program := "ytpllijjocccaaaa", sum := "4eff25db2410dc3984dd01bb8b6cee4edf24cbd7f8ad75b873750e7bf2346f26", func := "loop.example/faultcodes/laws.FnMoved", spec := "fnMoved", unfollowed := true, recurses := true, apart := false, narrowed := true }
def FnMovedUptoSaid : Prop := fnMovedUptoRow.holds Try.pinned (OpenSpec.upto fnMovedSpec)

/-- 'laws.FnVectors', WHERE WHAT IT READS IS OF BULK AT MOST 1048576: true; the input reads as it did. -/
def fnVectorsUptoRow : OpenClaim := { program := "ytpllijjocccaaaa", sum := "4eff25db2410dc3984dd01bb8b6cee4edf24cbd7f8ad75b873750e7bf2346f26", func := "loop.example/faultcodes/laws.FnVectors", spec := "fnVectors", unfollowed := true, recurses := true, apart := false, narrowed := true }
def FnVectorsUptoSaid : Prop := fnVectorsUptoRow.holds Try.pinned (OpenSpec.upto fnVectorsSpec)

/-- 'laws.FnThin', WHERE WHAT IT READS IS OF BULK AT MOST 1048576: true; the input reads as it did. -/
def fnThinUptoRow : OpenClaim := { program := "ytpllijjocccaaaa", sum := "4eff25db2410dc3984dd01bb8b6cee4edf24cbd7f8ad75b873750e7bf2346f26", func := "loop.example/faultcodes/laws.FnThin", spec := "fnThin", unfollowed := true, recurses := true, apart := false, narrowed := true }
def FnThinUptoSaid : Prop := fnThinUptoRow.holds Try.pinned (OpenSpec.upto fnThinSpec)

/-- 'laws.FnFind', WHERE WHAT IT READS IS OF BULK AT MOST 1048576: true; the input reads as it did. -/
def fnFindUptoRow : OpenClaim := { program := "ytpllijjocccaaaa", sum := "4eff25db2410dc3984dd01bb8b6cee4edf24cbd7f8ad75b873750e7bf2346f26", func := "loop.example/faultcodes/laws.FnFind", spec := "fnFind", unfollowed := true, recurses := true, apart := false, narrowed := true }
def FnFindUptoSaid : Prop := fnFindUptoRow.holds Try.pinned (OpenSpec.upto fnFindSpec)

end Rows
end Go.Proofs.Ytpllijjocccaaaa
