/-
  No cell of these rows narrows 'for every input' (looked for: loops, veiled, ifaces, maps, wideKeys, modest, calm, conditions, laid).
  DERIVED. THE GIVEN ROWS OF THIS SEAT. 6 by the template 'for every input the law returns true; each argument reads behind the call as it read before'; 0 by the template 'total and deterministic' (their statements: YtjjnjmemfeadnaaTotals.lean).
  GIVEN WITH THE SEED: the statements are not yours to turn. If you find one false, say at which input.
  Laid BY PROGRAM, IN A SANDBOX (cutbox-rows.mjs): the forced cells as the released guide's own fill.sh prints them over the translation 11a83eac467ad235… (all of the seat's roots in one cut). By AI agents, Wed Nov 11 2026. No macro, syntax, notation, axiom, sorry.
-/
import Derived.Test.YtjjnjmemfeadnaaChecked
import GoSem.Claim
import GoSem.ClaimJoined
import GoSem.ClaimMapViews
import Derived.JoinedTies
import Derived.KernelRfl
namespace Go.Proofs.Ytjjnjmemfeadnaa
/- THE CELL 'sum', in the pinned program and in every row, IS THE sha256 OF THE DUMP (.gsa) THAT YtjjnjmemfeadnaaProg.lean LOADS. Nothing in Lean hashes anything: it is a label: what it is worth is what the hold of that sum in a sandbox is worth. -/
noncomputable def Try.pinned : Pinned := { name := "ytjjnjmemfeadnaa", sum := "11a83eac467ad2352d65365a42bb54c7db14558a5e2a57b4b0dd4eba4427b393", checked := Try.checked }
namespace Rows
def none {H : Type} : Left H := { results := [], args := [] }

/-- 'laws.FnExactConstants': WHATEVER THE INPUT: true; the input reads as it did. -/
def fnExactConstantsSpec : ChangeSpec := { name := "fnExactConstants", fn := fun _ => fun
  | [] => { results := [.lit (.bool true)], args := [] }
  | _ => none }
def fnExactConstantsRow : OpenClaim := { program := "ytjjnjmemfeadnaa", sum := "11a83eac467ad2352d65365a42bb54c7db14558a5e2a57b4b0dd4eba4427b393", func := "loop.example/faultcodes/laws.FnExactConstants", spec := "fnExactConstants", apart := false }
def FnExactConstantsSaid : Prop := fnExactConstantsRow.holds Try.pinned (OpenSpec.ofChange fnExactConstantsSpec)

/-- ITS FALSE NEIGHBOUR: 'it returns false'. Refute it at one input. -/
def fnExactConstantsWrong : ChangeSpec := { name := "fnExactConstants", fn := fun _ => fun
  | [] => { results := [.lit (.bool false)], args := [] }
  | _ => none }
def FnExactConstantsWrongFalsely : Prop := fnExactConstantsRow.holds Try.pinned (OpenSpec.ofChange fnExactConstantsWrong)

/-- 'laws.FnExactRingDominates': WHATEVER THE INPUT: true; the input reads as it did. -/
def fnExactRingDominatesSpec : ChangeSpec := { name := "fnExactRingDominates", fn := fun _ => fun
  | [d] => { results := [.lit (.bool true)], args := [d] }
  | _ => none }
def fnExactRingDominatesRow : OpenClaim := { program := "ytjjnjmemfeadnaa", sum := "11a83eac467ad2352d65365a42bb54c7db14558a5e2a57b4b0dd4eba4427b393", func := "loop.example/faultcodes/laws.FnExactRingDominates", spec := "fnExactRingDominates", apart := false }
def FnExactRingDominatesSaid : Prop := fnExactRingDominatesRow.holds Try.pinned (OpenSpec.ofChange fnExactRingDominatesSpec)

/-- ITS FALSE NEIGHBOUR: 'it returns false'. Refute it at one input. -/
def fnExactRingDominatesWrong : ChangeSpec := { name := "fnExactRingDominates", fn := fun _ => fun
  | [d] => { results := [.lit (.bool false)], args := [d] }
  | _ => none }
def FnExactRingDominatesWrongFalsely : Prop := fnExactRingDominatesRow.holds Try.pinned (OpenSpec.ofChange fnExactRingDominatesWrong)

/-- 'laws.FnExactPathIdentifies': WHATEVER THE INPUT: true; the input reads as it did. -/
def fnExactPathIdentifiesSpec : ChangeSpec := { name := "fnExactPathIdentifies", fn := fun _ => fun
  | [d] => { results := [.lit (.bool true)], args := [d] }
  | _ => none }
def fnExactPathIdentifiesRow : OpenClaim := { program := "ytjjnjmemfeadnaa", sum := "11a83eac467ad2352d65365a42bb54c7db14558a5e2a57b4b0dd4eba4427b393", func := "loop.example/faultcodes/laws.FnExactPathIdentifies", spec := "fnExactPathIdentifies", apart := false }
def FnExactPathIdentifiesSaid : Prop := fnExactPathIdentifiesRow.holds Try.pinned (OpenSpec.ofChange fnExactPathIdentifiesSpec)

/-- ITS FALSE NEIGHBOUR: 'it returns false'. Refute it at one input. -/
def fnExactPathIdentifiesWrong : ChangeSpec := { name := "fnExactPathIdentifies", fn := fun _ => fun
  | [d] => { results := [.lit (.bool false)], args := [d] }
  | _ => none }
def FnExactPathIdentifiesWrongFalsely : Prop := fnExactPathIdentifiesRow.holds Try.pinned (OpenSpec.ofChange fnExactPathIdentifiesWrong)

/-- 'laws.FnExactRingIdentifies': WHATEVER THE INPUT: true; the input reads as it did. -/
def fnExactRingIdentifiesSpec : ChangeSpec := { name := "fnExactRingIdentifies", fn := fun _ => fun
  | [d] => { results := [.lit (.bool true)], args := [d] }
  | _ => none }
def fnExactRingIdentifiesRow : OpenClaim := { program := "ytjjnjmemfeadnaa", sum := "11a83eac467ad2352d65365a42bb54c7db14558a5e2a57b4b0dd4eba4427b393", func := "loop.example/faultcodes/laws.FnExactRingIdentifies", spec := "fnExactRingIdentifies", apart := false }
def FnExactRingIdentifiesSaid : Prop := fnExactRingIdentifiesRow.holds Try.pinned (OpenSpec.ofChange fnExactRingIdentifiesSpec)

/-- ITS FALSE NEIGHBOUR: 'it returns false'. Refute it at one input. -/
def fnExactRingIdentifiesWrong : ChangeSpec := { name := "fnExactRingIdentifies", fn := fun _ => fun
  | [d] => { results := [.lit (.bool false)], args := [d] }
  | _ => none }
def FnExactRingIdentifiesWrongFalsely : Prop := fnExactRingIdentifiesRow.holds Try.pinned (OpenSpec.ofChange fnExactRingIdentifiesWrong)

/-- 'laws.FnExactGraphIn': WHATEVER THE INPUT: true; the input reads as it did. -/
def fnExactGraphInSpec : ChangeSpec := { name := "fnExactGraphIn", fn := fun _ => fun
  | [d] => { results := [.lit (.bool true)], args := [d] }
  | _ => none }
def fnExactGraphInRow : OpenClaim := { program := "ytjjnjmemfeadnaa", sum := "11a83eac467ad2352d65365a42bb54c7db14558a5e2a57b4b0dd4eba4427b393", func := "loop.example/faultcodes/laws.FnExactGraphIn", spec := "fnExactGraphIn", unfollowed := true, recurses := true, apart := false }
def FnExactGraphInSaid : Prop := fnExactGraphInRow.holds Try.pinned (OpenSpec.ofChange fnExactGraphInSpec)

/-- ITS FALSE NEIGHBOUR: 'it returns false'. Refute it at one input. -/
def fnExactGraphInWrong : ChangeSpec := { name := "fnExactGraphIn", fn := fun _ => fun
  | [d] => { results := [.lit (.bool false)], args := [d] }
  | _ => none }
def FnExactGraphInWrongFalsely : Prop := fnExactGraphInRow.holds Try.pinned (OpenSpec.ofChange fnExactGraphInWrong)

/-- 'laws.FnExactGraphKind': WHATEVER THE INPUT: true; the input reads as it did. -/
def fnExactGraphKindSpec : ChangeSpec := { name := "fnExactGraphKind", fn := fun _ => fun
  | [d1, d2] => { results := [.lit (.bool true)], args := [d1, d2] }
  | _ => none }
def fnExactGraphKindRow : OpenClaim := { program := "ytjjnjmemfeadnaa", sum := "11a83eac467ad2352d65365a42bb54c7db14558a5e2a57b4b0dd4eba4427b393", func := "loop.example/faultcodes/laws.FnExactGraphKind", spec := "fnExactGraphKind", apart := false }
def FnExactGraphKindSaid : Prop := fnExactGraphKindRow.holds Try.pinned (OpenSpec.ofChange fnExactGraphKindSpec)

/-- ITS FALSE NEIGHBOUR: 'it returns false'. Refute it at one input. -/
def fnExactGraphKindWrong : ChangeSpec := { name := "fnExactGraphKind", fn := fun _ => fun
  | [d1, d2] => { results := [.lit (.bool false)], args := [d1, d2] }
  | _ => none }
def FnExactGraphKindWrongFalsely : Prop := fnExactGraphKindRow.holds Try.pinned (OpenSpec.ofChange fnExactGraphKindWrong)

/- THE SECOND FORM. 'bulk': how many values and letters a reading holds, each counted each time it is reached (what is shared counts as often as it is met; a slice's spare places count too). A statement '..UptoSaid' is the law's where the arguments, and the package variables that the reading takes, are together of bulk at most 1048576: NARROWER than '..Said'. Prove '..Said' where nothing that the law and all that it calls make is longer than what came in: it says more and counts as full. Else prove '..UptoSaid'. A law counts once. -/
mutual
def uptoBulk {H : Type} : DataW H → Nat
  | .lit (.string bytes) => bytes.length + 1
  | .lit _ => 1
  | .nil => 1
  | .ptr d => uptoBulk d + 1
  | .slice elems spare => uptoBulkAll elems + uptoBulkAll spare + 1
  | .agg parts => uptoBulkAll parts + 1
  | .iface _ d => uptoBulk d + 1
  | .map entries => uptoBulkEntries entries + 1
  | .held _ => 1
def uptoBulkAll {H : Type} : List (DataW H) → Nat
  | [] => 0
  | d :: r => uptoBulk d + uptoBulkAll r
def uptoBulkEntries {H : Type} : List (Lit × DataW H) → Nat
  | [] => 0
  | x :: r => uptoBulkEntry x + uptoBulkEntries r
def uptoBulkEntry {H : Type} : Lit × DataW H → Nat
  | (.string bytes, d) => bytes.length + uptoBulk d + 1
  | (_, d) => uptoBulk d + 1
 end
def uptoSmall : (H : Type) → List (DataW H) → Bool := fun _ ds => decide (uptoBulkAll ds ≤ 1048576)
def OpenSpec.upto (s : _root_.Go.ChangeSpec) : _root_.Go.OpenSpec := { _root_.Go.OpenSpec.ofChange s with cond := some uptoSmall }

/-- 'laws.FnExactConstants', WHERE WHAT IT READS IS OF BULK AT MOST 1048576: true; the input reads as it did. -/
def fnExactConstantsUptoRow : OpenClaim := { program := "ytjjnjmemfeadnaa", sum := "11a83eac467ad2352d65365a42bb54c7db14558a5e2a57b4b0dd4eba4427b393", func := "loop.example/faultcodes/laws.FnExactConstants", spec := "fnExactConstants", apart := false, narrowed := true }
def FnExactConstantsUptoSaid : Prop := fnExactConstantsUptoRow.holds Try.pinned (OpenSpec.upto fnExactConstantsSpec)

/-- 'laws.FnExactRingDominates', WHERE WHAT IT READS IS OF BULK AT MOST 1048576: true; the input reads as it did. -/
def fnExactRingDominatesUptoRow : OpenClaim := { program := "ytjjnjmemfeadnaa", sum := "11a83eac467ad2352d65365a42bb54c7db14558a5e2a57b4b0dd4eba4427b393", func := "loop.example/faultcodes/laws.FnExactRingDominates", spec := "fnExactRingDominates", apart := false, narrowed := true }
def FnExactRingDominatesUptoSaid : Prop := fnExactRingDominatesUptoRow.holds Try.pinned (OpenSpec.upto fnExactRingDominatesSpec)

/-- 'laws.FnExactPathIdentifies', WHERE WHAT IT READS IS OF BULK AT MOST 1048576: true; the input reads as it did. -/
def fnExactPathIdentifiesUptoRow : OpenClaim := { program := "ytjjnjmemfeadnaa", sum := "11a83eac467ad2352d65365a42bb54c7db14558a5e2a57b4b0dd4eba4427b393", func := "loop.example/faultcodes/laws.FnExactPathIdentifies", spec := "fnExactPathIdentifies", apart := false, narrowed := true }
def FnExactPathIdentifiesUptoSaid : Prop := fnExactPathIdentifiesUptoRow.holds Try.pinned (OpenSpec.upto fnExactPathIdentifiesSpec)

/-- 'laws.FnExactRingIdentifies', WHERE WHAT IT READS IS OF BULK AT MOST 1048576: true; the input reads as it did. -/
def fnExactRingIdentifiesUptoRow : OpenClaim := { program := "ytjjnjmemfeadnaa", sum := "11a83eac467ad2352d65365a42bb54c7db14558a5e2a57b4b0dd4eba4427b393", func := "loop.example/faultcodes/laws.FnExactRingIdentifies", spec := "fnExactRingIdentifies", apart := false, narrowed := true }
def FnExactRingIdentifiesUptoSaid : Prop := fnExactRingIdentifiesUptoRow.holds Try.pinned (OpenSpec.upto fnExactRingIdentifiesSpec)

/-- 'laws.FnExactGraphIn', WHERE WHAT IT READS IS OF BULK AT MOST 1048576: true; the input reads as it did. -/
def fnExactGraphInUptoRow : OpenClaim := { program := "ytjjnjmemfeadnaa", sum := "11a83eac467ad2352d65365a42bb54c7db14558a5e2a57b4b0dd4eba4427b393", func := "loop.example/faultcodes/laws.FnExactGraphIn", spec := "fnExactGraphIn", unfollowed := true, recurses := true, apart := false, narrowed := true }
def FnExactGraphInUptoSaid : Prop := fnExactGraphInUptoRow.holds Try.pinned (OpenSpec.upto fnExactGraphInSpec)

/-- 'laws.FnExactGraphKind', WHERE WHAT IT READS IS OF BULK AT MOST 1048576: true; the input reads as it did. -/
def fnExactGraphKindUptoRow : OpenClaim := { program := "ytjjnjmemfeadnaa", sum := "11a83eac467ad2352d65365a42bb54c7db14558a5e2a57b4b0dd4eba4427b393", func := "loop.example/faultcodes/laws.FnExactGraphKind", spec := "fnExactGraphKind", apart := false, narrowed := true }
def FnExactGraphKindUptoSaid : Prop := fnExactGraphKindUptoRow.holds Try.pinned (OpenSpec.upto fnExactGraphKindSpec)

end Rows
end Go.Proofs.Ytjjnjmemfeadnaa
