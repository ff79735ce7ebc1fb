/-
  No cell of these rows narrows 'for every input' (looked for: loops, veiled, ifaces, maps, wideKeys, modest, calm, conditions, laid).
  DERIVED. THE GIVEN ROWS OF THIS SEAT. 6 by the template 'for every input the law returns true; each argument reads behind the call as it read before'; 0 by the template 'total and deterministic' (their statements: YtdghdngpeidmnaaTotals.lean).
  GIVEN WITH THE SEED: the statements are not yours to turn. If you find one false, say at which input.
  Laid BY PROGRAM, IN A SANDBOX (cutbox-rows.mjs): the forced cells as the released guide's own fill.sh prints them over the translation b7d3cc7ce7cb5269… (all of the seat's roots in one cut). By AI agents, Wed Nov 11 2026. No macro, syntax, notation, axiom, sorry.
-/
import Derived.Test.YtdghdngpeidmnaaChecked
import GoSem.Claim
import GoSem.ClaimJoined
import GoSem.ClaimMapViews
import Derived.JoinedTies
import Derived.KernelRfl
namespace Go.Proofs.Ytdghdngpeidmnaa
/- THE CELL 'sum', in the pinned program and in every row, IS THE sha256 OF THE DUMP (.gsa) THAT YtdghdngpeidmnaaProg.lean LOADS. Nothing in Lean hashes anything: it is a label: what it is worth is what the hold of that sum in a sandbox is worth. -/
noncomputable def Try.pinned : Pinned := { name := "ytdghdngpeidmnaa", sum := "b7d3cc7ce7cb52699b55d34de6fb779d10a492fb41e777ff99cc1d57fc188796", checked := Try.checked }
namespace Rows
def none {H : Type} : Left H := { results := [], args := [] }

/-- 'laws.FnExactSameAdjustments': WHATEVER THE INPUT: true; the input reads as it did. -/
def fnExactSameAdjustmentsSpec : ChangeSpec := { name := "fnExactSameAdjustments", fn := fun _ => fun
  | [d1, d2] => { results := [.lit (.bool true)], args := [d1, d2] }
  | _ => none }
def fnExactSameAdjustmentsRow : OpenClaim := { program := "ytdghdngpeidmnaa", sum := "b7d3cc7ce7cb52699b55d34de6fb779d10a492fb41e777ff99cc1d57fc188796", func := "loop.example/g00822/laws.FnExactSameAdjustments", spec := "fnExactSameAdjustments", apart := false }
def FnExactSameAdjustmentsSaid : Prop := fnExactSameAdjustmentsRow.holds Try.pinned (OpenSpec.ofChange fnExactSameAdjustmentsSpec)

/-- ITS FALSE NEIGHBOUR: 'it returns false'. Refute it at one input. -/
def fnExactSameAdjustmentsWrong : ChangeSpec := { name := "fnExactSameAdjustments", fn := fun _ => fun
  | [d1, d2] => { results := [.lit (.bool false)], args := [d1, d2] }
  | _ => none }
def FnExactSameAdjustmentsWrongFalsely : Prop := fnExactSameAdjustmentsRow.holds Try.pinned (OpenSpec.ofChange fnExactSameAdjustmentsWrong)

/-- 'laws.FnNearDirections': WHATEVER THE INPUT: true; the input reads as it did. -/
def fnNearDirectionsSpec : ChangeSpec := { name := "fnNearDirections", fn := fun _ => fun
  | [d] => { results := [.lit (.bool true)], args := [d] }
  | _ => none }
def fnNearDirectionsRow : OpenClaim := { program := "ytdghdngpeidmnaa", sum := "b7d3cc7ce7cb52699b55d34de6fb779d10a492fb41e777ff99cc1d57fc188796", func := "loop.example/g00822/laws.FnNearDirections", spec := "fnNearDirections", apart := false }
def FnNearDirectionsSaid : Prop := fnNearDirectionsRow.holds Try.pinned (OpenSpec.ofChange fnNearDirectionsSpec)

/-- ITS FALSE NEIGHBOUR: 'it returns false'. Refute it at one input. -/
def fnNearDirectionsWrong : ChangeSpec := { name := "fnNearDirections", fn := fun _ => fun
  | [d] => { results := [.lit (.bool false)], args := [d] }
  | _ => none }
def FnNearDirectionsWrongFalsely : Prop := fnNearDirectionsRow.holds Try.pinned (OpenSpec.ofChange fnNearDirectionsWrong)

/-- 'laws.FnExactAbsoluteOf': WHATEVER THE INPUT: true; the input reads as it did. -/
def fnExactAbsoluteOfSpec : ChangeSpec := { name := "fnExactAbsoluteOf", fn := fun _ => fun
  | [d] => { results := [.lit (.bool true)], args := [d] }
  | _ => none }
def fnExactAbsoluteOfRow : OpenClaim := { program := "ytdghdngpeidmnaa", sum := "b7d3cc7ce7cb52699b55d34de6fb779d10a492fb41e777ff99cc1d57fc188796", func := "loop.example/g00822/laws.FnExactAbsoluteOf", spec := "fnExactAbsoluteOf", apart := false }
def FnExactAbsoluteOfSaid : Prop := fnExactAbsoluteOfRow.holds Try.pinned (OpenSpec.ofChange fnExactAbsoluteOfSpec)

/-- ITS FALSE NEIGHBOUR: 'it returns false'. Refute it at one input. -/
def fnExactAbsoluteOfWrong : ChangeSpec := { name := "fnExactAbsoluteOf", fn := fun _ => fun
  | [d] => { results := [.lit (.bool false)], args := [d] }
  | _ => none }
def FnExactAbsoluteOfWrongFalsely : Prop := fnExactAbsoluteOfRow.holds Try.pinned (OpenSpec.ofChange fnExactAbsoluteOfWrong)

/-- 'laws.FnRoots': WHATEVER THE INPUT: true; the input reads as it did. -/
def fnRootsSpec : ChangeSpec := { name := "fnRoots", fn := fun _ => fun
  | [d] => { results := [.lit (.bool true)], args := [d] }
  | _ => none }
def fnRootsRow : OpenClaim := { program := "ytdghdngpeidmnaa", sum := "b7d3cc7ce7cb52699b55d34de6fb779d10a492fb41e777ff99cc1d57fc188796", func := "loop.example/g00822/laws.FnRoots", spec := "fnRoots", apart := false }
def FnRootsSaid : Prop := fnRootsRow.holds Try.pinned (OpenSpec.ofChange fnRootsSpec)

/-- ITS FALSE NEIGHBOUR: 'it returns false'. Refute it at one input. -/
def fnRootsWrong : ChangeSpec := { name := "fnRoots", fn := fun _ => fun
  | [d] => { results := [.lit (.bool false)], args := [d] }
  | _ => none }
def FnRootsWrongFalsely : Prop := fnRootsRow.holds Try.pinned (OpenSpec.ofChange fnRootsWrong)

/-- 'laws.FnTraces': WHATEVER THE INPUT: true; the input reads as it did. -/
def fnTracesSpec : ChangeSpec := { name := "fnTraces", fn := fun _ => fun
  | [d] => { results := [.lit (.bool true)], args := [d] }
  | _ => none }
def fnTracesRow : OpenClaim := { program := "ytdghdngpeidmnaa", sum := "b7d3cc7ce7cb52699b55d34de6fb779d10a492fb41e777ff99cc1d57fc188796", func := "loop.example/g00822/laws.FnTraces", spec := "fnTraces", apart := false }
def FnTracesSaid : Prop := fnTracesRow.holds Try.pinned (OpenSpec.ofChange fnTracesSpec)

/-- ITS FALSE NEIGHBOUR: 'it returns false'. Refute it at one input. -/
def fnTracesWrong : ChangeSpec := { name := "fnTraces", fn := fun _ => fun
  | [d] => { results := [.lit (.bool false)], args := [d] }
  | _ => none }
def FnTracesWrongFalsely : Prop := fnTracesRow.holds Try.pinned (OpenSpec.ofChange fnTracesWrong)

/-- 'laws.FnReduced': WHATEVER THE INPUT: true; the input reads as it did. -/
def fnReducedSpec : ChangeSpec := { name := "fnReduced", fn := fun _ => fun
  | [d] => { results := [.lit (.bool true)], args := [d] }
  | _ => none }
def fnReducedRow : OpenClaim := { program := "ytdghdngpeidmnaa", sum := "b7d3cc7ce7cb52699b55d34de6fb779d10a492fb41e777ff99cc1d57fc188796", func := "loop.example/g00822/laws.FnReduced", spec := "fnReduced", apart := false }
def FnReducedSaid : Prop := fnReducedRow.holds Try.pinned (OpenSpec.ofChange fnReducedSpec)

/-- ITS FALSE NEIGHBOUR: 'it returns false'. Refute it at one input. -/
def fnReducedWrong : ChangeSpec := { name := "fnReduced", fn := fun _ => fun
  | [d] => { results := [.lit (.bool false)], args := [d] }
  | _ => none }
def FnReducedWrongFalsely : Prop := fnReducedRow.holds Try.pinned (OpenSpec.ofChange fnReducedWrong)

/- THE SECOND FORM. 'bulk': how many values and letters a reading holds, each counted each time it is reached (what is shared counts as often as it is met; a slice's spare places count too). A statement '..UptoSaid' is the law's where the arguments, and the package variables that the reading takes, are together of bulk at most 1048576: NARROWER than '..Said'. Prove '..Said' where nothing that the law and all that it calls make is longer than what came in: it says more and counts as full. Else prove '..UptoSaid'. A law counts once. -/
mutual
def uptoBulk {H : Type} : DataW H → Nat
  | .lit (.string bytes) => bytes.length + 1
  | .lit _ => 1
  | .nil => 1
  | .ptr d => uptoBulk d + 1
  | .slice elems spare => uptoBulkAll elems + uptoBulkAll spare + 1
  | .agg parts => uptoBulkAll parts + 1
  | .iface _ d => uptoBulk d + 1
  | .map entries => uptoBulkEntries entries + 1
  | .held _ => 1
def uptoBulkAll {H : Type} : List (DataW H) → Nat
  | [] => 0
  | d :: r => uptoBulk d + uptoBulkAll r
def uptoBulkEntries {H : Type} : List (Lit × DataW H) → Nat
  | [] => 0
  | x :: r => uptoBulkEntry x + uptoBulkEntries r
def uptoBulkEntry {H : Type} : Lit × DataW H → Nat
  | (.string bytes, d) => bytes.length + uptoBulk d + 1
  | (_, d) => uptoBulk d + 1
 end
def uptoSmall : (H : Type) → List (DataW H) → Bool := fun _ ds => decide (uptoBulkAll ds ≤ 1048576)
def OpenSpec.upto (s : _root_.Go.ChangeSpec) : _root_.Go.OpenSpec := { _root_.Go.OpenSpec.ofChange s with cond := some uptoSmall }

/-- 'laws.FnExactSameAdjustments', WHERE WHAT IT READS IS OF BULK AT MOST 1048576: true; the input reads as it did. -/
def fnExactSameAdjustmentsUptoRow : OpenClaim := { program := "ytdghdngpeidmnaa", sum := "b7d3cc7ce7cb52699b55d34de6fb779d10a492fb41e777ff99cc1d57fc188796", func := "loop.example/g00822/laws.FnExactSameAdjustments", spec := "fnExactSameAdjustments", apart := false, narrowed := true }
def FnExactSameAdjustmentsUptoSaid : Prop := fnExactSameAdjustmentsUptoRow.holds Try.pinned (OpenSpec.upto fnExactSameAdjustmentsSpec)

/-- 'laws.FnNearDirections', WHERE WHAT IT READS IS OF BULK AT MOST 1048576: true; the input reads as it did. -/
def fnNearDirectionsUptoRow : OpenClaim := { program := "ytdghdngpeidmnaa", sum := "b7d3cc7ce7cb52699b55d34de6fb779d10a492fb41e777ff99cc1d57fc188796", func := "loop.example/g00822/laws.FnNearDirections", spec := "fnNearDirections", apart := false, narrowed := true }
def FnNearDirectionsUptoSaid : Prop := fnNearDirectionsUptoRow.holds Try.pinned (OpenSpec.upto fnNearDirectionsSpec)

/-- 'laws.FnExactAbsoluteOf', WHERE WHAT IT READS IS OF BULK AT MOST 1048576: true; the input reads as it did. -/
def fnExactAbsoluteOfUptoRow : OpenClaim := { program := "ytdghdngpeidmnaa", sum := "b7d3cc7ce7cb52699b55d34de6fb779d10a492fb41e777ff99cc1d57fc188796", func := "loop.example/g00822/laws.FnExactAbsoluteOf", spec := "fnExactAbsoluteOf", apart := false, narrowed := true }
def FnExactAbsoluteOfUptoSaid : Prop := fnExactAbsoluteOfUptoRow.holds Try.pinned (OpenSpec.upto fnExactAbsoluteOfSpec)

/-- 'laws.FnRoots', WHERE WHAT IT READS IS OF BULK AT MOST 1048576: true; the input reads as it did. -/
def fnRootsUptoRow : OpenClaim := { program := "ytdghdngpeidmnaa", sum := "b7d3cc7ce7cb52699b55d34de6fb779d10a492fb41e777ff99cc1d57fc188796", func := "loop.example/g00822/laws.FnRoots", spec := "fnRoots", apart := false, narrowed := true }
def FnRootsUptoSaid : Prop := fnRootsUptoRow.holds Try.pinned (OpenSpec.upto fnRootsSpec)

/-- 'laws.FnTraces', WHERE WHAT IT READS IS OF BULK AT MOST 1048576: true; the input reads as it did. -/
def fnTracesUptoRow : OpenClaim := { program := "ytdghdngpeidmnaa", sum := "b7d3cc7ce7cb52699b55d34de6fb779d10a492fb41e777ff99cc1d57fc188796", func := "loop.example/g00822/laws.FnTraces", spec := "fnTraces", apart := false, narrowed := true }
def FnTracesUptoSaid : Prop := fnTracesUptoRow.holds Try.pinned (OpenSpec.upto fnTracesSpec)

/-- 'laws.FnReduced', WHERE WHAT IT READS IS OF BULK AT MOST 1048576: true; the input reads as it did. -/
def fnReducedUptoRow : OpenClaim := { program := "ytdghdngpeidmnaa", sum := "b7d3cc7ce7cb52699b55d34de6fb779d10a492fb41e777ff99cc1d57fc188796", func := "loop.example/g00822/laws.FnReduced", spec := "fnReduced", apart := false, narrowed := true }
def FnReducedUptoSaid : Prop := fnReducedUptoRow.holds Try.pinned (OpenSpec.upto fnReducedSpec)

end Rows
end Go.Proofs.Ytdghdngpeidmnaa
