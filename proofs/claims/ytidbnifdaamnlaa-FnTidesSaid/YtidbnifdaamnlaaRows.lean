/-
  No cell of these rows narrows 'for every input' (looked for: loops, veiled, ifaces, maps, wideKeys, modest, calm, conditions, laid).
  DERIVED. THE GIVEN ROWS OF THIS SEAT. 12 by the template 'for every input the law returns true; each argument reads behind the call as it read before'; 0 by the template 'total and deterministic' (their statements: YtidbnifdaamnlaaTotals.lean).
  GIVEN WITH THE SEED: the statements are not yours to turn. If you find one false, say at which input.
  Laid BY PROGRAM, IN A SANDBOX (cutbox-rows.mjs): the forced cells as the released guide's own fill.sh prints them over the translation 0f406d88df068305… (all of the seat's roots in one cut). By AI agents, Wed Nov 11 2026. No macro, syntax, notation, axiom, sorry.
-/
import Derived.Test.YtidbnifdaamnlaaChecked
import GoSem.Claim
import GoSem.ClaimJoined
import GoSem.ClaimMapViews
import Derived.JoinedTies
import Derived.KernelRfl
namespace Go.Proofs.Ytidbnifdaamnlaa
/- THE CELL 'sum', in the pinned program and in every row, IS THE sha256 OF THE DUMP (.gsa) THAT YtidbnifdaamnlaaProg.lean LOADS. Nothing in Lean hashes anything: it is a label: what it is worth is what the hold of that sum in a sandbox is worth. -/
noncomputable def Try.pinned : Pinned := { name := "ytidbnifdaamnlaa", sum := "0f406d88df068305459a7b8135693cbd77b0dfa836c8a832fc30aa9d2bb6317c", checked := Try.checked }
namespace Rows
def none {H : Type} : Left H := { results := [], args := [] }

/-- 'laws.FnExactLeastTide': WHATEVER THE INPUT: true; the input reads as it did. -/
def fnExactLeastTideSpec : ChangeSpec := { name := "fnExactLeastTide", fn := fun _ => fun
  | [d1, d2, d3] => { results := [.lit (.bool true)], args := [d1, d2, d3] }
  | _ => none }
def fnExactLeastTideRow : OpenClaim := { program := "ytidbnifdaamnlaa", sum := "0f406d88df068305459a7b8135693cbd77b0dfa836c8a832fc30aa9d2bb6317c", func := "loop.example/g01031/laws.FnExactLeastTide", spec := "fnExactLeastTide", apart := false }
def FnExactLeastTideSaid : Prop := fnExactLeastTideRow.holds Try.pinned (OpenSpec.ofChange fnExactLeastTideSpec)

/-- ITS FALSE NEIGHBOUR: 'it returns false'. Refute it at one input. -/
def fnExactLeastTideWrong : ChangeSpec := { name := "fnExactLeastTide", fn := fun _ => fun
  | [d1, d2, d3] => { results := [.lit (.bool false)], args := [d1, d2, d3] }
  | _ => none }
def FnExactLeastTideWrongFalsely : Prop := fnExactLeastTideRow.holds Try.pinned (OpenSpec.ofChange fnExactLeastTideWrong)

/-- 'laws.FnExactIsHeightCurve': WHATEVER THE INPUT: true; the input reads as it did. -/
def fnExactIsHeightCurveSpec : ChangeSpec := { name := "fnExactIsHeightCurve", fn := fun _ => fun
  | [d] => { results := [.lit (.bool true)], args := [d] }
  | _ => none }
def fnExactIsHeightCurveRow : OpenClaim := { program := "ytidbnifdaamnlaa", sum := "0f406d88df068305459a7b8135693cbd77b0dfa836c8a832fc30aa9d2bb6317c", func := "loop.example/g01031/laws.FnExactIsHeightCurve", spec := "fnExactIsHeightCurve", apart := false }
def FnExactIsHeightCurveSaid : Prop := fnExactIsHeightCurveRow.holds Try.pinned (OpenSpec.ofChange fnExactIsHeightCurveSpec)

/-- ITS FALSE NEIGHBOUR: 'it returns false'. Refute it at one input. -/
def fnExactIsHeightCurveWrong : ChangeSpec := { name := "fnExactIsHeightCurve", fn := fun _ => fun
  | [d] => { results := [.lit (.bool false)], args := [d] }
  | _ => none }
def FnExactIsHeightCurveWrongFalsely : Prop := fnExactIsHeightCurveRow.holds Try.pinned (OpenSpec.ofChange fnExactIsHeightCurveWrong)

/-- 'laws.FnExactHighestTide': WHATEVER THE INPUT: true; the input reads as it did. -/
def fnExactHighestTideSpec : ChangeSpec := { name := "fnExactHighestTide", fn := fun _ => fun
  | [d] => { results := [.lit (.bool true)], args := [d] }
  | _ => none }
def fnExactHighestTideRow : OpenClaim := { program := "ytidbnifdaamnlaa", sum := "0f406d88df068305459a7b8135693cbd77b0dfa836c8a832fc30aa9d2bb6317c", func := "loop.example/g01031/laws.FnExactHighestTide", spec := "fnExactHighestTide", apart := false }
def FnExactHighestTideSaid : Prop := fnExactHighestTideRow.holds Try.pinned (OpenSpec.ofChange fnExactHighestTideSpec)

/-- ITS FALSE NEIGHBOUR: 'it returns false'. Refute it at one input. -/
def fnExactHighestTideWrong : ChangeSpec := { name := "fnExactHighestTide", fn := fun _ => fun
  | [d] => { results := [.lit (.bool false)], args := [d] }
  | _ => none }
def FnExactHighestTideWrongFalsely : Prop := fnExactHighestTideRow.holds Try.pinned (OpenSpec.ofChange fnExactHighestTideWrong)

/-- 'laws.FnExactTideAt': WHATEVER THE INPUT: true; the input reads as it did. -/
def fnExactTideAtSpec : ChangeSpec := { name := "fnExactTideAt", fn := fun _ => fun
  | [d1, d2] => { results := [.lit (.bool true)], args := [d1, d2] }
  | _ => none }
def fnExactTideAtRow : OpenClaim := { program := "ytidbnifdaamnlaa", sum := "0f406d88df068305459a7b8135693cbd77b0dfa836c8a832fc30aa9d2bb6317c", func := "loop.example/g01031/laws.FnExactTideAt", spec := "fnExactTideAt", apart := false }
def FnExactTideAtSaid : Prop := fnExactTideAtRow.holds Try.pinned (OpenSpec.ofChange fnExactTideAtSpec)

/-- ITS FALSE NEIGHBOUR: 'it returns false'. Refute it at one input. -/
def fnExactTideAtWrong : ChangeSpec := { name := "fnExactTideAt", fn := fun _ => fun
  | [d1, d2] => { results := [.lit (.bool false)], args := [d1, d2] }
  | _ => none }
def FnExactTideAtWrongFalsely : Prop := fnExactTideAtRow.holds Try.pinned (OpenSpec.ofChange fnExactTideAtWrong)

/-- 'laws.FnExactDeepestDraught': WHATEVER THE INPUT: true; the input reads as it did. -/
def fnExactDeepestDraughtSpec : ChangeSpec := { name := "fnExactDeepestDraught", fn := fun _ => fun
  | [d1, d2, d3, d4] => { results := [.lit (.bool true)], args := [d1, d2, d3, d4] }
  | _ => none }
def fnExactDeepestDraughtRow : OpenClaim := { program := "ytidbnifdaamnlaa", sum := "0f406d88df068305459a7b8135693cbd77b0dfa836c8a832fc30aa9d2bb6317c", func := "loop.example/g01031/laws.FnExactDeepestDraught", spec := "fnExactDeepestDraught", apart := false }
def FnExactDeepestDraughtSaid : Prop := fnExactDeepestDraughtRow.holds Try.pinned (OpenSpec.ofChange fnExactDeepestDraughtSpec)

/-- ITS FALSE NEIGHBOUR: 'it returns false'. Refute it at one input. -/
def fnExactDeepestDraughtWrong : ChangeSpec := { name := "fnExactDeepestDraught", fn := fun _ => fun
  | [d1, d2, d3, d4] => { results := [.lit (.bool false)], args := [d1, d2, d3, d4] }
  | _ => none }
def FnExactDeepestDraughtWrongFalsely : Prop := fnExactDeepestDraughtRow.holds Try.pinned (OpenSpec.ofChange fnExactDeepestDraughtWrong)

/-- 'laws.FnExactMeanTide': WHATEVER THE INPUT: true; the input reads as it did. -/
def fnExactMeanTideSpec : ChangeSpec := { name := "fnExactMeanTide", fn := fun _ => fun
  | [d] => { results := [.lit (.bool true)], args := [d] }
  | _ => none }
def fnExactMeanTideRow : OpenClaim := { program := "ytidbnifdaamnlaa", sum := "0f406d88df068305459a7b8135693cbd77b0dfa836c8a832fc30aa9d2bb6317c", func := "loop.example/g01031/laws.FnExactMeanTide", spec := "fnExactMeanTide", apart := false }
def FnExactMeanTideSaid : Prop := fnExactMeanTideRow.holds Try.pinned (OpenSpec.ofChange fnExactMeanTideSpec)

/-- ITS FALSE NEIGHBOUR: 'it returns false'. Refute it at one input. -/
def fnExactMeanTideWrong : ChangeSpec := { name := "fnExactMeanTide", fn := fun _ => fun
  | [d] => { results := [.lit (.bool false)], args := [d] }
  | _ => none }
def FnExactMeanTideWrongFalsely : Prop := fnExactMeanTideRow.holds Try.pinned (OpenSpec.ofChange fnExactMeanTideWrong)

/-- 'laws.FnExactCutCurve': WHATEVER THE INPUT: true; the input reads as it did. -/
def fnExactCutCurveSpec : ChangeSpec := { name := "fnExactCutCurve", fn := fun _ => fun
  | [d1, d2, d3] => { results := [.lit (.bool true)], args := [d1, d2, d3] }
  | _ => none }
def fnExactCutCurveRow : OpenClaim := { program := "ytidbnifdaamnlaa", sum := "0f406d88df068305459a7b8135693cbd77b0dfa836c8a832fc30aa9d2bb6317c", func := "loop.example/g01031/laws.FnExactCutCurve", spec := "fnExactCutCurve", apart := false }
def FnExactCutCurveSaid : Prop := fnExactCutCurveRow.holds Try.pinned (OpenSpec.ofChange fnExactCutCurveSpec)

/-- ITS FALSE NEIGHBOUR: 'it returns false'. Refute it at one input. -/
def fnExactCutCurveWrong : ChangeSpec := { name := "fnExactCutCurve", fn := fun _ => fun
  | [d1, d2, d3] => { results := [.lit (.bool false)], args := [d1, d2, d3] }
  | _ => none }
def FnExactCutCurveWrongFalsely : Prop := fnExactCutCurveRow.holds Try.pinned (OpenSpec.ofChange fnExactCutCurveWrong)

/-- 'laws.FnExactMinutesOpen': WHATEVER THE INPUT: true; the input reads as it did. -/
def fnExactMinutesOpenSpec : ChangeSpec := { name := "fnExactMinutesOpen", fn := fun _ => fun
  | [d1, d2] => { results := [.lit (.bool true)], args := [d1, d2] }
  | _ => none }
def fnExactMinutesOpenRow : OpenClaim := { program := "ytidbnifdaamnlaa", sum := "0f406d88df068305459a7b8135693cbd77b0dfa836c8a832fc30aa9d2bb6317c", func := "loop.example/g01031/laws.FnExactMinutesOpen", spec := "fnExactMinutesOpen", apart := false }
def FnExactMinutesOpenSaid : Prop := fnExactMinutesOpenRow.holds Try.pinned (OpenSpec.ofChange fnExactMinutesOpenSpec)

/-- ITS FALSE NEIGHBOUR: 'it returns false'. Refute it at one input. -/
def fnExactMinutesOpenWrong : ChangeSpec := { name := "fnExactMinutesOpen", fn := fun _ => fun
  | [d1, d2] => { results := [.lit (.bool false)], args := [d1, d2] }
  | _ => none }
def FnExactMinutesOpenWrongFalsely : Prop := fnExactMinutesOpenRow.holds Try.pinned (OpenSpec.ofChange fnExactMinutesOpenWrong)

/-- 'laws.FnExactFirstPassage': WHATEVER THE INPUT: true; the input reads as it did. -/
def fnExactFirstPassageSpec : ChangeSpec := { name := "fnExactFirstPassage", fn := fun _ => fun
  | [d1, d2, d3, d4] => { results := [.lit (.bool true)], args := [d1, d2, d3, d4] }
  | _ => none }
def fnExactFirstPassageRow : OpenClaim := { program := "ytidbnifdaamnlaa", sum := "0f406d88df068305459a7b8135693cbd77b0dfa836c8a832fc30aa9d2bb6317c", func := "loop.example/g01031/laws.FnExactFirstPassage", spec := "fnExactFirstPassage", apart := false }
def FnExactFirstPassageSaid : Prop := fnExactFirstPassageRow.holds Try.pinned (OpenSpec.ofChange fnExactFirstPassageSpec)

/-- ITS FALSE NEIGHBOUR: 'it returns false'. Refute it at one input. -/
def fnExactFirstPassageWrong : ChangeSpec := { name := "fnExactFirstPassage", fn := fun _ => fun
  | [d1, d2, d3, d4] => { results := [.lit (.bool false)], args := [d1, d2, d3, d4] }
  | _ => none }
def FnExactFirstPassageWrongFalsely : Prop := fnExactFirstPassageRow.holds Try.pinned (OpenSpec.ofChange fnExactFirstPassageWrong)

/-- 'laws.FnExactWindowsFor': WHATEVER THE INPUT: true; the input reads as it did. -/
def fnExactWindowsForSpec : ChangeSpec := { name := "fnExactWindowsFor", fn := fun _ => fun
  | [d1, d2] => { results := [.lit (.bool true)], args := [d1, d2] }
  | _ => none }
def fnExactWindowsForRow : OpenClaim := { program := "ytidbnifdaamnlaa", sum := "0f406d88df068305459a7b8135693cbd77b0dfa836c8a832fc30aa9d2bb6317c", func := "loop.example/g01031/laws.FnExactWindowsFor", spec := "fnExactWindowsFor", apart := false }
def FnExactWindowsForSaid : Prop := fnExactWindowsForRow.holds Try.pinned (OpenSpec.ofChange fnExactWindowsForSpec)

/-- ITS FALSE NEIGHBOUR: 'it returns false'. Refute it at one input. -/
def fnExactWindowsForWrong : ChangeSpec := { name := "fnExactWindowsFor", fn := fun _ => fun
  | [d1, d2] => { results := [.lit (.bool false)], args := [d1, d2] }
  | _ => none }
def FnExactWindowsForWrongFalsely : Prop := fnExactWindowsForRow.holds Try.pinned (OpenSpec.ofChange fnExactWindowsForWrong)

/-- 'laws.FnWindows': WHATEVER THE INPUT: true; the input reads as it did. -/
def fnWindowsSpec : ChangeSpec := { name := "fnWindows", fn := fun _ => fun
  | [d] => { results := [.lit (.bool true)], args := [d] }
  | _ => none }
def fnWindowsRow : OpenClaim := { program := "ytidbnifdaamnlaa", sum := "0f406d88df068305459a7b8135693cbd77b0dfa836c8a832fc30aa9d2bb6317c", func := "loop.example/g01031/laws.FnWindows", spec := "fnWindows", apart := false }
def FnWindowsSaid : Prop := fnWindowsRow.holds Try.pinned (OpenSpec.ofChange fnWindowsSpec)

/-- ITS FALSE NEIGHBOUR: 'it returns false'. Refute it at one input. -/
def fnWindowsWrong : ChangeSpec := { name := "fnWindows", fn := fun _ => fun
  | [d] => { results := [.lit (.bool false)], args := [d] }
  | _ => none }
def FnWindowsWrongFalsely : Prop := fnWindowsRow.holds Try.pinned (OpenSpec.ofChange fnWindowsWrong)

/-- 'laws.FnTides': WHATEVER THE INPUT: true; the input reads as it did. -/
def fnTidesSpec : ChangeSpec := { name := "fnTides", fn := fun _ => fun
  | [d] => { results := [.lit (.bool true)], args := [d] }
  | _ => none }
def fnTidesRow : OpenClaim := { program := "ytidbnifdaamnlaa", sum := "0f406d88df068305459a7b8135693cbd77b0dfa836c8a832fc30aa9d2bb6317c", func := "loop.example/g01031/laws.FnTides", spec := "fnTides", apart := false }
def FnTidesSaid : Prop := fnTidesRow.holds Try.pinned (OpenSpec.ofChange fnTidesSpec)

/-- ITS FALSE NEIGHBOUR: 'it returns false'. Refute it at one input. -/
def fnTidesWrong : ChangeSpec := { name := "fnTides", fn := fun _ => fun
  | [d] => { results := [.lit (.bool false)], args := [d] }
  | _ => none }
def FnTidesWrongFalsely : Prop := fnTidesRow.holds Try.pinned (OpenSpec.ofChange fnTidesWrong)

/- THE SECOND FORM. 'bulk': how many values and letters a reading holds, each counted each time it is reached (what is shared counts as often as it is met; a slice's spare places count too). A statement '..UptoSaid' is the law's where the arguments, and the package variables that the reading takes, are together of bulk at most 1048576: NARROWER than '..Said'. Prove '..Said' where nothing that the law and all that it calls make is longer than what came in: it says more and counts as full. Else prove '..UptoSaid'. A law counts once. -/
mutual
def uptoBulk {H : Type} : DataW H → Nat
  | .lit (.string bytes) => bytes.length + 1
  | .lit _ => 1
  | .nil => 1
  | .ptr d => uptoBulk d + 1
  | .slice elems spare => uptoBulkAll elems + uptoBulkAll spare + 1
  | .agg parts => uptoBulkAll parts + 1
  | .iface _ d => uptoBulk d + 1
  | .map entries => uptoBulkEntries entries + 1
  | .held _ => 1
def uptoBulkAll {H : Type} : List (DataW H) → Nat
  | [] => 0
  | d :: r => uptoBulk d + uptoBulkAll r
def uptoBulkEntries {H : Type} : List (Lit × DataW H) → Nat
  | [] => 0
  | x :: r => uptoBulkEntry x + uptoBulkEntries r
def uptoBulkEntry {H : Type} : Lit × DataW H → Nat
  | (.string bytes, d) => bytes.length + uptoBulk d + 1
  | (_, d) => uptoBulk d + 1
 end
def uptoSmall : (H : Type) → List (DataW H) → Bool := fun _ ds => decide (uptoBulkAll ds ≤ 1048576)
def OpenSpec.upto (s : _root_.Go.ChangeSpec) : _root_.Go.OpenSpec := { _root_.Go.OpenSpec.ofChange s with cond := some uptoSmall }

/-- 'laws.FnExactLeastTide', WHERE WHAT IT READS IS OF BULK AT MOST 1048576: true; the input reads as it did. -/
def fnExactLeastTideUptoRow : OpenClaim := { program := "ytidbnifdaamnlaa", sum := "0f406d88df068305459a7b8135693cbd77b0dfa836c8a832fc30aa9d2bb6317c", func := "loop.example/g01031/laws.FnExactLeastTide", spec := "fnExactLeastTide", apart := false, narrowed := true }
def FnExactLeastTideUptoSaid : Prop := fnExactLeastTideUptoRow.holds Try.pinned (OpenSpec.upto fnExactLeastTideSpec)

/-- 'laws.FnExactIsHeightCurve', WHERE WHAT IT READS IS OF BULK AT MOST 1048576: true; the input reads as it did. -/
def fnExactIsHeightCurveUptoRow : OpenClaim := { program := "ytidbnifdaamnlaa", sum := "0f406d88df068305459a7b8135693cbd77b0dfa836c8a832fc30aa9d2bb6317c", func := "loop.example/g01031/laws.FnExactIsHeightCurve", spec := "fnExactIsHeightCurve", apart := false, narrowed := true }
def FnExactIsHeightCurveUptoSaid : Prop := fnExactIsHeightCurveUptoRow.holds Try.pinned (OpenSpec.upto fnExactIsHeightCurveSpec)

/-- 'laws.FnExactHighestTide', WHERE WHAT IT READS IS OF BULK AT MOST 1048576: true; the input reads as it did. -/
def fnExactHighestTideUptoRow : OpenClaim := { program := "ytidbnifdaamnlaa", sum := "0f406d88df068305459a7b8135693cbd77b0dfa836c8a832fc30aa9d2bb6317c", func := "loop.example/g01031/laws.FnExactHighestTide", spec := "fnExactHighestTide", apart := false, narrowed := true }
def FnExactHighestTideUptoSaid : Prop := fnExactHighestTideUptoRow.holds Try.pinned (OpenSpec.upto fnExactHighestTideSpec)

/-- 'laws.FnExactTideAt', WHERE WHAT IT READS IS OF BULK AT MOST 1048576: true; the input reads as it did. -/
def fnExactTideAtUptoRow : OpenClaim := { program := "ytidbnifdaamnlaa", sum := "0f406d88df068305459a7b8135693cbd77b0dfa836c8a832fc30aa9d2bb6317c", func := "loop.example/g01031/laws.FnExactTideAt", spec := "fnExactTideAt", apart := false, narrowed := true }
def FnExactTideAtUptoSaid : Prop := fnExactTideAtUptoRow.holds Try.pinned (OpenSpec.upto fnExactTideAtSpec)

/-- 'laws.FnExactDeepestDraught', WHERE WHAT IT READS IS OF BULK AT MOST 1048576: true; the input reads as it did. -/
def fnExactDeepestDraughtUptoRow : OpenClaim := { program := "ytidbnifdaamnlaa", sum := "0f406d88df068305459a7b8135693cbd77b0dfa836c8a832fc30aa9d2bb6317c", func := "loop.example/g01031/laws.FnExactDeepestDraught", spec := "fnExactDeepestDraught", apart := false, narrowed := true }
def FnExactDeepestDraughtUptoSaid : Prop := fnExactDeepestDraughtUptoRow.holds Try.pinned (OpenSpec.upto fnExactDeepestDraughtSpec)

/-- 'laws.FnExactMeanTide', WHERE WHAT IT READS IS OF BULK AT MOST 1048576: true; the input reads as it did. -/
def fnExactMeanTideUptoRow : OpenClaim := { program := "ytidbnifdaamnlaa", sum := "0f406d88df068305459a7b8135693cbd77b0dfa836c8a832fc30aa9d2bb6317c", func := "loop.example/g01031/laws.FnExactMeanTide", spec := "fnExactMeanTide", apart := false, narrowed := true }
def FnExactMeanTideUptoSaid : Prop := fnExactMeanTideUptoRow.holds Try.pinned (OpenSpec.upto fnExactMeanTideSpec)

/-- 'laws.FnExactCutCurve', WHERE WHAT IT READS IS OF BULK AT MOST 1048576: true; the input reads as it did. -/
def fnExactCutCurveUptoRow : OpenClaim := { program := "ytidbnifdaamnlaa", sum := "0f406d88df068305459a7b8135693cbd77b0dfa836c8a832fc30aa9d2bb6317c", func := "loop.example/g01031/laws.FnExactCutCurve", spec := "fnExactCutCurve", apart := false, narrowed := true }
def FnExactCutCurveUptoSaid : Prop := fnExactCutCurveUptoRow.holds Try.pinned (OpenSpec.upto fnExactCutCurveSpec)

/-- 'laws.FnExactMinutesOpen', WHERE WHAT IT READS IS OF BULK AT MOST 1048576: true; the input reads as it did. -/
def fnExactMinutesOpenUptoRow : OpenClaim := { program := "ytidbnifdaamnlaa", sum := "0f406d88df068305459a7b8135693cbd77b0dfa836c8a832fc30aa9d2bb6317c", func := "loop.example/g01031/laws.FnExactMinutesOpen", spec := "fnExactMinutesOpen", apart := false, narrowed := true }
def FnExactMinutesOpenUptoSaid : Prop := fnExactMinutesOpenUptoRow.holds Try.pinned (OpenSpec.upto fnExactMinutesOpenSpec)

/-- 'laws.FnExactFirstPassage', WHERE WHAT IT READS IS OF BULK AT MOST 1048576: true; the input reads as it did. -/
def fnExactFirstPassageUptoRow : OpenClaim := { program := "ytidbnifdaamnlaa", sum := "0f406d88df068305459a7b8135693cbd77b0dfa836c8a832fc30aa9d2bb6317c", func := "loop.example/g01031/laws.FnExactFirstPassage", spec := "fnExactFirstPassage", apart := false, narrowed := true }
def FnExactFirstPassageUptoSaid : Prop := fnExactFirstPassageUptoRow.holds Try.pinned (OpenSpec.upto fnExactFirstPassageSpec)

/-- 'laws.FnExactWindowsFor', WHERE WHAT IT READS IS OF BULK AT MOST 1048576: true; the input reads as it did. -/
def fnExactWindowsForUptoRow : OpenClaim := { program := "ytidbnifdaamnlaa", sum := "0f406d88df068305459a7b8135693cbd77b0dfa836c8a832fc30aa9d2bb6317c", func := "loop.example/g01031/laws.FnExactWindowsFor", spec := "fnExactWindowsFor", apart := false, narrowed := true }
def FnExactWindowsForUptoSaid : Prop := fnExactWindowsForUptoRow.holds Try.pinned (OpenSpec.upto fnExactWindowsForSpec)

/-- 'laws.FnWindows', WHERE WHAT IT READS IS OF BULK AT MOST 1048576: true; the input reads as it did. -/
def fnWindowsUptoRow : OpenClaim := { program := "ytidbnifdaamnlaa", sum := "0f406d88df068305459a7b8135693cbd77b0dfa836c8a832fc30aa9d2bb6317c", func := "loop.example/g01031/laws.FnWindows", spec := "fnWindows", apart := false, narrowed := true }
def FnWindowsUptoSaid : Prop := fnWindowsUptoRow.holds Try.pinned (OpenSpec.upto fnWindowsSpec)

/-- 'laws.FnTides', WHERE WHAT IT READS IS OF BULK AT MOST 1048576: true; the input reads as it did. -/
def fnTidesUptoRow : OpenClaim := { program := "ytidbnifdaamnlaa", sum := "0f406d88df068305459a7b8135693cbd77b0dfa836c8a832fc30aa9d2bb6317c", func := "loop.example/g01031/laws.FnTides", spec := "fnTides", apart := false, narrowed := true }
def FnTidesUptoSaid : Prop := fnTidesUptoRow.holds Try.pinned (OpenSpec.upto fnTidesSpec)

end Rows
end Go.Proofs.Ytidbnifdaamnlaa
