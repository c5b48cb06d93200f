/-
  No cell of these rows narrows 'for every input' (looked for: loops, veiled, ifaces, maps, wideKeys, modest, calm, conditions, laid).
  DERIVED. THE GIVEN ROWS OF THIS SEAT. 7 by the template 'for every input the law returns true; each argument reads behind the call as it read before'; 0 by the template 'total and deterministic' (their statements: YtloglnnemjofgaaTotals.lean).
  GIVEN WITH THE SEED: the statements are not yours to turn. If you find one false, say at which input.
  Laid BY PROGRAM, IN A SANDBOX (cutbox-rows.mjs): the forced cells as the released guide's own fill.sh prints them over the translation 2fda64325a215f57… (all of the seat's roots in one cut). By AI agents, Wed Nov 11 2026. No macro, syntax, notation, axiom, sorry.
-/
import Derived.Test.YtloglnnemjofgaaChecked
import GoSem.Claim
import GoSem.ClaimJoined
import GoSem.ClaimMapViews
import Derived.JoinedTies
import Derived.KernelRfl
namespace Go.Proofs.Ytloglnnemjofgaa
/- THE CELL 'sum', in the pinned program and in every row, IS THE sha256 OF THE DUMP (.gsa) THAT YtloglnnemjofgaaProg.lean LOADS. Nothing in Lean hashes anything: it is a label: what it is worth is what the hold of that sum in a sandbox is worth. -/
noncomputable def Try.pinned : Pinned := { name := "ytloglnnemjofgaa", sum := "2fda64325a215f572a1cbdfd33d7ed8f8f952e6b68ce9bccc8761a9731c81d2f", checked := Try.checked }
namespace Rows
def none {H : Type} : Left H := { results := [], args := [] }

/-- 'laws.FnExactSafeSide': WHATEVER THE INPUT: true; the input reads as it did. -/
def fnExactSafeSideSpec : ChangeSpec := { name := "fnExactSafeSide", fn := fun _ => fun
  | [d] => { results := [.lit (.bool true)], args := [d] }
  | _ => none }
def fnExactSafeSideRow : OpenClaim := { program := "ytloglnnemjofgaa", sum := "2fda64325a215f572a1cbdfd33d7ed8f8f952e6b68ce9bccc8761a9731c81d2f", func := "loop.example/g01031/laws.FnExactSafeSide", spec := "fnExactSafeSide", unfollowed := true, recurses := true, apart := false }
def FnExactSafeSideSaid : Prop := fnExactSafeSideRow.holds Try.pinned (OpenSpec.ofChange fnExactSafeSideSpec)

/-- ITS FALSE NEIGHBOUR: 'it returns false'. Refute it at one input. -/
def fnExactSafeSideWrong : ChangeSpec := { name := "fnExactSafeSide", fn := fun _ => fun
  | [d] => { results := [.lit (.bool false)], args := [d] }
  | _ => none }
def FnExactSafeSideWrongFalsely : Prop := fnExactSafeSideRow.holds Try.pinned (OpenSpec.ofChange fnExactSafeSideWrong)

/-- 'laws.FnExactIsPassable': WHATEVER THE INPUT: true; the input reads as it did. -/
def fnExactIsPassableSpec : ChangeSpec := { name := "fnExactIsPassable", fn := fun _ => fun
  | [d1, d2, d3, d4, d5, d6] => { results := [.lit (.bool true)], args := [d1, d2, d3, d4, d5, d6] }
  | _ => none }
def fnExactIsPassableRow : OpenClaim := { program := "ytloglnnemjofgaa", sum := "2fda64325a215f572a1cbdfd33d7ed8f8f952e6b68ce9bccc8761a9731c81d2f", func := "loop.example/g01031/laws.FnExactIsPassable", spec := "fnExactIsPassable", unfollowed := true, recurses := true, apart := false }
def FnExactIsPassableSaid : Prop := fnExactIsPassableRow.holds Try.pinned (OpenSpec.ofChange fnExactIsPassableSpec)

/-- ITS FALSE NEIGHBOUR: 'it returns false'. Refute it at one input. -/
def fnExactIsPassableWrong : ChangeSpec := { name := "fnExactIsPassable", fn := fun _ => fun
  | [d1, d2, d3, d4, d5, d6] => { results := [.lit (.bool false)], args := [d1, d2, d3, d4, d5, d6] }
  | _ => none }
def FnExactIsPassableWrongFalsely : Prop := fnExactIsPassableRow.holds Try.pinned (OpenSpec.ofChange fnExactIsPassableWrong)

/-- 'laws.FnExactLevelsOf': WHATEVER THE INPUT: true; the input reads as it did. -/
def fnExactLevelsOfSpec : ChangeSpec := { name := "fnExactLevelsOf", fn := fun _ => fun
  | [d1, d2] => { results := [.lit (.bool true)], args := [d1, d2] }
  | _ => none }
def fnExactLevelsOfRow : OpenClaim := { program := "ytloglnnemjofgaa", sum := "2fda64325a215f572a1cbdfd33d7ed8f8f952e6b68ce9bccc8761a9731c81d2f", func := "loop.example/g01031/laws.FnExactLevelsOf", spec := "fnExactLevelsOf", unfollowed := true, recurses := true, apart := false }
def FnExactLevelsOfSaid : Prop := fnExactLevelsOfRow.holds Try.pinned (OpenSpec.ofChange fnExactLevelsOfSpec)

/-- ITS FALSE NEIGHBOUR: 'it returns false'. Refute it at one input. -/
def fnExactLevelsOfWrong : ChangeSpec := { name := "fnExactLevelsOf", fn := fun _ => fun
  | [d1, d2] => { results := [.lit (.bool false)], args := [d1, d2] }
  | _ => none }
def FnExactLevelsOfWrongFalsely : Prop := fnExactLevelsOfRow.holds Try.pinned (OpenSpec.ofChange fnExactLevelsOfWrong)

/-- 'laws.FnExactDeepestWay': WHATEVER THE INPUT: true; the input reads as it did. -/
def fnExactDeepestWaySpec : ChangeSpec := { name := "fnExactDeepestWay", fn := fun _ => fun
  | [d1, d2, d3, d4, d5] => { results := [.lit (.bool true)], args := [d1, d2, d3, d4, d5] }
  | _ => none }
def fnExactDeepestWayRow : OpenClaim := { program := "ytloglnnemjofgaa", sum := "2fda64325a215f572a1cbdfd33d7ed8f8f952e6b68ce9bccc8761a9731c81d2f", func := "loop.example/g01031/laws.FnExactDeepestWay", spec := "fnExactDeepestWay", unfollowed := true, recurses := true, apart := false }
def FnExactDeepestWaySaid : Prop := fnExactDeepestWayRow.holds Try.pinned (OpenSpec.ofChange fnExactDeepestWaySpec)

/-- ITS FALSE NEIGHBOUR: 'it returns false'. Refute it at one input. -/
def fnExactDeepestWayWrong : ChangeSpec := { name := "fnExactDeepestWay", fn := fun _ => fun
  | [d1, d2, d3, d4, d5] => { results := [.lit (.bool false)], args := [d1, d2, d3, d4, d5] }
  | _ => none }
def FnExactDeepestWayWrongFalsely : Prop := fnExactDeepestWayRow.holds Try.pinned (OpenSpec.ofChange fnExactDeepestWayWrong)

/-- 'laws.FnExactShoalAreas': WHATEVER THE INPUT: true; the input reads as it did. -/
def fnExactShoalAreasSpec : ChangeSpec := { name := "fnExactShoalAreas", fn := fun _ => fun
  | [d1, d2] => { results := [.lit (.bool true)], args := [d1, d2] }
  | _ => none }
def fnExactShoalAreasRow : OpenClaim := { program := "ytloglnnemjofgaa", sum := "2fda64325a215f572a1cbdfd33d7ed8f8f952e6b68ce9bccc8761a9731c81d2f", func := "loop.example/g01031/laws.FnExactShoalAreas", spec := "fnExactShoalAreas", unfollowed := true, recurses := true, apart := false }
def FnExactShoalAreasSaid : Prop := fnExactShoalAreasRow.holds Try.pinned (OpenSpec.ofChange fnExactShoalAreasSpec)

/-- ITS FALSE NEIGHBOUR: 'it returns false'. Refute it at one input. -/
def fnExactShoalAreasWrong : ChangeSpec := { name := "fnExactShoalAreas", fn := fun _ => fun
  | [d1, d2] => { results := [.lit (.bool false)], args := [d1, d2] }
  | _ => none }
def FnExactShoalAreasWrongFalsely : Prop := fnExactShoalAreasRow.holds Try.pinned (OpenSpec.ofChange fnExactShoalAreasWrong)

/-- 'laws.FnContours': WHATEVER THE INPUT: true; the input reads as it did. -/
def fnContoursSpec : ChangeSpec := { name := "fnContours", fn := fun _ => fun
  | [d] => { results := [.lit (.bool true)], args := [d] }
  | _ => none }
def fnContoursRow : OpenClaim := { program := "ytloglnnemjofgaa", sum := "2fda64325a215f572a1cbdfd33d7ed8f8f952e6b68ce9bccc8761a9731c81d2f", func := "loop.example/g01031/laws.FnContours", spec := "fnContours", unfollowed := true, recurses := true, apart := false }
def FnContoursSaid : Prop := fnContoursRow.holds Try.pinned (OpenSpec.ofChange fnContoursSpec)

/-- ITS FALSE NEIGHBOUR: 'it returns false'. Refute it at one input. -/
def fnContoursWrong : ChangeSpec := { name := "fnContours", fn := fun _ => fun
  | [d] => { results := [.lit (.bool false)], args := [d] }
  | _ => none }
def FnContoursWrongFalsely : Prop := fnContoursRow.holds Try.pinned (OpenSpec.ofChange fnContoursWrong)

/-- 'laws.FnFields': WHATEVER THE INPUT: true; the input reads as it did. -/
def fnFieldsSpec : ChangeSpec := { name := "fnFields", fn := fun _ => fun
  | [d] => { results := [.lit (.bool true)], args := [d] }
  | _ => none }
def fnFieldsRow : OpenClaim := { program := "ytloglnnemjofgaa", sum := "2fda64325a215f572a1cbdfd33d7ed8f8f952e6b68ce9bccc8761a9731c81d2f", func := "loop.example/g01031/laws.FnFields", spec := "fnFields", unfollowed := true, recurses := true, apart := false }
def FnFieldsSaid : Prop := fnFieldsRow.holds Try.pinned (OpenSpec.ofChange fnFieldsSpec)

/-- ITS FALSE NEIGHBOUR: 'it returns false'. Refute it at one input. -/
def fnFieldsWrong : ChangeSpec := { name := "fnFields", fn := fun _ => fun
  | [d] => { results := [.lit (.bool false)], args := [d] }
  | _ => none }
def FnFieldsWrongFalsely : Prop := fnFieldsRow.holds Try.pinned (OpenSpec.ofChange fnFieldsWrong)

/- THE SECOND FORM. 'bulk': how many values and letters a reading holds, each counted each time it is reached (what is shared counts as often as it is met; a slice's spare places count too). A statement '..UptoSaid' is the law's where the arguments, and the package variables that the reading takes, are together of bulk at most 1048576: NARROWER than '..Said'. Prove '..Said' where nothing that the law and all that it calls make is longer than what came in: it says more and counts as full. Else prove '..UptoSaid'. A law counts once. -/
mutual
def uptoBulk {H : Type} : DataW H → Nat
  | .lit (.string bytes) => bytes.length + 1
  | .lit _ => 1
  | .nil => 1
  | .ptr d => uptoBulk d + 1
  | .slice elems spare => uptoBulkAll elems + uptoBulkAll spare + 1
  | .agg parts => uptoBulkAll parts + 1
  | .iface _ d => uptoBulk d + 1
  | .map entries => uptoBulkEntries entries + 1
  | .held _ => 1
def uptoBulkAll {H : Type} : List (DataW H) → Nat
  | [] => 0
  | d :: r => uptoBulk d + uptoBulkAll r
def uptoBulkEntries {H : Type} : List (Lit × DataW H) → Nat
  | [] => 0
  | x :: r => uptoBulkEntry x + uptoBulkEntries r
def uptoBulkEntry {H : Type} : Lit × DataW H → Nat
  | (.string bytes, d) => bytes.length + uptoBulk d + 1
  | (_, d) => uptoBulk d + 1
 end
def uptoSmall : (H : Type) → List (DataW H) → Bool := fun _ ds => decide (uptoBulkAll ds ≤ 1048576)
def OpenSpec.upto (s : _root_.Go.ChangeSpec) : _root_.Go.OpenSpec := { _root_.Go.OpenSpec.ofChange s with cond := some uptoSmall }

/-- 'laws.FnExactSafeSide', WHERE WHAT IT READS IS OF BULK AT MOST 1048576: true; the input reads as it did. -/
def fnExactSafeSideUptoRow : OpenClaim := { program := "ytloglnnemjofgaa", sum := "2fda64325a215f572a1cbdfd33d7ed8f8f952e6b68ce9bccc8761a9731c81d2f", func := "loop.example/g01031/laws.FnExactSafeSide", spec := "fnExactSafeSide", unfollowed := true, recurses := true, apart := false, narrowed := true }
def FnExactSafeSideUptoSaid : Prop := fnExactSafeSideUptoRow.holds Try.pinned (OpenSpec.upto fnExactSafeSideSpec)

/-- 'laws.FnExactIsPassable', WHERE WHAT IT READS IS OF BULK AT MOST 1048576: true; the input reads as it did. -/
def fnExactIsPassableUptoRow : OpenClaim := { program := "ytloglnnemjofgaa", sum := "2fda64325a215f572a1cbdfd33d7ed8f8f952e6b68ce9bccc8761a9731c81d2f", func := "loop.example/g01031/laws.FnExactIsPassable", spec := "fnExactIsPassable", unfollowed := true, recurses := true, apart := false, narrowed := true }
def FnExactIsPassableUptoSaid : Prop := fnExactIsPassableUptoRow.holds Try.pinned (OpenSpec.upto fnExactIsPassableSpec)

/-- 'laws.FnExactLevelsOf', WHERE WHAT IT READS IS OF BULK AT MOST 1048576: true; the input reads as it did. -/
def fnExactLevelsOfUptoRow : OpenClaim := { program := "ytloglnnemjofgaa", sum := "2fda64325a215f572a1cbdfd33d7ed8f8f952e6b68ce9bccc8761a9731c81d2f", func := "loop.example/g01031/laws.FnExactLevelsOf", spec := "fnExactLevelsOf", unfollowed := true, recurses := true, apart := false, narrowed := true }
def FnExactLevelsOfUptoSaid : Prop := fnExactLevelsOfUptoRow.holds Try.pinned (OpenSpec.upto fnExactLevelsOfSpec)

/-- 'laws.FnExactDeepestWay', WHERE WHAT IT READS IS OF BULK AT MOST 1048576: true; the input reads as it did. -/
def fnExactDeepestWayUptoRow : OpenClaim := { program := "ytloglnnemjofgaa", sum := "2fda64325a215f572a1cbdfd33d7ed8f8f952e6b68ce9bccc8761a9731c81d2f", func := "loop.example/g01031/laws.FnExactDeepestWay", spec := "fnExactDeepestWay", unfollowed := true, recurses := true, apart := false, narrowed := true }
def FnExactDeepestWayUptoSaid : Prop := fnExactDeepestWayUptoRow.holds Try.pinned (OpenSpec.upto fnExactDeepestWaySpec)

/-- 'laws.FnExactShoalAreas', WHERE WHAT IT READS IS OF BULK AT MOST 1048576: true; the input reads as it did. -/
def fnExactShoalAreasUptoRow : OpenClaim := { program := "ytloglnnemjofgaa", sum := "2fda64325a215f572a1cbdfd33d7ed8f8f952e6b68ce9bccc8761a9731c81d2f", func := "loop.example/g01031/laws.FnExactShoalAreas", spec := "fnExactShoalAreas", unfollowed := true, recurses := true, apart := false, narrowed := true }
def FnExactShoalAreasUptoSaid : Prop := fnExactShoalAreasUptoRow.holds Try.pinned (OpenSpec.upto fnExactShoalAreasSpec)

/-- 'laws.FnContours', WHERE WHAT IT READS IS OF BULK AT MOST 1048576: true; the input reads as it did. -/
def fnContoursUptoRow : OpenClaim := { program := "ytloglnnemjofgaa", sum := "2fda64325a215f572a1cbdfd33d7ed8f8f952e6b68ce9bccc8761a9731c81d2f", func := "loop.example/g01031/laws.FnContours", spec := "fnContours", unfollowed := true, recurses := true, apart := false, narrowed := true }
def FnContoursUptoSaid : Prop := fnContoursUptoRow.holds Try.pinned (OpenSpec.upto fnContoursSpec)

/-- 'laws.FnFields', WHERE WHAT IT READS IS OF BULK AT MOST 1048576: true; the input reads as it did. -/
def fnFieldsUptoRow : OpenClaim := { program := "ytloglnnemjofgaa", sum := "2fda64325a215f572a1cbdfd33d7ed8f8f952e6b68ce9bccc8761a9731c81d2f", func := "loop.example/g01031/laws.FnFields", spec := "fnFields", unfollowed := true, recurses := true, apart := false, narrowed := true }
def FnFieldsUptoSaid : Prop := fnFieldsUptoRow.holds Try.pinned (OpenSpec.upto fnFieldsSpec)

end Rows
end Go.Proofs.Ytloglnnemjofgaa
