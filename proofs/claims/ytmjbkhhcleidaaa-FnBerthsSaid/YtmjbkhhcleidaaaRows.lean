/-
  No cell of these rows narrows 'for every input' (looked for: loops, veiled, ifaces, maps, wideKeys, modest, calm, conditions, laid).
  DERIVED. THE GIVEN ROWS OF THIS SEAT. 12 by the template 'for every input the law returns true; each argument reads behind the call as it read before'; 0 by the template 'total and deterministic' (their statements: YtmjbkhhcleidaaaTotals.lean).
  GIVEN WITH THE SEED: the statements are not yours to turn. If you find one false, say at which input.
  Laid BY PROGRAM, IN A SANDBOX (cutbox-rows.mjs): the forced cells as the released guide's own fill.sh prints them over the translation ed2876e96f907ec1… (all of the seat's roots in one cut). By AI agents, Wed Nov 11 2026. No macro, syntax, notation, axiom, sorry.
-/
import Derived.Test.YtmjbkhhcleidaaaChecked
import GoSem.Claim
import GoSem.ClaimJoined
import GoSem.ClaimMapViews
import Derived.JoinedTies
import Derived.KernelRfl
namespace Go.Proofs.Ytmjbkhhcleidaaa
/- THE CELL 'sum', in the pinned program and in every row, IS THE sha256 OF THE DUMP (.gsa) THAT YtmjbkhhcleidaaaProg.lean LOADS. Nothing in Lean hashes anything: it is a label: what it is worth is what the hold of that sum in a sandbox is worth. -/
noncomputable def Try.pinned : Pinned := { name := "ytmjbkhhcleidaaa", sum := "ed2876e96f907ec1c7b54907868b30ff61700d66a8cfb4a9dd0b6e7239280ff1", checked := Try.checked }
namespace Rows
def none {H : Type} : Left H := { results := [], args := [] }

/-- 'laws.FnExactAreQuays': WHATEVER THE INPUT: true; the input reads as it did. -/
def fnExactAreQuaysSpec : ChangeSpec := { name := "fnExactAreQuays", fn := fun _ => fun
  | [d] => { results := [.lit (.bool true)], args := [d] }
  | _ => none }
def fnExactAreQuaysRow : OpenClaim := { program := "ytmjbkhhcleidaaa", sum := "ed2876e96f907ec1c7b54907868b30ff61700d66a8cfb4a9dd0b6e7239280ff1", func := "loop.example/g01031/laws.FnExactAreQuays", spec := "fnExactAreQuays", apart := false }
def FnExactAreQuaysSaid : Prop := fnExactAreQuaysRow.holds Try.pinned (OpenSpec.ofChange fnExactAreQuaysSpec)

/-- ITS FALSE NEIGHBOUR: 'it returns false'. Refute it at one input. -/
def fnExactAreQuaysWrong : ChangeSpec := { name := "fnExactAreQuays", fn := fun _ => fun
  | [d] => { results := [.lit (.bool false)], args := [d] }
  | _ => none }
def FnExactAreQuaysWrongFalsely : Prop := fnExactAreQuaysRow.holds Try.pinned (OpenSpec.ofChange fnExactAreQuaysWrong)

/-- 'laws.FnExactDeepestShip': WHATEVER THE INPUT: true; the input reads as it did. -/
def fnExactDeepestShipSpec : ChangeSpec := { name := "fnExactDeepestShip", fn := fun _ => fun
  | [d1, d2] => { results := [.lit (.bool true)], args := [d1, d2] }
  | _ => none }
def fnExactDeepestShipRow : OpenClaim := { program := "ytmjbkhhcleidaaa", sum := "ed2876e96f907ec1c7b54907868b30ff61700d66a8cfb4a9dd0b6e7239280ff1", func := "loop.example/g01031/laws.FnExactDeepestShip", spec := "fnExactDeepestShip", unfollowed := true, recurses := true, apart := false }
def FnExactDeepestShipSaid : Prop := fnExactDeepestShipRow.holds Try.pinned (OpenSpec.ofChange fnExactDeepestShipSpec)

/-- ITS FALSE NEIGHBOUR: 'it returns false'. Refute it at one input. -/
def fnExactDeepestShipWrong : ChangeSpec := { name := "fnExactDeepestShip", fn := fun _ => fun
  | [d1, d2] => { results := [.lit (.bool false)], args := [d1, d2] }
  | _ => none }
def FnExactDeepestShipWrongFalsely : Prop := fnExactDeepestShipRow.holds Try.pinned (OpenSpec.ofChange fnExactDeepestShipWrong)

/-- 'laws.FnExactDoClash': WHATEVER THE INPUT: true; the input reads as it did. -/
def fnExactDoClashSpec : ChangeSpec := { name := "fnExactDoClash", fn := fun _ => fun
  | [d1, d2, d3] => { results := [.lit (.bool true)], args := [d1, d2, d3] }
  | _ => none }
def fnExactDoClashRow : OpenClaim := { program := "ytmjbkhhcleidaaa", sum := "ed2876e96f907ec1c7b54907868b30ff61700d66a8cfb4a9dd0b6e7239280ff1", func := "loop.example/g01031/laws.FnExactDoClash", spec := "fnExactDoClash", unfollowed := true, recurses := true, apart := false }
def FnExactDoClashSaid : Prop := fnExactDoClashRow.holds Try.pinned (OpenSpec.ofChange fnExactDoClashSpec)

/-- ITS FALSE NEIGHBOUR: 'it returns false'. Refute it at one input. -/
def fnExactDoClashWrong : ChangeSpec := { name := "fnExactDoClash", fn := fun _ => fun
  | [d1, d2, d3] => { results := [.lit (.bool false)], args := [d1, d2, d3] }
  | _ => none }
def FnExactDoClashWrongFalsely : Prop := fnExactDoClashRow.holds Try.pinned (OpenSpec.ofChange fnExactDoClashWrong)

/-- 'laws.FnExactAreStays': WHATEVER THE INPUT: true; the input reads as it did. -/
def fnExactAreStaysSpec : ChangeSpec := { name := "fnExactAreStays", fn := fun _ => fun
  | [d1, d2] => { results := [.lit (.bool true)], args := [d1, d2] }
  | _ => none }
def fnExactAreStaysRow : OpenClaim := { program := "ytmjbkhhcleidaaa", sum := "ed2876e96f907ec1c7b54907868b30ff61700d66a8cfb4a9dd0b6e7239280ff1", func := "loop.example/g01031/laws.FnExactAreStays", spec := "fnExactAreStays", unfollowed := true, recurses := true, apart := false }
def FnExactAreStaysSaid : Prop := fnExactAreStaysRow.holds Try.pinned (OpenSpec.ofChange fnExactAreStaysSpec)

/-- ITS FALSE NEIGHBOUR: 'it returns false'. Refute it at one input. -/
def fnExactAreStaysWrong : ChangeSpec := { name := "fnExactAreStays", fn := fun _ => fun
  | [d1, d2] => { results := [.lit (.bool false)], args := [d1, d2] }
  | _ => none }
def FnExactAreStaysWrongFalsely : Prop := fnExactAreStaysRow.holds Try.pinned (OpenSpec.ofChange fnExactAreStaysWrong)

/-- 'laws.FnExactFreeMeters': WHATEVER THE INPUT: true; the input reads as it did. -/
def fnExactFreeMetersSpec : ChangeSpec := { name := "fnExactFreeMeters", fn := fun _ => fun
  | [d1, d2, d3, d4] => { results := [.lit (.bool true)], args := [d1, d2, d3, d4] }
  | _ => none }
def fnExactFreeMetersRow : OpenClaim := { program := "ytmjbkhhcleidaaa", sum := "ed2876e96f907ec1c7b54907868b30ff61700d66a8cfb4a9dd0b6e7239280ff1", func := "loop.example/g01031/laws.FnExactFreeMeters", spec := "fnExactFreeMeters", unfollowed := true, recurses := true, apart := false }
def FnExactFreeMetersSaid : Prop := fnExactFreeMetersRow.holds Try.pinned (OpenSpec.ofChange fnExactFreeMetersSpec)

/-- ITS FALSE NEIGHBOUR: 'it returns false'. Refute it at one input. -/
def fnExactFreeMetersWrong : ChangeSpec := { name := "fnExactFreeMeters", fn := fun _ => fun
  | [d1, d2, d3, d4] => { results := [.lit (.bool false)], args := [d1, d2, d3, d4] }
  | _ => none }
def FnExactFreeMetersWrongFalsely : Prop := fnExactFreeMetersRow.holds Try.pinned (OpenSpec.ofChange fnExactFreeMetersWrong)

/-- 'laws.FnExactBusiestQuay': WHATEVER THE INPUT: true; the input reads as it did. -/
def fnExactBusiestQuaySpec : ChangeSpec := { name := "fnExactBusiestQuay", fn := fun _ => fun
  | [d1, d2] => { results := [.lit (.bool true)], args := [d1, d2] }
  | _ => none }
def fnExactBusiestQuayRow : OpenClaim := { program := "ytmjbkhhcleidaaa", sum := "ed2876e96f907ec1c7b54907868b30ff61700d66a8cfb4a9dd0b6e7239280ff1", func := "loop.example/g01031/laws.FnExactBusiestQuay", spec := "fnExactBusiestQuay", unfollowed := true, recurses := true, apart := false }
def FnExactBusiestQuaySaid : Prop := fnExactBusiestQuayRow.holds Try.pinned (OpenSpec.ofChange fnExactBusiestQuaySpec)

/-- ITS FALSE NEIGHBOUR: 'it returns false'. Refute it at one input. -/
def fnExactBusiestQuayWrong : ChangeSpec := { name := "fnExactBusiestQuay", fn := fun _ => fun
  | [d1, d2] => { results := [.lit (.bool false)], args := [d1, d2] }
  | _ => none }
def FnExactBusiestQuayWrongFalsely : Prop := fnExactBusiestQuayRow.holds Try.pinned (OpenSpec.ofChange fnExactBusiestQuayWrong)

/-- 'laws.FnExactDelayUntil': WHATEVER THE INPUT: true; the input reads as it did. -/
def fnExactDelayUntilSpec : ChangeSpec := { name := "fnExactDelayUntil", fn := fun _ => fun
  | [d1, d2, d3] => { results := [.lit (.bool true)], args := [d1, d2, d3] }
  | _ => none }
def fnExactDelayUntilRow : OpenClaim := { program := "ytmjbkhhcleidaaa", sum := "ed2876e96f907ec1c7b54907868b30ff61700d66a8cfb4a9dd0b6e7239280ff1", func := "loop.example/g01031/laws.FnExactDelayUntil", spec := "fnExactDelayUntil", unfollowed := true, recurses := true, apart := false }
def FnExactDelayUntilSaid : Prop := fnExactDelayUntilRow.holds Try.pinned (OpenSpec.ofChange fnExactDelayUntilSpec)

/-- ITS FALSE NEIGHBOUR: 'it returns false'. Refute it at one input. -/
def fnExactDelayUntilWrong : ChangeSpec := { name := "fnExactDelayUntil", fn := fun _ => fun
  | [d1, d2, d3] => { results := [.lit (.bool false)], args := [d1, d2, d3] }
  | _ => none }
def FnExactDelayUntilWrongFalsely : Prop := fnExactDelayUntilRow.holds Try.pinned (OpenSpec.ofChange fnExactDelayUntilWrong)

/-- 'laws.FnExactPlaceShip': WHATEVER THE INPUT: true; the input reads as it did. -/
def fnExactPlaceShipSpec : ChangeSpec := { name := "fnExactPlaceShip", fn := fun _ => fun
  | [d1, d2, d3, d4, d5, d6] => { results := [.lit (.bool true)], args := [d1, d2, d3, d4, d5, d6] }
  | _ => none }
def fnExactPlaceShipRow : OpenClaim := { program := "ytmjbkhhcleidaaa", sum := "ed2876e96f907ec1c7b54907868b30ff61700d66a8cfb4a9dd0b6e7239280ff1", func := "loop.example/g01031/laws.FnExactPlaceShip", spec := "fnExactPlaceShip", unfollowed := true, recurses := true, apart := false }
def FnExactPlaceShipSaid : Prop := fnExactPlaceShipRow.holds Try.pinned (OpenSpec.ofChange fnExactPlaceShipSpec)

/-- ITS FALSE NEIGHBOUR: 'it returns false'. Refute it at one input. -/
def fnExactPlaceShipWrong : ChangeSpec := { name := "fnExactPlaceShip", fn := fun _ => fun
  | [d1, d2, d3, d4, d5, d6] => { results := [.lit (.bool false)], args := [d1, d2, d3, d4, d5, d6] }
  | _ => none }
def FnExactPlaceShipWrongFalsely : Prop := fnExactPlaceShipRow.holds Try.pinned (OpenSpec.ofChange fnExactPlaceShipWrong)

/-- 'laws.FnExactStaysAt': WHATEVER THE INPUT: true; the input reads as it did. -/
def fnExactStaysAtSpec : ChangeSpec := { name := "fnExactStaysAt", fn := fun _ => fun
  | [d1, d2, d3] => { results := [.lit (.bool true)], args := [d1, d2, d3] }
  | _ => none }
def fnExactStaysAtRow : OpenClaim := { program := "ytmjbkhhcleidaaa", sum := "ed2876e96f907ec1c7b54907868b30ff61700d66a8cfb4a9dd0b6e7239280ff1", func := "loop.example/g01031/laws.FnExactStaysAt", spec := "fnExactStaysAt", unfollowed := true, recurses := true, apart := false }
def FnExactStaysAtSaid : Prop := fnExactStaysAtRow.holds Try.pinned (OpenSpec.ofChange fnExactStaysAtSpec)

/-- ITS FALSE NEIGHBOUR: 'it returns false'. Refute it at one input. -/
def fnExactStaysAtWrong : ChangeSpec := { name := "fnExactStaysAt", fn := fun _ => fun
  | [d1, d2, d3] => { results := [.lit (.bool false)], args := [d1, d2, d3] }
  | _ => none }
def FnExactStaysAtWrongFalsely : Prop := fnExactStaysAtRow.holds Try.pinned (OpenSpec.ofChange fnExactStaysAtWrong)

/-- 'laws.FnExactPutStay': WHATEVER THE INPUT: true; the input reads as it did. -/
def fnExactPutStaySpec : ChangeSpec := { name := "fnExactPutStay", fn := fun _ => fun
  | [d1, d2, d3] => { results := [.lit (.bool true)], args := [d1, d2, d3] }
  | _ => none }
def fnExactPutStayRow : OpenClaim := { program := "ytmjbkhhcleidaaa", sum := "ed2876e96f907ec1c7b54907868b30ff61700d66a8cfb4a9dd0b6e7239280ff1", func := "loop.example/g01031/laws.FnExactPutStay", spec := "fnExactPutStay", inPlace := ["slices.overlaps[loop.example/g01031/impl.Stay]"], unfollowed := true, recurses := true, apart := false }
def FnExactPutStaySaid : Prop := fnExactPutStayRow.holds Try.pinned (OpenSpec.ofChange fnExactPutStaySpec)

/-- ITS FALSE NEIGHBOUR: 'it returns false'. Refute it at one input. -/
def fnExactPutStayWrong : ChangeSpec := { name := "fnExactPutStay", fn := fun _ => fun
  | [d1, d2, d3] => { results := [.lit (.bool false)], args := [d1, d2, d3] }
  | _ => none }
def FnExactPutStayWrongFalsely : Prop := fnExactPutStayRow.holds Try.pinned (OpenSpec.ofChange fnExactPutStayWrong)

/-- 'laws.FnStays': WHATEVER THE INPUT: true; the input reads as it did. -/
def fnStaysSpec : ChangeSpec := { name := "fnStays", fn := fun _ => fun
  | [d] => { results := [.lit (.bool true)], args := [d] }
  | _ => none }
def fnStaysRow : OpenClaim := { program := "ytmjbkhhcleidaaa", sum := "ed2876e96f907ec1c7b54907868b30ff61700d66a8cfb4a9dd0b6e7239280ff1", func := "loop.example/g01031/laws.FnStays", spec := "fnStays", inPlace := ["slices.overlaps[loop.example/g01031/impl.Stay]"], unfollowed := true, recurses := true, apart := false }
def FnStaysSaid : Prop := fnStaysRow.holds Try.pinned (OpenSpec.ofChange fnStaysSpec)

/-- ITS FALSE NEIGHBOUR: 'it returns false'. Refute it at one input. -/
def fnStaysWrong : ChangeSpec := { name := "fnStays", fn := fun _ => fun
  | [d] => { results := [.lit (.bool false)], args := [d] }
  | _ => none }
def FnStaysWrongFalsely : Prop := fnStaysRow.holds Try.pinned (OpenSpec.ofChange fnStaysWrong)

/-- 'laws.FnBerths': WHATEVER THE INPUT: true; the input reads as it did. -/
def fnBerthsSpec : ChangeSpec := { name := "fnBerths", fn := fun _ => fun
  | [d] => { results := [.lit (.bool true)], args := [d] }
  | _ => none }
def fnBerthsRow : OpenClaim := { program := "ytmjbkhhcleidaaa", sum := "ed2876e96f907ec1c7b54907868b30ff61700d66a8cfb4a9dd0b6e7239280ff1", func := "loop.example/g01031/laws.FnBerths", spec := "fnBerths", inPlace := ["slices.overlaps[loop.example/g01031/impl.Stay]"], unfollowed := true, recurses := true, apart := false }
def FnBerthsSaid : Prop := fnBerthsRow.holds Try.pinned (OpenSpec.ofChange fnBerthsSpec)

/-- ITS FALSE NEIGHBOUR: 'it returns false'. Refute it at one input. -/
def fnBerthsWrong : ChangeSpec := { name := "fnBerths", fn := fun _ => fun
  | [d] => { results := [.lit (.bool false)], args := [d] }
  | _ => none }
def FnBerthsWrongFalsely : Prop := fnBerthsRow.holds Try.pinned (OpenSpec.ofChange fnBerthsWrong)

/- THE SECOND FORM. 'bulk': how many values and letters a reading holds, each counted each time it is reached (what is shared counts as often as it is met; a slice's spare places count too). A statement '..UptoSaid' is the law's where the arguments, and the package variables that the reading takes, are together of bulk at most 1048576: NARROWER than '..Said'. Prove '..Said' where nothing that the law and all that it calls make is longer than what came in: it says more and counts as full. Else prove '..UptoSaid'. A law counts once. -/
mutual
def uptoBulk {H : Type} : DataW H → Nat
  | .lit (.string bytes) => bytes.length + 1
  | .lit _ => 1
  | .nil => 1
  | .ptr d => uptoBulk d + 1
  | .slice elems spare => uptoBulkAll elems + uptoBulkAll spare + 1
  | .agg parts => uptoBulkAll parts + 1
  | .iface _ d => uptoBulk d + 1
  | .map entries => uptoBulkEntries entries + 1
  | .held _ => 1
def uptoBulkAll {H : Type} : List (DataW H) → Nat
  | [] => 0
  | d :: r => uptoBulk d + uptoBulkAll r
def uptoBulkEntries {H : Type} : List (Lit × DataW H) → Nat
  | [] => 0
  | x :: r => uptoBulkEntry x + uptoBulkEntries r
def uptoBulkEntry {H : Type} : Lit × DataW H → Nat
  | (.string bytes, d) => bytes.length + uptoBulk d + 1
  | (_, d) => uptoBulk d + 1
 end
def uptoSmall : (H : Type) → List (DataW H) → Bool := fun _ ds => decide (uptoBulkAll ds ≤ 1048576)
def OpenSpec.upto (s : _root_.Go.ChangeSpec) : _root_.Go.OpenSpec := { _root_.Go.OpenSpec.ofChange s with cond := some uptoSmall }

/-- 'laws.FnExactAreQuays', WHERE WHAT IT READS IS OF BULK AT MOST 1048576: true; the input reads as it did. -/
def fnExactAreQuaysUptoRow : OpenClaim := { program := "ytmjbkhhcleidaaa", sum := "ed2876e96f907ec1c7b54907868b30ff61700d66a8cfb4a9dd0b6e7239280ff1", func := "loop.example/g01031/laws.FnExactAreQuays", spec := "fnExactAreQuays", apart := false, narrowed := true }
def FnExactAreQuaysUptoSaid : Prop := fnExactAreQuaysUptoRow.holds Try.pinned (OpenSpec.upto fnExactAreQuaysSpec)

/-- 'laws.FnExactDeepestShip', WHERE WHAT IT READS IS OF BULK AT MOST 1048576: true; the input reads as it did. -/
def fnExactDeepestShipUptoRow : OpenClaim := { program := "ytmjbkhhcleidaaa", sum := "ed2876e96f907ec1c7b54907868b30ff61700d66a8cfb4a9dd0b6e7239280ff1", func := "loop.example/g01031/laws.FnExactDeepestShip", spec := "fnExactDeepestShip", unfollowed := true, recurses := true, apart := false, narrowed := true }
def FnExactDeepestShipUptoSaid : Prop := fnExactDeepestShipUptoRow.holds Try.pinned (OpenSpec.upto fnExactDeepestShipSpec)

/-- 'laws.FnExactDoClash', WHERE WHAT IT READS IS OF BULK AT MOST 1048576: true; the input reads as it did. -/
def fnExactDoClashUptoRow : OpenClaim := { program := "ytmjbkhhcleidaaa", sum := "ed2876e96f907ec1c7b54907868b30ff61700d66a8cfb4a9dd0b6e7239280ff1", func := "loop.example/g01031/laws.FnExactDoClash", spec := "fnExactDoClash", unfollowed := true, recurses := true, apart := false, narrowed := true }
def FnExactDoClashUptoSaid : Prop := fnExactDoClashUptoRow.holds Try.pinned (OpenSpec.upto fnExactDoClashSpec)

/-- 'laws.FnExactAreStays', WHERE WHAT IT READS IS OF BULK AT MOST 1048576: true; the input reads as it did. -/
def fnExactAreStaysUptoRow : OpenClaim := { program := "ytmjbkhhcleidaaa", sum := "ed2876e96f907ec1c7b54907868b30ff61700d66a8cfb4a9dd0b6e7239280ff1", func := "loop.example/g01031/laws.FnExactAreStays", spec := "fnExactAreStays", unfollowed := true, recurses := true, apart := false, narrowed := true }
def FnExactAreStaysUptoSaid : Prop := fnExactAreStaysUptoRow.holds Try.pinned (OpenSpec.upto fnExactAreStaysSpec)

/-- 'laws.FnExactFreeMeters', WHERE WHAT IT READS IS OF BULK AT MOST 1048576: true; the input reads as it did. -/
def fnExactFreeMetersUptoRow : OpenClaim := { program := "ytmjbkhhcleidaaa", sum := "ed2876e96f907ec1c7b54907868b30ff61700d66a8cfb4a9dd0b6e7239280ff1", func := "loop.example/g01031/laws.FnExactFreeMeters", spec := "fnExactFreeMeters", unfollowed := true, recurses := true, apart := false, narrowed := true }
def FnExactFreeMetersUptoSaid : Prop := fnExactFreeMetersUptoRow.holds Try.pinned (OpenSpec.upto fnExactFreeMetersSpec)

/-- 'laws.FnExactBusiestQuay', WHERE WHAT IT READS IS OF BULK AT MOST 1048576: true; the input reads as it did. -/
def fnExactBusiestQuayUptoRow : OpenClaim := { program := "ytmjbkhhcleidaaa", sum := "ed2876e96f907ec1c7b54907868b30ff61700d66a8cfb4a9dd0b6e7239280ff1", func := "loop.example/g01031/laws.FnExactBusiestQuay", spec := "fnExactBusiestQuay", unfollowed := true, recurses := true, apart := false, narrowed := true }
def FnExactBusiestQuayUptoSaid : Prop := fnExactBusiestQuayUptoRow.holds Try.pinned (OpenSpec.upto fnExactBusiestQuaySpec)

/-- 'laws.FnExactDelayUntil', WHERE WHAT IT READS IS OF BULK AT MOST 1048576: true; the input reads as it did. -/
def fnExactDelayUntilUptoRow : OpenClaim := { program := "ytmjbkhhcleidaaa", sum := "ed2876e96f907ec1c7b54907868b30ff61700d66a8cfb4a9dd0b6e7239280ff1", func := "loop.example/g01031/laws.FnExactDelayUntil", spec := "fnExactDelayUntil", unfollowed := true, recurses := true, apart := false, narrowed := true }
def FnExactDelayUntilUptoSaid : Prop := fnExactDelayUntilUptoRow.holds Try.pinned (OpenSpec.upto fnExactDelayUntilSpec)

/-- 'laws.FnExactPlaceShip', WHERE WHAT IT READS IS OF BULK AT MOST 1048576: true; the input reads as it did. -/
def fnExactPlaceShipUptoRow : OpenClaim := { program := "ytmjbkhhcleidaaa", sum := "ed2876e96f907ec1c7b54907868b30ff61700d66a8cfb4a9dd0b6e7239280ff1", func := "loop.example/g01031/laws.FnExactPlaceShip", spec := "fnExactPlaceShip", unfollowed := true, recurses := true, apart := false, narrowed := true }
def FnExactPlaceShipUptoSaid : Prop := fnExactPlaceShipUptoRow.holds Try.pinned (OpenSpec.upto fnExactPlaceShipSpec)

/-- 'laws.FnExactStaysAt', WHERE WHAT IT READS IS OF BULK AT MOST 1048576: true; the input reads as it did. -/
def fnExactStaysAtUptoRow : OpenClaim := { program := "ytmjbkhhcleidaaa", sum := "ed2876e96f907ec1c7b54907868b30ff61700d66a8cfb4a9dd0b6e7239280ff1", func := "loop.example/g01031/laws.FnExactStaysAt", spec := "fnExactStaysAt", unfollowed := true, recurses := true, apart := false, narrowed := true }
def FnExactStaysAtUptoSaid : Prop := fnExactStaysAtUptoRow.holds Try.pinned (OpenSpec.upto fnExactStaysAtSpec)

/-- 'laws.FnExactPutStay', WHERE WHAT IT READS IS OF BULK AT MOST 1048576: true; the input reads as it did. -/
def fnExactPutStayUptoRow : OpenClaim := { program := "ytmjbkhhcleidaaa", sum := "ed2876e96f907ec1c7b54907868b30ff61700d66a8cfb4a9dd0b6e7239280ff1", func := "loop.example/g01031/laws.FnExactPutStay", spec := "fnExactPutStay", inPlace := ["slices.overlaps[loop.example/g01031/impl.Stay]"], unfollowed := true, recurses := true, apart := false, narrowed := true }
def FnExactPutStayUptoSaid : Prop := fnExactPutStayUptoRow.holds Try.pinned (OpenSpec.upto fnExactPutStaySpec)

/-- 'laws.FnStays', WHERE WHAT IT READS IS OF BULK AT MOST 1048576: true; the input reads as it did. -/
def fnStaysUptoRow : OpenClaim := { program := "ytmjbkhhcleidaaa", sum := "ed2876e96f907ec1c7b54907868b30ff61700d66a8cfb4a9dd0b6e7239280ff1", func := "loop.example/g01031/laws.FnStays", spec := "fnStays", inPlace := ["slices.overlaps[loop.example/g01031/impl.Stay]"], unfollowed := true, recurses := true, apart := false, narrowed := true }
def FnStaysUptoSaid : Prop := fnStaysUptoRow.holds Try.pinned (OpenSpec.upto fnStaysSpec)

/-- 'laws.FnBerths', WHERE WHAT IT READS IS OF BULK AT MOST 1048576: true; the input reads as it did. -/
def fnBerthsUptoRow : OpenClaim := { program := "ytmjbkhhcleidaaa", sum := "ed2876e96f907ec1c7b54907868b30ff61700d66a8cfb4a9dd0b6e7239280ff1", func := "loop.example/g01031/laws.FnBerths", spec := "fnBerths", inPlace := ["slices.overlaps[loop.example/g01031/impl.Stay]"], unfollowed := true, recurses := true, apart := false, narrowed := true }
def FnBerthsUptoSaid : Prop := fnBerthsUptoRow.holds Try.pinned (OpenSpec.upto fnBerthsSpec)

end Rows
end Go.Proofs.Ytmjbkhhcleidaaa
