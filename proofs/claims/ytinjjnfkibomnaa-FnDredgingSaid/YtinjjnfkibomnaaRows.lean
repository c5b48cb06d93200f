/-
  No cell of these rows narrows 'for every input' (looked for: loops, veiled, ifaces, maps, wideKeys, modest, calm, conditions, laid).
  DERIVED. THE GIVEN ROWS OF THIS SEAT. 11 by the template 'for every input the law returns true; each argument reads behind the call as it read before'; 0 by the template 'total and deterministic' (their statements: YtinjjnfkibomnaaTotals.lean).
  GIVEN WITH THE SEED: the statements are not yours to turn. If you find one false, say at which input.
  Laid BY PROGRAM, IN A SANDBOX (cutbox-rows.mjs): the forced cells as the released guide's own fill.sh prints them over the translation c2e7a2ee1f347f35… (all of the seat's roots in one cut). By AI agents, Wed Nov 11 2026. No macro, syntax, notation, axiom, sorry.
-/
import Derived.Test.YtinjjnfkibomnaaChecked
import GoSem.Claim
import GoSem.ClaimJoined
import GoSem.ClaimMapViews
import Derived.JoinedTies
import Derived.KernelRfl
namespace Go.Proofs.Ytinjjnfkibomnaa
/- THE CELL 'sum', in the pinned program and in every row, IS THE sha256 OF THE DUMP (.gsa) THAT YtinjjnfkibomnaaProg.lean LOADS. Nothing in Lean hashes anything: it is a label: what it is worth is what the hold of that sum in a sandbox is worth. -/
noncomputable def Try.pinned : Pinned := { name := "ytinjjnfkibomnaa", sum := "c2e7a2ee1f347f35161a5d3602e26bcc90e2fda104809bd0d167825042815443", checked := Try.checked }
namespace Rows
def none {H : Type} : Left H := { results := [], args := [] }

/-- 'laws.FnExactIsDredge': WHATEVER THE INPUT: true; the input reads as it did. -/
def fnExactIsDredgeSpec : ChangeSpec := { name := "fnExactIsDredge", fn := fun _ => fun
  | [d] => { results := [.lit (.bool true)], args := [d] }
  | _ => none }
def fnExactIsDredgeRow : OpenClaim := { program := "ytinjjnfkibomnaa", sum := "c2e7a2ee1f347f35161a5d3602e26bcc90e2fda104809bd0d167825042815443", func := "loop.example/g01031/laws.FnExactIsDredge", spec := "fnExactIsDredge", apart := false }
def FnExactIsDredgeSaid : Prop := fnExactIsDredgeRow.holds Try.pinned (OpenSpec.ofChange fnExactIsDredgeSpec)

/-- ITS FALSE NEIGHBOUR: 'it returns false'. Refute it at one input. -/
def fnExactIsDredgeWrong : ChangeSpec := { name := "fnExactIsDredge", fn := fun _ => fun
  | [d] => { results := [.lit (.bool false)], args := [d] }
  | _ => none }
def FnExactIsDredgeWrongFalsely : Prop := fnExactIsDredgeRow.holds Try.pinned (OpenSpec.ofChange fnExactIsDredgeWrong)

/-- 'laws.FnExactGreatestVolume': WHATEVER THE INPUT: true; the input reads as it did. -/
def fnExactGreatestVolumeSpec : ChangeSpec := { name := "fnExactGreatestVolume", fn := fun _ => fun
  | [d1, d2] => { results := [.lit (.bool true)], args := [d1, d2] }
  | _ => none }
def fnExactGreatestVolumeRow : OpenClaim := { program := "ytinjjnfkibomnaa", sum := "c2e7a2ee1f347f35161a5d3602e26bcc90e2fda104809bd0d167825042815443", func := "loop.example/g01031/laws.FnExactGreatestVolume", spec := "fnExactGreatestVolume", unfollowed := true, recurses := true, apart := false }
def FnExactGreatestVolumeSaid : Prop := fnExactGreatestVolumeRow.holds Try.pinned (OpenSpec.ofChange fnExactGreatestVolumeSpec)

/-- ITS FALSE NEIGHBOUR: 'it returns false'. Refute it at one input. -/
def fnExactGreatestVolumeWrong : ChangeSpec := { name := "fnExactGreatestVolume", fn := fun _ => fun
  | [d1, d2] => { results := [.lit (.bool false)], args := [d1, d2] }
  | _ => none }
def FnExactGreatestVolumeWrongFalsely : Prop := fnExactGreatestVolumeRow.holds Try.pinned (OpenSpec.ofChange fnExactGreatestVolumeWrong)

/-- 'laws.FnExactIsAccepted': WHATEVER THE INPUT: true; the input reads as it did. -/
def fnExactIsAcceptedSpec : ChangeSpec := { name := "fnExactIsAccepted", fn := fun _ => fun
  | [d1, d2, d3] => { results := [.lit (.bool true)], args := [d1, d2, d3] }
  | _ => none }
def fnExactIsAcceptedRow : OpenClaim := { program := "ytinjjnfkibomnaa", sum := "c2e7a2ee1f347f35161a5d3602e26bcc90e2fda104809bd0d167825042815443", func := "loop.example/g01031/laws.FnExactIsAccepted", spec := "fnExactIsAccepted", unfollowed := true, recurses := true, apart := false }
def FnExactIsAcceptedSaid : Prop := fnExactIsAcceptedRow.holds Try.pinned (OpenSpec.ofChange fnExactIsAcceptedSpec)

/-- ITS FALSE NEIGHBOUR: 'it returns false'. Refute it at one input. -/
def fnExactIsAcceptedWrong : ChangeSpec := { name := "fnExactIsAccepted", fn := fun _ => fun
  | [d1, d2, d3] => { results := [.lit (.bool false)], args := [d1, d2, d3] }
  | _ => none }
def FnExactIsAcceptedWrongFalsely : Prop := fnExactIsAcceptedRow.holds Try.pinned (OpenSpec.ofChange fnExactIsAcceptedWrong)

/-- 'laws.FnExactLoadsFor': WHATEVER THE INPUT: true; the input reads as it did. -/
def fnExactLoadsForSpec : ChangeSpec := { name := "fnExactLoadsFor", fn := fun _ => fun
  | [d1, d2] => { results := [.lit (.bool true)], args := [d1, d2] }
  | _ => none }
def fnExactLoadsForRow : OpenClaim := { program := "ytinjjnfkibomnaa", sum := "c2e7a2ee1f347f35161a5d3602e26bcc90e2fda104809bd0d167825042815443", func := "loop.example/g01031/laws.FnExactLoadsFor", spec := "fnExactLoadsFor", unfollowed := true, recurses := true, apart := false }
def FnExactLoadsForSaid : Prop := fnExactLoadsForRow.holds Try.pinned (OpenSpec.ofChange fnExactLoadsForSpec)

/-- ITS FALSE NEIGHBOUR: 'it returns false'. Refute it at one input. -/
def fnExactLoadsForWrong : ChangeSpec := { name := "fnExactLoadsFor", fn := fun _ => fun
  | [d1, d2] => { results := [.lit (.bool false)], args := [d1, d2] }
  | _ => none }
def FnExactLoadsForWrongFalsely : Prop := fnExactLoadsForRow.holds Try.pinned (OpenSpec.ofChange fnExactLoadsForWrong)

/-- 'laws.FnExactVolumeOf': WHATEVER THE INPUT: true; the input reads as it did. -/
def fnExactVolumeOfSpec : ChangeSpec := { name := "fnExactVolumeOf", fn := fun _ => fun
  | [d1, d2] => { results := [.lit (.bool true)], args := [d1, d2] }
  | _ => none }
def fnExactVolumeOfRow : OpenClaim := { program := "ytinjjnfkibomnaa", sum := "c2e7a2ee1f347f35161a5d3602e26bcc90e2fda104809bd0d167825042815443", func := "loop.example/g01031/laws.FnExactVolumeOf", spec := "fnExactVolumeOf", unfollowed := true, recurses := true, apart := false }
def FnExactVolumeOfSaid : Prop := fnExactVolumeOfRow.holds Try.pinned (OpenSpec.ofChange fnExactVolumeOfSpec)

/-- ITS FALSE NEIGHBOUR: 'it returns false'. Refute it at one input. -/
def fnExactVolumeOfWrong : ChangeSpec := { name := "fnExactVolumeOf", fn := fun _ => fun
  | [d1, d2] => { results := [.lit (.bool false)], args := [d1, d2] }
  | _ => none }
def FnExactVolumeOfWrongFalsely : Prop := fnExactVolumeOfRow.holds Try.pinned (OpenSpec.ofChange fnExactVolumeOfWrong)

/-- 'laws.FnExactDesignFor': WHATEVER THE INPUT: true; the input reads as it did. -/
def fnExactDesignForSpec : ChangeSpec := { name := "fnExactDesignFor", fn := fun _ => fun
  | [d1, d2] => { results := [.lit (.bool true)], args := [d1, d2] }
  | _ => none }
def fnExactDesignForRow : OpenClaim := { program := "ytinjjnfkibomnaa", sum := "c2e7a2ee1f347f35161a5d3602e26bcc90e2fda104809bd0d167825042815443", func := "loop.example/g01031/laws.FnExactDesignFor", spec := "fnExactDesignFor", unfollowed := true, recurses := true, apart := false }
def FnExactDesignForSaid : Prop := fnExactDesignForRow.holds Try.pinned (OpenSpec.ofChange fnExactDesignForSpec)

/-- ITS FALSE NEIGHBOUR: 'it returns false'. Refute it at one input. -/
def fnExactDesignForWrong : ChangeSpec := { name := "fnExactDesignFor", fn := fun _ => fun
  | [d1, d2] => { results := [.lit (.bool false)], args := [d1, d2] }
  | _ => none }
def FnExactDesignForWrongFalsely : Prop := fnExactDesignForRow.holds Try.pinned (OpenSpec.ofChange fnExactDesignForWrong)

/-- 'laws.FnExactPaidVolume': WHATEVER THE INPUT: true; the input reads as it did. -/
def fnExactPaidVolumeSpec : ChangeSpec := { name := "fnExactPaidVolume", fn := fun _ => fun
  | [d1, d2, d3] => { results := [.lit (.bool true)], args := [d1, d2, d3] }
  | _ => none }
def fnExactPaidVolumeRow : OpenClaim := { program := "ytinjjnfkibomnaa", sum := "c2e7a2ee1f347f35161a5d3602e26bcc90e2fda104809bd0d167825042815443", func := "loop.example/g01031/laws.FnExactPaidVolume", spec := "fnExactPaidVolume", unfollowed := true, recurses := true, apart := false }
def FnExactPaidVolumeSaid : Prop := fnExactPaidVolumeRow.holds Try.pinned (OpenSpec.ofChange fnExactPaidVolumeSpec)

/-- ITS FALSE NEIGHBOUR: 'it returns false'. Refute it at one input. -/
def fnExactPaidVolumeWrong : ChangeSpec := { name := "fnExactPaidVolume", fn := fun _ => fun
  | [d1, d2, d3] => { results := [.lit (.bool false)], args := [d1, d2, d3] }
  | _ => none }
def FnExactPaidVolumeWrongFalsely : Prop := fnExactPaidVolumeRow.holds Try.pinned (OpenSpec.ofChange fnExactPaidVolumeWrong)

/-- 'laws.FnExactDug': WHATEVER THE INPUT: true; the input reads as it did. -/
def fnExactDugSpec : ChangeSpec := { name := "fnExactDug", fn := fun _ => fun
  | [d1, d2] => { results := [.lit (.bool true)], args := [d1, d2] }
  | _ => none }
def fnExactDugRow : OpenClaim := { program := "ytinjjnfkibomnaa", sum := "c2e7a2ee1f347f35161a5d3602e26bcc90e2fda104809bd0d167825042815443", func := "loop.example/g01031/laws.FnExactDug", spec := "fnExactDug", unfollowed := true, recurses := true, apart := false }
def FnExactDugSaid : Prop := fnExactDugRow.holds Try.pinned (OpenSpec.ofChange fnExactDugSpec)

/-- ITS FALSE NEIGHBOUR: 'it returns false'. Refute it at one input. -/
def fnExactDugWrong : ChangeSpec := { name := "fnExactDug", fn := fun _ => fun
  | [d1, d2] => { results := [.lit (.bool false)], args := [d1, d2] }
  | _ => none }
def FnExactDugWrongFalsely : Prop := fnExactDugRow.holds Try.pinned (OpenSpec.ofChange fnExactDugWrong)

/-- 'laws.FnExactCellsToDig': WHATEVER THE INPUT: true; the input reads as it did. -/
def fnExactCellsToDigSpec : ChangeSpec := { name := "fnExactCellsToDig", fn := fun _ => fun
  | [d1, d2] => { results := [.lit (.bool true)], args := [d1, d2] }
  | _ => none }
def fnExactCellsToDigRow : OpenClaim := { program := "ytinjjnfkibomnaa", sum := "c2e7a2ee1f347f35161a5d3602e26bcc90e2fda104809bd0d167825042815443", func := "loop.example/g01031/laws.FnExactCellsToDig", spec := "fnExactCellsToDig", unfollowed := true, recurses := true, apart := false }
def FnExactCellsToDigSaid : Prop := fnExactCellsToDigRow.holds Try.pinned (OpenSpec.ofChange fnExactCellsToDigSpec)

/-- ITS FALSE NEIGHBOUR: 'it returns false'. Refute it at one input. -/
def fnExactCellsToDigWrong : ChangeSpec := { name := "fnExactCellsToDig", fn := fun _ => fun
  | [d1, d2] => { results := [.lit (.bool false)], args := [d1, d2] }
  | _ => none }
def FnExactCellsToDigWrongFalsely : Prop := fnExactCellsToDigRow.holds Try.pinned (OpenSpec.ofChange fnExactCellsToDigWrong)

/-- 'laws.FnPaid': WHATEVER THE INPUT: true; the input reads as it did. -/
def fnPaidSpec : ChangeSpec := { name := "fnPaid", fn := fun _ => fun
  | [d] => { results := [.lit (.bool true)], args := [d] }
  | _ => none }
def fnPaidRow : OpenClaim := { program := "ytinjjnfkibomnaa", sum := "c2e7a2ee1f347f35161a5d3602e26bcc90e2fda104809bd0d167825042815443", func := "loop.example/g01031/laws.FnPaid", spec := "fnPaid", unfollowed := true, recurses := true, apart := false }
def FnPaidSaid : Prop := fnPaidRow.holds Try.pinned (OpenSpec.ofChange fnPaidSpec)

/-- ITS FALSE NEIGHBOUR: 'it returns false'. Refute it at one input. -/
def fnPaidWrong : ChangeSpec := { name := "fnPaid", fn := fun _ => fun
  | [d] => { results := [.lit (.bool false)], args := [d] }
  | _ => none }
def FnPaidWrongFalsely : Prop := fnPaidRow.holds Try.pinned (OpenSpec.ofChange fnPaidWrong)

/-- 'laws.FnDredging': WHATEVER THE INPUT: true; the input reads as it did. -/
def fnDredgingSpec : ChangeSpec := { name := "fnDredging", fn := fun _ => fun
  | [d] => { results := [.lit (.bool true)], args := [d] }
  | _ => none }
def fnDredgingRow : OpenClaim := { program := "ytinjjnfkibomnaa", sum := "c2e7a2ee1f347f35161a5d3602e26bcc90e2fda104809bd0d167825042815443", func := "loop.example/g01031/laws.FnDredging", spec := "fnDredging", unfollowed := true, recurses := true, apart := false }
def FnDredgingSaid : Prop := fnDredgingRow.holds Try.pinned (OpenSpec.ofChange fnDredgingSpec)

/-- ITS FALSE NEIGHBOUR: 'it returns false'. Refute it at one input. -/
def fnDredgingWrong : ChangeSpec := { name := "fnDredging", fn := fun _ => fun
  | [d] => { results := [.lit (.bool false)], args := [d] }
  | _ => none }
def FnDredgingWrongFalsely : Prop := fnDredgingRow.holds Try.pinned (OpenSpec.ofChange fnDredgingWrong)

/- THE SECOND FORM. 'bulk': how many values and letters a reading holds, each counted each time it is reached (what is shared counts as often as it is met; a slice's spare places count too). A statement '..UptoSaid' is the law's where the arguments, and the package variables that the reading takes, are together of bulk at most 1048576: NARROWER than '..Said'. Prove '..Said' where nothing that the law and all that it calls make is longer than what came in: it says more and counts as full. Else prove '..UptoSaid'. A law counts once. -/
mutual
def uptoBulk {H : Type} : DataW H → Nat
  | .lit (.string bytes) => bytes.length + 1
  | .lit _ => 1
  | .nil => 1
  | .ptr d => uptoBulk d + 1
  | .slice elems spare => uptoBulkAll elems + uptoBulkAll spare + 1
  | .agg parts => uptoBulkAll parts + 1
  | .iface _ d => uptoBulk d + 1
  | .map entries => uptoBulkEntries entries + 1
  | .held _ => 1
def uptoBulkAll {H : Type} : List (DataW H) → Nat
  | [] => 0
  | d :: r => uptoBulk d + uptoBulkAll r
def uptoBulkEntries {H : Type} : List (Lit × DataW H) → Nat
  | [] => 0
  | x :: r => uptoBulkEntry x + uptoBulkEntries r
def uptoBulkEntry {H : Type} : Lit × DataW H → Nat
  | (.string bytes, d) => bytes.length + uptoBulk d + 1
  | (_, d) => uptoBulk d + 1
 end
def uptoSmall : (H : Type) → List (DataW H) → Bool := fun _ ds => decide (uptoBulkAll ds ≤ 1048576)
def OpenSpec.upto (s : _root_.Go.ChangeSpec) : _root_.Go.OpenSpec := { _root_.Go.OpenSpec.ofChange s with cond := some uptoSmall }

/-- 'laws.FnExactIsDredge', WHERE WHAT IT READS IS OF BULK AT MOST 1048576: true; the input reads as it did. -/
def fnExactIsDredgeUptoRow : OpenClaim := { program := "ytinjjnfkibomnaa", sum := "c2e7a2ee1f347f35161a5d3602e26bcc90e2fda104809bd0d167825042815443", func := "loop.example/g01031/laws.FnExactIsDredge", spec := "fnExactIsDredge", apart := false, narrowed := true }
def FnExactIsDredgeUptoSaid : Prop := fnExactIsDredgeUptoRow.holds Try.pinned (OpenSpec.upto fnExactIsDredgeSpec)

/-- 'laws.FnExactGreatestVolume', WHERE WHAT IT READS IS OF BULK AT MOST 1048576: true; the input reads as it did. -/
def fnExactGreatestVolumeUptoRow : OpenClaim := { program := "ytinjjnfkibomnaa", sum := "c2e7a2ee1f347f35161a5d3602e26bcc90e2fda104809bd0d167825042815443", func := "loop.example/g01031/laws.FnExactGreatestVolume", spec := "fnExactGreatestVolume", unfollowed := true, recurses := true, apart := false, narrowed := true }
def FnExactGreatestVolumeUptoSaid : Prop := fnExactGreatestVolumeUptoRow.holds Try.pinned (OpenSpec.upto fnExactGreatestVolumeSpec)

/-- 'laws.FnExactIsAccepted', WHERE WHAT IT READS IS OF BULK AT MOST 1048576: true; the input reads as it did. -/
def fnExactIsAcceptedUptoRow : OpenClaim := { program := "ytinjjnfkibomnaa", sum := "c2e7a2ee1f347f35161a5d3602e26bcc90e2fda104809bd0d167825042815443", func := "loop.example/g01031/laws.FnExactIsAccepted", spec := "fnExactIsAccepted", unfollowed := true, recurses := true, apart := false, narrowed := true }
def FnExactIsAcceptedUptoSaid : Prop := fnExactIsAcceptedUptoRow.holds Try.pinned (OpenSpec.upto fnExactIsAcceptedSpec)

/-- 'laws.FnExactLoadsFor', WHERE WHAT IT READS IS OF BULK AT MOST 1048576: true; the input reads as it did. -/
def fnExactLoadsForUptoRow : OpenClaim := { program := "ytinjjnfkibomnaa", sum := "c2e7a2ee1f347f35161a5d3602e26bcc90e2fda104809bd0d167825042815443", func := "loop.example/g01031/laws.FnExactLoadsFor", spec := "fnExactLoadsFor", unfollowed := true, recurses := true, apart := false, narrowed := true }
def FnExactLoadsForUptoSaid : Prop := fnExactLoadsForUptoRow.holds Try.pinned (OpenSpec.upto fnExactLoadsForSpec)

/-- 'laws.FnExactVolumeOf', WHERE WHAT IT READS IS OF BULK AT MOST 1048576: true; the input reads as it did. -/
def fnExactVolumeOfUptoRow : OpenClaim := { program := "ytinjjnfkibomnaa", sum := "c2e7a2ee1f347f35161a5d3602e26bcc90e2fda104809bd0d167825042815443", func := "loop.example/g01031/laws.FnExactVolumeOf", spec := "fnExactVolumeOf", unfollowed := true, recurses := true, apart := false, narrowed := true }
def FnExactVolumeOfUptoSaid : Prop := fnExactVolumeOfUptoRow.holds Try.pinned (OpenSpec.upto fnExactVolumeOfSpec)

/-- 'laws.FnExactDesignFor', WHERE WHAT IT READS IS OF BULK AT MOST 1048576: true; the input reads as it did. -/
def fnExactDesignForUptoRow : OpenClaim := { program := "ytinjjnfkibomnaa", sum := "c2e7a2ee1f347f35161a5d3602e26bcc90e2fda104809bd0d167825042815443", func := "loop.example/g01031/laws.FnExactDesignFor", spec := "fnExactDesignFor", unfollowed := true, recurses := true, apart := false, narrowed := true }
def FnExactDesignForUptoSaid : Prop := fnExactDesignForUptoRow.holds Try.pinned (OpenSpec.upto fnExactDesignForSpec)

/-- 'laws.FnExactPaidVolume', WHERE WHAT IT READS IS OF BULK AT MOST 1048576: true; the input reads as it did. -/
def fnExactPaidVolumeUptoRow : OpenClaim := { program := "ytinjjnfkibomnaa", sum := "c2e7a2ee1f347f35161a5d3602e26bcc90e2fda104809bd0d167825042815443", func := "loop.example/g01031/laws.FnExactPaidVolume", spec := "fnExactPaidVolume", unfollowed := true, recurses := true, apart := false, narrowed := true }
def FnExactPaidVolumeUptoSaid : Prop := fnExactPaidVolumeUptoRow.holds Try.pinned (OpenSpec.upto fnExactPaidVolumeSpec)

/-- 'laws.FnExactDug', WHERE WHAT IT READS IS OF BULK AT MOST 1048576: true; the input reads as it did. -/
def fnExactDugUptoRow : OpenClaim := { program := "ytinjjnfkibomnaa", sum := "c2e7a2ee1f347f35161a5d3602e26bcc90e2fda104809bd0d167825042815443", func := "loop.example/g01031/laws.FnExactDug", spec := "fnExactDug", unfollowed := true, recurses := true, apart := false, narrowed := true }
def FnExactDugUptoSaid : Prop := fnExactDugUptoRow.holds Try.pinned (OpenSpec.upto fnExactDugSpec)

/-- 'laws.FnExactCellsToDig', WHERE WHAT IT READS IS OF BULK AT MOST 1048576: true; the input reads as it did. -/
def fnExactCellsToDigUptoRow : OpenClaim := { program := "ytinjjnfkibomnaa", sum := "c2e7a2ee1f347f35161a5d3602e26bcc90e2fda104809bd0d167825042815443", func := "loop.example/g01031/laws.FnExactCellsToDig", spec := "fnExactCellsToDig", unfollowed := true, recurses := true, apart := false, narrowed := true }
def FnExactCellsToDigUptoSaid : Prop := fnExactCellsToDigUptoRow.holds Try.pinned (OpenSpec.upto fnExactCellsToDigSpec)

/-- 'laws.FnPaid', WHERE WHAT IT READS IS OF BULK AT MOST 1048576: true; the input reads as it did. -/
def fnPaidUptoRow : OpenClaim := { program := "ytinjjnfkibomnaa", sum := "c2e7a2ee1f347f35161a5d3602e26bcc90e2fda104809bd0d167825042815443", func := "loop.example/g01031/laws.FnPaid", spec := "fnPaid", unfollowed := true, recurses := true, apart := false, narrowed := true }
def FnPaidUptoSaid : Prop := fnPaidUptoRow.holds Try.pinned (OpenSpec.upto fnPaidSpec)

/-- 'laws.FnDredging', WHERE WHAT IT READS IS OF BULK AT MOST 1048576: true; the input reads as it did. -/
def fnDredgingUptoRow : OpenClaim := { program := "ytinjjnfkibomnaa", sum := "c2e7a2ee1f347f35161a5d3602e26bcc90e2fda104809bd0d167825042815443", func := "loop.example/g01031/laws.FnDredging", spec := "fnDredging", unfollowed := true, recurses := true, apart := false, narrowed := true }
def FnDredgingUptoSaid : Prop := fnDredgingUptoRow.holds Try.pinned (OpenSpec.upto fnDredgingSpec)

end Rows
end Go.Proofs.Ytinjjnfkibomnaa
