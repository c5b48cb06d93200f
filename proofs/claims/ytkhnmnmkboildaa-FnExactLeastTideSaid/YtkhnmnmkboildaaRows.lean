/-
  No cell of these rows narrows 'for every input' (looked for: loops, veiled, ifaces, maps, wideKeys, modest, calm, conditions, laid).
  DERIVED. THE GIVEN ROWS OF THIS SEAT. 3 by the template 'for every input the law returns true; each argument reads behind the call as it read before'; 0 by the template 'total and deterministic' (their statements: YtkhnmnmkboildaaTotals.lean).
  GIVEN WITH THE SEED: the statements are not yours to turn. If you find one false, say at which input.
  Laid BY PROGRAM, IN A SANDBOX (cutbox-rows.mjs): the forced cells as the released guide's own fill.sh prints them over the translation 3060209c1854b09d… (all of the seat's roots in one cut). By AI agents, Wed Nov 11 2026. No macro, syntax, notation, axiom, sorry.
-/
import Derived.Test.YtkhnmnmkboildaaChecked
import GoSem.Claim
import GoSem.ClaimJoined
import GoSem.ClaimMapViews
import Derived.JoinedTies
import Derived.KernelRfl
namespace Go.Proofs.Ytkhnmnmkboildaa
/- THE CELL 'sum', in the pinned program and in every row, IS THE sha256 OF THE DUMP (.gsa) THAT YtkhnmnmkboildaaProg.lean LOADS. Nothing in Lean hashes anything: it is a label: what it is worth is what the hold of that sum in a sandbox is worth. -/
noncomputable def Try.pinned : Pinned := { name := "ytkhnmnmkboildaa", sum := "3060209c1854b09dbcff5a47769b08c4647bcb5ad84666e50c64caa2c3d3dc2d", checked := Try.checked }
namespace Rows
def none {H : Type} : Left H := { results := [], args := [] }

/-- 'laws.FnExactIsDredge': WHATEVER THE INPUT: true; the input reads as it did. -/
def fnExactIsDredgeSpec : ChangeSpec := { name := "fnExactIsDredge", fn := fun _ => fun
  | [d] => { results := [.lit (.bool true)], args := [d] }
  | _ => none }
def fnExactIsDredgeRow : OpenClaim := { program := "ytkhnmnmkboildaa", sum := "3060209c1854b09dbcff5a47769b08c4647bcb5ad84666e50c64caa2c3d3dc2d", func := "loop.example/g01031/laws.FnExactIsDredge", spec := "fnExactIsDredge", apart := false }
def FnExactIsDredgeSaid : Prop := fnExactIsDredgeRow.holds Try.pinned (OpenSpec.ofChange fnExactIsDredgeSpec)

/-- ITS FALSE NEIGHBOUR: 'it returns false'. Refute it at one input. -/
def fnExactIsDredgeWrong : ChangeSpec := { name := "fnExactIsDredge", fn := fun _ => fun
  | [d] => { results := [.lit (.bool false)], args := [d] }
  | _ => none }
def FnExactIsDredgeWrongFalsely : Prop := fnExactIsDredgeRow.holds Try.pinned (OpenSpec.ofChange fnExactIsDredgeWrong)

/-- 'laws.FnExactLeastTide': WHATEVER THE INPUT: true; the input reads as it did. -/
def fnExactLeastTideSpec : ChangeSpec := { name := "fnExactLeastTide", fn := fun _ => fun
  | [d1, d2, d3] => { results := [.lit (.bool true)], args := [d1, d2, d3] }
  | _ => none }
def fnExactLeastTideRow : OpenClaim := { program := "ytkhnmnmkboildaa", sum := "3060209c1854b09dbcff5a47769b08c4647bcb5ad84666e50c64caa2c3d3dc2d", func := "loop.example/g01031/laws.FnExactLeastTide", spec := "fnExactLeastTide", apart := false }
def FnExactLeastTideSaid : Prop := fnExactLeastTideRow.holds Try.pinned (OpenSpec.ofChange fnExactLeastTideSpec)

/-- ITS FALSE NEIGHBOUR: 'it returns false'. Refute it at one input. -/
def fnExactLeastTideWrong : ChangeSpec := { name := "fnExactLeastTide", fn := fun _ => fun
  | [d1, d2, d3] => { results := [.lit (.bool false)], args := [d1, d2, d3] }
  | _ => none }
def FnExactLeastTideWrongFalsely : Prop := fnExactLeastTideRow.holds Try.pinned (OpenSpec.ofChange fnExactLeastTideWrong)

/-- 'laws.FnExactAreQuays': WHATEVER THE INPUT: true; the input reads as it did. -/
def fnExactAreQuaysSpec : ChangeSpec := { name := "fnExactAreQuays", fn := fun _ => fun
  | [d] => { results := [.lit (.bool true)], args := [d] }
  | _ => none }
def fnExactAreQuaysRow : OpenClaim := { program := "ytkhnmnmkboildaa", sum := "3060209c1854b09dbcff5a47769b08c4647bcb5ad84666e50c64caa2c3d3dc2d", func := "loop.example/g01031/laws.FnExactAreQuays", spec := "fnExactAreQuays", apart := false }
def FnExactAreQuaysSaid : Prop := fnExactAreQuaysRow.holds Try.pinned (OpenSpec.ofChange fnExactAreQuaysSpec)

/-- ITS FALSE NEIGHBOUR: 'it returns false'. Refute it at one input. -/
def fnExactAreQuaysWrong : ChangeSpec := { name := "fnExactAreQuays", fn := fun _ => fun
  | [d] => { results := [.lit (.bool false)], args := [d] }
  | _ => none }
def FnExactAreQuaysWrongFalsely : Prop := fnExactAreQuaysRow.holds Try.pinned (OpenSpec.ofChange fnExactAreQuaysWrong)

/- THE SECOND FORM. 'bulk': how many values and letters a reading holds, each counted each time it is reached (what is shared counts as often as it is met; a slice's spare places count too). A statement '..UptoSaid' is the law's where the arguments, and the package variables that the reading takes, are together of bulk at most 1048576: NARROWER than '..Said'. Prove '..Said' where nothing that the law and all that it calls make is longer than what came in: it says more and counts as full. Else prove '..UptoSaid'. A law counts once. -/
mutual
def uptoBulk {H : Type} : DataW H → Nat
  | .lit (.string bytes) => bytes.length + 1
  | .lit _ => 1
  | .nil => 1
  | .ptr d => uptoBulk d + 1
  | .slice elems spare => uptoBulkAll elems + uptoBulkAll spare + 1
  | .agg parts => uptoBulkAll parts + 1
  | .iface _ d => uptoBulk d + 1
  | .map entries => uptoBulkEntries entries + 1
  | .held _ => 1
def uptoBulkAll {H : Type} : List (DataW H) → Nat
  | [] => 0
  | d :: r => uptoBulk d + uptoBulkAll r
def uptoBulkEntries {H : Type} : List (Lit × DataW H) → Nat
  | [] => 0
  | x :: r => uptoBulkEntry x + uptoBulkEntries r
def uptoBulkEntry {H : Type} : Lit × DataW H → Nat
  | (.string bytes, d) => bytes.length + uptoBulk d + 1
  | (_, d) => uptoBulk d + 1
 end
def uptoSmall : (H : Type) → List (DataW H) → Bool := fun _ ds => decide (uptoBulkAll ds ≤ 1048576)
def OpenSpec.upto (s : _root_.Go.ChangeSpec) : _root_.Go.OpenSpec := { _root_.Go.OpenSpec.ofChange s with cond := some uptoSmall }

/-- 'laws.FnExactIsDredge', WHERE WHAT IT READS IS OF BULK AT MOST 1048576: true; the input reads as it did. -/
def fnExactIsDredgeUptoRow : OpenClaim := { program := "ytkhnmnmkboildaa", sum := "3060209c1854b09dbcff5a47769b08c4647bcb5ad84666e50c64caa2c3d3dc2d", func := "loop.example/g01031/laws.FnExactIsDredge", spec := "fnExactIsDredge", apart := false, narrowed := true }
def FnExactIsDredgeUptoSaid : Prop := fnExactIsDredgeUptoRow.holds Try.pinned (OpenSpec.upto fnExactIsDredgeSpec)

/-- 'laws.FnExactLeastTide', WHERE WHAT IT READS IS OF BULK AT MOST 1048576: true; the input reads as it did. -/
def fnExactLeastTideUptoRow : OpenClaim := { program := "ytkhnmnmkboildaa", sum := "3060209c1854b09dbcff5a47769b08c4647bcb5ad84666e50c64caa2c3d3dc2d", func := "loop.example/g01031/laws.FnExactLeastTide", spec := "fnExactLeastTide", apart := false, narrowed := true }
def FnExactLeastTideUptoSaid : Prop := fnExactLeastTideUptoRow.holds Try.pinned (OpenSpec.upto fnExactLeastTideSpec)

/-- 'laws.FnExactAreQuays', WHERE WHAT IT READS IS OF BULK AT MOST 1048576: true; the input reads as it did. -/
def fnExactAreQuaysUptoRow : OpenClaim := { program := "ytkhnmnmkboildaa", sum := "3060209c1854b09dbcff5a47769b08c4647bcb5ad84666e50c64caa2c3d3dc2d", func := "loop.example/g01031/laws.FnExactAreQuays", spec := "fnExactAreQuays", apart := false, narrowed := true }
def FnExactAreQuaysUptoSaid : Prop := fnExactAreQuaysUptoRow.holds Try.pinned (OpenSpec.upto fnExactAreQuaysSpec)

end Rows
end Go.Proofs.Ytkhnmnmkboildaa
