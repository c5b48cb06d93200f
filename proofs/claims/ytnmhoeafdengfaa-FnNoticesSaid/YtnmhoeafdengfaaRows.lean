/-
  No cell of these rows narrows 'for every input' (looked for: loops, veiled, ifaces, maps, wideKeys, modest, calm, conditions, laid).
  DERIVED. THE GIVEN ROWS OF THIS SEAT. 10 by the template 'for every input the law returns true; each argument reads behind the call as it read before'; 0 by the template 'total and deterministic' (their statements: YtnmhoeafdengfaaTotals.lean).
  GIVEN WITH THE SEED: the statements are not yours to turn. If you find one false, say at which input.
  Laid BY PROGRAM, IN A SANDBOX (cutbox-rows.mjs): the forced cells as the released guide's own fill.sh prints them over the translation 25f997b16b3945f4… (all of the seat's roots in one cut). By AI agents, Wed Nov 11 2026. No macro, syntax, notation, axiom, sorry.
-/
import Derived.Test.YtnmhoeafdengfaaChecked
import GoSem.Claim
import GoSem.ClaimJoined
import GoSem.ClaimMapViews
import Derived.JoinedTies
import Derived.KernelRfl
namespace Go.Proofs.Ytnmhoeafdengfaa
/- THE CELL 'sum', in the pinned program and in every row, IS THE sha256 OF THE DUMP (.gsa) THAT YtnmhoeafdengfaaProg.lean LOADS. Nothing in Lean hashes anything: it is a label: what it is worth is what the hold of that sum in a sandbox is worth. -/
noncomputable def Try.pinned : Pinned := { name := "ytnmhoeafdengfaa", sum := "25f997b16b3945f4aabe80c5d9697a49b9fbdab56f070f0d70c355e072ea975f", checked := Try.checked }
namespace Rows
def none {H : Type} : Left H := { results := [], args := [] }

/-- 'laws.FnExactIsNotice': WHATEVER THE INPUT: true; the input reads as it did. -/
def fnExactIsNoticeSpec : ChangeSpec := { name := "fnExactIsNotice", fn := fun _ => fun
  | [d] => { results := [.lit (.bool true)], args := [d] }
  | _ => none }
def fnExactIsNoticeRow : OpenClaim := { program := "ytnmhoeafdengfaa", sum := "25f997b16b3945f4aabe80c5d9697a49b9fbdab56f070f0d70c355e072ea975f", func := "loop.example/g01031/laws.FnExactIsNotice", spec := "fnExactIsNotice", apart := false }
def FnExactIsNoticeSaid : Prop := fnExactIsNoticeRow.holds Try.pinned (OpenSpec.ofChange fnExactIsNoticeSpec)

/-- ITS FALSE NEIGHBOUR: 'it returns false'. Refute it at one input. -/
def fnExactIsNoticeWrong : ChangeSpec := { name := "fnExactIsNotice", fn := fun _ => fun
  | [d] => { results := [.lit (.bool false)], args := [d] }
  | _ => none }
def FnExactIsNoticeWrongFalsely : Prop := fnExactIsNoticeRow.holds Try.pinned (OpenSpec.ofChange fnExactIsNoticeWrong)

/-- 'laws.FnExactIsSheet': WHATEVER THE INPUT: true; the input reads as it did. -/
def fnExactIsSheetSpec : ChangeSpec := { name := "fnExactIsSheet", fn := fun _ => fun
  | [d] => { results := [.lit (.bool true)], args := [d] }
  | _ => none }
def fnExactIsSheetRow : OpenClaim := { program := "ytnmhoeafdengfaa", sum := "25f997b16b3945f4aabe80c5d9697a49b9fbdab56f070f0d70c355e072ea975f", func := "loop.example/g01031/laws.FnExactIsSheet", spec := "fnExactIsSheet", apart := false }
def FnExactIsSheetSaid : Prop := fnExactIsSheetRow.holds Try.pinned (OpenSpec.ofChange fnExactIsSheetSpec)

/-- ITS FALSE NEIGHBOUR: 'it returns false'. Refute it at one input. -/
def fnExactIsSheetWrong : ChangeSpec := { name := "fnExactIsSheet", fn := fun _ => fun
  | [d] => { results := [.lit (.bool false)], args := [d] }
  | _ => none }
def FnExactIsSheetWrongFalsely : Prop := fnExactIsSheetRow.holds Try.pinned (OpenSpec.ofChange fnExactIsSheetWrong)

/-- 'laws.FnExactMarkAt': WHATEVER THE INPUT: true; the input reads as it did. -/
def fnExactMarkAtSpec : ChangeSpec := { name := "fnExactMarkAt", fn := fun _ => fun
  | [d1, d2] => { results := [.lit (.bool true)], args := [d1, d2] }
  | _ => none }
def fnExactMarkAtRow : OpenClaim := { program := "ytnmhoeafdengfaa", sum := "25f997b16b3945f4aabe80c5d9697a49b9fbdab56f070f0d70c355e072ea975f", func := "loop.example/g01031/laws.FnExactMarkAt", spec := "fnExactMarkAt", unfollowed := true, recurses := true, apart := false }
def FnExactMarkAtSaid : Prop := fnExactMarkAtRow.holds Try.pinned (OpenSpec.ofChange fnExactMarkAtSpec)

/-- ITS FALSE NEIGHBOUR: 'it returns false'. Refute it at one input. -/
def fnExactMarkAtWrong : ChangeSpec := { name := "fnExactMarkAt", fn := fun _ => fun
  | [d1, d2] => { results := [.lit (.bool false)], args := [d1, d2] }
  | _ => none }
def FnExactMarkAtWrongFalsely : Prop := fnExactMarkAtRow.holds Try.pinned (OpenSpec.ofChange fnExactMarkAtWrong)

/-- 'laws.FnExactWhyNot': WHATEVER THE INPUT: true; the input reads as it did. -/
def fnExactWhyNotSpec : ChangeSpec := { name := "fnExactWhyNot", fn := fun _ => fun
  | [d1, d2] => { results := [.lit (.bool true)], args := [d1, d2] }
  | _ => none }
def fnExactWhyNotRow : OpenClaim := { program := "ytnmhoeafdengfaa", sum := "25f997b16b3945f4aabe80c5d9697a49b9fbdab56f070f0d70c355e072ea975f", func := "loop.example/g01031/laws.FnExactWhyNot", spec := "fnExactWhyNot", unfollowed := true, recurses := true, apart := false }
def FnExactWhyNotSaid : Prop := fnExactWhyNotRow.holds Try.pinned (OpenSpec.ofChange fnExactWhyNotSpec)

/-- ITS FALSE NEIGHBOUR: 'it returns false'. Refute it at one input. -/
def fnExactWhyNotWrong : ChangeSpec := { name := "fnExactWhyNot", fn := fun _ => fun
  | [d1, d2] => { results := [.lit (.bool false)], args := [d1, d2] }
  | _ => none }
def FnExactWhyNotWrongFalsely : Prop := fnExactWhyNotRow.holds Try.pinned (OpenSpec.ofChange fnExactWhyNotWrong)

/-- 'laws.FnExactMissingNumbers': WHATEVER THE INPUT: true; the input reads as it did. -/
def fnExactMissingNumbersSpec : ChangeSpec := { name := "fnExactMissingNumbers", fn := fun _ => fun
  | [d1, d2] => { results := [.lit (.bool true)], args := [d1, d2] }
  | _ => none }
def fnExactMissingNumbersRow : OpenClaim := { program := "ytnmhoeafdengfaa", sum := "25f997b16b3945f4aabe80c5d9697a49b9fbdab56f070f0d70c355e072ea975f", func := "loop.example/g01031/laws.FnExactMissingNumbers", spec := "fnExactMissingNumbers", apart := false }
def FnExactMissingNumbersSaid : Prop := fnExactMissingNumbersRow.holds Try.pinned (OpenSpec.ofChange fnExactMissingNumbersSpec)

/-- ITS FALSE NEIGHBOUR: 'it returns false'. Refute it at one input. -/
def fnExactMissingNumbersWrong : ChangeSpec := { name := "fnExactMissingNumbers", fn := fun _ => fun
  | [d1, d2] => { results := [.lit (.bool false)], args := [d1, d2] }
  | _ => none }
def FnExactMissingNumbersWrongFalsely : Prop := fnExactMissingNumbersRow.holds Try.pinned (OpenSpec.ofChange fnExactMissingNumbersWrong)

/-- 'laws.FnExactUndoOf': WHATEVER THE INPUT: true; the input reads as it did. -/
def fnExactUndoOfSpec : ChangeSpec := { name := "fnExactUndoOf", fn := fun _ => fun
  | [d1, d2] => { results := [.lit (.bool true)], args := [d1, d2] }
  | _ => none }
def fnExactUndoOfRow : OpenClaim := { program := "ytnmhoeafdengfaa", sum := "25f997b16b3945f4aabe80c5d9697a49b9fbdab56f070f0d70c355e072ea975f", func := "loop.example/g01031/laws.FnExactUndoOf", spec := "fnExactUndoOf", unfollowed := true, recurses := true, apart := false }
def FnExactUndoOfSaid : Prop := fnExactUndoOfRow.holds Try.pinned (OpenSpec.ofChange fnExactUndoOfSpec)

/-- ITS FALSE NEIGHBOUR: 'it returns false'. Refute it at one input. -/
def fnExactUndoOfWrong : ChangeSpec := { name := "fnExactUndoOf", fn := fun _ => fun
  | [d1, d2] => { results := [.lit (.bool false)], args := [d1, d2] }
  | _ => none }
def FnExactUndoOfWrongFalsely : Prop := fnExactUndoOfRow.holds Try.pinned (OpenSpec.ofChange fnExactUndoOfWrong)

/-- 'laws.FnExactEnterNotice': WHATEVER THE INPUT: true; the input reads as it did. -/
def fnExactEnterNoticeSpec : ChangeSpec := { name := "fnExactEnterNotice", fn := fun _ => fun
  | [d1, d2] => { results := [.lit (.bool true)], args := [d1, d2] }
  | _ => none }
def fnExactEnterNoticeRow : OpenClaim := { program := "ytnmhoeafdengfaa", sum := "25f997b16b3945f4aabe80c5d9697a49b9fbdab56f070f0d70c355e072ea975f", func := "loop.example/g01031/laws.FnExactEnterNotice", spec := "fnExactEnterNotice", inPlace := ["slices.overlaps[loop.example/g01031/impl.Marked]"], unfollowed := true, recurses := true, apart := false }
def FnExactEnterNoticeSaid : Prop := fnExactEnterNoticeRow.holds Try.pinned (OpenSpec.ofChange fnExactEnterNoticeSpec)

/-- ITS FALSE NEIGHBOUR: 'it returns false'. Refute it at one input. -/
def fnExactEnterNoticeWrong : ChangeSpec := { name := "fnExactEnterNotice", fn := fun _ => fun
  | [d1, d2] => { results := [.lit (.bool false)], args := [d1, d2] }
  | _ => none }
def FnExactEnterNoticeWrongFalsely : Prop := fnExactEnterNoticeRow.holds Try.pinned (OpenSpec.ofChange fnExactEnterNoticeWrong)

/-- 'laws.FnExactEnterAll': WHATEVER THE INPUT: true; the input reads as it did. -/
def fnExactEnterAllSpec : ChangeSpec := { name := "fnExactEnterAll", fn := fun _ => fun
  | [d1, d2] => { results := [.lit (.bool true)], args := [d1, d2] }
  | _ => none }
def fnExactEnterAllRow : OpenClaim := { program := "ytnmhoeafdengfaa", sum := "25f997b16b3945f4aabe80c5d9697a49b9fbdab56f070f0d70c355e072ea975f", func := "loop.example/g01031/laws.FnExactEnterAll", spec := "fnExactEnterAll", inPlace := ["slices.overlaps[loop.example/g01031/impl.Marked]"], unfollowed := true, recurses := true, apart := false }
def FnExactEnterAllSaid : Prop := fnExactEnterAllRow.holds Try.pinned (OpenSpec.ofChange fnExactEnterAllSpec)

/-- ITS FALSE NEIGHBOUR: 'it returns false'. Refute it at one input. -/
def fnExactEnterAllWrong : ChangeSpec := { name := "fnExactEnterAll", fn := fun _ => fun
  | [d1, d2] => { results := [.lit (.bool false)], args := [d1, d2] }
  | _ => none }
def FnExactEnterAllWrongFalsely : Prop := fnExactEnterAllRow.holds Try.pinned (OpenSpec.ofChange fnExactEnterAllWrong)

/-- 'laws.FnNotices': WHATEVER THE INPUT: true; the input reads as it did. -/
def fnNoticesSpec : ChangeSpec := { name := "fnNotices", fn := fun _ => fun
  | [d] => { results := [.lit (.bool true)], args := [d] }
  | _ => none }
def fnNoticesRow : OpenClaim := { program := "ytnmhoeafdengfaa", sum := "25f997b16b3945f4aabe80c5d9697a49b9fbdab56f070f0d70c355e072ea975f", func := "loop.example/g01031/laws.FnNotices", spec := "fnNotices", inPlace := ["slices.overlaps[loop.example/g01031/impl.Marked]"], unfollowed := true, recurses := true, apart := false }
def FnNoticesSaid : Prop := fnNoticesRow.holds Try.pinned (OpenSpec.ofChange fnNoticesSpec)

/-- ITS FALSE NEIGHBOUR: 'it returns false'. Refute it at one input. -/
def fnNoticesWrong : ChangeSpec := { name := "fnNotices", fn := fun _ => fun
  | [d] => { results := [.lit (.bool false)], args := [d] }
  | _ => none }
def FnNoticesWrongFalsely : Prop := fnNoticesRow.holds Try.pinned (OpenSpec.ofChange fnNoticesWrong)

/-- 'laws.FnExactIsLight': WHATEVER THE INPUT: true; the input reads as it did. -/
def fnExactIsLightSpec : ChangeSpec := { name := "fnExactIsLight", fn := fun _ => fun
  | [d] => { results := [.lit (.bool true)], args := [d] }
  | _ => none }
def fnExactIsLightRow : OpenClaim := { program := "ytnmhoeafdengfaa", sum := "25f997b16b3945f4aabe80c5d9697a49b9fbdab56f070f0d70c355e072ea975f", func := "loop.example/g01031/laws.FnExactIsLight", spec := "fnExactIsLight", apart := false }
def FnExactIsLightSaid : Prop := fnExactIsLightRow.holds Try.pinned (OpenSpec.ofChange fnExactIsLightSpec)

/-- ITS FALSE NEIGHBOUR: 'it returns false'. Refute it at one input. -/
def fnExactIsLightWrong : ChangeSpec := { name := "fnExactIsLight", fn := fun _ => fun
  | [d] => { results := [.lit (.bool false)], args := [d] }
  | _ => none }
def FnExactIsLightWrongFalsely : Prop := fnExactIsLightRow.holds Try.pinned (OpenSpec.ofChange fnExactIsLightWrong)

/- THE SECOND FORM. 'bulk': how many values and letters a reading holds, each counted each time it is reached (what is shared counts as often as it is met; a slice's spare places count too). A statement '..UptoSaid' is the law's where the arguments, and the package variables that the reading takes, are together of bulk at most 1048576: NARROWER than '..Said'. Prove '..Said' where nothing that the law and all that it calls make is longer than what came in: it says more and counts as full. Else prove '..UptoSaid'. A law counts once. -/
mutual
def uptoBulk {H : Type} : DataW H → Nat
  | .lit (.string bytes) => bytes.length + 1
  | .lit _ => 1
  | .nil => 1
  | .ptr d => uptoBulk d + 1
  | .slice elems spare => uptoBulkAll elems + uptoBulkAll spare + 1
  | .agg parts => uptoBulkAll parts + 1
  | .iface _ d => uptoBulk d + 1
  | .map entries => uptoBulkEntries entries + 1
  | .held _ => 1
def uptoBulkAll {H : Type} : List (DataW H) → Nat
  | [] => 0
  | d :: r => uptoBulk d + uptoBulkAll r
def uptoBulkEntries {H : Type} : List (Lit × DataW H) → Nat
  | [] => 0
  | x :: r => uptoBulkEntry x + uptoBulkEntries r
def uptoBulkEntry {H : Type} : Lit × DataW H → Nat
  | (.string bytes, d) => bytes.length + uptoBulk d + 1
  | (_, d) => uptoBulk d + 1
 end
def uptoSmall : (H : Type) → List (DataW H) → Bool := fun _ ds => decide (uptoBulkAll ds ≤ 1048576)
def OpenSpec.upto (s : _root_.Go.ChangeSpec) : _root_.Go.OpenSpec := { _root_.Go.OpenSpec.ofChange s with cond := some uptoSmall }

/-- 'laws.FnExactIsNotice', WHERE WHAT IT READS IS OF BULK AT MOST 1048576: true; the input reads as it did. -/
def fnExactIsNoticeUptoRow : OpenClaim := { program := "ytnmhoeafdengfaa", sum := "25f997b16b3945f4aabe80c5d9697a49b9fbdab56f070f0d70c355e072ea975f", func := "loop.example/g01031/laws.FnExactIsNotice", spec := "fnExactIsNotice", apart := false, narrowed := true }
def FnExactIsNoticeUptoSaid : Prop := fnExactIsNoticeUptoRow.holds Try.pinned (OpenSpec.upto fnExactIsNoticeSpec)

/-- 'laws.FnExactIsSheet', WHERE WHAT IT READS IS OF BULK AT MOST 1048576: true; the input reads as it did. -/
def fnExactIsSheetUptoRow : OpenClaim := { program := "ytnmhoeafdengfaa", sum := "25f997b16b3945f4aabe80c5d9697a49b9fbdab56f070f0d70c355e072ea975f", func := "loop.example/g01031/laws.FnExactIsSheet", spec := "fnExactIsSheet", apart := false, narrowed := true }
def FnExactIsSheetUptoSaid : Prop := fnExactIsSheetUptoRow.holds Try.pinned (OpenSpec.upto fnExactIsSheetSpec)

/-- 'laws.FnExactMarkAt', WHERE WHAT IT READS IS OF BULK AT MOST 1048576: true; the input reads as it did. -/
def fnExactMarkAtUptoRow : OpenClaim := { program := "ytnmhoeafdengfaa", sum := "25f997b16b3945f4aabe80c5d9697a49b9fbdab56f070f0d70c355e072ea975f", func := "loop.example/g01031/laws.FnExactMarkAt", spec := "fnExactMarkAt", unfollowed := true, recurses := true, apart := false, narrowed := true }
def FnExactMarkAtUptoSaid : Prop := fnExactMarkAtUptoRow.holds Try.pinned (OpenSpec.upto fnExactMarkAtSpec)

/-- 'laws.FnExactWhyNot', WHERE WHAT IT READS IS OF BULK AT MOST 1048576: true; the input reads as it did. -/
def fnExactWhyNotUptoRow : OpenClaim := { program := "ytnmhoeafdengfaa", sum := "25f997b16b3945f4aabe80c5d9697a49b9fbdab56f070f0d70c355e072ea975f", func := "loop.example/g01031/laws.FnExactWhyNot", spec := "fnExactWhyNot", unfollowed := true, recurses := true, apart := false, narrowed := true }
def FnExactWhyNotUptoSaid : Prop := fnExactWhyNotUptoRow.holds Try.pinned (OpenSpec.upto fnExactWhyNotSpec)

/-- 'laws.FnExactMissingNumbers', WHERE WHAT IT READS IS OF BULK AT MOST 1048576: true; the input reads as it did. -/
def fnExactMissingNumbersUptoRow : OpenClaim := { program := "ytnmhoeafdengfaa", sum := "25f997b16b3945f4aabe80c5d9697a49b9fbdab56f070f0d70c355e072ea975f", func := "loop.example/g01031/laws.FnExactMissingNumbers", spec := "fnExactMissingNumbers", apart := false, narrowed := true }
def FnExactMissingNumbersUptoSaid : Prop := fnExactMissingNumbersUptoRow.holds Try.pinned (OpenSpec.upto fnExactMissingNumbersSpec)

/-- 'laws.FnExactUndoOf', WHERE WHAT IT READS IS OF BULK AT MOST 1048576: true; the input reads as it did. -/
def fnExactUndoOfUptoRow : OpenClaim := { program := "ytnmhoeafdengfaa", sum := "25f997b16b3945f4aabe80c5d9697a49b9fbdab56f070f0d70c355e072ea975f", func := "loop.example/g01031/laws.FnExactUndoOf", spec := "fnExactUndoOf", unfollowed := true, recurses := true, apart := false, narrowed := true }
def FnExactUndoOfUptoSaid : Prop := fnExactUndoOfUptoRow.holds Try.pinned (OpenSpec.upto fnExactUndoOfSpec)

/-- 'laws.FnExactEnterNotice', WHERE WHAT IT READS IS OF BULK AT MOST 1048576: true; the input reads as it did. -/
def fnExactEnterNoticeUptoRow : OpenClaim := { program := "ytnmhoeafdengfaa", sum := "25f997b16b3945f4aabe80c5d9697a49b9fbdab56f070f0d70c355e072ea975f", func := "loop.example/g01031/laws.FnExactEnterNotice", spec := "fnExactEnterNotice", inPlace := ["slices.overlaps[loop.example/g01031/impl.Marked]"], unfollowed := true, recurses := true, apart := false, narrowed := true }
def FnExactEnterNoticeUptoSaid : Prop := fnExactEnterNoticeUptoRow.holds Try.pinned (OpenSpec.upto fnExactEnterNoticeSpec)

/-- 'laws.FnExactEnterAll', WHERE WHAT IT READS IS OF BULK AT MOST 1048576: true; the input reads as it did. -/
def fnExactEnterAllUptoRow : OpenClaim := { program := "ytnmhoeafdengfaa", sum := "25f997b16b3945f4aabe80c5d9697a49b9fbdab56f070f0d70c355e072ea975f", func := "loop.example/g01031/laws.FnExactEnterAll", spec := "fnExactEnterAll", inPlace := ["slices.overlaps[loop.example/g01031/impl.Marked]"], unfollowed := true, recurses := true, apart := false, narrowed := true }
def FnExactEnterAllUptoSaid : Prop := fnExactEnterAllUptoRow.holds Try.pinned (OpenSpec.upto fnExactEnterAllSpec)

/-- 'laws.FnNotices', WHERE WHAT IT READS IS OF BULK AT MOST 1048576: true; the input reads as it did. -/
def fnNoticesUptoRow : OpenClaim := { program := "ytnmhoeafdengfaa", sum := "25f997b16b3945f4aabe80c5d9697a49b9fbdab56f070f0d70c355e072ea975f", func := "loop.example/g01031/laws.FnNotices", spec := "fnNotices", inPlace := ["slices.overlaps[loop.example/g01031/impl.Marked]"], unfollowed := true, recurses := true, apart := false, narrowed := true }
def FnNoticesUptoSaid : Prop := fnNoticesUptoRow.holds Try.pinned (OpenSpec.upto fnNoticesSpec)

/-- 'laws.FnExactIsLight', WHERE WHAT IT READS IS OF BULK AT MOST 1048576: true; the input reads as it did. -/
def fnExactIsLightUptoRow : OpenClaim := { program := "ytnmhoeafdengfaa", sum := "25f997b16b3945f4aabe80c5d9697a49b9fbdab56f070f0d70c355e072ea975f", func := "loop.example/g01031/laws.FnExactIsLight", spec := "fnExactIsLight", apart := false, narrowed := true }
def FnExactIsLightUptoSaid : Prop := fnExactIsLightUptoRow.holds Try.pinned (OpenSpec.upto fnExactIsLightSpec)

end Rows
end Go.Proofs.Ytnmhoeafdengfaa
