/- The notice that undoes a notice: what the program and the reference compute. -/
import Derived.Test.YtnmhoeafdengfaaDoorShtB
import Derived.Test.YtnmhoeafdengfaaDoorHeld
import Derived.Test.YtnmhoeafdengfaaDoorMems
namespace Go.Proofs.YtnmhoeafdengfaaDoor
open Go.RowKit
attribute [local irreducible] X WL WQ WH WO At Q1 QC Rd RV Sub SlR SlB Calls Addr.add adOf
/-- The notice can be entered. -/
noncomputable def whyB (l : List Marked) (t : Int) (n : Notice) : Bool := match whyOf l t n with
  | .string s => s.toList == (ByteArray.mk #[111, 107]).toList
  | _ => false
theorem whyB_ok {l : List Marked} {t : Int} {n : Notice} (h : whyB l t n = true) : n.number = t + 1 ∧ (n.kind = 1 → markAt l n.mark < 0) ∧ (n.kind ≠ 1 → 0 ≤ markAt l n.mark ∧ (l.getD (markAt l n.mark).toNat Marked.zero).depth = n.old) := by
  unfold whyB whyOf at h
  by_cases c1 : n.number ≠ t + 1
  · rw [if_pos c1] at h; simp only [ByteArray.toList_eq] at h; exact absurd h (by decide)
  rw [if_neg c1] at h
  by_cases c2 : n.kind = 1 ∧ 0 ≤ markAt l n.mark
  · rw [if_pos c2] at h; simp only [ByteArray.toList_eq] at h; exact absurd h (by decide)
  rw [if_neg c2] at h
  by_cases c3 : n.kind ≠ 1 ∧ markAt l n.mark < 0
  · rw [if_pos c3] at h; simp only [ByteArray.toList_eq] at h; exact absurd h (by decide)
  rw [if_neg c3] at h
  by_cases c4 : n.kind ≠ 1 ∧ (l.getD (markAt l n.mark).toNat Marked.zero).depth ≠ n.old
  · rw [if_pos c4] at h; simp only [ByteArray.toList_eq] at h; exact absurd h (by decide)
  refine ⟨by omega, fun h1 => by omega, fun h1 => ⟨by omega, ?_⟩⟩
  exact Classical.byContradiction fun e => c4 ⟨h1, e⟩
theorem l21Good_b (A : Option Addr) (d : Nat) (l : List Marked) (t : Int) (b : Bool) (w : World) (e : dec (SheetOk l t) = b) (Ha : SlB w A l) (hl : l.length ≤ 1048576) : Calls Tryd.prog 22 #[.agg #[.slice A l.length d, .int .i64 t]] w (Ret w (.bool b)) := e ▸ l21Good_any A d l t w Ha hl
theorem implSheet_b (A : Option Addr) (d : Nat) (l : List Marked) (t : Int) (b : Bool) (w : World) (e : dec (SheetOk l t) = b) (Ha : SlB w A l) (hl : l.length ≤ 1048576) : Calls Tryd.prog 20 #[.agg #[.slice A l.length d, .int .i64 t]] w (Ret w (.bool b)) := e ▸ implSheet_any A d l t w Ha hl
theorem l21Notice_b (n : Notice) (b : Bool) (w : World) (e : dec n.ok = b) : Calls Tryd.prog 56 #[.agg (Enc.cells n).toArray] w (Ret w (.bool b)) := e ▸ l21Notice_any n w
theorem l21Why_b (A : Option Addr) (d : Nat) (l : List Marked) (t : Int) (n : Notice) (s : ByteArray) (w : World) (e : whyOf l t n = .string s) (Ha : SlB w A l) (hl : l.length ≤ 1048576) (ht : 0 ≤ t ∧ t ≤ 999) : Calls Tryd.prog 57 #[.agg #[.slice A l.length d, .int .i64 t], .agg (Enc.cells n).toArray] w (Ret w (.string s)) := e ▸ l21Why_any A d l t n w Ha hl ht
theorem whyB_eq {l : List Marked} {t : Int} {n : Notice} {s : ByteArray} (e : whyOf l t n = .string s) : whyB l t n = (s.toList == (ByteArray.mk #[111, 107]).toList) := by unfold whyB; rw [e]
theorem whyOf_ex (l : List Marked) (t : Int) (n : Notice) : ∃ s : ByteArray, whyOf l t n = .string s := by
  unfold whyOf
  repeat' split
  all_goals exact ⟨_, rfl⟩
section
variable {P : Program} {cx : Cx} {hp : List Res} {fr : Fr} {d : Option Tmp} {ty t t' : TypeId} {ps : String} {af : Array Edge} {g : Option (Nat × Bool)} {x y : Operand}
theorem Q1.eqlS_b {a b : ByteArray} {r : Bool} (h1 : ev fr x = some (.string a)) (h2 : ev fr y = some (.string b)) (e : (a.toList == b.toList) = r) : Q1 P cx hp fr ⟨d, .binOp .eql t x y t', ty, ps, af, g⟩ (.bool r) := (Q1.eqlS h1 h2).to (by rw [e])
theorem Q1.neqS_b {a b : ByteArray} {r : Bool} (h1 : ev fr x = some (.string a)) (h2 : ev fr y = some (.string b)) (e : (a.toList == b.toList) = r) : Q1 P cx hp fr ⟨d, .binOp .neq t x y t', ty, ps, af, g⟩ (.bool (!r)) := (Q1.neqS h1 h2).to (by rw [e])
end
def CanEnter (l : List Marked) (t : Int) (n : Notice) : Prop := SheetOk l t ∧ n.ok ∧ whyB l t n = true
def UndoOk (l : List Marked) (t : Int) (n : Notice) : Prop := CanEnter l t n ∧ n.number ≠ 999
/-- The notice that undoes. -/
noncomputable def undoN (l : List Marked) (n : Notice) : Notice := by
  classical exact
    let m := l.getD (markAt l n.mark).toNat Marked.zero
    if n.kind = 1 then ⟨n.number + 1, 2, n.mark, n.depth, 0, 0, 0⟩
    else if n.kind = 2 then ⟨n.number + 1, 1, n.mark, 0, m.depth, m.x, m.y⟩
    else if n.kind = 3 then ⟨n.number + 1, 3, n.mark, n.depth, n.old, 0, 0⟩
    else ⟨n.number + 1, 4, n.mark, n.old, 0, m.x, m.y⟩
end Go.Proofs.YtnmhoeafdengfaaDoor
