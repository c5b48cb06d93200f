/- slices.Delete of one element at []Marked: what it computes. No condition beyond sizes. -/
import Derived.Test.YtnmhoeafdengfaaDoorRoom
import Derived.Test.YtnmhoeafdengfaaDoorMarked
namespace Go.Proofs.YtnmhoeafdengfaaDoor
open Go.RowKit
attribute [local irreducible] X WL WQ WH WO At Q1 QC Rd RV Sub SlR SlB Calls Addr.add adOf
theorem del_flat (l : List Marked) {i : Nat} (hi : i < l.length) {Z : List Value} (hZ : Z.length = 4) : setAt (setAt (flat l) (i * 4) (flat (l.drop (i + 1)))) ((i + (l.length - (i + 1))) * 4) Z = flat (l.take i ++ l.drop (i + 1)) ++ Z := by
  have h1 := length_flat_take l (i := i) (by omega)
  have h2 := length_flat_drop l (i + 1)
  have h3 := length_flat_drop l i
  simp only [Enc.size] at h1 h2 h3
  have e0 : flat l = flat (l.take i) ++ (flat (l.drop i)).take ((l.length - (i + 1)) * 4) ++ (flat (l.drop i)).drop ((l.length - (i + 1)) * 4) := by rw [List.append_assoc, List.take_append_drop]; exact flat_parts l i
  have e1 : setAt (flat l) (i * 4) (flat (l.drop (i + 1))) = flat (l.take i) ++ flat (l.drop (i + 1)) ++ (flat (l.drop i)).drop ((l.length - (i + 1)) * 4) := by
    conv => lhs; rw [e0, ← h1]
    exact setAt_mid _ _ _ _ (by rw [List.length_take, h2, h3]; omega)
  rw [e1, show (i + (l.length - (i + 1))) * 4 = (flat (l.take i) ++ flat (l.drop (i + 1))).length by rw [List.length_append, h1, h2]; omega]
  have e2 := setAt_mid (flat (l.take i) ++ flat (l.drop (i + 1))) ((flat (l.drop i)).drop ((l.length - (i + 1)) * 4)) [] Z (by rw [List.length_drop, h3, hZ]; omega)
  rw [List.append_nil, List.append_nil] at e2
  rw [e2, flat_append]
theorem zero4 (z : Value) (h : z.cells = [Value.int .i64 0, .int .i64 0, .int .i64 0, .int .i64 0].toArray) : (Builtin.zeroCells z.cells 1).toList = [Value.int .i64 0, .int .i64 0, .int .i64 0, .int .i64 0] := by rw [h]; kernel_rfl
end Go.Proofs.YtnmhoeafdengfaaDoor
