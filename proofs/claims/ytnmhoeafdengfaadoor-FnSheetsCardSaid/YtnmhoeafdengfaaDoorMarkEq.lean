/- Equality of marked things; the laws' comparisons of lists of them and of sheets that are the same. No condition beyond sizes. -/
import Derived.Test.YtnmhoeafdengfaaDoorShtB
import Derived.Laws.StructEq
namespace Go.Proofs.YtnmhoeafdengfaaDoor
open Go.RowKit
section
variable {P : Program} {cx : Cx} {hp : List Res} {fr : Fr} {d : Option Tmp} {ty t t' : TypeId} {ps : String} {af : Array Edge} {g : Option (Nat × Bool)} {x y : Operand}
theorem Q1.eqlI_same {k : IntKind} {p : Int} (h1 : ev fr x = some (.int k p)) (h2 : ev fr y = some (.int k p)) : Q1 P cx hp fr ⟨d, .binOp .eql t x y t', ty, ps, af, g⟩ (.bool true) := (Q1.eqlI h1 h2).to (by simp)
/-- A struct type of a number, a pair of numbers, a number. -/
class TMark (P : Program) (t : TypeId) (e s : outParam TypeId) : Prop where
  under : P.underlying t = some (.struct (P.fieldsOf t))
  three : (P.fieldsOf t).toList.map (fun f => (f.name == "_", f.type, f.offset)) = [(false, e, 0), (false, s, 1), (false, e, 3)]
  int : P.underlying e = some (.int .i64)
  stood : P.stoodInHeld t = false
  guard : P.eqGuardType P.depth t = false
  size : (P.info? s).map (·.size) = some 2
theorem eqP_same {s e : TypeId} [hT : TPair P s e] (k : Nat) (a b : Int) (w : World) : (Op.equalIn (k + 2) s (.agg #[Value.int .i64 a, Value.int .i64 b]) (.agg #[Value.int .i64 a, Value.int .i64 b])).run P w = .ok true w := by
  have hm := hT.two
  rw [run_equalIn_agg w (k + 1) s _ _ hT.under hT.stood]
  have p1 : ∀ w, (part e #[Value.int .i64 a, Value.int .i64 b] 0).run P w = .ok (.int .i64 a) w := fun w => part_int hT.int rfl w
  have p2 : ∀ w, (part e #[Value.int .i64 a, Value.int .i64 b] 1).run P w = .ok (.int .i64 b) w := fun w => part_int hT.int rfl w
  have q1 : ∀ w (a p : Int), (Op.equalIn (k + 1) e (.int .i64 a) (.int .i64 p)).run P w = .ok (a == p) w := fun w a p => run_equalIn_int w k _ _ _ _ _ hT.int
  rcases hl : (P.fieldsOf s).toList with _ | ⟨f1, _ | ⟨f2, _ | ⟨f3, r⟩⟩⟩
  · rw [hl] at hm; cases hm
  · rw [hl] at hm; simp at hm
  · rw [hl] at hm
    simp only [List.map_cons, List.map_nil, List.cons.injEq, Prod.mk.injEq, and_true] at hm
    obtain ⟨⟨n1, t1, o1⟩, n2, t2, o2⟩ := hm
    have m1 : f1.name ≠ "_" := by intro h; rw [h] at n1; simp at n1
    have m2 : f2.name ≠ "_" := by intro h; rw [h] at n2; simp at n2
    simp only [Op.eqFields, if_pos m1, if_pos m2, t1, o1, t2, o2, Sem.run_bind, p1, p2, q1, Result.andThen_ok]
    simp [p2, q1]
  · rw [hl] at hm; simp at hm
theorem Q1.neqM_same {e s : TypeId} [hT : TMark P t e s] [hS : TPair P s e] {i a b z : Int} (h1 : ev fr x = some (.agg #[.int .i64 i, .int .i64 a, .int .i64 b, .int .i64 z])) (h2 : ev fr y = some (.agg #[.int .i64 i, .int .i64 a, .int .i64 b, .int .i64 z])) : Q1 P cx hp fr ⟨d, .binOp .neq t x y t', ty, ps, af, g⟩ (.bool false) := Q1.mk fun n ac w hf hs => by
  have hm := hT.three
  have hZ : TSize P s 2 := ⟨hT.size⟩
  simp only [execOp, hf.ev h1, hf.ev h2, Sem.run_bind, run_eqGuard_agg _ _ _ _ _ _ _ hT.guard, Result.andThen_ok, run_neq_struct]
  have p1 : ∀ w, (part e #[Value.int .i64 i, Value.int .i64 a, Value.int .i64 b, Value.int .i64 z] 0).run P w = .ok (.int .i64 i) w := fun w => part_int hT.int rfl w
  have p2 : ∀ w, (part s #[Value.int .i64 i, Value.int .i64 a, Value.int .i64 b, Value.int .i64 z] 1).run P w = .ok (.agg #[.int .i64 a, .int .i64 b]) w := fun w => by
    simp [part, isAgg, run_underlying hS.under, run_sizeOf (hT := hZ)]
  have p3 : ∀ w, (part e #[Value.int .i64 i, Value.int .i64 a, Value.int .i64 b, Value.int .i64 z] 3).run P w = .ok (.int .i64 z) w := fun w => part_int hT.int rfl w
  have q1 : ∀ w (a p : Int), (Op.equalIn 9999 e (.int .i64 a) (.int .i64 p)).run P w = .ok (a == p) w := fun w a p => run_equalIn_int w 9998 _ _ _ _ _ hT.int
  have q2 : ∀ w, (Op.equalIn 9999 s (.agg #[Value.int .i64 a, Value.int .i64 b]) (.agg #[Value.int .i64 a, Value.int .i64 b])).run P w = .ok true w := fun w => eqP_same 9997 a b w
  have key : ∀ w, (Op.equalIn 10000 t (.agg #[Value.int .i64 i, Value.int .i64 a, Value.int .i64 b, Value.int .i64 z]) (.agg #[Value.int .i64 i, Value.int .i64 a, Value.int .i64 b, Value.int .i64 z])).run P w = .ok true w := fun w => by
    rw [show (10000 : Nat) = 9999 + 1 from rfl, run_equalIn_agg w 9999 t _ _ hT.under hT.stood]
    rcases hl : (P.fieldsOf t).toList with _ | ⟨f1, _ | ⟨f2, _ | ⟨f3, _ | ⟨f4, r⟩⟩⟩⟩
    · rw [hl] at hm; cases hm
    · rw [hl] at hm; simp at hm
    · rw [hl] at hm; simp at hm
    · rw [hl] at hm
      simp only [List.map_cons, List.map_nil, List.cons.injEq, Prod.mk.injEq, and_true] at hm
      obtain ⟨⟨n1, t1, o1⟩, ⟨n2, t2, o2⟩, n3, t3, o3⟩ := hm
      have m1 : f1.name ≠ "_" := by intro h; rw [h] at n1; simp at n1
      have m2 : f2.name ≠ "_" := by intro h; rw [h] at n2; simp at n2
      have m3 : f3.name ≠ "_" := by intro h; rw [h] at n3; simp at n3
      simp only [Op.eqFields, if_pos m1, if_pos m2, if_pos m3, t1, o1, t2, o2, t3, o3, Sem.run_bind, p1, p2, p3, q1, q2, Result.andThen_ok]
      simp [p1, p2, p3, q1, q2]
    · rw [hl] at hm; simp at hm
  rw [key]
  rfl
end
attribute [local irreducible] X WL WQ WH WO At Q1 QC Rd RV Sub SlR SlB Calls Addr.add adOf
end Go.Proofs.YtnmhoeafdengfaaDoor
