/- Equality of notices that are the same. No condition. -/
import Derived.Test.YtnmhoeafdengfaaMarkEq
namespace Go.Proofs.Ytnmhoeafdengfaa
open Go.RowKit
section
variable {P : Program} {cx : Cx} {hp : List Res} {fr : Fr} {d : Option Tmp} {ty t t' : TypeId} {ps : String} {af : Array Edge} {g : Option (Nat × Bool)} {x y : Operand}
/-- A struct type of five numbers and a pair of numbers. -/
class TNote (P : Program) (t : TypeId) (e s : outParam TypeId) : Prop where
  under : P.underlying t = some (.struct (P.fieldsOf t))
  six : (P.fieldsOf t).toList.map (fun f => (f.name == "_", f.type, f.offset)) = [(false, e, 0), (false, e, 1), (false, e, 2), (false, e, 3), (false, e, 4), (false, s, 5)]
  int : P.underlying e = some (.int .i64)
  stood : P.stoodInHeld t = false
  guard : P.eqGuardType P.depth t = false
  size : (P.info? s).map (·.size) = some 2
theorem Q1.neqN_same {e s : TypeId} [hT : TNote P t e s] [hS : TPair P s e] {a b c d_ e_ p q : Int} (h1 : ev fr x = some (.agg #[.int .i64 a, .int .i64 b, .int .i64 c, .int .i64 d_, .int .i64 e_, .int .i64 p, .int .i64 q])) (h2 : ev fr y = some (.agg #[.int .i64 a, .int .i64 b, .int .i64 c, .int .i64 d_, .int .i64 e_, .int .i64 p, .int .i64 q])) : Q1 P cx hp fr ⟨d, .binOp .neq t x y t', ty, ps, af, g⟩ (.bool false) := Q1.mk fun n ac w hf hs => by
  have hm := hT.six
  have hZ : TSize P s 2 := ⟨hT.size⟩
  simp only [execOp, hf.ev h1, hf.ev h2, Sem.run_bind, run_eqGuard_agg _ _ _ _ _ _ _ hT.guard, Result.andThen_ok, run_neq_struct]
  have p0 : ∀ w, (part e #[Value.int .i64 a, Value.int .i64 b, Value.int .i64 c, Value.int .i64 d_, Value.int .i64 e_, Value.int .i64 p, Value.int .i64 q] 0).run P w = .ok (.int .i64 a) w := fun w => part_int hT.int rfl w
  have p1 : ∀ w, (part e #[Value.int .i64 a, Value.int .i64 b, Value.int .i64 c, Value.int .i64 d_, Value.int .i64 e_, Value.int .i64 p, Value.int .i64 q] 1).run P w = .ok (.int .i64 b) w := fun w => part_int hT.int rfl w
  have p2 : ∀ w, (part e #[Value.int .i64 a, Value.int .i64 b, Value.int .i64 c, Value.int .i64 d_, Value.int .i64 e_, Value.int .i64 p, Value.int .i64 q] 2).run P w = .ok (.int .i64 c) w := fun w => part_int hT.int rfl w
  have p3 : ∀ w, (part e #[Value.int .i64 a, Value.int .i64 b, Value.int .i64 c, Value.int .i64 d_, Value.int .i64 e_, Value.int .i64 p, Value.int .i64 q] 3).run P w = .ok (.int .i64 d_) w := fun w => part_int hT.int rfl w
  have p4 : ∀ w, (part e #[Value.int .i64 a, Value.int .i64 b, Value.int .i64 c, Value.int .i64 d_, Value.int .i64 e_, Value.int .i64 p, Value.int .i64 q] 4).run P w = .ok (.int .i64 e_) w := fun w => part_int hT.int rfl w
  have p5 : ∀ w, (part s #[Value.int .i64 a, Value.int .i64 b, Value.int .i64 c, Value.int .i64 d_, Value.int .i64 e_, Value.int .i64 p, Value.int .i64 q] 5).run P w = .ok (.agg #[.int .i64 p, .int .i64 q]) w := fun w => by
    simp [part, isAgg, run_underlying hS.under, run_sizeOf (hT := hZ)]
  have q1 : ∀ w (a p : Int), (Op.equalIn 9999 e (.int .i64 a) (.int .i64 p)).run P w = .ok (a == p) w := fun w a p => run_equalIn_int w 9998 _ _ _ _ _ hT.int
  have q2 : ∀ w, (Op.equalIn 9999 s (.agg #[Value.int .i64 p, Value.int .i64 q]) (.agg #[Value.int .i64 p, Value.int .i64 q])).run P w = .ok true w := fun w => eqP_same 9997 p q w
  have key : ∀ w, (Op.equalIn 10000 t (.agg #[Value.int .i64 a, Value.int .i64 b, Value.int .i64 c, Value.int .i64 d_, Value.int .i64 e_, Value.int .i64 p, Value.int .i64 q]) (.agg #[Value.int .i64 a, Value.int .i64 b, Value.int .i64 c, Value.int .i64 d_, Value.int .i64 e_, Value.int .i64 p, Value.int .i64 q])).run P w = .ok true w := fun w => by
    rw [show (10000 : Nat) = 9999 + 1 from rfl, run_equalIn_agg w 9999 t _ _ hT.under hT.stood]
    have h6 : ∃ f1 f2 f3 f4 f5 f6, (P.fieldsOf t).toList = [f1, f2, f3, f4, f5, f6] := by
      have hl := congrArg List.length hm
      rw [List.length_map] at hl
      match (P.fieldsOf t).toList, hl with
      | [f1, f2, f3, f4, f5, f6], _ => exact ⟨f1, f2, f3, f4, f5, f6, rfl⟩
    obtain ⟨f1, f2, f3, f4, f5, f6, hl⟩ := h6
    rw [hl] at hm ⊢
    simp only [List.map_cons, List.map_nil, List.cons.injEq, Prod.mk.injEq, and_true] at hm
    obtain ⟨⟨n1, t1, o1⟩, ⟨n2, t2, o2⟩, ⟨n3, t3, o3⟩, ⟨n4, t4, o4⟩, ⟨n5, t5, o5⟩, n6, t6, o6⟩ := hm
    have m1 : f1.name ≠ "_" := by intro h; rw [h] at n1; simp at n1
    have m2 : f2.name ≠ "_" := by intro h; rw [h] at n2; simp at n2
    have m3 : f3.name ≠ "_" := by intro h; rw [h] at n3; simp at n3
    have m4 : f4.name ≠ "_" := by intro h; rw [h] at n4; simp at n4
    have m5 : f5.name ≠ "_" := by intro h; rw [h] at n5; simp at n5
    have m6 : f6.name ≠ "_" := by intro h; rw [h] at n6; simp at n6
    simp only [Op.eqFields, if_pos m1, if_pos m2, if_pos m3, if_pos m4, if_pos m5, if_pos m6, t1, o1, t2, o2, t3, o3, t4, o4, t5, o5, t6, o6, Sem.run_bind, p0, p1, p2, p3, p4, p5, q1, q2, Result.andThen_ok]
    simp [p0, p1, p2, p3, p4, p5, q1, q2]
  rw [key]
  rfl
end
instance : TNote Try.prog 29 3 27 := ⟨by kernel_rfl, by kernel_rfl, by kernel_rfl, by kernel_rfl, by kernel_rfl, by kernel_rfl⟩
structure Key (K : Prop) : Prop where
  out : K
theorem share {p K G : Prop} (h1 : p → Key K → G) (h2 : ¬ p → Key K → G) (k : K) : G := by
  by_cases h : p
  · exact h1 h ⟨k⟩
  · exact h2 h ⟨k⟩
theorem WL.sub2 {P : Program} {ops : Array Oper} {Q : Exit → Act → World → Prop} {l : List Oper} {n : Nat} {cx : Cx} {hp hp' : List Res} {fr fr' : Fr} (h : WL P ops Q l n cx hp' fr') (hs : Sub fr' fr) (hh : hp'.Sublist hp) : WL P ops Q l n cx hp fr := by
  unfold WL at h ⊢
  exact fun a w hf hw => h a w (hf.sub hs) (hw.sub hh)
end Go.Proofs.Ytnmhoeafdengfaa
