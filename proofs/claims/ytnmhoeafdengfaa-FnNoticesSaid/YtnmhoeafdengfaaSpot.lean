/- The struct Spot as plain cells, and what the laws' helpers for it do. No condition. -/
import Derived.Test.YtnmhoeafdengfaaData
import Derived.Test.YtnmhoeafdengfaaTypes
namespace Go.Proofs.Ytnmhoeafdengfaa
open Go.RowKit
attribute [local irreducible] X WL WQ WH WO At Q1 QC Rd RV Sub SlR SlB Calls Addr.add adOf

@[ext] structure Spot where
  x : Int
  y : Int
instance : Enc Spot := ⟨2, fun q => [.int .i64 q.x, .int .i64 q.y], fun _ => rfl, fun _ u hu => by simp at hu; rcases hu with rfl | rfl <;> rfl, by decide⟩
def Spot.zero : Spot := ⟨0, 0⟩
theorem Rd.part {cx : Cx} {hp : List Res} {b i m tot : Nat} {t : TypeId} {cs us : List Value} (hm : Res.mk b t cs tot ∈ hp) (h : (cs.drop i).take m = us) : Rd cx hp ⟨b, i, none⟩ us := Rd.own hm fun j u hu => by
  rw [← h, List.getElem?_take] at hu
  split at hu
  · rw [List.getElem?_drop] at hu; exact hu
  · cases hu
theorem adOf_add3 (b i j k : Nat) : (((adOf (some ⟨b, 0, none⟩)).add i).add j).add k = ⟨b, i + j + k, none⟩ := by simp [adOf, Addr.add_lit]
theorem SlR.cell3 {α : Type} [Enc α] {cx : Cx} {hp : List Res} {A : Option Addr} {l : List α} (h : SlR cx hp A l) {i j k : Nat} (hi : i < l.length) {u : Value} (hu : (Enc.cells l[i])[j + k]? = some u) : Rd cx hp ((((adOf A).add (i * Enc.size α)).add j).add k) [u] := by
  rw [Go.Deep.add_add _ j k]; exact SlR.cell h hi hu
theorem toSpot_any (q : Spot) (w : World) : Calls Try.prog 56 #[.agg (Enc.cells q).toArray] w (Ret w (.agg (Enc.cells q).toArray)) := by
  refine Calls.ofX (args := [.agg (Enc.cells q).toArray]) Try.func56 rfl Try.ntmps56 rfl (S.init w []) ?_
  repeat' (first | apply X.seq | apply X.region | apply X.ret | apply At.then_normal | apply WL.nil | (apply WL.q; exact rfl; exact rfl; exact rfl; (first | (apply QC.v; (first | (apply Q1.fieldAddrB; exact rfl) | (apply Q1.load1; exact rfl; (first | exact Rd.own1 (by (repeat (first | exact .head _ | apply List.Mem.tail | apply List.mem_append_right))) rfl)) | (apply Q1.loadN; exact rfl; (first | exact Rd.whole (by (repeat (first | exact .head _ | apply List.Mem.tail | apply List.mem_append_right)))); (first | exact rfl)))))) | (apply WL.alloc; exact rfl; exact rfl; intro _) | (apply WL.box; exact rfl; exact rfl; exact rfl; intro _) | (apply WL.store1; exact rfl; exact rfl; exact rfl; exact rfl; exact rfl; (repeat (first | exact .head | apply Repl.tail | apply Repl.app)); (first | exact Nat.le_of_ble_eq_true rfl | (simp; omega))) | (apply WL.storeAll; exact rfl; exact rfl; exact rfl; (first | exact rfl); (first | (intro u hu; simp at hu; rcases hu with rfl | rfl | rfl | rfl | rfl | rfl <;> rfl)); (repeat (first | exact .head | apply Repl.tail | apply Repl.app)); (first | exact rfl)))
  all_goals (apply At.ret1 (by first | exact .inl rfl | exact .inr rfl); exact rfl; (first | (apply RV.cellN; exact rfl; exact Rd.whole (by (repeat (first | exact .head _ | apply List.Mem.tail | apply List.mem_append_right))); (first | exact rfl))); intro w2 hw2; refine Ret.mk ?_ hw2)
  all_goals rfl
theorem eqSpot_any (p q : Spot) (w : World) : Calls Try.prog 66 #[.agg (Enc.cells p).toArray, .agg (Enc.cells q).toArray] w (Ret w (.bool (dec (p = q)))) := by
  refine Calls.ofX (args := [.agg (Enc.cells p).toArray, .agg (Enc.cells q).toArray]) Try.func66 rfl Try.ntmps66 rfl (S.init w []) ?_
  repeat' (first | apply X.seq | apply X.region | apply X.skip | apply X.ret | (apply X.condN; exact rfl; intro _; rotate_left; intro _; rotate_left) | apply At.then_normal | apply At.then_ret | apply WL.nil | (apply WL.q; exact rfl; exact rfl; exact rfl; (first | (apply QC.v; (first | (apply Q1.assign; exact rfl) | (apply Q1.fieldAddrB; exact rfl) | (apply Q1.load1; exact rfl; (first | exact Rd.own1 (by (repeat (first | exact .head _ | apply List.Mem.tail | apply List.mem_append_right))) rfl)) | (apply Q1.neqI; exact rfl; exact rfl))))) | (apply WL.box; exact rfl; exact rfl; exact rfl; intro _))
  all_goals (apply At.ret1 (by first | exact .inl rfl | exact .inr rfl); exact rfl; (first | exact RV.tmp rfl); intro w2 hw2; refine Ret.mk ?_ hw2)
  all_goals first | exact congrArg Value.bool (dec_false (fun h => by subst h; simp_all)).symm | exact congrArg Value.bool (dec_true (by cases p; cases q; simp_all)).symm
end Go.Proofs.Ytnmhoeafdengfaa
