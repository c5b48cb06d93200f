/- The struct Dredge as plain cells, and what the laws' helpers for it do. No condition. -/
import Derived.Test.YtinjjnfkibomnaaData
import Derived.Test.YtinjjnfkibomnaaTypes
namespace Go.Proofs.Ytinjjnfkibomnaa
open Go.RowKit
attribute [local irreducible] X WL WQ WH WO At Q1 QC Rd RV Sub SlR SlB Calls Addr.add adOf

@[ext] structure Dredge where
  design : Int
  over : Int
  hopper : Int
instance : Enc Dredge := ⟨3, fun q => [.int .i64 q.design, .int .i64 q.over, .int .i64 q.hopper], fun _ => rfl, fun _ u hu => by simp at hu; rcases hu with rfl | rfl | rfl <;> rfl, by decide⟩
def Dredge.zero : Dredge := ⟨0, 0, 0⟩
theorem toDredge_any (q : Dredge) (w : World) : Calls Try.prog 15 #[.agg (Enc.cells q).toArray] w (Ret w (.agg (Enc.cells q).toArray)) := by
  refine Calls.ofX (args := [.agg (Enc.cells q).toArray]) Try.func15 rfl Try.ntmps15 rfl (S.init w []) ?_
  repeat' (first | apply X.seq | apply X.region | apply X.ret | apply At.then_normal | apply WL.nil | (apply WL.q; exact rfl; exact rfl; exact rfl; (first | (apply QC.v; (first | (apply Q1.fieldAddrB; exact rfl) | (apply Q1.load1; exact rfl; (first | exact Rd.own1 (by (repeat (first | exact .head _ | apply List.Mem.tail | apply List.mem_append_right))) rfl)) | (apply Q1.loadN; exact rfl; (first | exact Rd.whole (by (repeat (first | exact .head _ | apply List.Mem.tail | apply List.mem_append_right)))); (first | exact rfl)))))) | (apply WL.alloc; exact rfl; exact rfl; intro _) | (apply WL.box; exact rfl; exact rfl; exact rfl; intro _) | (apply WL.store1; exact rfl; exact rfl; exact rfl; exact rfl; exact rfl; (repeat (first | exact .head | apply Repl.tail | apply Repl.app)); (first | exact Nat.le_of_ble_eq_true rfl | (simp; omega))) | (apply WL.storeAll; exact rfl; exact rfl; exact rfl; (first | exact rfl); (first | (intro u hu; simp at hu; rcases hu with rfl | rfl | rfl | rfl | rfl | rfl <;> rfl)); (repeat (first | exact .head | apply Repl.tail | apply Repl.app)); (first | exact rfl)))
  all_goals (apply At.ret1 (by first | exact .inl rfl | exact .inr rfl); exact rfl; (first | (apply RV.cellN; exact rfl; exact Rd.whole (by (repeat (first | exact .head _ | apply List.Mem.tail | apply List.mem_append_right))); (first | exact rfl))); intro w2 hw2; refine Ret.mk ?_ hw2)
  all_goals rfl
end Go.Proofs.Ytinjjnfkibomnaa
