/- The small tests on numbers that all chapters use. No condition. -/
import Derived.Test.YtmjbkhhcleidaaaData
import Derived.Test.YtmjbkhhcleidaaaTypes
namespace Go.Proofs.Ytmjbkhhcleidaaa
open Go.RowKit
attribute [local irreducible] X WL WQ WH WO At Q1 QC Rd RV Sub SlR SlB Calls Addr.add adOf
theorem inside_any (a b c : Int) (w : World) : Calls Try.prog 61 #[.int .i64 a, .int .i64 b, .int .i64 c] w (Ret w (.bool (dec (b ≤ a ∧ a ≤ c)))) := by
  refine Calls.ofX (args := [.int .i64 a, .int .i64 b, .int .i64 c]) Try.func61 rfl Try.ntmps61 rfl (S.init w []) ?_
  repeat' (first | apply X.seq | apply X.region | apply X.ret | apply At.then_normal | apply WL.nil | (apply WL.skip; exact rfl; exact rfl; exact rfl) | (apply WL.q; exact rfl; exact rfl; exact rfl; (first | (apply QC.v; (first | (apply Q1.move; exact rfl) | (apply Q1.assign; exact rfl) | (apply Q1.pick_t; exact rfl; exact rfl) | (apply Q1.pick_f; exact rfl; exact rfl) | (apply Q1.leq; exact rfl; exact rfl) | (apply Q1.geq; exact rfl; exact rfl))))) | (apply WL.guardP; exact rfl; exact rfl; intro _; rotate_left; intro _; rotate_left))
  all_goals (apply At.ret1 (by first | exact .inl rfl | exact .inr rfl); exact rfl; (first | exact RV.tmp rfl); intro w2 hw2; refine Ret.mk ?_ hw2)
  all_goals first | exact congrArg Value.bool (dec_false (by omega)).symm | (rw [dec_eq]; exact congrArg Value.bool (dec_congr (by omega)))
theorem l1In_any (a b c : Int) (w : World) : Calls Try.prog 87 #[.int .i64 a, .int .i64 b, .int .i64 c] w (Ret w (.bool (dec (b ≤ a ∧ a ≤ c)))) := by
  refine Calls.ofX (args := [.int .i64 a, .int .i64 b, .int .i64 c]) Try.func87 rfl Try.ntmps87 rfl (S.init w []) ?_
  repeat' (first | apply X.seq | apply X.region | apply X.ret | apply At.then_normal | apply WL.nil | (apply WL.skip; exact rfl; exact rfl; exact rfl) | (apply WL.q; exact rfl; exact rfl; exact rfl; (first | (apply QC.v; (first | (apply Q1.move; exact rfl) | (apply Q1.assign; exact rfl) | (apply Q1.pick_t; exact rfl; exact rfl) | (apply Q1.pick_f; exact rfl; exact rfl) | (apply Q1.leq; exact rfl; exact rfl) | (apply Q1.geq; exact rfl; exact rfl))))) | (apply WL.guardP; exact rfl; exact rfl; intro _; rotate_left; intro _; rotate_left))
  all_goals (apply At.ret1 (by first | exact .inl rfl | exact .inr rfl); exact rfl; (first | exact RV.tmp rfl); intro w2 hw2; refine Ret.mk ?_ hw2)
  all_goals first | exact congrArg Value.bool (dec_false (by omega)).symm | (rw [dec_eq]; exact congrArg Value.bool (dec_congr (by omega)))
theorem isTime_any (a : Int) (w : World) : Calls Try.prog 76 #[.int .i64 a] w (Ret w (.bool (dec (0 ≤ a ∧ a ≤ 10000)))) := by
  refine Calls.ofX (args := [.int .i64 a]) Try.func76 rfl Try.ntmps76 rfl (S.init w []) ?_
  repeat' (first | apply X.seq | apply X.region | apply X.ret | apply At.then_normal | apply WL.nil | (apply WL.q; exact rfl; exact rfl; exact rfl; (first | (apply QC.call; exact rfl; intro w _; first | exact inside_any _ _ _ w | exact l1In_any _ _ _ w) | (apply QC.v; (first | (apply Q1.move; exact rfl) | (apply Q1.assign; exact rfl))))))
  (apply At.ret1 (by first | exact .inl rfl | exact .inr rfl); exact rfl; (first | exact RV.tmp rfl); intro w2 hw2; refine Ret.mk ?_ hw2)
  rfl
theorem l2Time_any (a : Int) (w : World) : Calls Try.prog 74 #[.int .i64 a] w (Ret w (.bool (dec (0 ≤ a ∧ a ≤ 10000)))) := by
  refine Calls.ofX (args := [.int .i64 a]) Try.func74 rfl Try.ntmps74 rfl (S.init w []) ?_
  repeat' (first | apply X.seq | apply X.region | apply X.ret | apply At.then_normal | apply WL.nil | (apply WL.q; exact rfl; exact rfl; exact rfl; (first | (apply QC.call; exact rfl; intro w _; first | exact inside_any _ _ _ w | exact l1In_any _ _ _ w) | (apply QC.v; (first | (apply Q1.move; exact rfl) | (apply Q1.assign; exact rfl))))))
  (apply At.ret1 (by first | exact .inl rfl | exact .inr rfl); exact rfl; (first | exact RV.tmp rfl); intro w2 hw2; refine Ret.mk ?_ hw2)
  rfl
theorem l1Least_any (a b : Int) (w : World) : Calls Try.prog 64 #[.int .i64 a, .int .i64 b] w (Ret w (.int .i64 (min a b))) := by
  refine Calls.ofX (args := [.int .i64 a, .int .i64 b]) Try.func64 rfl Try.ntmps64 rfl (S.init w []) ?_
  repeat' (first | apply X.seq | apply X.region | apply X.skip | apply X.ret | (apply X.condP; exact rfl; intro _; rotate_left; intro _; rotate_left) | apply At.then_normal | apply At.then_ret | apply WL.nil | (apply WL.q; exact rfl; exact rfl; exact rfl; (first | (apply QC.v; (first | (apply Q1.move; exact rfl) | (apply Q1.assign; exact rfl) | (apply Q1.lss; exact rfl; exact rfl))))))
  all_goals (apply At.ret1 (by first | exact .inl rfl | exact .inr rfl); exact rfl; (first | exact RV.tmp rfl); intro w2 hw2; refine Ret.mk ?_ hw2)
  all_goals exact congrArg (Value.int .i64) (by omega)
end Go.Proofs.Ytmjbkhhcleidaaa
