/- The small tests on numbers that all chapters use. No condition. -/
import Derived.Test.YtnmhoeafdengfaaData
import Derived.Test.YtnmhoeafdengfaaTypes
namespace Go.Proofs.Ytnmhoeafdengfaa
open Go.RowKit
attribute [local irreducible] X WL WQ WH WO At Q1 QC Rd RV Sub SlR SlB Calls Addr.add adOf
theorem inside_any (a b c : Int) (w : World) : Calls Try.prog 57 #[.int .i64 a, .int .i64 b, .int .i64 c] w (Ret w (.bool (dec (b ≤ a ∧ a ≤ c)))) := by
  refine Calls.ofX (args := [.int .i64 a, .int .i64 b, .int .i64 c]) Try.func57 rfl Try.ntmps57 rfl (S.init w []) ?_
  repeat' (first | apply X.seq | apply X.region | apply X.ret | apply At.then_normal | apply WL.nil | (apply WL.skip; exact rfl; exact rfl; exact rfl) | (apply WL.q; exact rfl; exact rfl; exact rfl; (first | (apply QC.v; (first | (apply Q1.move; exact rfl) | (apply Q1.assign; exact rfl) | (apply Q1.pick_t; exact rfl; exact rfl) | (apply Q1.pick_f; exact rfl; exact rfl) | (apply Q1.leq; exact rfl; exact rfl) | (apply Q1.geq; exact rfl; exact rfl))))) | (apply WL.guardP; exact rfl; exact rfl; intro _; rotate_left; intro _; rotate_left))
  all_goals (apply At.ret1 (by first | exact .inl rfl | exact .inr rfl); exact rfl; (first | exact RV.tmp rfl); intro w2 hw2; refine Ret.mk ?_ hw2)
  all_goals first | exact congrArg Value.bool (dec_false (by omega)).symm | (rw [dec_eq]; exact congrArg Value.bool (dec_congr (by omega)))
theorem l1In_any (a b c : Int) (w : World) : Calls Try.prog 69 #[.int .i64 a, .int .i64 b, .int .i64 c] w (Ret w (.bool (dec (b ≤ a ∧ a ≤ c)))) := by
  refine Calls.ofX (args := [.int .i64 a, .int .i64 b, .int .i64 c]) Try.func69 rfl Try.ntmps69 rfl (S.init w []) ?_
  repeat' (first | apply X.seq | apply X.region | apply X.ret | apply At.then_normal | apply WL.nil | (apply WL.skip; exact rfl; exact rfl; exact rfl) | (apply WL.q; exact rfl; exact rfl; exact rfl; (first | (apply QC.v; (first | (apply Q1.move; exact rfl) | (apply Q1.assign; exact rfl) | (apply Q1.pick_t; exact rfl; exact rfl) | (apply Q1.pick_f; exact rfl; exact rfl) | (apply Q1.leq; exact rfl; exact rfl) | (apply Q1.geq; exact rfl; exact rfl))))) | (apply WL.guardP; exact rfl; exact rfl; intro _; rotate_left; intro _; rotate_left))
  all_goals (apply At.ret1 (by first | exact .inl rfl | exact .inr rfl); exact rfl; (first | exact RV.tmp rfl); intro w2 hw2; refine Ret.mk ?_ hw2)
  all_goals first | exact congrArg Value.bool (dec_false (by omega)).symm | (rw [dec_eq]; exact congrArg Value.bool (dec_congr (by omega)))
theorem isDepth_any (a : Int) (w : World) : Calls Try.prog 58 #[.int .i64 a] w (Ret w (.bool (dec (-1000 ≤ a ∧ a ≤ 20000)))) := by
  refine Calls.ofX (args := [.int .i64 a]) Try.func58 rfl Try.ntmps58 rfl (S.init w []) ?_
  repeat' (first | apply X.seq | apply X.region | apply X.ret | apply At.then_normal | apply WL.nil | (apply WL.q; exact rfl; exact rfl; exact rfl; (first | (apply QC.call; exact rfl; intro w _; first | exact inside_any _ _ _ w | exact l1In_any _ _ _ w) | (apply QC.v; (first | (apply Q1.move; exact rfl) | (apply Q1.assign; exact rfl))))))
  (apply At.ret1 (by first | exact .inl rfl | exact .inr rfl); exact rfl; (first | exact RV.tmp rfl); intro w2 hw2; refine Ret.mk ?_ hw2)
  rfl
theorem l2Depth_any (a : Int) (w : World) : Calls Try.prog 87 #[.int .i64 a] w (Ret w (.bool (dec (-1000 ≤ a ∧ a ≤ 20000)))) := by
  refine Calls.ofX (args := [.int .i64 a]) Try.func87 rfl Try.ntmps87 rfl (S.init w []) ?_
  repeat' (first | apply X.seq | apply X.region | apply X.ret | apply At.then_normal | apply WL.nil | (apply WL.q; exact rfl; exact rfl; exact rfl; (first | (apply QC.call; exact rfl; intro w _; first | exact inside_any _ _ _ w | exact l1In_any _ _ _ w) | (apply QC.v; (first | (apply Q1.move; exact rfl) | (apply Q1.assign; exact rfl))))))
  (apply At.ret1 (by first | exact .inl rfl | exact .inr rfl); exact rfl; (first | exact RV.tmp rfl); intro w2 hw2; refine Ret.mk ?_ hw2)
  rfl
theorem l2Grid_any (a : Int) (w : World) : Calls Try.prog 103 #[.int .i64 a] w (Ret w (.bool (dec (0 ≤ a ∧ a ≤ 1000)))) := by
  refine Calls.ofX (args := [.int .i64 a]) Try.func103 rfl Try.ntmps103 rfl (S.init w []) ?_
  repeat' (first | apply X.seq | apply X.region | apply X.ret | apply At.then_normal | apply WL.nil | (apply WL.q; exact rfl; exact rfl; exact rfl; (first | (apply QC.call; exact rfl; intro w _; first | exact inside_any _ _ _ w | exact l1In_any _ _ _ w) | (apply QC.v; (first | (apply Q1.move; exact rfl) | (apply Q1.assign; exact rfl))))))
  (apply At.ret1 (by first | exact .inl rfl | exact .inr rfl); exact rfl; (first | exact RV.tmp rfl); intro w2 hw2; refine Ret.mk ?_ hw2)
  rfl
theorem l1Most_any (a b : Int) (w : World) : Calls Try.prog 70 #[.int .i64 a, .int .i64 b] w (Ret w (.int .i64 (max a b))) := by
  refine Calls.ofX (args := [.int .i64 a, .int .i64 b]) Try.func70 rfl Try.ntmps70 rfl (S.init w []) ?_
  repeat' (first | apply X.seq | apply X.region | apply X.skip | apply X.ret | (apply X.condP; exact rfl; intro _; rotate_left; intro _; rotate_left) | apply At.then_normal | apply At.then_ret | apply WL.nil | (apply WL.q; exact rfl; exact rfl; exact rfl; (first | (apply QC.v; (first | (apply Q1.move; exact rfl) | (apply Q1.assign; exact rfl) | (apply Q1.gtr; exact rfl; exact rfl))))))
  all_goals (apply At.ret1 (by first | exact .inl rfl | exact .inr rfl); exact rfl; (first | exact RV.tmp rfl); intro w2 hw2; refine Ret.mk ?_ hw2)
  all_goals exact congrArg (Value.int .i64) (by omega)
end Go.Proofs.Ytnmhoeafdengfaa
