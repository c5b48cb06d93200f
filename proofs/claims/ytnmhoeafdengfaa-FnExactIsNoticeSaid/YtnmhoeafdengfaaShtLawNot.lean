/- Sheets: the walk of IsNotice's law. No condition beyond the arguments' own. -/
import Derived.Test.YtnmhoeafdengfaaShtB
import Derived.Test.YtnmhoeafdengfaaHeld
namespace Go.Proofs.Ytnmhoeafdengfaa
open Go.RowKit
attribute [local irreducible] X WL WQ WH WO At Q1 QC Rd RV Sub SlR SlB Calls Addr.add adOf
set_option maxHeartbeats 2000000 in
theorem lawIsNotice (s0 : Notice) (w : World)  : Calls Try.prog 3 #[.agg (Enc.cells s0).toArray] w (Ret w (.bool true)) := by
  refine Calls.ofX (args := [.agg (Enc.cells s0).toArray]) Try.func3 rfl Try.ntmps3 rfl (S.init w []) ?_
  repeat' (first | apply X.seq | apply X.region | apply X.skip | apply X.ret | (apply X.no; exact rfl) | apply At.then_normal | apply WL.nil | (apply WL.q; exact rfl; exact rfl; exact rfl; (first | (apply QC.call; exact rfl; intro w hw; first | exact specNotice_any s0 w   | exact isNotice_any s0 w   | exact toNotice_any s0 w) | (apply QC.v; (first | (apply Q1.move; exact rfl) | (apply Q1.assign; exact rfl) | (apply Q1.neqB_same; exact rfl; exact rfl) | (apply Q1.loadN; exact rfl; (first | exact Rd.whole (by (repeat (first | exact .head _ | apply List.mem_append_right)))); (first | exact rfl)))))) | (apply WL.box; exact rfl; exact rfl; exact rfl; intro _))
  all_goals first | exact absurd rfl (by assumption) | skip
  (apply At.ret1 (by first | exact .inl rfl | exact .inr rfl); exact rfl; (first | exact RV.tmp rfl); intro w2 hw2; refine Ret.mk ?_ hw2)
  rfl
end Go.Proofs.Ytnmhoeafdengfaa
