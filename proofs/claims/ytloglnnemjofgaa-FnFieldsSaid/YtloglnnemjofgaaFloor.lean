/- Division that goes down. No condition beyond the numbers' own. -/
import Derived.Test.YtloglnnemjofgaaBase
namespace Go.Proofs.Ytloglnnemjofgaa
open Go.RowKit
attribute [local irreducible] X WL WQ WH WO At Q1 QC Rd RV Sub SlR SlB Calls Addr.add adOf
theorem tdiv_bd (a b : Int) (ha : -9223372036854775807 ≤ a ∧ a ≤ 9223372036854775807) : -9223372036854775807 ≤ a.tdiv b ∧ a.tdiv b ≤ 9223372036854775807 := by
  have h := Int.natAbs_tdiv_le_natAbs a b
  omega
theorem div_of {a b q r : Int} (hb : 0 < b) (hr : 0 ≤ r ∧ r < b) (e : a = b * q + r) : a / b = q := by
  subst e
  rw [Int.add_comm, Int.add_mul_ediv_left _ _ (by omega), Int.ediv_eq_zero_of_lt hr.1 hr.2]
  omega
theorem floor_t (a b : Int) (hb : 0 < b) (h : a.tmod b < 0) : a.tdiv b - 1 = a / b := by
  have h1 := Int.mul_tdiv_add_tmod a b
  have h2 : -b < a.tmod b := by have := Int.tmod_lt_of_pos (-a) hb; rw [Int.neg_tmod] at this; omega
  exact (div_of hb (r := a.tmod b + b) (by omega) (by rw [Int.mul_sub]; omega)).symm
theorem floor_n (a b : Int) (hb : 0 < b) (h : ¬ a.tmod b < 0) : a.tdiv b = a / b := by
  have h1 := Int.mul_tdiv_add_tmod a b
  have h2 := Int.tmod_lt_of_pos a hb
  exact (div_of hb (r := a.tmod b) (by omega) (by omega)).symm
theorem floorDiv_any (a b : Int) (w : World) (ha : -9223372036854775807 ≤ a ∧ a ≤ 9223372036854775807) (hb : 1 ≤ b) : Calls Try.prog 66 #[.int .i64 a, .int .i64 b] w (Ret w (.int .i64 (a / b))) := by
  refine Calls.ofX (args := [.int .i64 a, .int .i64 b]) Try.func66 rfl Try.ntmps66 rfl (S.init w []) ?_
  have hq : -9223372036854775807 ≤ a.tdiv b ∧ a.tdiv b ≤ 9223372036854775807 := tdiv_bd a b ha
  repeat' (first | apply X.seq | apply X.region | apply X.skip | apply X.ret | (apply X.condP; exact rfl; intro _; rotate_left; intro _; rotate_left) | apply At.then_normal | apply WL.nil | (apply WL.q; exact rfl; exact rfl; exact rfl; (first | (apply QC.v; (first | (apply Q1.move; exact rfl) | (apply Q1.assign; exact rfl) | (apply Q1.quoT; exact rfl; exact rfl; omega) | (apply Q1.remw; exact rfl; exact rfl; omega) | (apply Q1.lss; exact rfl; exact rfl) | (apply Q1.sub; exact rfl; exact rfl; omega))))))
  all_goals (apply At.ret1 (by first | exact .inl rfl | exact .inr rfl); exact rfl; (first | exact RV.tmp rfl); intro w2 hw2; refine Ret.mk ?_ hw2)
  · exact congrArg (Value.int .i64) (floor_t a b (by omega) (by assumption))
  · exact congrArg (Value.int .i64) (floor_n a b (by omega) (by assumption))
end Go.Proofs.Ytloglnnemjofgaa
