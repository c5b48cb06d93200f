/- What the laws' markers do with slices of Quay. No condition beyond sizes. -/
import Derived.Test.YtmjbkhhcleidaaaMem
import Derived.Test.YtmjbkhhcleidaaaQuay
namespace Go.Proofs.Ytmjbkhhcleidaaa
open Go.RowKit
attribute [local irreducible] X WL WQ WH WO At Q1 QC Rd RV Sub SlR SlB Calls Addr.add adOf
def mkQuay (a : Int) : Quay := ⟨a, a + 1, a + 1 + 1⟩
theorem markQuayS_any (b c : Nat) (l : List Quay) (k : Int) (tot : Nat) (w : World) (H : Res.On ⟨b, 81, flat l, tot⟩ w) (hl : l.length ≤ 1048576) (hk : 0 ≤ k ∧ k ≤ 1000000000) :
    Calls Try.prog 41 #[.slice (some ⟨b, 0, none⟩) l.length c, .int .i64 k] w (RetP w [b] (fun v hp => v = .int .i64 (k + 3 * (l.length : Int)) ∧ hp = [⟨b, 81, flat (marks mkQuay 3 k l.length), tot⟩])) := by
  refine Calls.ofX (args := [.slice (some ⟨b, 0, none⟩) l.length c, .int .i64 k]) Try.func41 rfl Try.ntmps41 rfl (S.init1 H) ?_
  repeat' (first | apply X.seq | apply X.block | apply X.region | apply X.skip | apply X.exit | apply X.ret | (apply X.condP; exact rfl; intro _; rotate_left; intro _; rotate_left) | apply At.then_normal | apply At.then_exit | apply At.block_normal | apply At.block_here | apply WL.nil | (apply WL.q; exact rfl; exact rfl; exact rfl; (first | (apply QC.v; (first | (apply Q1.move; exact rfl) | (apply Q1.assign; exact rfl) | (apply Q1.len; exact rfl) | (apply Q1.fieldAddr; exact rfl) | (apply Q1.lss; exact rfl; exact rfl) | (apply Q1.add; exact rfl; exact rfl; omega) | (apply Q1.indexAddr; exact rfl; exact rfl; exact rfl; omega; (exact Option.some_ne_none _)) | (apply Q1.indexAddr; exact rfl; exact rfl; (first | exact idx_zero); omega; (exact Option.some_ne_none _)) | (apply Q1.indexAddr; exact rfl; exact rfl; exact (Int.toNat_of_nonneg (by omega)).symm; omega; (exact Option.some_ne_none _)))))) | (apply WL.store1; exact rfl; exact rfl; exact rfl; exact rfl; exact rfl; (repeat (first | exact .head | apply Repl.tail | apply Repl.app)); (first | exact Nat.le_of_ble_eq_true rfl | (simp; omega))))
  refine X.loop (ι := Nat) (fun i => i ≤ l.length) (fun i => [(0, .slice (some ⟨b, 0, none⟩) l.length c), (1, .int .i64 (k + 3 * (i : Int))), (5, .int .i64 i)]) (fun i => [⟨b, 81, flat (markTo mkQuay 3 k l i), tot⟩]) (fun i => l.length - i) 0 (Nat.zero_le _) (by (repeat (first | exact Sub.nil | refine Sub.cons rfl (by first | rfl | (congr 1; omega)) ?_))) (sub_eq (by rw [markTo_zero])) (fun i hi => ?_)
  have hm := length_markTo mkQuay 3 k l hi
  have hf := length_flat (markTo mkQuay 3 k l i)
  simp only [Enc.size] at hf
  repeat' (first | apply X.seq | apply X.block | apply X.region | apply X.skip | apply X.exit | apply X.ret | (apply X.condP; exact rfl; intro _; rotate_left; intro _; rotate_left) | apply At.then_normal | apply At.then_exit | apply At.block_normal | apply At.block_here | apply WL.nil | (apply WL.store1; exact rfl; exact rfl; (first | exact adOf_add2 _ _ _); exact rfl; exact rfl; (repeat (first | exact .head | apply Repl.tail | apply Repl.app)); (first | omega | (simp only [List.length_set]; omega))) | (apply WL.q; exact rfl; exact rfl; exact rfl; (first | (apply QC.v; (first | (apply Q1.move; exact rfl) | (apply Q1.assign; exact rfl) | (apply Q1.len; exact rfl) | (apply Q1.fieldAddr; exact rfl) | (apply Q1.lss; exact rfl; exact rfl) | (apply Q1.add; exact rfl; exact rfl; omega) | (apply Q1.indexAddr; exact rfl; exact rfl; exact rfl; omega; (exact Option.some_ne_none _)) | (apply Q1.indexAddr; exact rfl; exact rfl; (first | exact idx_zero); omega; (exact Option.some_ne_none _)) | (apply Q1.indexAddr; exact rfl; exact rfl; exact (Int.toNat_of_nonneg (by omega)).symm; omega; (exact Option.some_ne_none _)))))) | (apply WL.store1; exact rfl; exact rfl; exact rfl; exact rfl; exact rfl; (repeat (first | exact .head | apply Repl.tail | apply Repl.app)); (first | exact Nat.le_of_ble_eq_true rfl | (simp; omega))))
  · refine At.again (i + 1) (by omega) (by omega) (by (repeat (first | exact Sub.nil | refine Sub.cons rfl (by first | rfl | (congr 1; omega)) ?_))) (sub_eq ?_)
    exact congrArg (fun cs => [Res.mk b 81 cs tot]) (markTo_step mkQuay 3 k l (i := i) (by omega)).symm
  · obtain rfl : i = l.length := by omega
    apply At.ret1 (.inl rfl) rfl (RV.tmp rfl)
    intro w2 hw2
    exact RetP.mk ⟨rfl, by rw [markTo_all]⟩ hw2 (.refl _)
theorem markQuayS_nil (A : Option Addr) (c : Nat) (k : Int) (w : World) : Calls Try.prog 41 #[.slice A 0 c, .int .i64 k] w (Ret w (.int .i64 k)) := by
  refine Calls.ofX (args := [.slice A 0 c, .int .i64 k]) Try.func41 rfl Try.ntmps41 rfl (S.init w []) ?_
  repeat' (first | apply X.seq | apply X.block | apply X.region | apply X.exit | apply X.ret | (apply X.no; exact rfl) | apply At.then_normal | apply At.then_exit | apply At.block_here | apply WL.nil | (apply WL.q; exact rfl; exact rfl; exact rfl; (first | (apply QC.v; (first | (apply Q1.move; exact rfl) | (apply Q1.assign; exact rfl) | (apply Q1.len; exact rfl) | (apply Q1.lss; exact rfl; exact rfl))))))
  refine X.loop (ι := Unit) (fun _ => True) (fun _ => [(0, .slice A 0 c), (1, .int .i64 k), (5, .int .i64 0)]) (fun _ => []) (fun _ => 0) () trivial (by (repeat (first | exact Sub.nil | refine Sub.cons rfl (by first | rfl | (congr 1; omega)) ?_))) (by (first | exact List.nil_sublist _ | exact .refl _ | exact .cons_cons _ (List.nil_sublist _) | (repeat (first | exact .refl _ | exact .cons_cons _ (List.nil_sublist _))))) (fun _ _ => ?_)
  repeat' (first | apply X.seq | apply X.block | apply X.region | apply X.exit | apply X.ret | (apply X.no; exact rfl) | apply At.then_normal | apply At.then_exit | apply At.block_here | apply WL.nil | (apply WL.q; exact rfl; exact rfl; exact rfl; (first | (apply QC.v; (first | (apply Q1.move; exact rfl) | (apply Q1.assign; exact rfl) | (apply Q1.len; exact rfl) | (apply Q1.lss; exact rfl; exact rfl))))))
  (apply At.ret1 (by first | exact .inl rfl | exact .inr rfl); exact rfl; (first | exact RV.tmp rfl); intro w2 hw2; refine Ret.mk ?_ hw2)
  rfl
end Go.Proofs.Ytmjbkhhcleidaaa
