/- The struct Notice as plain cells, and what the laws' helpers for it do. No condition. -/
import Derived.Test.YtnmhoeafdengfaaData
import Derived.Test.YtnmhoeafdengfaaTypes
import Derived.Test.YtnmhoeafdengfaaSpot
namespace Go.Proofs.Ytnmhoeafdengfaa
open Go.RowKit
attribute [local irreducible] X WL WQ WH WO At Q1 QC Rd RV Sub SlR SlB Calls Addr.add adOf

@[ext] structure Notice where
  number : Int
  kind : Int
  mark : Int
  old : Int
  depth : Int
  x : Int
  y : Int
instance : Enc Notice := ⟨7, fun q => [.int .i64 q.number, .int .i64 q.kind, .int .i64 q.mark, .int .i64 q.old, .int .i64 q.depth, .int .i64 q.x, .int .i64 q.y], fun _ => rfl, fun _ u hu => by simp at hu; rcases hu with rfl | rfl | rfl | rfl | rfl | rfl | rfl <;> rfl, by decide⟩
def Notice.zero : Notice := ⟨0, 0, 0, 0, 0, 0, 0⟩
theorem toNotice_any (q : Notice) (w : World) : Calls Try.prog 14 #[.agg (Enc.cells q).toArray] w (Ret w (.agg (Enc.cells q).toArray)) := by
  refine Calls.ofX (args := [.agg (Enc.cells q).toArray]) Try.func14 rfl Try.ntmps14 rfl (S.init w []) ?_
  repeat' (first | (apply WL.storeAll (us := Enc.cells q); exact rfl; exact rfl; exact rfl; exact Enc.len _; exact Enc.one _; (repeat (first | exact .head | apply Repl.tail)); exact rfl) | apply X.seq | apply X.region | apply X.ret | apply At.then_normal | apply WL.nil | (apply WL.store; exact rfl; exact rfl; exact rfl; exact rfl; exact rfl; (exact Enc.one (⟨_, _⟩ : Spot)); rotate_left; (repeat (exact .head)); rotate_left; exact Nat.le_of_ble_eq_true rfl) | (apply WL.q; exact rfl; exact rfl; exact rfl; (first | (apply QC.call; exact rfl; intro w _; exact toSpot_any ⟨_, _⟩ w) | (apply QC.v; (first | (apply Q1.loadN; exact rfl; exact Rd.part (m := 2) (us := [.int .i64 _, .int .i64 _]) (by (repeat (first | exact .head _ | apply List.Mem.tail))) rfl; exact rfl) | (apply Q1.fieldAddrB; exact rfl) | (apply Q1.load1; exact rfl; (exact Rd.own1 (by (repeat (first | exact .head _ | apply List.Mem.tail))) rfl)) | (apply Q1.loadN; exact rfl; (exact Rd.whole (by (repeat (exact .head _)))); (exact rfl)))))) | (apply WL.alloc; exact rfl; exact rfl; intro _) | (apply WL.box; exact rfl; exact rfl; exact rfl; intro _) | (apply WL.store1; exact rfl; exact rfl; exact rfl; exact rfl; exact rfl; (repeat (exact .head)); (exact Nat.le_of_ble_eq_true rfl)))
  all_goals (apply At.ret1 (by first | exact .inl rfl | exact .inr rfl); exact rfl; ((apply RV.cellN; exact rfl; exact Rd.whole (by (repeat (first | exact .head _ | apply List.Mem.tail))); (exact rfl))); intro w2 hw2; refine Ret.mk ?_ hw2)
  all_goals rfl
theorem eqNotice_any (p q : Notice) (w : World) : Calls Try.prog 35 #[.agg (Enc.cells p).toArray, .agg (Enc.cells q).toArray] w (Ret w (.bool (dec (p = q)))) := by
  refine Calls.ofX (args := [.agg (Enc.cells p).toArray, .agg (Enc.cells q).toArray]) Try.func35 rfl Try.ntmps35 rfl (S.init w []) ?_
  repeat' (first | apply X.seq | apply X.region | apply X.skip | apply X.ret | (apply X.condN; exact rfl; intro _; rotate_left; intro _; rotate_left) | apply At.then_normal | apply At.then_ret | apply WL.nil | (apply WL.q; exact rfl; exact rfl; exact rfl; (first | (apply QC.call; exact rfl; intro w _; exact eqSpot_any ⟨_, _⟩ ⟨_, _⟩ w) | (apply QC.v; (first | (apply Q1.assign; exact rfl) | (apply Q1.loadN; exact rfl; exact Rd.part (m := 2) (us := [.int .i64 _, .int .i64 _]) (by (repeat (first | exact .head _ | apply List.Mem.tail))) rfl; exact rfl) | (apply Q1.not; exact rfl) | (apply Q1.fieldAddrB; exact rfl) | (apply Q1.load1; exact rfl; (exact Rd.own1 (by (repeat (first | exact .head _ | apply List.Mem.tail))) rfl)) | (apply Q1.neqI; exact rfl; exact rfl))))) | (apply WL.box; exact rfl; exact rfl; exact rfl; intro _))
  all_goals (apply At.ret1 (by first | exact .inl rfl | exact .inr rfl); exact rfl; (exact RV.tmp rfl); intro w2 hw2; refine Ret.mk ?_ hw2)
  all_goals first | exact congrArg Value.bool (dec_false (fun h => by subst h; simp_all)).symm | exact congrArg Value.bool (dec_true (by cases p; cases q; simp_all)).symm
theorem szNoticeS_any (A : Option Addr) (c n : Nat) (k : Int) (w : World) (hn : n ≤ 9223372036854775807) (hk : 0 ≤ k) (hk2 : k ≤ 1048576) : Calls Try.prog 39 #[.slice A n c, .int .i64 k] w (Ret w (.int .i64 (szOf n k))) := by
  refine Calls.ofX (args := [.slice A n c, .int .i64 k]) Try.func39 rfl Try.ntmps39 rfl (S.init w []) ?_
  repeat' (first | apply X.seq | apply X.region | apply X.skip | apply X.ret | (apply X.condP; exact rfl; intro _; rotate_left; intro _; rotate_left) | apply At.then_normal | apply At.then_ret | apply WL.nil | (apply WL.q; exact rfl; exact rfl; exact rfl; ((apply QC.v; (first | (apply Q1.move; exact rfl) | (apply Q1.assign; exact rfl) | (apply Q1.len; exact rfl) | (apply Q1.lss; exact rfl; exact rfl) | (apply Q1.sub; exact rfl; exact rfl; omega))))))
  all_goals (apply At.ret1 (by first | exact .inl rfl | exact .inr rfl); exact rfl; (exact RV.tmp rfl); intro w2 hw2; refine Ret.mk ?_ hw2)
  all_goals first | (rw [szOf_lt (by omega)]; done) | (rw [szOf_ge (by omega)]; done)
theorem toNoticeS_any (A : Option Addr) (c : Nat) (l : List Notice) (w : World) (Ha : SlB w A l) (hl : l.length ≤ 1048576) :
    Calls Try.prog 41 #[.slice A l.length c] w (RetP w [] (fun v hp => ∃ b, v = .slice (some ⟨b, 0, none⟩) l.length l.length ∧ hp = [⟨b, 29, flat l, l.length * 7⟩])) := by
  refine Calls.ofX (args := [.slice A l.length c]) Try.func41 rfl Try.ntmps41 rfl (S.init w []) ?_
  repeat' (first | apply X.seq | apply X.block | apply X.region | apply At.then_normal | apply WL.nil | (apply WL.makeSlice l.length; exact rfl; exact rfl; exact rfl; exact rfl; exact rfl; decide; omega; (simp only [maxLen]; omega); intro b) | (apply WL.q; exact rfl; exact rfl; exact rfl; ((apply QC.v; (first | (apply Q1.move; exact rfl) | (apply Q1.assign; exact rfl) | (apply Q1.len; exact rfl))))))
  refine X.loop (ι := Nat) (fun k => k ≤ l.length) (fun k => [(0, .slice A l.length c), (3, .slice (some ⟨b, 0, none⟩) l.length l.length), (4, .int .i64 k)])
    (fun k => [⟨b, 29, flat (fillTo l k Notice.zero), l.length * 7⟩]) (fun k => l.length - k) 0 (Nat.zero_le _) (by (repeat (first | exact Sub.nil | refine Sub.cons rfl (by first | rfl | (congr 1; omega)) ?_))) (sub_eq (by rw [fillTo_zero, flat_replicate]; rfl)) (fun k hk => ?_)
  repeat' (first | apply X.seq | apply X.block | apply X.region | apply X.skip | apply X.exit | apply X.ret | (apply X.condP; exact rfl; intro _; rotate_left; intro _; rotate_left) | apply At.then_normal | apply At.then_exit | apply At.block_normal | apply At.block_here | apply WL.nil | (apply WL.store; exact rfl; exact rfl; exact adOf_add _ _; exact rfl; exact rfl; (exact Enc.one _); rotate_left; (repeat (exact .head)); rotate_left; (rw [length_flat, length_fillTo]; show _ * 7 + 7 ≤ _ * 7; omega)) | (apply WL.q; exact rfl; exact rfl; exact rfl; (first | (apply QC.call; exact rfl; intro w _; exact toNotice_any _ w) | (apply QC.v; (first | (apply Q1.move; exact rfl) | (apply Q1.assign; exact rfl) | (apply Q1.len; exact rfl) | (apply Q1.loadN; exact rfl; (exact SlR.elem (SlB.r Ha) (by omega)); (exact rfl)) | (apply Q1.lss; exact rfl; exact rfl) | (apply Q1.add; exact rfl; exact rfl; omega) | (apply Q1.indexAddr; exact rfl; exact rfl; exact rfl; omega; (exact SlB.ne0 Ha (by omega))) | (apply Q1.indexAddr; exact rfl; exact rfl; exact rfl; omega; (exact Option.some_ne_none _)))))))
  · refine At.again (k + 1) (by omega) (by omega) (by (repeat (first | exact Sub.nil | refine Sub.cons rfl (by first | rfl | (congr 1; omega)) ?_))) (sub_eq ?_)
    exact congrArg (fun cs => [Res.mk b 29 cs (l.length * 7)]) (fillTo_step l k _ (by omega))
  · obtain rfl : k = l.length := by omega
    apply At.ret1 (.inl rfl) rfl (RV.tmp rfl)
    intro w2 hw2
    exact RetP.mk ⟨b, rfl, by rw [fillTo_all]⟩ hw2 (.refl _)
theorem eqNoticeS_any (A B : Option Addr) (c d : Nat) (l m : List Notice) (w : World) (Ha : SlB w A l) (Hb : SlB w B m) (hl : l.length ≤ 1048576) (hm : m.length ≤ 1048576) :
    Calls Try.prog 43 #[.slice A l.length c, .slice B m.length d] w (Ret w (.bool (dec (l = m)))) := by
  refine Calls.ofX (args := [.slice A l.length c, .slice B m.length d]) Try.func43 rfl Try.ntmps43 rfl (S.init w []) ?_
  repeat' (first | apply X.seq | apply X.block | apply X.region | apply X.skip | apply X.ret | (apply X.condN; exact rfl; intro _; rotate_left; intro _; rotate_left) | apply At.then_normal | apply At.then_ret | apply WL.nil | (apply WL.q; exact rfl; exact rfl; exact rfl; ((apply QC.v; (first | (apply Q1.move; exact rfl) | (apply Q1.assign; exact rfl) | (apply Q1.len; exact rfl) | (apply Q1.neqI; exact rfl; exact rfl))))))
  · (apply At.ret1 (by first | exact .inl rfl | exact .inr rfl); exact rfl; (exact RV.tmp rfl); intro w2 hw2; refine Ret.mk ?_ hw2)
    exact congrArg Value.bool (dec_false (fun h => by subst h; simp_all)).symm
  · have hlm : l.length = m.length := by omega
    refine X.loop (ι := Nat) (fun k => k ≤ l.length ∧ l.take k = m.take k) (fun k => [(0, .slice A l.length c), (1, .slice B m.length d), (5, .int .i64 k)]) (fun _ => []) (fun k => l.length - k) 0 ⟨Nat.zero_le _, rfl⟩ (by (repeat (first | exact Sub.nil | refine Sub.cons rfl (by first | rfl | (congr 1; omega)) ?_))) (by (exact List.nil_sublist _)) (fun k hk => ?_)
    obtain ⟨hk1, hk2⟩ := hk
    repeat' (first | apply X.seq | apply X.block | apply X.region | (apply X.drawn mixed; kernel_rfl) | apply X.skip | apply X.exit | apply X.ret | (apply X.condP; exact rfl; intro _; rotate_left; intro _; rotate_left) | (apply X.condN; exact rfl; intro _; rotate_left; intro _; rotate_left) | apply At.then_normal | apply At.then_exit | apply At.then_ret | apply At.block_normal | apply At.block_ret | apply At.block_here | apply WL.nil | apply WQ.nil | (apply WL.q; exact rfl; exact rfl; exact rfl; ((apply QC.v; (first | (apply Q1.move; exact rfl) | (apply Q1.assign; exact rfl) | (apply Q1.len; exact rfl) | (apply Q1.lss; exact rfl; exact rfl) | (apply Q1.add; exact rfl; exact rfl; omega))))) | (apply WQ.q; exact rfl; exact rfl; exact rfl; (first | (apply QC.call; exact rfl; intro w _; exact eqNotice_any _ _ w) | (apply QC.v; (first | (apply Q1.move; exact rfl) | (apply Q1.not; exact rfl) | (apply Q1.loadN; exact rfl; (first | exact SlR.elem (SlB.r Ha) (by omega) | exact SlR.elem (SlB.r Hb) (by omega)); (exact rfl)) | (apply Q1.indexAddr; exact rfl; exact rfl; exact rfl; omega; (exact SlB.ne0 Ha (by omega))) | (apply Q1.indexAddr; exact rfl; exact rfl; exact rfl; omega; (exact SlB.ne0 Hb (by omega))))))))
    · (apply At.ret1 (by first | exact .inl rfl | exact .inr rfl); exact rfl; (exact RV.tmp rfl); intro w2 hw2; refine Ret.mk ?_ hw2)
      exact congrArg Value.bool (dec_false (fun h => by subst h; simp_all)).symm
    · refine At.again (k + 1) ⟨by omega, ?_⟩ (by omega) (by (repeat (first | exact Sub.nil | refine Sub.cons rfl (by first | rfl | (congr 1; omega)) ?_))) (by (exact List.nil_sublist _))
      rename_i he
      rw [List.take_succ_eq_append_getElem (by omega), List.take_succ_eq_append_getElem (by omega), hk2]
      simp_all
    · (apply At.ret1 (by first | exact .inl rfl | exact .inr rfl); exact rfl; (exact RV.tmp rfl); intro w2 hw2; refine Ret.mk ?_ hw2)
      refine congrArg Value.bool (dec_true ?_).symm
      have e1 := List.take_of_length_le (l := l) (i := k) (by omega)
      have e2 := List.take_of_length_le (l := m) (i := k) (by omega)
      rw [← e1, ← e2, hk2]
end Go.Proofs.Ytnmhoeafdengfaa
