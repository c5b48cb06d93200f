/- Fields: cells beside each other: what the program and the reference compute. No condition beyond sizes. -/
import Derived.Test.YtloglnnemjofgaaDigA
import Derived.Test.YtloglnnemjofgaaIns
namespace Go.Proofs.Ytloglnnemjofgaa
open Go.RowKit
attribute [local irreducible] X WL WQ WH WO At Q1 QC Rd RV Sub SlR SlB Calls Addr.add adOf
theorem absOf_any (a : Int) (w : World) (ha : -9223372036854775807 ≤ a ∧ a ≤ 9223372036854775807) : Calls Try.prog 83 #[.int .i64 a] w (Ret w (.int .i64 (a.natAbs : Int))) := by
  refine Calls.ofX (args := [.int .i64 a]) Try.func83 rfl Try.ntmps83 rfl (S.init w []) ?_
  repeat' (first | apply X.seq | apply X.region | apply X.ret | apply At.then_normal | apply WL.nil | (apply WL.q; exact rfl; exact rfl; exact rfl; (first | (apply QC.v; (first | (apply Q1.move; exact rfl) | (apply Q1.assign; exact rfl) | (apply Q1.neg1; exact rfl; omega) | (apply Q1.max2; exact rfl; exact rfl))))))
  all_goals (apply At.ret1 (by first | exact .inl rfl | exact .inr rfl); exact rfl; (first | exact RV.tmp rfl); intro w2 hw2; refine Ret.mk ?_ hw2)
  all_goals exact vi_ (by omega)
theorem l10Size_any (a : Int) (w : World) (ha : -9223372036854775807 ≤ a ∧ a ≤ 9223372036854775807) : Calls Try.prog 51 #[.int .i64 a] w (Ret w (.int .i64 (a.natAbs : Int))) := by
  refine Calls.ofX (args := [.int .i64 a]) Try.func51 rfl Try.ntmps51 rfl (S.init w []) ?_
  repeat' (first | apply X.seq | apply X.region | apply X.ret | apply At.then_normal | apply WL.nil | (apply WL.q; exact rfl; exact rfl; exact rfl; (first | (apply QC.call; exact rfl; intro w _; first | exact inside_any _ _ _ w | exact l1In_any _ _ _ w | exact isDepth_any _ w | exact l2Depth_any _ w | exact l1Most_any _ _ w | exact l1Least_any _ _ w) | (apply QC.v; (first | (apply Q1.move; exact rfl) | (apply Q1.assign; exact rfl) | (apply Q1.neg1; exact rfl; omega))))))
  all_goals (apply At.ret1 (by first | exact .inl rfl | exact .inr rfl); exact rfl; (first | exact RV.tmp rfl); intro w2 hw2; refine Ret.mk ?_ hw2)
  all_goals exact vi_ (by omega)
def rowD (c i k : Int) : Int := ((i / c - k / c).natAbs : Int)
def colD (c i k : Int) : Int := ((i % c - k % c).natAbs : Int)
/-- A cell is beside another, or around it. -/
def Near (c : Int) (ar : Bool) (i k : Int) : Prop := rowD c i k + colD c i k = 1 ∨ (ar = true ∧ rowD c i k = 1 ∧ colD c i k = 1)
def Close (c i k : Int) : Prop := rowD c i k ≤ 1 ∧ colD c i k ≤ 1
theorem cell_eq {c i k : Int} (h1 : i / c = k / c) (h2 : i % c = k % c) : i = k := by
  have a := Int.emod_add_mul_ediv i c
  have b := Int.emod_add_mul_ediv k c
  rw [h1, h2] at a; omega
theorem Close.cases {c i k : Int} (h : Close c i k) : Near c true i k ∨ k = i := by
  unfold Close at h
  by_cases hr : rowD c i k = 0
  · by_cases hc : colD c i k = 0
    · right
      unfold rowD at hr; unfold colD at hc
      exact (cell_eq (c := c) (by omega) (by omega)).symm
    · left; unfold Near; have : 0 ≤ colD c i k := by unfold colD; omega
      left; omega
  · have h0 : 0 ≤ rowD c i k := by unfold rowD; omega
    have h1 : 0 ≤ colD c i k := by unfold colD; omega
    left; unfold Near
    by_cases hc : colD c i k = 0
    · left; omega
    · right; exact ⟨rfl, by omega, by omega⟩
theorem Near.close {c i k : Int} (h : Near c true i k) : Close c i k := by
  have h0 : 0 ≤ rowD c i k := by unfold rowD; omega
  have h1 : 0 ≤ colD c i k := by unfold colD; omega
  unfold Near at h; unfold Close
  rcases h with h | ⟨_, h2, h3⟩ <;> omega
theorem part_bd {c i : Int} (hc : 1 ≤ c ∧ c ≤ 6) (hi : 0 ≤ i ∧ i ≤ 36) : (0 ≤ i / c ∧ i / c ≤ 36) ∧ (0 ≤ i % c ∧ i % c ≤ 6) := by
  have h1 := Int.ediv_nonneg (a := i) (b := c) hi.1 (by omega)
  have h2 := Int.ediv_le_self c hi.1
  have h3 := Int.emod_nonneg i (b := c) (by omega)
  have h4 := Int.emod_lt_of_pos i (b := c) (by omega)
  omega
open Classical in
noncomputable def nearTo (c : Int) (ar : Bool) (i : Int) : Nat → List Int
  | 0 => []
  | k + 1 => if Near c ar i (k : Int) then nearTo c ar i k ++ [(k : Int)] else nearTo c ar i k
theorem nearTo_yes {c i : Int} {ar : Bool} {k : Nat} (h : Near c ar i (k : Int)) : nearTo c ar i (k + 1) = nearTo c ar i k ++ [(k : Int)] := by rw [nearTo, if_pos h]
theorem nearTo_no {c i : Int} {ar : Bool} {k : Nat} (h : ¬ Near c ar i (k : Int)) : nearTo c ar i (k + 1) = nearTo c ar i k := by rw [nearTo, if_neg h]
theorem nearTo_len (c i : Int) (ar : Bool) : ∀ k : Nat, (nearTo c ar i k).length ≤ k
  | 0 => Nat.le_refl _
  | k + 1 => by
    have := nearTo_len c i ar k
    by_cases h : Near c ar i (k : Int)
    · rw [nearTo_yes h]; simp; omega
    · rw [nearTo_no h]; omega
theorem mem_nearTo {c i : Int} {ar : Bool} {x : Int} : ∀ {k : Nat}, x ∈ nearTo c ar i k ↔ Near c ar i x ∧ 0 ≤ x ∧ x < (k : Int)
  | 0 => by first | (simp [nearTo]; done) | (simp [nearTo]; omega)
  | k + 1 => by
    have ih := mem_nearTo (c := c) (i := i) (ar := ar) (x := x) (k := k)
    by_cases h : Near c ar i (k : Int)
    · rw [nearTo_yes h, List.mem_append, ih, List.mem_singleton]
      constructor
      · rintro (⟨h1, h2⟩ | rfl)
        · exact ⟨h1, by omega⟩
        · exact ⟨h, by omega⟩
      · rintro ⟨h1, h2⟩
        by_cases e : x = (k : Int)
        · exact .inr e
        · exact .inl ⟨h1, by omega⟩
    · rw [nearTo_no h, ih]
      constructor
      · rintro ⟨h1, h2⟩; exact ⟨h1, by omega⟩
      · rintro ⟨h1, h2⟩
        refine ⟨h1, h2.1, ?_⟩
        have : x ≠ (k : Int) := fun e => h (e ▸ h1)
        omega
theorem near_any (r c : Int) (A : Option Addr) (d : Nat) (l : List Int) (i : Int) (ar : Bool) (w : World) (Ha : SlB w A l) (h : FieldOk r c l) (hi : 0 ≤ i ∧ i < (l.length : Int)) : Calls Try.prog 54 #[.agg #[.int .i64 r, .int .i64 c, .slice A l.length d], .int .i64 i, .bool ar] w (RetP w [] (fun u hp => ∃ b e, u = .slice (some ⟨b, 0, none⟩) (nearTo c ar i l.length).length e ∧ hp = [⟨b, 3, flat (nearTo c ar i l.length), e * 1⟩])) := by
  refine Calls.ofX (args := [.agg #[.int .i64 r, .int .i64 c, .slice A l.length d], .int .i64 i, .bool ar]) Try.func54 rfl Try.ntmps54 rfl (S.init w []) ?_
  have hlen := h.len
  have hrc := h.1
  have hml : maxLen = 9223372036854775807 := rfl
  have hpi := part_bd hrc.2 (i := i) (by omega)
  repeat' (first | apply X.seq | apply X.block | apply X.region | (apply X.drawn mixed; kernel_rfl) | apply X.skip | apply X.exit | apply X.ret | (apply X.yes; exact rfl) | (apply X.no; exact rfl) | (apply X.condPt; exact rfl; (first | assumption | omega)) | (apply X.condPf; exact rfl; (first | assumption | omega)) | apply At.then_normal | apply At.then_exit | apply At.block_normal | apply At.block_here | apply WL.nil | apply WQ.nil | (apply WL.skip; exact rfl; exact rfl; exact rfl) | (apply WL.lit0; exact rfl; exact rfl; intro _) | (apply WL.q; exact rfl; exact rfl; exact rfl; (first | (apply QC.call; exact rfl; intro w _; first | exact inside_any _ _ _ w | exact l1In_any _ _ _ w | exact isDepth_any _ w | exact l2Depth_any _ w | exact l1Most_any _ _ w | exact l1Least_any _ _ w) | (apply QC.v; (first | (apply Q1.move; exact rfl) | (apply Q1.assign; exact rfl) | (apply Q1.pick_t; exact rfl; exact rfl) | (apply Q1.pick_f; exact rfl; exact rfl) | (apply Q1.len; exact rfl) | (apply Q1.fieldAddrB; exact rfl) | (apply Q1.load1; exact rfl; (first | exact Rd.own1 (by (repeat (first | exact .head _ | apply List.Mem.tail | apply List.mem_append_right))) rfl)) | (apply Q1.lss; exact rfl; exact rfl) | (apply Q1.add; exact rfl; exact rfl; omega) | (apply Q1.sub; exact rfl; exact rfl; omega) | (apply Q1.eqlI; exact rfl; exact rfl) | (apply Q1.quo; exact rfl; exact rfl; omega) | (apply Q1.rem; exact rfl; exact rfl; omega))))) | (apply WQ.q; exact rfl; exact rfl; exact rfl; (first | (apply QC.call; exact rfl; intro w _; first | exact inside_any _ _ _ w | exact l1In_any _ _ _ w | exact isDepth_any _ w | exact l2Depth_any _ w | exact l1Most_any _ _ w | exact l1Least_any _ _ w) | (apply QC.v; (first | (apply Q1.move; exact rfl) | (apply Q1.assign; exact rfl) | (apply Q1.pick_t; exact rfl; exact rfl) | (apply Q1.pick_f; exact rfl; exact rfl) | (apply Q1.len; exact rfl) | (apply Q1.fieldAddrB; exact rfl) | (apply Q1.load1; exact rfl; (first | exact Rd.own1 (by (repeat (first | exact .head _ | apply List.Mem.tail | apply List.mem_append_right))) rfl)) | (apply Q1.lss; exact rfl; exact rfl) | (apply Q1.add; exact rfl; exact rfl; omega) | (apply Q1.sub; exact rfl; exact rfl; omega) | (apply Q1.eqlI; exact rfl; exact rfl) | (apply Q1.quo; exact rfl; exact rfl; omega) | (apply Q1.rem; exact rfl; exact rfl; omega))))) | (apply WL.box; exact rfl; exact rfl; exact rfl; intro _) | (apply WL.guardPt; exact rfl; exact rfl; (first | assumption | omega)) | (apply WL.guardPf; exact rfl; exact rfl; (first | assumption | omega)))
  rename_i b0 bs
  refine X.loop (ι := Nat × Nat × Nat) (fun s => s.1 ≤ l.length ∧ (nearTo c ar i s.1).length ≤ s.2.2 ∧ s.2.2 ≤ maxLen) (fun s => [(1, .int .i64 i), (2, .bool ar), (3, .pointer (some ⟨b0, 0, none⟩)), (7, .slice (some ⟨s.2.1, 0, none⟩) (nearTo c ar i s.1).length s.2.2), (13, .slice A l.length d), (14, .int .i64 (l.length : Int)), (15, .int .i64 (s.1 : Int))]) (fun s => [⟨s.2.1, 3, flat (nearTo c ar i s.1), s.2.2 * 1⟩, ⟨b0, 26, [.int .i64 r, .int .i64 c, .slice A l.length d], 3⟩]) (fun s => l.length - s.1) (0, bs, 0) ⟨Nat.zero_le _, Nat.le_refl _, Nat.zero_le _⟩ (by (repeat (first | exact Sub.nil | refine Sub.cons rfl (by first | rfl | (congr 1; omega)) ?_))) (by (first | exact List.nil_sublist _ | exact .refl _ | exact .cons_cons _ (List.nil_sublist _) | (repeat (first | exact .refl _ | exact .cons_cons _ (List.nil_sublist _) | apply List.Sublist.cons_cons | apply List.Sublist.cons)))) (fun s hs => ?_)
  obtain ⟨k, b, e⟩ := s
  obtain ⟨g1, g2, g3⟩ := hs
  dsimp only at g1 g2 g3 ⊢
  have hnl := nearTo_len c i ar k
  by_cases hlt : k < l.length
  · have hpk := part_bd hrc.2 (i := (k : Int)) (by omega)
    have hR : 0 ≤ rowD c i k ∧ rowD c i k ≤ 36 := by unfold rowD; omega
    have hC : 0 ≤ colD c i k ∧ colD c i k ≤ 36 := by unfold colD; omega
    have eR : ((i / c - (k : Int) / c).natAbs : Int) = rowD c i k := rfl
    have eC : ((i % c - (k : Int) % c).natAbs : Int) = colD c i k := rfl
    by_cases hn : Near c ar i (k : Int)
    · have hcat : flat (nearTo c ar i k) ++ flat [(k : Int)] = flat (nearTo c ar i (k + 1)) := by rw [nearTo_yes hn, flat_append]
      have hlen2 : (nearTo c ar i (k + 1)).length = (nearTo c ar i k).length + 1 := by rw [nearTo_yes hn]; simp
      have hn' := hn
      unfold Near at hn'
      have hcase : (rowD c i k + colD c i k = 1) ∨ (¬ rowD c i k + colD c i k = 1 ∧ ar = true ∧ rowD c i k = 1 ∧ colD c i k = 1) := by
        by_cases h1 : rowD c i k + colD c i k = 1
        · exact .inl h1
        · exact .inr ⟨h1, hn'.resolve_left h1⟩
      rcases hcase with h1 | ⟨h1, rfl, h2, h3⟩
      · repeat' (first | apply X.seq | apply X.block | apply X.region | (apply X.drawn mixed; kernel_rfl) | apply X.skip | apply X.exit | apply X.ret | (apply X.yes; exact rfl) | (apply X.no; exact rfl) | (apply X.condPt; exact rfl; (first | assumption | omega)) | (apply X.condPf; exact rfl; (first | assumption | omega)) | apply At.then_normal | apply At.then_exit | apply At.block_normal | apply At.block_here | apply WL.nil | apply WQ.nil | (apply WL.skip; exact rfl; exact rfl; exact rfl) | (apply WL.lit (cs := [.int .i64 _]); exact rfl; exact rfl; exact rfl; decide; decide; exact litI_1 _ _; exact rfl; intro _) | (apply WL.appendT (flat [(k : Int)]) (flat (nearTo c ar i (k + 1))) ((nearTo c ar i (k + 1)).length); exact rfl; exact rfl; exact rfl; exact rfl; (repeat (first | exact .head | apply Rem.tail | apply Rem.app)); exact Rd.whole (by (repeat (first | exact .head _ | apply List.Mem.tail | apply List.mem_append_right))); exact rfl; exact flat_one _; exact length_flat _; omega; (first | assumption | omega); omega; omega; decide; exact rfl; (first | exact hcat | skip); (first | exact rfl | exact hlen2.symm); intro _ _ _ _) | (apply WL.q; exact rfl; exact rfl; exact rfl; (first | (apply QC.call; exact rfl; intro w _; exact absOf_any _ w (by omega)) | (apply QC.call; exact rfl; intro w _; first | exact inside_any _ _ _ w | exact l1In_any _ _ _ w | exact isDepth_any _ w | exact l2Depth_any _ w | exact l1Most_any _ _ w | exact l1Least_any _ _ w) | (apply QC.v; (first | (apply Q1.move; exact rfl) | (apply Q1.assign; exact rfl) | (apply Q1.pick_t; exact rfl; exact rfl) | (apply Q1.pick_f; exact rfl; exact rfl) | (apply Q1.len; exact rfl) | (apply Q1.fieldAddrB; exact rfl) | (apply Q1.load1; exact rfl; (first | exact Rd.own1 (by (repeat (first | exact .head _ | apply List.Mem.tail | apply List.mem_append_right))) rfl)) | (apply Q1.lss; exact rfl; exact rfl) | (apply Q1.add; exact rfl; exact rfl; omega) | (apply Q1.sub; exact rfl; exact rfl; omega) | (apply Q1.eqlI; exact rfl; exact rfl) | (apply Q1.quo; exact rfl; exact rfl; omega) | (apply Q1.rem; exact rfl; exact rfl; omega))))) | (apply WQ.q; exact rfl; exact rfl; exact rfl; (first | (apply QC.call; exact rfl; intro w _; exact absOf_any _ w (by omega)) | (apply QC.call; exact rfl; intro w _; first | exact inside_any _ _ _ w | exact l1In_any _ _ _ w | exact isDepth_any _ w | exact l2Depth_any _ w | exact l1Most_any _ _ w | exact l1Least_any _ _ w) | (apply QC.v; (first | (apply Q1.move; exact rfl) | (apply Q1.assign; exact rfl) | (apply Q1.pick_t; exact rfl; exact rfl) | (apply Q1.pick_f; exact rfl; exact rfl) | (apply Q1.len; exact rfl) | (apply Q1.fieldAddrB; exact rfl) | (apply Q1.load1; exact rfl; (first | exact Rd.own1 (by (repeat (first | exact .head _ | apply List.Mem.tail | apply List.mem_append_right))) rfl)) | (apply Q1.lss; exact rfl; exact rfl) | (apply Q1.add; exact rfl; exact rfl; omega) | (apply Q1.sub; exact rfl; exact rfl; omega) | (apply Q1.eqlI; exact rfl; exact rfl) | (apply Q1.quo; exact rfl; exact rfl; omega) | (apply Q1.rem; exact rfl; exact rfl; omega))))) | (apply WL.box; exact rfl; exact rfl; exact rfl; intro _) | (apply WL.guardPt; exact rfl; exact rfl; (first | assumption | omega)) | (apply WL.guardPf; exact rfl; exact rfl; (first | assumption | omega)))
        rename_i b' e' q1 q2
        exact At.again (k + 1, b', e') ⟨by dsimp only; omega, q1, q2⟩ (by dsimp only; omega) (by (repeat (first | exact Sub.nil | refine Sub.cons rfl (by first | rfl | (congr 1; omega)) ?_))) (by first | exact .cons_cons _ (.cons _ (.refl _)) | (first | exact List.nil_sublist _ | exact .refl _ | exact .cons_cons _ (List.nil_sublist _) | (repeat (first | exact .refl _ | exact .cons_cons _ (List.nil_sublist _) | apply List.Sublist.cons_cons | apply List.Sublist.cons))))
      · repeat' (first | apply X.seq | apply X.block | apply X.region | (apply X.drawn mixed; kernel_rfl) | apply X.skip | apply X.exit | apply X.ret | (apply X.yes; exact rfl) | (apply X.no; exact rfl) | (apply X.condPt; exact rfl; (first | assumption | omega)) | (apply X.condPf; exact rfl; (first | assumption | omega)) | apply At.then_normal | apply At.then_exit | apply At.block_normal | apply At.block_here | apply WL.nil | apply WQ.nil | (apply WL.skip; exact rfl; exact rfl; exact rfl) | (apply WL.lit (cs := [.int .i64 _]); exact rfl; exact rfl; exact rfl; decide; decide; exact litI_1 _ _; exact rfl; intro _) | (apply WL.appendT (flat [(k : Int)]) (flat (nearTo c true i (k + 1))) ((nearTo c true i (k + 1)).length); exact rfl; exact rfl; exact rfl; exact rfl; (repeat (first | exact .head | apply Rem.tail | apply Rem.app)); exact Rd.whole (by (repeat (first | exact .head _ | apply List.Mem.tail | apply List.mem_append_right))); exact rfl; exact flat_one _; exact length_flat _; omega; (first | assumption | omega); omega; omega; decide; exact rfl; (first | exact hcat | skip); (first | exact rfl | exact hlen2.symm); intro _ _ _ _) | (apply WL.q; exact rfl; exact rfl; exact rfl; (first | (apply QC.call; exact rfl; intro w _; exact absOf_any _ w (by omega)) | (apply QC.call; exact rfl; intro w _; first | exact inside_any _ _ _ w | exact l1In_any _ _ _ w | exact isDepth_any _ w | exact l2Depth_any _ w | exact l1Most_any _ _ w | exact l1Least_any _ _ w) | (apply QC.v; (first | (apply Q1.move; exact rfl) | (apply Q1.assign; exact rfl) | (apply Q1.pick_t; exact rfl; exact rfl) | (apply Q1.pick_f; exact rfl; exact rfl) | (apply Q1.len; exact rfl) | (apply Q1.fieldAddrB; exact rfl) | (apply Q1.load1; exact rfl; (first | exact Rd.own1 (by (repeat (first | exact .head _ | apply List.Mem.tail | apply List.mem_append_right))) rfl)) | (apply Q1.lss; exact rfl; exact rfl) | (apply Q1.add; exact rfl; exact rfl; omega) | (apply Q1.sub; exact rfl; exact rfl; omega) | (apply Q1.eqlI; exact rfl; exact rfl) | (apply Q1.quo; exact rfl; exact rfl; omega) | (apply Q1.rem; exact rfl; exact rfl; omega))))) | (apply WQ.q; exact rfl; exact rfl; exact rfl; (first | (apply QC.call; exact rfl; intro w _; exact absOf_any _ w (by omega)) | (apply QC.call; exact rfl; intro w _; first | exact inside_any _ _ _ w | exact l1In_any _ _ _ w | exact isDepth_any _ w | exact l2Depth_any _ w | exact l1Most_any _ _ w | exact l1Least_any _ _ w) | (apply QC.v; (first | (apply Q1.move; exact rfl) | (apply Q1.assign; exact rfl) | (apply Q1.pick_t; exact rfl; exact rfl) | (apply Q1.pick_f; exact rfl; exact rfl) | (apply Q1.len; exact rfl) | (apply Q1.fieldAddrB; exact rfl) | (apply Q1.load1; exact rfl; (first | exact Rd.own1 (by (repeat (first | exact .head _ | apply List.Mem.tail | apply List.mem_append_right))) rfl)) | (apply Q1.lss; exact rfl; exact rfl) | (apply Q1.add; exact rfl; exact rfl; omega) | (apply Q1.sub; exact rfl; exact rfl; omega) | (apply Q1.eqlI; exact rfl; exact rfl) | (apply Q1.quo; exact rfl; exact rfl; omega) | (apply Q1.rem; exact rfl; exact rfl; omega))))) | (apply WL.box; exact rfl; exact rfl; exact rfl; intro _) | (apply WL.guardPt; exact rfl; exact rfl; (first | assumption | omega)) | (apply WL.guardPf; exact rfl; exact rfl; (first | assumption | omega)))
        rename_i b' e' q1 q2
        exact At.again (k + 1, b', e') ⟨by dsimp only; omega, q1, q2⟩ (by dsimp only; omega) (by (repeat (first | exact Sub.nil | refine Sub.cons rfl (by first | rfl | (congr 1; omega)) ?_))) (by first | exact .cons_cons _ (.cons _ (.refl _)) | (first | exact List.nil_sublist _ | exact .refl _ | exact .cons_cons _ (List.nil_sublist _) | (repeat (first | exact .refl _ | exact .cons_cons _ (List.nil_sublist _) | apply List.Sublist.cons_cons | apply List.Sublist.cons))))
    · have hn' := hn
      unfold Near at hn'
      have hcase : ¬ rowD c i k + colD c i k = 1 ∧ (ar = false ∨ (ar = true ∧ ¬ rowD c i k = 1) ∨ (ar = true ∧ rowD c i k = 1 ∧ ¬ colD c i k = 1)) := by
        refine ⟨fun h => hn' (.inl h), ?_⟩
        cases ar
        · exact .inl rfl
        · by_cases h2 : rowD c i k = 1
          · exact .inr (.inr ⟨rfl, h2, fun h3 => hn' (.inr ⟨rfl, h2, h3⟩)⟩)
          · exact .inr (.inl ⟨rfl, h2⟩)
      obtain ⟨h1, hcase⟩ := hcase
      rcases hcase with rfl | ⟨rfl, h2⟩ | ⟨rfl, h2, h3⟩
      all_goals
        repeat' (first | apply X.seq | apply X.block | apply X.region | (apply X.drawn mixed; kernel_rfl) | apply X.skip | apply X.exit | apply X.ret | (apply X.yes; exact rfl) | (apply X.no; exact rfl) | (apply X.condPt; exact rfl; (first | assumption | omega)) | (apply X.condPf; exact rfl; (first | assumption | omega)) | apply At.then_normal | apply At.then_exit | apply At.block_normal | apply At.block_here | apply WL.nil | apply WQ.nil | (apply WL.skip; exact rfl; exact rfl; exact rfl) | (apply WL.q; exact rfl; exact rfl; exact rfl; (first | (apply QC.call; exact rfl; intro w _; exact absOf_any _ w (by omega)) | (apply QC.call; exact rfl; intro w _; first | exact inside_any _ _ _ w | exact l1In_any _ _ _ w | exact isDepth_any _ w | exact l2Depth_any _ w | exact l1Most_any _ _ w | exact l1Least_any _ _ w) | (apply QC.v; (first | (apply Q1.move; exact rfl) | (apply Q1.assign; exact rfl) | (apply Q1.pick_t; exact rfl; exact rfl) | (apply Q1.pick_f; exact rfl; exact rfl) | (apply Q1.len; exact rfl) | (apply Q1.fieldAddrB; exact rfl) | (apply Q1.load1; exact rfl; (first | exact Rd.own1 (by (repeat (first | exact .head _ | apply List.Mem.tail | apply List.mem_append_right))) rfl)) | (apply Q1.lss; exact rfl; exact rfl) | (apply Q1.add; exact rfl; exact rfl; omega) | (apply Q1.sub; exact rfl; exact rfl; omega) | (apply Q1.eqlI; exact rfl; exact rfl) | (apply Q1.quo; exact rfl; exact rfl; omega) | (apply Q1.rem; exact rfl; exact rfl; omega))))) | (apply WQ.q; exact rfl; exact rfl; exact rfl; (first | (apply QC.call; exact rfl; intro w _; exact absOf_any _ w (by omega)) | (apply QC.call; exact rfl; intro w _; first | exact inside_any _ _ _ w | exact l1In_any _ _ _ w | exact isDepth_any _ w | exact l2Depth_any _ w | exact l1Most_any _ _ w | exact l1Least_any _ _ w) | (apply QC.v; (first | (apply Q1.move; exact rfl) | (apply Q1.assign; exact rfl) | (apply Q1.pick_t; exact rfl; exact rfl) | (apply Q1.pick_f; exact rfl; exact rfl) | (apply Q1.len; exact rfl) | (apply Q1.fieldAddrB; exact rfl) | (apply Q1.load1; exact rfl; (first | exact Rd.own1 (by (repeat (first | exact .head _ | apply List.Mem.tail | apply List.mem_append_right))) rfl)) | (apply Q1.lss; exact rfl; exact rfl) | (apply Q1.add; exact rfl; exact rfl; omega) | (apply Q1.sub; exact rfl; exact rfl; omega) | (apply Q1.eqlI; exact rfl; exact rfl) | (apply Q1.quo; exact rfl; exact rfl; omega) | (apply Q1.rem; exact rfl; exact rfl; omega))))) | (apply WL.box; exact rfl; exact rfl; exact rfl; intro _) | (apply WL.guardPt; exact rfl; exact rfl; (first | assumption | omega)) | (apply WL.guardPf; exact rfl; exact rfl; (first | assumption | omega)))
        exact At.again (k + 1, b, e) ⟨by dsimp only; omega, by dsimp only; rw [nearTo_no hn]; exact g2, g3⟩ (by dsimp only; omega) (by dsimp only; rw [nearTo_no hn]; (repeat (first | exact Sub.nil | refine Sub.cons rfl (by first | rfl | (congr 1; omega)) ?_))) (by dsimp only; rw [nearTo_no hn]; (first | exact List.nil_sublist _ | exact .refl _ | exact .cons_cons _ (List.nil_sublist _) | (repeat (first | exact .refl _ | exact .cons_cons _ (List.nil_sublist _) | apply List.Sublist.cons_cons | apply List.Sublist.cons))))
  · have ek : k = l.length := by omega
    repeat' (first | apply X.seq | apply X.block | apply X.region | (apply X.drawn mixed; kernel_rfl) | apply X.skip | apply X.exit | apply X.ret | (apply X.yes; exact rfl) | (apply X.no; exact rfl) | (apply X.condPt; exact rfl; (first | assumption | omega)) | (apply X.condPf; exact rfl; (first | assumption | omega)) | apply At.then_normal | apply At.then_exit | apply At.block_normal | apply At.block_here | apply WL.nil | apply WQ.nil | (apply WL.skip; exact rfl; exact rfl; exact rfl) | (apply WL.q; exact rfl; exact rfl; exact rfl; (first | (apply QC.call; exact rfl; intro w _; first | exact inside_any _ _ _ w | exact l1In_any _ _ _ w | exact isDepth_any _ w | exact l2Depth_any _ w | exact l1Most_any _ _ w | exact l1Least_any _ _ w) | (apply QC.v; (first | (apply Q1.move; exact rfl) | (apply Q1.assign; exact rfl) | (apply Q1.pick_t; exact rfl; exact rfl) | (apply Q1.pick_f; exact rfl; exact rfl) | (apply Q1.len; exact rfl) | (apply Q1.fieldAddrB; exact rfl) | (apply Q1.load1; exact rfl; (first | exact Rd.own1 (by (repeat (first | exact .head _ | apply List.Mem.tail | apply List.mem_append_right))) rfl)) | (apply Q1.lss; exact rfl; exact rfl) | (apply Q1.add; exact rfl; exact rfl; omega) | (apply Q1.sub; exact rfl; exact rfl; omega) | (apply Q1.eqlI; exact rfl; exact rfl) | (apply Q1.quo; exact rfl; exact rfl; omega) | (apply Q1.rem; exact rfl; exact rfl; omega))))) | (apply WQ.q; exact rfl; exact rfl; exact rfl; (first | (apply QC.call; exact rfl; intro w _; first | exact inside_any _ _ _ w | exact l1In_any _ _ _ w | exact isDepth_any _ w | exact l2Depth_any _ w | exact l1Most_any _ _ w | exact l1Least_any _ _ w) | (apply QC.v; (first | (apply Q1.move; exact rfl) | (apply Q1.assign; exact rfl) | (apply Q1.pick_t; exact rfl; exact rfl) | (apply Q1.pick_f; exact rfl; exact rfl) | (apply Q1.len; exact rfl) | (apply Q1.fieldAddrB; exact rfl) | (apply Q1.load1; exact rfl; (first | exact Rd.own1 (by (repeat (first | exact .head _ | apply List.Mem.tail | apply List.mem_append_right))) rfl)) | (apply Q1.lss; exact rfl; exact rfl) | (apply Q1.add; exact rfl; exact rfl; omega) | (apply Q1.sub; exact rfl; exact rfl; omega) | (apply Q1.eqlI; exact rfl; exact rfl) | (apply Q1.quo; exact rfl; exact rfl; omega) | (apply Q1.rem; exact rfl; exact rfl; omega))))) | (apply WL.box; exact rfl; exact rfl; exact rfl; intro _) | (apply WL.guardPt; exact rfl; exact rfl; (first | assumption | omega)) | (apply WL.guardPf; exact rfl; exact rfl; (first | assumption | omega)))
    apply At.ret1 (.inl rfl) rfl (RV.tmp rfl)
    intro w2 hw2
    exact RetP.mk (hp' := [⟨b, 3, flat (nearTo c ar i k), e * 1⟩]) ⟨b, e, by rw [ek], by rw [ek]⟩ hw2 (by (first | exact List.nil_sublist _ | exact .refl _ | exact .cons_cons _ (List.nil_sublist _) | (repeat (first | exact .refl _ | exact .cons_cons _ (List.nil_sublist _) | apply List.Sublist.cons_cons | apply List.Sublist.cons))))
end Go.Proofs.Ytloglnnemjofgaa
