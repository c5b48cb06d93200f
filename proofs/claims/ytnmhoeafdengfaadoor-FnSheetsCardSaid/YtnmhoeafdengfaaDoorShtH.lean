/- Sheets: EnterNotice: what the program and the reference compute; the sheet behind a notice is valid. No condition beyond sizes. -/
import Derived.Test.YtnmhoeafdengfaaDoorShtG
namespace Go.Proofs.YtnmhoeafdengfaaDoor
open Go.RowKit
attribute [local irreducible] X WL WQ WH WO At Q1 QC Rd RV Sub SlR SlB Calls Addr.add adOf
theorem CanEnter.ent {l : List Marked} {t : Int} {n : Notice} (h : CanEnter l t n) : EntOk l n := ⟨by have := h.2.1.2.2.2.2.2; omega, fun hk => ((whyB_ok h.2.2).2.2 hk).1⟩
theorem whyB_full {l : List Marked} {t : Int} {n : Notice} (h : whyB l t n = true) (h1 : n.kind = 1) : l.length ≠ 10 := fun e => by
  have w1 := whyB_ok h
  have h3 := w1.2.1 h1
  unfold whyB whyOf at h
  rw [if_neg (not_not_intro w1.1), if_neg (fun h4 => by omega), if_neg (fun h4 => h4.1 h1), if_neg (fun h4 => h4.1 h1), if_pos ⟨h1, e⟩] at h
  simp only [ByteArray.toList_eq] at h
  exact absurd h (by decide)
theorem enterL_len (l : List Marked) (n : Notice) : (enterL l n).length ≤ l.length + 1 := by
  unfold enterL
  split
  · unfold insL; simp; omega
  · split
    · simp; omega
    · split <;> simp
theorem SheetOk.parts {l : List Marked} {t : Int} : SheetOk l t ↔ ((∀ m ∈ l, m.ok) ∧ l.Pairwise (fun a b => a.id < b.id)) ∧ l.length ≤ 10 ∧ (0 ≤ t ∧ t ≤ 999) := by
  constructor
  · rintro ⟨h1, h2⟩
    refine ⟨⟨fun m hm => ?_, List.pairwise_iff_getElem.2 fun i j hi hj hij => ?_⟩, h2⟩
    · obtain ⟨i, hi, rfl⟩ := List.getElem_of_mem hm
      exact (h1 i hi hi).1
    · have key : ∀ m : Nat, ∀ hm : i + 1 + m < l.length, l[i].id < l[i + 1 + m].id := by
        intro m
        induction m with
        | zero => intro hm; exact (h1 (i + 1) (by omega) hm).2 (by omega)
        | succ m ih =>
          intro hm
          have h4 := ih (by omega)
          have h5 := (h1 (i + 1 + (m + 1)) (by omega) hm).2 (by omega)
          exact Int.lt_trans h4 h5
      have := key (j - (i + 1)) (by omega)
      simpa [show i + 1 + (j - (i + 1)) = j by omega] using this
  · rintro ⟨⟨h1, h3⟩, h2⟩
    have h5 := List.pairwise_iff_getElem.1 h3
    exact ⟨fun i hi hl => ⟨h1 _ (List.getElem_mem hl), fun h0 => h5 (i - 1) i (by omega) hl (by omega)⟩, h2⟩
theorem insAt_ex (l : List Marked) (id : Int) : ∃ k, InsAt l id k := by
  have key : ∀ m : Nat, m ≤ l.length → (∃ k, InsAt l id k) ∨ ∀ j (_ : j < m) (h : j < l.length), l[j].id < id := by
    intro m
    induction m with
    | zero => exact fun _ => .inr fun j hj => by omega
    | succ m ih =>
      intro hm
      rcases ih (by omega) with h | h
      · exact .inl h
      · by_cases hlt : l[m].id < id
        · refine .inr fun j hj hl => ?_
          by_cases e : j = m
          · subst e; exact hlt
          · exact h j (by omega) hl
        · exact .inl ⟨m, by omega, h, fun _ => hlt⟩
  rcases key l.length (Nat.le_refl _) with h | h
  · exact h
  · exact ⟨l.length, Nat.le_refl _, h, fun h2 => by omega⟩
theorem markAt_none {l : List Marked} {id : Int} (h : markAt l id < 0) : ∀ m ∈ l, m.id ≠ id := fun m hm e => by
  rcases firstIdx_spec (fun m : Marked => m.id = id) l with ⟨i, hi, _, _, e2⟩ | ⟨_, h2⟩
  · have : markAt l id = (i : Int) := e2
    omega
  · obtain ⟨i, hi, rfl⟩ := List.getElem_of_mem hm
    exact h2 i hi e
theorem set_ok {l : List Marked} {t u : Int} (h : SheetOk l t) (hu : 0 ≤ u ∧ u ≤ 999) {i : Nat} (hi : i < l.length) {m : Marked} (hm : m.ok) (hid : m.id = l[i].id) : SheetOk (l.set i m) u := by
  obtain ⟨⟨h1, h2⟩, h3, _⟩ := SheetOk.parts.1 h
  refine SheetOk.parts.2 ⟨⟨fun q hq => ?_, List.pairwise_iff_getElem.2 fun j k hj hk hjk => ?_⟩, by simpa using h3, hu⟩
  · rcases List.mem_or_eq_of_mem_set hq with h4 | rfl
    · exact h1 q h4
    · exact hm
  · simp only [List.length_set] at hj hk
    have h5 := List.pairwise_iff_getElem.1 h2 j k hj hk hjk
    have e : ∀ x (hx : x < l.length), ((l.set i m)[x]'(by simpa using hx)).id = l[x].id := fun x hx => by
      rw [List.getElem_set]
      by_cases ex : i = x
      · subst ex; rw [if_pos rfl]; exact hid
      · rw [if_neg ex]
    rw [e j hj, e k hk]; exact h5
/-- The sheet behind a notice is valid. -/
theorem CanEnter.ok {l : List Marked} {t : Int} {n : Notice} (h : CanEnter l t n) : SheetOk (enterL l n) n.number := by
  have hent := h.ent
  obtain ⟨h1, h2, h3⟩ := h
  obtain ⟨w1, w2, w3⟩ := whyB_ok h3
  obtain ⟨⟨g1, g2⟩, g3, _⟩ := SheetOk.parts.1 h1
  have hn : 0 ≤ n.number ∧ n.number ≤ 999 := by have := h2.1; omega
  have hmk := h2.2.1
  have hdp := h2.2.2.2.1
  have hsp := h2.2.2.2.2.1
  by_cases k1 : n.kind = 1
  · obtain ⟨k, hk⟩ := insAt_ex l n.mark
    have hk' : InsAt l (⟨n.mark, n.x, n.y, n.depth⟩ : Marked).id k := hk
    rw [enter1 k1, hk'.l]
    have hno := markAt_none (w2 k1)
    have hfull := whyB_full h3 k1
    have hpt : ∀ a ∈ l.take k, a.id < n.mark := fun a ha => by
      obtain ⟨j, hj, rfl⟩ := List.mem_take_iff_getElem.1 ha
      exact hk.2.1 j (by omega) (by omega)
    have hpd : ∀ b ∈ l.drop k, n.mark < b.id := fun b hb => by
      obtain ⟨j, hj, rfl⟩ := List.getElem_of_mem hb
      have hj2 : k + j < l.length := by simp at hj; omega
      rw [List.getElem_drop]
      have h4 := hk.2.2 (by omega)
      have h5 := hno _ (List.getElem_mem hj2)
      rcases Nat.eq_zero_or_pos j with e | e
      · subst e; simp only [Nat.add_zero] at h5 ⊢; omega
      · have := List.pairwise_iff_getElem.1 g2 k (k + j) (by omega) hj2 (by omega)
        have h6 := hno _ (List.getElem_mem (show k < l.length by omega))
        omega
    refine SheetOk.parts.2 ⟨⟨fun q hq => ?_, ?_⟩, by simp; omega, hn⟩
    · rcases List.mem_append.1 hq with h4 | h4
      · exact g1 q (List.mem_of_mem_take h4)
      · rcases List.mem_cons.1 h4 with rfl | h4
        · exact ⟨hmk, hsp, hdp⟩
        · exact g1 q (List.mem_of_mem_drop h4)
    · refine List.pairwise_append.2 ⟨g2.sublist (List.take_sublist _ _), List.pairwise_cons.2 ⟨hpd, g2.sublist (List.drop_sublist _ _)⟩, fun a ha b hb => ?_⟩
      rcases List.mem_cons.1 hb with rfl | hb
      · exact hpt a ha
      · exact Int.lt_trans (hpt a ha) (hpd b hb)
  · obtain ⟨i, hi, em, eid, eg⟩ := hent.at k1
    have hli := g1 _ (List.getElem_mem hi)
    by_cases k2 : n.kind = 2
    · rw [enter2 k2 em]
      have hsub : (l.take i ++ l.drop (i + 1)).Sublist l := by
        have : l = l.take i ++ l.drop i := (List.take_append_drop i l).symm
        conv => rhs; rw [this]
        refine (List.Sublist.refl _).append ?_
        rw [List.drop_eq_getElem_cons hi]
        exact .cons _ (.refl _)
      exact SheetOk.parts.2 ⟨⟨fun q hq => g1 q (hsub.subset hq), g2.sublist hsub⟩, by have := hsub.length_le; omega, hn⟩
    · by_cases k3 : n.kind = 3
      · rw [enter3 k3 em hi]
        exact set_ok h1 hn hi ⟨hmk, hli.2.1, hdp⟩ eid.symm
      · have k4 : n.kind = 4 := by have := hent.1; omega
        rw [enter4 k4 em hi]
        exact set_ok h1 hn hi ⟨hmk, hsp, hli.2.2⟩ eid.symm
theorem specEnterN_no (a : Addr) (d : Nat) (l : List Marked) (t : Int) (n : Notice) (w : World) (Ha : SlB w (some a) l) (hl : l.length ≤ 1048576) (hd : l.length ≤ d) (h : ¬ CanEnter l t n) : Calls Tryd.prog 45 #[.agg #[.slice (some a) l.length d, .int .i64 t], .agg (Enc.cells n).toArray] w (Ret w (.tuple #[.agg #[.slice none 0 0, .int .i64 0], .bool false])) := by
  refine Calls.ofX (args := [.agg #[.slice (some a) l.length d, .int .i64 t], .agg (Enc.cells n).toArray]) Tryd.func45 rfl Tryd.ntmps45 rfl (S.init w []) ?_
  obtain ⟨s, es⟩ := whyOf_ex l t n
  by_cases h1 : SheetOk l t
  · have e1 := dec_true h1
    by_cases h2 : n.ok
    · have e2 := dec_true h2
      have h3 : ¬ whyB l t n = true := fun h3 => h ⟨h1, h2, h3⟩
      have e3 := Bool.eq_false_iff.mpr h3; rw [whyB_eq es] at e3
      repeat' (first | (apply WL.storeAll; exact rfl; exact rfl; exact rfl; (first | exact rfl); (first | exact List.all_eq_true.mp rfl); (repeat (first | exact .head | apply Repl.tail | apply Repl.app)); (first | exact rfl)) | apply X.seq | apply X.region | apply X.ret | (apply X.yes; exact rfl) | apply At.then_normal | apply At.then_ret | apply WL.nil | (apply WL.skip; exact rfl; exact rfl; exact rfl) | (apply WL.q; exact rfl; exact rfl; exact rfl; (first | (apply QC.call; exact rfl; intro w hw; first | exact l21Good_b _ _ l t true w e1 (Ha.at_ hw) hl | exact l21Notice_b n true w e2 | exact l21Why_b _ _ l t n s w es (Ha.at_ hw) hl h1.2.2) | (apply QC.v; (first | (apply Q1.move; exact rfl) | (apply Q1.assign; exact rfl) | (apply Q1.neqS_b; exact rfl; exact rfl; exact e3) | (apply Q1.not; exact rfl) | (apply Q1.pick_t; exact rfl; exact rfl) | (apply Q1.pick_f; exact rfl; exact rfl) | (apply Q1.loadN; exact rfl; (first | exact Rd.whole (by (repeat (first | exact .head _ | apply List.Mem.tail | apply List.mem_append_right)))); (first | exact rfl)) | (apply Q1.build; exact rfl; exact rfl))))) | (apply WL.alloc; exact rfl; exact rfl; intro _) | (apply WL.box; exact rfl; exact rfl; exact rfl; intro _) | (apply WL.storeAll; exact rfl; exact rfl; exact rfl; (first | exact rfl); (first | (intro u hu; simp at hu; rcases hu with rfl | rfl | rfl | rfl | rfl | rfl <;> rfl)); (repeat (first | exact .head | apply Repl.tail | apply Repl.app)); (first | exact rfl)))
      (apply At.ret2 (by first | exact .inl rfl | exact .inr rfl); exact rfl; (first | exact RV.tmp rfl | (apply RV.cellN; exact rfl; exact Rd.whole (by (repeat (first | exact .head _ | apply List.Mem.tail | apply List.mem_append_right))); (first | exact rfl))); (first | exact RV.tmp rfl | (apply RV.cellN; exact rfl; exact Rd.whole (by (repeat (first | exact .head _ | apply List.Mem.tail | apply List.mem_append_right))); (first | exact rfl))); intro w2 hw2; refine Ret.mk ?_ hw2)
      rfl
    · have e2 := dec_false h2
      repeat' (first | (apply WL.storeAll; exact rfl; exact rfl; exact rfl; (first | exact rfl); (first | exact List.all_eq_true.mp rfl); (repeat (first | exact .head | apply Repl.tail | apply Repl.app)); (first | exact rfl)) | apply X.seq | apply X.region | apply X.ret | (apply X.yes; exact rfl) | apply At.then_normal | apply At.then_ret | apply WL.nil | (apply WL.skip; exact rfl; exact rfl; exact rfl) | (apply WL.q; exact rfl; exact rfl; exact rfl; (first | (apply QC.call; exact rfl; intro w hw; first | exact l21Good_b _ _ l t true w e1 (Ha.at_ hw) hl | exact l21Notice_b n false w e2) | (apply QC.v; (first | (apply Q1.move; exact rfl) | (apply Q1.assign; exact rfl) | (apply Q1.not; exact rfl) | (apply Q1.pick_t; exact rfl; exact rfl) | (apply Q1.pick_f; exact rfl; exact rfl) | (apply Q1.loadN; exact rfl; (first | exact Rd.whole (by (repeat (first | exact .head _ | apply List.Mem.tail | apply List.mem_append_right)))); (first | exact rfl)) | (apply Q1.build; exact rfl; exact rfl))))) | (apply WL.alloc; exact rfl; exact rfl; intro _) | (apply WL.box; exact rfl; exact rfl; exact rfl; intro _) | (apply WL.storeAll; exact rfl; exact rfl; exact rfl; (first | exact rfl); (first | (intro u hu; simp at hu; rcases hu with rfl | rfl | rfl | rfl | rfl | rfl <;> rfl)); (repeat (first | exact .head | apply Repl.tail | apply Repl.app)); (first | exact rfl)))
      (apply At.ret2 (by first | exact .inl rfl | exact .inr rfl); exact rfl; (first | exact RV.tmp rfl | (apply RV.cellN; exact rfl; exact Rd.whole (by (repeat (first | exact .head _ | apply List.Mem.tail | apply List.mem_append_right))); (first | exact rfl))); (first | exact RV.tmp rfl | (apply RV.cellN; exact rfl; exact Rd.whole (by (repeat (first | exact .head _ | apply List.Mem.tail | apply List.mem_append_right))); (first | exact rfl))); intro w2 hw2; refine Ret.mk ?_ hw2)
      rfl
  · have e1 := dec_false h1
    repeat' (first | (apply WL.storeAll; exact rfl; exact rfl; exact rfl; (first | exact rfl); (first | exact List.all_eq_true.mp rfl); (repeat (first | exact .head | apply Repl.tail | apply Repl.app)); (first | exact rfl)) | apply X.seq | apply X.region | apply X.ret | (apply X.yes; exact rfl) | apply At.then_normal | apply At.then_ret | apply WL.nil | (apply WL.skip; exact rfl; exact rfl; exact rfl) | (apply WL.q; exact rfl; exact rfl; exact rfl; (first | (apply QC.call; exact rfl; intro w hw; exact l21Good_b _ _ l t false w e1 (Ha.at_ hw) hl) | (apply QC.v; (first | (apply Q1.move; exact rfl) | (apply Q1.assign; exact rfl) | (apply Q1.not; exact rfl) | (apply Q1.pick_t; exact rfl; exact rfl) | (apply Q1.pick_f; exact rfl; exact rfl) | (apply Q1.loadN; exact rfl; (first | exact Rd.whole (by (repeat (first | exact .head _ | apply List.Mem.tail | apply List.mem_append_right)))); (first | exact rfl)) | (apply Q1.build; exact rfl; exact rfl))))) | (apply WL.alloc; exact rfl; exact rfl; intro _) | (apply WL.box; exact rfl; exact rfl; exact rfl; intro _) | (apply WL.storeAll; exact rfl; exact rfl; exact rfl; (first | exact rfl); (first | (intro u hu; simp at hu; rcases hu with rfl | rfl | rfl | rfl | rfl | rfl <;> rfl)); (repeat (first | exact .head | apply Repl.tail | apply Repl.app)); (first | exact rfl)))
    (apply At.ret2 (by first | exact .inl rfl | exact .inr rfl); exact rfl; (first | exact RV.tmp rfl | (apply RV.cellN; exact rfl; exact Rd.whole (by (repeat (first | exact .head _ | apply List.Mem.tail | apply List.mem_append_right))); (first | exact rfl))); (first | exact RV.tmp rfl | (apply RV.cellN; exact rfl; exact Rd.whole (by (repeat (first | exact .head _ | apply List.Mem.tail | apply List.mem_append_right))); (first | exact rfl))); intro w2 hw2; refine Ret.mk ?_ hw2)
    rfl
theorem specEnterN_yes (a : Addr) (d : Nat) (l : List Marked) (t : Int) (n : Notice) (w : World) (Ha : SlB w (some a) l) (hl : l.length ≤ 1048576) (hd : l.length ≤ d) (h : CanEnter l t n) : Calls Tryd.prog 45 #[.agg #[.slice (some a) l.length d, .int .i64 t], .agg (Enc.cells n).toArray] w (RetP w [] (fun v hp => ∃ b e, v = .tuple #[.agg #[.slice (some ⟨b, 0, none⟩) (enterL l n).length e, .int .i64 n.number], .bool true] ∧ ((enterL l n).length ≤ e ∧ e ≤ maxLen) ∧ hp = [⟨b, 48, flat (enterL l n), e * 4⟩])) := by
  refine Calls.ofX (args := [.agg #[.slice (some a) l.length d, .int .i64 t], .agg (Enc.cells n).toArray]) Tryd.func45 rfl Tryd.ntmps45 rfl (S.init w []) ?_
  obtain ⟨s, es⟩ := whyOf_ex l t n
  have hent := h.ent
  obtain ⟨h1, h2, h3⟩ := h
  have e1 := dec_true h1
  have e2 := dec_true h2
  have e3 := h3; rw [whyB_eq es] at e3
  have h10 := h1.2.1
  repeat' (first | (apply WL.storeAll; exact rfl; exact rfl; exact rfl; (first | exact rfl); (first | exact List.all_eq_true.mp rfl); (repeat (first | exact .head | apply Repl.tail | apply Repl.app)); (first | exact rfl)) | apply X.seq | apply X.region | apply X.skip | apply X.ret | (apply X.no; exact rfl) | apply At.then_normal | apply WL.nil | (apply WL.call; exact rfl; exact rfl; exact rfl; (intro w hw; exact specEnter_any a d l t n w (Ha.at_ hw) (by omega) hd hent); rintro _ _ ⟨bz, ez, rfl, ⟨hz1, hz2⟩, rfl⟩) | (apply WL.q; exact rfl; exact rfl; exact rfl; (first | (apply QC.call; exact rfl; intro w hw; first | exact l21Good_b _ _ l t true w e1 (Ha.at_ hw) hl | exact l21Notice_b n true w e2 | exact l21Why_b _ _ l t n s w es (Ha.at_ hw) hl h1.2.2) | (apply QC.v; (first | (apply Q1.move; exact rfl) | (apply Q1.assign; exact rfl) | (apply Q1.neqS_b; exact rfl; exact rfl; exact e3) | (apply Q1.not; exact rfl) | (apply Q1.pick_f; exact rfl; exact rfl) | (apply Q1.loadN; exact rfl; (first | exact Rd.whole (by (repeat (first | exact .head _ | apply List.Mem.tail | apply List.mem_append_right)))); (first | exact rfl)))))) | (apply WL.alloc; exact rfl; exact rfl; intro _) | (apply WL.box; exact rfl; exact rfl; exact rfl; intro _) | (apply WL.storeAll; exact rfl; exact rfl; exact rfl; (first | exact rfl); (first | (intro u hu; simp at hu; rcases hu with rfl | rfl | rfl | rfl | rfl | rfl <;> rfl)); (repeat (first | exact .head | apply Repl.tail | apply Repl.app)); (first | exact rfl)))
  (apply At.ret2 (by first | exact .inl rfl | exact .inr rfl); exact rfl; (first | exact RV.tmp rfl | (apply RV.cellN; exact rfl; exact Rd.whole (by (repeat (first | exact .head _ | apply List.Mem.tail | apply List.mem_append_right))); exact rfl)); exact RV.tmp rfl; intro w2 hw2)
  exact RetP.mk ⟨bz, ez, rfl, ⟨hz1, hz2⟩, rfl⟩ hw2 (by first | exact .cons _ (.cons_cons _ (List.nil_sublist _)) | (first | exact List.nil_sublist _ | exact .refl _ | exact .cons_cons _ (List.nil_sublist _) | (repeat (first | exact .refl _ | exact .cons_cons _ (List.nil_sublist _) | apply List.Sublist.cons_cons))))
end Go.Proofs.YtnmhoeafdengfaaDoor
