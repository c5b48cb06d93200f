/- FnNotices: the plain mathematics: what undoes a notice can be entered behind it and brings the things back. -/
import Derived.Test.YtnmhoeafdengfaaShtH
namespace Go.Proofs.Ytnmhoeafdengfaa
open Go.RowKit
theorem zero_in : (-1000 : Int) ≤ 0 ∧ (0 : Int) ≤ 20000 := by decide
theorem spot_0 : SpotIn 0 0 := by unfold SpotIn; decide
theorem markAt_of {l : List Marked} {t : Int} (h : SheetOk l t) {i : Nat} (hi : i < l.length) {id : Int} (e : l[i].id = id) : markAt l id = (i : Int) := by
  have hp := (SheetOk.parts.1 h).1.2
  refine firstIdx_yes hi e (fun j hj hq => ?_)
  have hq' : l[j].id = id := hq
  have := List.pairwise_iff_getElem.1 hp j i (by omega) hi hj
  omega
theorem whyB_in {l : List Marked} {t : Int} {n : Notice} (h1 : n.number = t + 1) (h2 : n.kind = 1 → markAt l n.mark < 0 ∧ l.length ≠ 10) (h3 : n.kind ≠ 1 → 0 ≤ markAt l n.mark ∧ (l.getD (markAt l n.mark).toNat Marked.zero).depth = n.old) : whyB l t n = true := by
  have e : whyOf l t n = .string (ByteArray.mk #[111, 107]) := by
    unfold whyOf
    rw [if_neg (by omega), if_neg (fun h => by have := h2 h.1; omega), if_neg (fun h => by have := (h3 h.1).1; omega), if_neg (fun h => h.2 (h3 h.1).2), if_neg (fun h => (h2 h.1).2 h.2)]
  unfold whyB
  rw [e]
  exact beq_self_eq_true _
theorem getD_m {l : List Marked} {k : Nat} (h : k < l.length) : l.getD ((k : Int)).toNat Marked.zero = l[k] := by rw [Int.toNat_natCast, List.getD_eq_getElem?_getD, List.getElem?_eq_getElem h]; rfl
theorem undo_one {l : List Marked} {t : Int} {u : Notice} {i : Nat} (hs : SheetOk l t) (hi : i < l.length) (hid : l[i].id = u.mark) (hk : u.kind ≠ 1) (hn : u.number = t + 1) (hold : l[i].depth = u.old) (hu : u.ok) : CanEnter l t u ∧ markAt l u.mark = (i : Int) := by
  have e := markAt_of hs hi hid
  refine ⟨⟨hs, hu, whyB_in hn (fun h => absurd h hk) (fun _ => ?_)⟩, e⟩
  rw [e, getD_m hi]
  exact ⟨by omega, hold⟩
theorem undo_back {l : List Marked} {t : Int} {n : Notice} (h : UndoOk l t n) : CanEnter (enterL l n) n.number (undoN l n) ∧ enterL (enterL l n) (undoN l n) = l ∧ (undoN l n).number = t + 2 := by
  obtain ⟨hc, h9⟩ := h
  have hs := hc.ok
  have hent := hc.ent
  obtain ⟨h1, h2, h3⟩ := hc
  obtain ⟨w1, w2, w3⟩ := whyB_ok h3
  obtain ⟨⟨g1, g2⟩, g3, _⟩ := SheetOk.parts.1 h1
  have hnum := h2.1
  have hmk := h2.2.1
  have hold := h2.2.2.1
  have hdp := h2.2.2.2.1
  have hsp := h2.2.2.2.2.1
  by_cases k1 : n.kind = 1
  · obtain ⟨k, hk⟩ := insAt_ex l n.mark
    have hk' : InsAt l (⟨n.mark, n.x, n.y, n.depth⟩ : Marked).id k := hk
    have hkl := hk.1
    have eu : undoN l n = ⟨n.number + 1, 2, n.mark, n.depth, 0, 0, 0⟩ := by unfold undoN; rw [if_pos k1]
    rw [enter1 k1, hk'.l] at hs ⊢
    rw [eu]
    have hlk : k < (l.take k ++ (⟨n.mark, n.x, n.y, n.depth⟩ : Marked) :: l.drop k).length := by simp; omega
    have hat : (l.take k ++ (⟨n.mark, n.x, n.y, n.depth⟩ : Marked) :: l.drop k)[k] = ⟨n.mark, n.x, n.y, n.depth⟩ := by
      rw [List.getElem_append_right (by rw [List.length_take]; omega)]
      simp [Nat.min_eq_left hkl]
    have hu : (⟨n.number + 1, 2, n.mark, n.depth, 0, 0, 0⟩ : Notice).ok := ⟨by dsimp only; omega, hmk, hdp, zero_in, spot_0, .inr (.inl ⟨rfl, rfl, rfl, rfl⟩)⟩
    obtain ⟨c1, c2⟩ := undo_one (u := ⟨n.number + 1, 2, n.mark, n.depth, 0, 0, 0⟩) hs hlk (by rw [hat]) (show (2 : Int) ≠ 1 by decide) rfl (by rw [hat]) hu
    refine ⟨c1, ?_, by dsimp only; omega⟩
    rw [enter2 rfl c2]
    have a1 : (l.take k).length = k := by simp; omega
    rw [List.take_append_of_le_length (by omega), List.take_of_length_le (by omega), List.drop_append, a1, List.drop_eq_nil_of_le (by omega)]
    simp
  · obtain ⟨i, hi, em, eid, eg⟩ := hent.at k1
    obtain ⟨w4, w5⟩ := w3 k1
    rw [eg] at w5
    have hli := g1 _ (List.getElem_mem hi)
    by_cases k2 : n.kind = 2
    · have eu : undoN l n = ⟨n.number + 1, 1, n.mark, 0, l[i].depth, l[i].x, l[i].y⟩ := by unfold undoN; rw [if_neg k1, if_pos k2, eg]
      rw [enter2 k2 em] at hs ⊢
      rw [eu]
      have a1 : (l.take i).length = i := by simp; omega
      have hln : (l.take i ++ l.drop (i + 1)).length = l.length - 1 := by simp; omega
      have glo : ∀ j (hj : j < i) (hj2 : j < (l.take i ++ l.drop (i + 1)).length), (l.take i ++ l.drop (i + 1))[j].id < n.mark := fun j hj hj2 => by
        rw [List.getElem_append_left (by omega), List.getElem_take, ← eid]
        exact List.pairwise_iff_getElem.1 g2 j i (by omega) hi hj
      have ghi : ∀ j (hj : i ≤ j) (hj2 : j < (l.take i ++ l.drop (i + 1)).length), n.mark < (l.take i ++ l.drop (i + 1))[j].id := fun j hj hj2 => by
        rw [List.getElem_append_right (by omega), List.getElem_drop, ← eid]
        exact List.pairwise_iff_getElem.1 g2 i _ hi (by simp at hj2 ⊢; omega) (by omega)
      have hno : markAt (l.take i ++ l.drop (i + 1)) n.mark < 0 := by
        rcases markAt_spec (l.take i ++ l.drop (i + 1)) n.mark with ⟨j, hj, e1, _⟩ | e
        · by_cases hji : j < i
          · have := glo j hji hj; omega
          · have := ghi j (by omega) hj; omega
        · omega
      have hin : InsAt (l.take i ++ l.drop (i + 1)) (⟨n.mark, l[i].x, l[i].y, l[i].depth⟩ : Marked).id i := ⟨by omega, fun j hj hj2 => glo j hj hj2, fun hj h5 => by have := ghi i (Nat.le_refl _) hj; dsimp only at h5; omega⟩
      refine ⟨⟨hs, ⟨by dsimp only; omega, hmk, zero_in, hli.2.2, hli.2.1, .inl ⟨rfl, rfl⟩⟩, whyB_in rfl (fun _ => ⟨hno, by omega⟩) (fun h => absurd rfl h)⟩, ?_, by dsimp only; omega⟩
      rw [enter1 rfl]
      dsimp only
      rw [hin.l]
      have em2 : (⟨n.mark, l[i].x, l[i].y, l[i].depth⟩ : Marked) = l[i] := by rw [← eid]
      rw [em2, List.take_append_of_le_length (by omega), List.take_of_length_le (by omega), List.drop_append, a1, List.drop_eq_nil_of_le (by omega), Nat.sub_self, List.drop_zero, List.nil_append, ← List.drop_eq_getElem_cons hi, List.take_append_drop]
    · by_cases k3 : n.kind = 3
      · have eu : undoN l n = ⟨n.number + 1, 3, n.mark, n.depth, n.old, 0, 0⟩ := by unfold undoN; rw [if_neg k1, if_neg k2, if_pos k3]
        rw [enter3 k3 em hi] at hs ⊢
        rw [eu]
        have hi2 : i < (l.set i ⟨n.mark, l[i].x, l[i].y, n.depth⟩).length := by simpa using hi
        have hat : (l.set i ⟨n.mark, l[i].x, l[i].y, n.depth⟩)[i] = ⟨n.mark, l[i].x, l[i].y, n.depth⟩ := by simp
        have hu : (⟨n.number + 1, 3, n.mark, n.depth, n.old, 0, 0⟩ : Notice).ok := ⟨by dsimp only; omega, hmk, hdp, hold, spot_0, .inr (.inr (.inl ⟨rfl, rfl, rfl⟩))⟩
        obtain ⟨c1, c2⟩ := undo_one (u := ⟨n.number + 1, 3, n.mark, n.depth, n.old, 0, 0⟩) hs hi2 (by rw [hat]) (show (3 : Int) ≠ 1 by decide) rfl (by rw [hat]) hu
        refine ⟨c1, ?_, by dsimp only; omega⟩
        rw [enter3 rfl c2 hi2, hat, List.set_set]
        dsimp only
        rw [← w5, ← eid]
        exact List.set_getElem_self hi
      · have k4 : n.kind = 4 := by have := hent.1; omega
        have eu : undoN l n = ⟨n.number + 1, 4, n.mark, n.old, 0, l[i].x, l[i].y⟩ := by unfold undoN; rw [if_neg k1, if_neg k2, if_neg k3, eg]
        rw [enter4 k4 em hi] at hs ⊢
        rw [eu]
        have hi2 : i < (l.set i ⟨n.mark, n.x, n.y, l[i].depth⟩).length := by simpa using hi
        have hat : (l.set i ⟨n.mark, n.x, n.y, l[i].depth⟩)[i] = ⟨n.mark, n.x, n.y, l[i].depth⟩ := by simp
        have hu : (⟨n.number + 1, 4, n.mark, n.old, 0, l[i].x, l[i].y⟩ : Notice).ok := ⟨by dsimp only; omega, hmk, hold, zero_in, hli.2.1, .inr (.inr (.inr ⟨rfl, rfl⟩))⟩
        obtain ⟨c1, c2⟩ := undo_one (u := ⟨n.number + 1, 4, n.mark, n.old, 0, l[i].x, l[i].y⟩) hs hi2 (by rw [hat]) (show (4 : Int) ≠ 1 by decide) rfl (by rw [hat]; exact w5) hu
        refine ⟨c1, ?_, by dsimp only; omega⟩
        rw [enter4 rfl c2 hi2, hat, List.set_set]
        dsimp only
        rw [← eid]
        exact List.set_getElem_self hi
end Go.Proofs.Ytnmhoeafdengfaa
