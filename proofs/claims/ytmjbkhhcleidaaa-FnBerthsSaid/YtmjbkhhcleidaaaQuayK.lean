/- Quays: PutStay: where a stay is put, and when the stays stay valid: plain mathematics. No condition. -/
import Derived.Test.YtmjbkhhcleidaaaQuayG
namespace Go.Proofs.Ytmjbkhhcleidaaa
open Go.RowKit
theorem Clash.symm {a b : Stay} (h : Clash a b) : Clash b a := ⟨h.1.symm, h.2.2.1, h.2.1, h.2.2.2.2, h.2.2.2.1⟩
theorem StaysOk.parts {l : List Quay} {ss : List Stay} : StaysOk l ss ↔ QuaysOk l ∧ ss.length ≤ 12 ∧ (∀ q ∈ ss, StayOk l q) ∧ ss.Pairwise (fun a b => a.begin_ ≤ b.begin_ ∧ ¬ Clash a b) := by
  constructor
  · rintro ⟨h1, h2, h3⟩
    refine ⟨h1, h2, fun q hq => ?_, List.pairwise_iff_getElem.2 fun i j hi hj hij => ⟨?_, fun hc => ?_⟩⟩
    · obtain ⟨i, hi, rfl⟩ := List.getElem_of_mem hq
      exact (h3 i hi hi).1
    · have key : ∀ m : Nat, ∀ hm : i + m < ss.length, ss[i].begin_ ≤ ss[i + m].begin_ := by
        intro m
        induction m with
        | zero => intro _; exact Int.le_refl _
        | succ m ih =>
          intro hm
          have h4 := ih (by omega)
          have h5 := (h3 (i + m + 1) (by omega) (by omega)).2.1 (by omega)
          simp only [Nat.add_sub_cancel] at h5
          exact Int.le_trans h4 h5
      have := key (j - i) (by omega)
      simpa [show i + (j - i) = j by omega] using this
    · exact (h3 j hj hj).2.2 ⟨ss[i], List.mem_take_iff_getElem.2 ⟨i, by omega, rfl⟩, hc⟩
  · rintro ⟨h1, h2, h3, h4⟩
    have h5 := List.pairwise_iff_getElem.1 h4
    refine ⟨h1, h2, fun i hi hl => ⟨h3 _ (List.getElem_mem hl), fun h0 => (h5 (i - 1) i (by omega) hl (by omega)).1, ?_⟩⟩
    rintro ⟨q, hq, hc⟩
    obtain ⟨j, hj, rfl⟩ := List.mem_take_iff_getElem.1 hq
    exact (h5 j i (by omega) hl (by omega)).2 hc
/-- The place of a stay among sorted ones. -/
def PutAt (ss : List Stay) (s : Stay) (k : Nat) : Prop := k ≤ ss.length ∧ (∀ j (_ : j < k) (h : j < ss.length), ss[j].begin_ ≤ s.begin_) ∧ ∀ h : k < ss.length, s.begin_ < ss[k].begin_
theorem PutAt.unique {ss : List Stay} {s : Stay} {j k : Nat} (h1 : PutAt ss s j) (h2 : PutAt ss s k) : j = k := by
  rcases Nat.lt_trichotomy j k with h | h | h
  · have := h1.2.2 (by have := h2.1; omega); have := h2.2.1 j h (by have := h2.1; omega); omega
  · exact h
  · have := h2.2.2 (by have := h1.1; omega); have := h1.2.1 k h (by have := h1.1; omega); omega
open Classical in
noncomputable def putK (ss : List Stay) (s : Stay) : Nat := if h : ∃ k, PutAt ss s k then Classical.choose h else 0
theorem PutAt.eq {ss : List Stay} {s : Stay} {k : Nat} (h : PutAt ss s k) : putK ss s = k := by
  have he : ∃ k, PutAt ss s k := ⟨k, h⟩
  unfold putK
  rw [dif_pos he]
  exact (Classical.choose_spec he).unique h
noncomputable def putL (ss : List Stay) (s : Stay) : List Stay := ss.take (putK ss s) ++ s :: ss.drop (putK ss s)
theorem put_iff {l : List Quay} {ss : List Stay} {s : Stay} {k : Nat} (h : StaysOk l ss) (hk : PutAt ss s k) : StaysOk l (ss.take k ++ s :: ss.drop k) ↔ CanPut l ss s := by
  rw [StaysOk.parts] at h ⊢
  obtain ⟨hq, hlen, hmem, hpw⟩ := h
  have hk1 := hk.1
  have hA : ∀ q ∈ ss.take k, q.begin_ ≤ s.begin_ := fun q hq => by
    obtain ⟨i, hi, rfl⟩ := List.mem_take_iff_getElem.1 hq
    exact hk.2.1 i (by omega) (by omega)
  have hB : ∀ q ∈ ss.drop k, s.begin_ ≤ q.begin_ := fun q hq => by
    obtain ⟨i, hi, rfl⟩ := List.getElem_of_mem hq
    rw [List.length_drop] at hi
    rw [List.getElem_drop]
    have h0 := hk.2.2 (by omega)
    by_cases e : i = 0
    · subst e; simp only [Nat.add_zero]; omega
    · have := (List.pairwise_iff_getElem.1 hpw k (k + i) (by omega) (by omega) (by omega)).1
      omega
  have hpw2 : (ss.take k ++ ss.drop k).Pairwise (fun a b => a.begin_ ≤ b.begin_ ∧ ¬ Clash a b) := by rw [List.take_append_drop]; exact hpw
  have hin : ∀ q, q ∈ ss ↔ q ∈ ss.take k ∨ q ∈ ss.drop k := fun q => by rw [← List.mem_append, List.take_append_drop]
  have hL : (ss.take k ++ s :: ss.drop k).length = ss.length + 1 := by simp; omega
  rw [List.pairwise_append] at hpw2
  rw [hL, List.pairwise_append, List.pairwise_cons]
  constructor
  · rintro ⟨_, h2, h3, h4⟩
    refine ⟨h3 s (by simp), by omega, ?_⟩
    rintro ⟨q, hq2, hc⟩
    rcases (hin q).1 hq2 with h5 | h5
    · exact (h4.2.2 q h5 s (.head _)).2 hc
    · exact (h4.2.1.1 q h5).2 hc.symm
  · rintro ⟨h1, h2, h3⟩
    refine ⟨hq, by omega, fun q hq2 => ?_, hpw2.1, ⟨fun q hq2 => ⟨hB q hq2, fun hc => h3 ⟨q, (hin q).2 (.inr hq2), hc.symm⟩⟩, hpw2.2.1⟩, fun a ha b hb => ?_⟩
    · rcases List.mem_append.1 hq2 with h5 | h5
      · exact hmem q ((hin q).2 (.inl h5))
      · rcases List.mem_cons.1 h5 with rfl | h5
        · exact h1
        · exact hmem q ((hin q).2 (.inr h5))
    · rcases List.mem_cons.1 hb with rfl | hb
      · exact ⟨hA a ha, fun hc => h3 ⟨a, (hin a).2 (.inl ha), hc⟩⟩
      · exact hpw2.2.2 a ha b hb
end Go.Proofs.Ytmjbkhhcleidaaa
