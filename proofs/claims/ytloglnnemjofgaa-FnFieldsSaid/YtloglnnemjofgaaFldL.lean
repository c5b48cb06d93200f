/- FnFields: the plain mathematics. -/
import Derived.Test.YtloglnnemjofgaaFldK
namespace Go.Proofs.Ytloglnnemjofgaa
open Go.RowKit
structure Key (K : Prop) : Prop where
  out : K
theorem share {p K G : Prop} (h1 : p → Key K → G) (h2 : ¬ p → Key K → G) (k : K) : G := by
  by_cases h : p
  · exact h1 h ⟨k⟩
  · exact h2 h ⟨k⟩
theorem safeN_bd {r c : Int} {l : List Int} (h : FieldOk r c l) {k : Nat} (hk : k < l.length) : DepthIn (safeN l c k) := by
  rw [safeN_at hk]
  exact fmT_bd (h.2.2 _ (List.getElem_mem hk)) h.2.2 _ (fun o ho => (mem_nearTo.1 ho).2)
theorem safe_field {r c : Int} {l : List Int} (h : FieldOk r c l) : FieldOk r c (safeTo l c l.length) := by
  refine ⟨h.1, by rw [length_safeTo]; exact h.2.1, fun x hx => ?_⟩
  obtain ⟨k, hk, rfl⟩ := List.mem_map.1 hx
  exact safeN_bd h (List.mem_range.1 hk)
theorem safe_get {l : List Int} {c : Int} {n k : Nat} (h : k < (safeTo l c n).length) : (safeTo l c n)[k] = safeN l c k := by simp [safeTo]
theorem merge_safe {l : List Int} {c : Int} : mergeTo l (safeTo l c l.length) l.length = safeTo l c l.length := by
  unfold mergeTo
  refine List.map_congr_left (fun k hk => ?_)
  have hk' := List.mem_range.1 hk
  have h2 : k < (safeTo l c l.length).length := by rw [length_safeTo]; exact hk'
  rw [mergeN_at hk' h2, safe_get h2]
  have := fmT_le l l[k] (nearTo c true (k : Int) l.length)
  rw [← safeN_at (c := c) hk'] at this
  omega
theorem merge_comm {l m : List Int} (h : l.length = m.length) : mergeTo m l m.length = mergeTo l m l.length := by
  unfold mergeTo
  rw [h]
  refine List.map_congr_left (fun k _ => ?_)
  unfold mergeN
  exact Int.min_comm _ _
theorem shoal_pos {l : List Int} {c v : Int} : ∀ k : Nat, k ≤ l.length → (0 < (shoalTo l c v k).length ↔ ∃ j, ∃ (_ : j < k) (hj : j < l.length), l[j] < v)
  | 0, _ => ⟨fun h => by simp [shoalTo] at h, fun ⟨j, h, _⟩ => absurd h (Nat.not_lt_zero j)⟩
  | k + 1, hk => by
    have hk' : k < l.length := by omega
    have ih := shoal_pos (l := l) (c := c) (v := v) k (by omega)
    by_cases h : l[k] < v
    · rw [shoalTo_yes hk' h]
      exact ⟨fun _ => ⟨k, by omega, hk', h⟩, fun _ => by simp⟩
    · rw [shoalTo_no hk' h, ih]
      constructor
      · rintro ⟨j, h1, h2, h3⟩
        exact ⟨j, by omega, h2, h3⟩
      · rintro ⟨j, h1, h2, h3⟩
        by_cases e : j = k
        · subst e; exact absurd h3 h
        · exact ⟨j, by omega, h2, h3⟩
theorem shoal_mono {l m : List Int} {c v : Int} (hln : m.length = l.length) (h : ∀ j (h1 : j < l.length) (h2 : j < m.length), m[j] ≤ l[j]) : ∀ k : Nat, k ≤ l.length → (shoalTo l c v k).length ≤ (shoalTo m c v k).length
  | 0, _ => Nat.le_refl _
  | k + 1, hk => by
    have ih := shoal_mono (c := c) (v := v) hln h k (by omega)
    have hk1 : k < l.length := by omega
    have hk2 : k < m.length := by omega
    have hle := h k hk1 hk2
    by_cases h1 : l[k] < v
    · have h2 : m[k] < v := by omega
      rw [shoalTo_yes hk1 h1, shoalTo_yes hk2 h2, List.length_append, List.length_append]
      simp only [List.length_singleton]; omega
    · rw [shoalTo_no hk1 h1]
      by_cases h2 : m[k] < v
      · rw [shoalTo_yes hk2 h2, List.length_append]; omega
      · rw [shoalTo_no hk2 h2]; exact ih
theorem fmT_ex {l : List Int} {v : Int} : ∀ {x : Int} {L : List Int}, fmT l x L < v → x < v ∨ ∃ o ∈ L, l.getD o.toNat 0 < v
  | x, [], h => .inl h
  | x, o :: L, h => by
    have h' : fmT l (min x (l.getD o.toNat 0)) L < v := h
    rcases fmT_ex h' with h1 | ⟨o', h1, h2⟩
    · by_cases hx : x < v
      · exact .inl hx
      · exact .inr ⟨o, .head _, by omega⟩
    · exact .inr ⟨o', .tail _ h1, h2⟩
theorem shoal_wide {r c : Int} {l : List Int} {v : Int} (h : FieldOk r c l) : (shoalTo l c v l.length).length ≤ (shoalTo (safeTo l c l.length) c v l.length).length ∧ (0 < (shoalTo (safeTo l c l.length) c v l.length).length ↔ 0 < (shoalTo l c v l.length).length) := by
  have hln := length_safeTo l c l.length
  have hm := shoal_mono (c := c) (v := v) hln (fun j h1 h2 => by rw [safe_get h2, safeN_at h1]; exact fmT_le _ _ _) l.length (Nat.le_refl _)
  refine ⟨hm, ⟨fun h0 => ?_, fun h0 => by omega⟩⟩
  obtain ⟨j, h1, h2, h3⟩ := (shoal_pos (l := safeTo l c l.length) l.length (by omega)).1 h0
  rw [safe_get h2, safeN_at h1] at h3
  refine (shoal_pos (l := l) l.length (Nat.le_refl _)).2 ?_
  rcases fmT_ex h3 with h4 | ⟨o, h4, h5⟩
  · exact ⟨j, h1, h1, h4⟩
  · have h6 := (mem_nearTo.1 h4).2
    have h7 : o.toNat < l.length := by omega
    exact ⟨o.toNat, h7, h7, by rw [← getD_q h7]; exact h5⟩
end Go.Proofs.Ytloglnnemjofgaa
