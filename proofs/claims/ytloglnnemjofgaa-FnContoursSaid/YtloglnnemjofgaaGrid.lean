/- Every cell of a field leads to every cell; the depth of the deepest way. Plain theorems; no program. -/
import Derived.Test.YtloglnnemjofgaaReach
namespace Go.Proofs.Ytloglnnemjofgaa
open Go.RowKit
theorem left_near {c i : Int} (hc : 1 ≤ c) (h : i % c ≠ 0) (hi : 0 ≤ i) : Near c false (i - 1) i := by
  have h1 := Int.mul_ediv_add_emod i c
  have h2 := Int.emod_nonneg i (b := c) (by omega)
  have h3 := Int.emod_lt_of_pos i (b := c) (by omega)
  have e1 : (i - 1) / c = i / c := by
    have : i - 1 = (i % c - 1) + c * (i / c) := by omega
    rw [this, Int.add_mul_ediv_left _ _ (by omega), Int.ediv_eq_zero_of_lt (by omega) (by omega)]; omega
  have e2 : (i - 1) % c = i % c - 1 := by
    have h4 := Int.mul_ediv_add_emod (i - 1) c
    rw [e1] at h4; omega
  left
  unfold rowD colD
  rw [e1, e2]; omega
theorem up_near {c i : Int} (hc : 1 ≤ c) : Near c false (i - c) i := by
  have e1 : (i - c) / c = i / c - 1 := by
    have : i - c = i + c * (-1) := by omega
    rw [this, Int.add_mul_ediv_left _ _ (by omega)]; omega
  have e2 : (i - c) % c = i % c := by
    have h4 := Int.mul_ediv_add_emod (i - c) c
    have h5 := Int.mul_ediv_add_emod i c
    rw [e1, Int.mul_sub, Int.mul_one] at h4; omega
  left
  unfold rowD colD
  rw [e1, e2]; omega
theorem grid_from {l : List Int} {c : Int} (hc : 1 ≤ c) (h0 : 0 < l.length) : ∀ n : Nat, n < l.length → Conn (fun _ => True) l c 0 (n : Int) := by
  intro n
  induction n using Nat.strongRecOn with
  | _ n ih =>
    intro hn
    have hch : Chosen (fun _ => True) l (n : Int) := ⟨by omega, trivial⟩
    by_cases h1 : (n : Int) % c ≠ 0
    · have hp : 0 < n := by
        rcases Nat.eq_zero_or_pos n with h | h
        · subst h; simp at h1
        · exact h
      have := ih (n - 1) (by omega) (by omega)
      rw [show ((n - 1 : Nat) : Int) = (n : Int) - 1 by omega] at this
      exact .step this (left_near hc h1 (by omega)) hch
    · by_cases h2 : c ≤ (n : Int)
      · have := ih (n - c.toNat) (by omega) (by omega)
        rw [show ((n - c.toNat : Nat) : Int) = (n : Int) - c by omega] at this
        exact .step this (up_near hc) hch
      · have h3 : (n : Int) % c = n := Int.emod_eq_of_lt (by omega) (by omega)
        have h4 : n = 0 := by omega
        subst h4
        exact .refl hch
theorem grid_conn {l : List Int} {c : Int} (hc : 1 ≤ c) {i j : Int} (hi : 0 ≤ i ∧ i < (l.length : Int)) (hj : 0 ≤ j ∧ j < (l.length : Int)) : Conn (fun _ => True) l c i j := by
  have h1 := grid_from (l := l) hc (by omega) i.toNat (by omega)
  have h2 := grid_from (l := l) hc (by omega) j.toNat (by omega)
  rw [show ((i.toNat : Nat) : Int) = i by omega] at h1
  rw [show ((j.toNat : Nat) : Int) = j by omega] at h2
  exact h1.symm.trans h2
theorem least_ex : ∀ l : List Int, 0 < l.length → ∃ m ∈ l, ∀ x ∈ l, m ≤ x
  | [a], _ => ⟨a, .head _, fun x hx => by rw [List.mem_singleton.1 hx]; exact Int.le_refl _⟩
  | a :: b :: l, _ => by
    obtain ⟨m, h1, h2⟩ := least_ex (b :: l) (by simp)
    by_cases h : a ≤ m
    · exact ⟨a, .head _, fun x hx => by
        rcases List.mem_cons.1 hx with rfl | hx
        · exact Int.le_refl _
        · exact Int.le_trans h (h2 x hx)⟩
    · exact ⟨m, .tail _ h1, fun x hx => by
        rcases List.mem_cons.1 hx with rfl | hx
        · omega
        · exact h2 x hx⟩
open Classical in
noncomputable def deepT (W : Int → Prop) (l : List Int) (a0 : Int) : Nat → Int
  | 0 => a0
  | k + 1 => if deepT W l a0 k < l.getD k 0 ∧ W (l.getD k 0) then l.getD k 0 else deepT W l a0 k
theorem getD_k {l : List Int} {k : Nat} (h : k < l.length) : l.getD k 0 = l[k] := by simp [List.getD_eq_getElem?_getD, List.getElem?_eq_getElem h]
theorem deepT_yes {W : Int → Prop} {l : List Int} {a0 : Int} {k : Nat} (h : k < l.length) (h1 : deepT W l a0 k < l[k]) (h2 : W l[k]) : deepT W l a0 (k + 1) = l[k] := by rw [deepT, getD_k h, if_pos ⟨h1, h2⟩]
theorem deepT_no {W : Int → Prop} {l : List Int} {a0 : Int} {k : Nat} (h : k < l.length) (h1 : ¬ (deepT W l a0 k < l[k] ∧ W l[k])) : deepT W l a0 (k + 1) = deepT W l a0 k := by rw [deepT, getD_k h, if_neg h1]
theorem deepT_ge {W : Int → Prop} {l : List Int} {a0 : Int} : ∀ k : Nat, k ≤ l.length → ∀ j (_ : j < k) (hj : j < l.length), W l[j] → l[j] ≤ deepT W l a0 k
  | 0, _, j, h, _, _ => by omega
  | k + 1, hk, j, h, hj, hw => by
    have ih := deepT_ge (W := W) (l := l) (a0 := a0) k (by omega) j
    by_cases h1 : deepT W l a0 k < l[k] ∧ W l[k]
    · rw [deepT_yes (by omega) h1.1 h1.2]
      by_cases e : j = k
      · subst e; exact Int.le_refl _
      · have := ih (by omega) hj hw; omega
    · rw [deepT_no (by omega) h1]
      by_cases e : j = k
      · subst e
        rcases Int.lt_or_le (deepT W l a0 j) l[j] with h3 | h3
        · exact absurd ⟨h3, hw⟩ h1
        · exact h3
      · exact ih (by omega) hj hw
/-- It is the start or one of the depths that lead. -/
theorem deepT_in {W : Int → Prop} {l : List Int} {a0 : Int} : ∀ k : Nat, k ≤ l.length → deepT W l a0 k = a0 ∨ (deepT W l a0 k ∈ l ∧ W (deepT W l a0 k))
  | 0, _ => .inl rfl
  | k + 1, hk => by
    have ih := deepT_in (W := W) (l := l) (a0 := a0) k (by omega)
    by_cases h1 : deepT W l a0 k < l[k] ∧ W l[k]
    · rw [deepT_yes (by omega) h1.1 h1.2]; exact .inr ⟨List.getElem_mem _, h1.2⟩
    · rw [deepT_no (by omega) h1]; exact ih
theorem deep_rel {W : Int → Prop} {l : List Int} {a b : Int} (hab : a < b) (hl : ∀ x ∈ l, b ≤ x) : ∀ k : Nat, k ≤ l.length → deepT W l a k = deepT W l b k ∨ (deepT W l a k = a ∧ deepT W l b k = b)
  | 0, _ => .inr ⟨rfl, rfl⟩
  | k + 1, hk => by
    have hx := hl _ (List.getElem_mem (show k < l.length by omega))
    rcases deep_rel (W := W) hab hl k (by omega) with ih | ⟨ia, ib⟩
    · left
      by_cases h1 : deepT W l a k < l[k] ∧ W l[k]
      · rw [deepT_yes (by omega) h1.1 h1.2, deepT_yes (by omega) (by rw [← ih]; exact h1.1) h1.2]
      · rw [deepT_no (by omega) h1, deepT_no (by omega) (by rw [← ih]; exact h1), ih]
    · by_cases hw : W l[k]
      · left
        rw [deepT_yes (by omega) (by omega) hw]
        by_cases h1 : deepT W l b k < l[k]
        · rw [deepT_yes (by omega) h1 hw]
        · rw [deepT_no (by omega) (fun h => h1 h.1)]; omega
      · right
        rw [deepT_no (by omega) (fun h => hw h.2), deepT_no (by omega) (fun h => hw h.2)]
        exact ⟨ia, ib⟩
theorem deep_eq {W : Int → Prop} {l : List Int} {a b : Int} (hab : a < b) (hl : ∀ x ∈ l, b ≤ x) (hw : ∃ x ∈ l, W x) : deepT W l a l.length = deepT W l b l.length := by
  rcases deep_rel (W := W) hab hl l.length (Nat.le_refl _) with h | ⟨h, _⟩
  · exact h
  · obtain ⟨x, hx, hwx⟩ := hw
    obtain ⟨j, hj, rfl⟩ := List.getElem_of_mem hx
    have h1 := deepT_ge (a0 := a) l.length (Nat.le_refl _) j hj hj hwx
    have h2 := hl _ hx
    omega
theorem lead_least {r c : Int} {l : List Int} {i t : Int} (hc : 1 ≤ c) (hi : 0 ≤ i ∧ i < (l.length : Int)) (ht : 0 ≤ t ∧ t < (l.length : Int)) : ∃ x ∈ l, t ∈ reachL (fun y => x ≤ y) l c i := by
  obtain ⟨m, hm, hle⟩ := least_ex l (by omega)
  exact ⟨m, hm, (mem_reachL hi).2 ((grid_conn hc hi ht).mono (fun x hx _ => hle x hx))⟩
end Go.Proofs.Ytloglnnemjofgaa
