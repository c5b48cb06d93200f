/- The length of a contour, the shoal cells, the areas: plain mathematics. No program. -/
import Derived.Test.YtloglnnemjofgaaFldI
import Derived.Test.YtloglnnemjofgaaFldH
import Derived.Test.YtloglnnemjofgaaSum
namespace Go.Proofs.Ytloglnnemjofgaa
open Go.RowKit
def sumN (h : Nat → Int) : Nat → Int
  | 0 => 0
  | k + 1 => sumN h k + h k
theorem sumN_add (f g : Nat → Int) : ∀ n : Nat, sumN (fun i => f i + g i) n = sumN f n + sumN g n
  | 0 => rfl
  | n + 1 => by simp only [sumN, sumN_add f g n]; omega
theorem sumN_congr {f g : Nat → Int} : ∀ n : Nat, (∀ i, i < n → f i = g i) → sumN f n = sumN g n
  | 0, _ => rfl
  | n + 1, h => by simp only [sumN, sumN_congr n (fun i hi => h i (by omega)), h n (by omega)]
theorem sumN_nonneg {f : Nat → Int} : ∀ n : Nat, (∀ i, i < n → 0 ≤ f i) → 0 ≤ sumN f n
  | 0, _ => Int.le_refl _
  | n + 1, h => by
    have h1 := sumN_nonneg n (fun i hi => h i (by omega))
    have h2 := h n (by omega)
    simp only [sumN]; omega
theorem sumN_zero {f : Nat → Int} : ∀ n : Nat, (∀ i, i < n → 0 ≤ f i) → sumN f n = 0 → ∀ i, i < n → f i = 0
  | 0, _, _ => fun i hi => absurd hi (Nat.not_lt_zero _)
  | n + 1, h, h0 => fun i hi => by
    have h1 := sumN_nonneg n (fun i hi => h i (by omega))
    have h2 := h n (by omega)
    simp only [sumN] at h0
    by_cases e : i = n
    · subst e; omega
    · exact sumN_zero n (fun i hi => h i (by omega)) (by omega) i (by omega)
theorem sumN_le {f : Nat → Int} {b : Int} : ∀ n : Nat, (∀ i, i < n → f i ≤ b) → sumN f n ≤ b * (n : Int)
  | 0, _ => by simp [sumN]
  | n + 1, h => by
    have h1 := sumN_le n (fun i hi => h i (by omega))
    have h2 := h n (by omega)
    have e : b * ((n + 1 : Nat) : Int) = b * (n : Int) + b := by rw [Int.natCast_add, Int.mul_add]; simp
    simp only [sumN, e]; omega
/-- Ordered pairs are unordered pairs both ways. -/
theorem pairs_eq (f : Nat → Nat → Int) (h : ∀ i, f i i = 0) : ∀ n : Nat, sumN (fun i => sumN (f i) n) n = sumN (fun i => sumN (fun k => f i k + f k i) i) n
  | 0 => rfl
  | n + 1 => by
    have ih := pairs_eq f h n
    have e1 : sumN (fun i => sumN (f i) (n + 1)) n = sumN (fun i => sumN (f i) n) n + sumN (fun i => f i n) n := by
      rw [← sumN_add]; exact sumN_congr n (fun i _ => rfl)
    have e2 := sumN_add (f n) (fun k => f k n) n
    simp only [sumN] at e1 ⊢
    rw [e2, ← ih, e1, h n]; omega
open Classical in
/-- A shoal cell beside one that is none. -/
noncomputable def cutF (l : List Int) (c lv : Int) (i k : Nat) : Int := if Near c false (i : Int) (k : Int) ∧ l.getD i 0 < lv ∧ ¬ l.getD k 0 < lv then 1 else 0
open Classical in
noncomputable def cutG (l : List Int) (c lv : Int) (i k : Nat) : Int := if Near c false (i : Int) (k : Int) ∧ ¬ (l.getD i 0 < lv ↔ l.getD k 0 < lv) then 1 else 0
theorem cutG_eq (l : List Int) (c lv : Int) (i k : Nat) : cutG l c lv i k = cutF l c lv i k + cutF l c lv k i := by
  unfold cutG cutF
  by_cases hn : Near c false (i : Int) (k : Int)
  · have hm := hn.symm
    generalize l.getD i 0 = a
    generalize l.getD k 0 = b
    by_cases h1 : a < lv
    · by_cases h2 : b < lv
      · simp only [hn, hm, h1, h2, true_and, not_true, and_false, if_false]; rfl
      · simp only [hn, hm, h1, h2, true_and, not_true, and_false, not_false_iff, and_true, iff_false, false_and, if_true, if_false]; rfl
    · by_cases h2 : b < lv
      · simp only [hn, hm, h1, h2, true_and, not_true, and_false, not_false_iff, and_true, iff_true, false_and, if_true, if_false]; rfl
      · simp only [hn, hm, h1, h2, true_and, not_true, and_false, not_false_iff, and_true, iff_false, false_and, if_true, if_false]; rfl
  · have hm : ¬ Near c false (k : Int) (i : Int) := fun h => hn h.symm
    simp only [hn, hm, false_and, if_false]; rfl
theorem cutF_self (l : List Int) (c lv : Int) (i : Nat) : cutF l c lv i i = 0 := by
  unfold cutF; rw [if_neg (fun h => h.2.2 h.2.1)]
theorem cutF_bd (l : List Int) (c lv : Int) (i k : Nat) : 0 ≤ cutF l c lv i k ∧ cutF l c lv i k ≤ 1 := by unfold cutF; split <;> omega
noncomputable def contourN (l : List Int) (c lv : Int) : Int := sumN (fun i => sumN (cutF l c lv i) l.length) l.length
theorem contour_spec (l : List Int) (c lv : Int) : contourN l c lv = sumN (fun i => sumN (cutG l c lv i) i) l.length := by
  unfold contourN
  rw [pairs_eq _ (cutF_self l c lv)]
  exact sumN_congr _ (fun i _ => sumN_congr _ (fun k _ => (cutG_eq l c lv i k).symm))
theorem rowF_bd (l : List Int) (c lv : Int) (i n : Nat) : 0 ≤ sumN (cutF l c lv i) n ∧ sumN (cutF l c lv i) n ≤ (n : Int) := ⟨sumN_nonneg n (fun k _ => (cutF_bd l c lv i k).1), by have := sumN_le (f := cutF l c lv i) (b := 1) n (fun k _ => (cutF_bd l c lv i k).2); omega⟩
theorem contour_flat {l : List Int} {c lv : Int} (h : contourN l c lv = 0) {i k : Nat} (hi : i < l.length) (hk : k < l.length) (hn : Near c false (i : Int) (k : Int)) (hs : l[i] < lv) : l[k] < lv := by
  have h1 := sumN_zero l.length (fun i _ => (rowF_bd l c lv i l.length).1) h i hi
  have h2 := sumN_zero l.length (fun k _ => (cutF_bd l c lv i k).1) h1 k hk
  unfold cutF at h2
  rw [getD_k hi, getD_k hk] at h2
  by_cases hk2 : l[k] < lv
  · exact hk2
  · rw [if_pos ⟨hn, hs, hk2⟩] at h2; cases h2
/-- How many cells are shoal. -/
def shN (l : List Int) (lv : Int) : Nat → Int
  | 0 => 0
  | k + 1 => if l.getD k 0 < lv then shN l lv k + 1 else shN l lv k
theorem shN_yes {l : List Int} {lv : Int} {k : Nat} (hk : k < l.length) (h : l[k] < lv) : shN l lv (k + 1) = shN l lv k + 1 := by rw [shN, getD_k hk, if_pos h]
theorem shN_no {l : List Int} {lv : Int} {k : Nat} (hk : k < l.length) (h : ¬ l[k] < lv) : shN l lv (k + 1) = shN l lv k := by rw [shN, getD_k hk, if_neg h]
theorem shN_bd {l : List Int} {lv : Int} : ∀ k : Nat, k ≤ l.length → 0 ≤ shN l lv k ∧ shN l lv k ≤ (k : Int)
  | 0, _ => by simp [shN]
  | k + 1, hk => by
    have ih := shN_bd (l := l) (lv := lv) k (by omega)
    have hk' : k < l.length := by omega
    by_cases h : l[k] < lv
    · rw [shN_yes hk' h]; omega
    · rw [shN_no hk' h]; omega
theorem shN_none {l : List Int} {lv : Int} : ∀ k : Nat, k ≤ l.length → ((shN l lv k = 0) ↔ ∀ j (_ : j < k) (h : j < l.length), ¬ l[j] < lv)
  | 0, _ => ⟨fun _ j hj => absurd hj (Nat.not_lt_zero _), fun _ => rfl⟩
  | k + 1, hk => by
    have ih := shN_none (l := l) (lv := lv) k (by omega)
    have hb := shN_bd (l := l) (lv := lv) k (by omega)
    have hk' : k < l.length := by omega
    by_cases h : l[k] < lv
    · rw [shN_yes hk' h]
      exact ⟨fun h1 => by omega, fun h1 => absurd h (h1 k (by omega) hk')⟩
    · rw [shN_no hk' h, ih]
      exact ⟨fun h1 j hj hl => by
        by_cases e : j = k
        · subst e; exact h
        · exact h1 j (by omega) hl, fun h1 j hj hl => h1 j (by omega) hl⟩
theorem shN_all {l : List Int} {lv : Int} : ∀ k : Nat, k ≤ l.length → ((shN l lv k = (k : Int)) ↔ ∀ j (_ : j < k) (h : j < l.length), l[j] < lv)
  | 0, _ => ⟨fun _ j hj => absurd hj (Nat.not_lt_zero _), fun _ => rfl⟩
  | k + 1, hk => by
    have ih := shN_all (l := l) (lv := lv) k (by omega)
    have hb := shN_bd (l := l) (lv := lv) k (by omega)
    have hk' : k < l.length := by omega
    by_cases h : l[k] < lv
    · rw [shN_yes hk' h]
      refine ⟨fun h1 j hj hl => ?_, fun h1 => ?_⟩
      · by_cases e : j = k
        · subst e; exact h
        · exact ih.1 (by omega) j (by omega) hl
      · have := ih.2 (fun j hj hl => h1 j (by omega) hl); omega
    · rw [shN_no hk' h]
      exact ⟨fun h1 => by omega, fun h1 => absurd (h1 k (by omega) hk') h⟩
theorem area_le {l : List Int} {c lv : Int} : ∀ k : Nat, k ≤ l.length → areaT (fun x => x < lv) l c k ≤ shN l lv k
  | 0, _ => Int.le_refl _
  | k + 1, hk => by
    have ih := area_le (l := l) (c := c) (lv := lv) k (by omega)
    have hk' : k < l.length := by omega
    by_cases hL : Lead (fun x => x < lv) l c (k : Int)
    · have h1 : l[k] < lv := by have := hL.1.2; rw [getD_ix hk'] at this; exact this
      rw [areaT_yes hL, shN_yes hk' h1]; omega
    · rw [areaT_no hL]
      by_cases h : l[k] < lv
      · rw [shN_yes hk' h]; omega
      · rw [shN_no hk' h]; exact ih
theorem areaT_mono {p : Int → Prop} {l : List Int} {c : Int} {j : Nat} : ∀ k : Nat, j ≤ k → areaT p l c j ≤ areaT p l c k
  | 0, h => by rw [show j = 0 by omega]; exact Int.le_refl _
  | k + 1, h => by
    by_cases e : j = k + 1
    · rw [e]; exact Int.le_refl _
    · have ih := areaT_mono (p := p) (l := l) (c := c) (j := j) k (by omega)
      by_cases hL : Lead p l c (k : Int)
      · rw [areaT_yes hL]; omega
      · rw [areaT_no hL]; exact ih
theorem area_pos {l : List Int} {c lv : Int} (h : 0 < shN l lv l.length) : 0 < areaT (fun x => x < lv) l c l.length := by
  have key : ∀ m : Nat, m ≤ l.length → (∃ k, k < l.length ∧ Lead (fun x => x < lv) l c (k : Int)) ∨ ∀ j (_ : j < m) (h : j < l.length), ¬ l[j] < lv := by
    intro m
    induction m with
    | zero => exact fun _ => .inr fun j hj => absurd hj (Nat.not_lt_zero _)
    | succ m ih =>
      intro hm
      rcases ih (by omega) with h1 | h1
      · exact .inl h1
      · have hm' : m < l.length := by omega
        by_cases h2 : l[m] < lv
        · left
          refine ⟨m, hm', ⟨⟨by omega, by rw [getD_ix hm']; exact h2⟩, fun j hj => ?_⟩⟩
          have h3 := hj.dst
          rcases Int.lt_or_le j (m : Int) with h4 | h4
          · have h5 : j.toNat < l.length := by have := h3.1; omega
            exact absurd (by have := h3.2; rw [List.getD_eq_getElem?_getD, List.getElem?_eq_getElem h5] at this; exact this) (h1 j.toNat (by have := h3.1; omega) h5)
          · exact h4
        · refine .inr fun j hj hl => ?_
          by_cases e : j = m
          · subst e; exact h2
          · exact h1 j (by omega) hl
  rcases key l.length (Nat.le_refl _) with ⟨k, hk, hL⟩ | h1
  · have h2 := areaT_yes hL
    have h3 := areaT_bd (p := fun x => x < lv) (l := l) (c := c) k
    have h4 := areaT_mono (p := fun x => x < lv) (l := l) (c := c) (j := k + 1) l.length (by omega)
    omega
  · have := (shN_none l.length (Nat.le_refl _)).2 h1
    omega
theorem contour_zero {r c : Int} {l : List Int} {lv : Int} (hf : FieldOk r c l) : contourN l c lv = 0 ↔ (shN l lv l.length = 0 ∨ shN l lv l.length = (l.length : Int)) := by
  constructor
  · intro h
    by_cases h0 : shN l lv l.length = 0
    · exact .inl h0
    · right
      refine (shN_all l.length (Nat.le_refl _)).2 (fun j hj hl => ?_)
      have h1 : ¬ ∀ j (_ : j < l.length) (h : j < l.length), ¬ l[j] < lv := fun h2 => h0 ((shN_none l.length (Nat.le_refl _)).2 h2)
      obtain ⟨a, ha, hsa⟩ : ∃ a, ∃ h : a < l.length, l[a] < lv := Classical.byContradiction fun hn => h1 (fun j hj hl hs => hn ⟨j, hl, hs⟩)
      have hc := grid_conn (l := l) (c := c) hf.1.2.1 (i := (a : Int)) (j := (j : Int)) (by omega) (by omega)
      have key : ∀ x : Int, Conn (fun _ => True) l c (a : Int) x → ∃ h : x.toNat < l.length, l[x.toNat] < lv := by
        intro x hx
        induction hx with
        | refl _ => exact ⟨by omega, by simpa using hsa⟩
        | @step i k hcc hn hk ih =>
          obtain ⟨hi, hs⟩ := ih
          have hk2 : k.toNat < l.length := by have := hk.1; omega
          have hi2 := hcc.dst.1
          refine ⟨hk2, contour_flat h hi hk2 ?_ hs⟩
          rw [show ((i.toNat : Nat) : Int) = i by omega, show ((k.toNat : Nat) : Int) = k by have := hk.1; omega]
          exact hn
      obtain ⟨_, h5⟩ := key (j : Int) hc
      simpa using h5
  · intro h
    have hz : ∀ i, i < l.length → sumN (cutF l c lv i) l.length = 0 := fun i hi => by
      have : ∀ k, k < l.length → cutF l c lv i k = 0 := fun k hk => by
        unfold cutF
        rw [getD_k hi, getD_k hk]
        rw [if_neg]
        rintro ⟨_, h1, h2⟩
        rcases h with h | h
        · exact (shN_none l.length (Nat.le_refl _)).1 h i hi hi h1
        · exact h2 ((shN_all l.length (Nat.le_refl _)).1 h k hk hk)
      rw [sumN_congr l.length this]
      induction l.length with
      | zero => rfl
      | succ n ih => simp only [sumN, ih]; rfl
    unfold contourN
    rw [sumN_congr l.length hz]
    generalize l.length = n
    induction n with
    | zero => rfl
    | succ n ih => simp only [sumN, ih]; rfl
/-- What the deepest way is. -/
theorem way_in {r c : Int} {l : List Int} {row col tr tc : Int} (h : WayOk r c l row col tr tc) : ∃ D, deepT (WayAt c l row col tr tc) l (-1000) l.length = D ∧ D ∈ l ∧ WayAt c l row col tr tc D ∧ ∀ x ∈ l, WayAt c l row col tr tc x → x ≤ D := by
  have hb1 := cell_bd h.1.1.1 h.1.1.2 h.2.1
  have hb2 := cell_bd h.1.1.1 h.1.1.2 h.2.2
  have hlen := h.1.2.1
  have hex := lead_least (r := r) (l := l) (i := row * c + col) (t := tr * c + tc) h.1.1.2.1 (by omega) (by omega)
  have heq := deep_eq (W := WayAt c l row col tr tc) (a := -20000) (b := -1000) (by omega) (fun x hx => (h.1.2.2 x hx).1) hex
  obtain ⟨x, hx, hwx⟩ := hex
  obtain ⟨j, hj, rfl⟩ := List.getElem_of_mem hx
  have hge : ∀ x ∈ l, WayAt c l row col tr tc x → x ≤ deepT (WayAt c l row col tr tc) l (-20000) l.length := fun x hx hw => by
    obtain ⟨j, hj, rfl⟩ := List.getElem_of_mem hx
    exact deepT_ge (a0 := -20000) l.length (Nat.le_refl _) j hj hj hw
  have h1 := hge _ hx hwx
  have h2 := (h.1.2.2 _ hx).1
  rcases deepT_in (W := WayAt c l row col tr tc) (a0 := -20000) l.length (Nat.le_refl _) with h3 | ⟨h3, h4⟩
  · omega
  · exact ⟨_, heq.symm, h3, h4, hge⟩
theorem way_next {c : Int} {l : List Int} {row col tr tc D : Int} (hi : 0 ≤ row * c + col ∧ row * c + col < (l.length : Int)) (h : ∀ x ∈ l, WayAt c l row col tr tc x → x ≤ D) : ¬ WayAt c l row col tr tc (D + 1) := fun hw => by
  have hc := (mem_reachL hi).1 hw
  have hsrc := hc.src
  have hk : (row * c + col).toNat < l.length := by omega
  have hs2 : D + 1 ≤ l[(row * c + col).toNat] := by have := hsrc.2; rw [List.getD_eq_getElem?_getD, List.getElem?_eq_getElem hk] at this; exact this
  obtain ⟨m, hm, hle⟩ := least_ex (l.filter (fun x => decide (D + 1 ≤ x))) (List.length_pos_of_mem (List.mem_filter.2 ⟨List.getElem_mem hk, by simpa using hs2⟩))
  have hm2 := List.mem_filter.1 hm
  have hD : D + 1 ≤ m := by simpa using hm2.2
  have hc2 : Conn (fun y => m ≤ y) l c (row * c + col) (tr * c + tc) := hc.mono (fun x hx hx2 => hle x (List.mem_filter.2 ⟨hx, by simpa using hx2⟩))
  have := h m hm2.1 ((mem_reachL hi).2 hc2)
  omega
theorem pass_sym {r c : Int} {l : List Int} {lv a b e d : Int} : passRes r c l lv a b e d = passRes r c l lv e d a b := by
  have e1 : PassOk r c l lv a b e d ↔ PassOk r c l lv e d a b := ⟨fun h => ⟨h.1, h.2.2, h.2.1⟩, fun h => ⟨h.1, h.2.2, h.2.1⟩⟩
  by_cases h : PassOk r c l lv a b e d
  · have h' := e1.1 h
    have hb1 := cell_bd h.1.1.1.1 h.1.1.1.2 h.2.1
    have hb2 := cell_bd h.1.1.1.1 h.1.1.1.2 h.2.2
    have hlen := h.1.1.2.1
    have e2 : PassYes c l lv a b e d ↔ PassYes c l lv e d a b := by
      unfold PassYes
      rw [mem_reachL (by omega), mem_reachL (by omega)]
      exact ⟨fun h => h.symm, fun h => h.symm⟩
    rw [← passRes_yes h, ← passRes_yes h', dec_congr e2]
  · rw [← passRes_no h, ← passRes_no (fun h2 => h (e1.2 h2))]
end Go.Proofs.Ytloglnnemjofgaa
