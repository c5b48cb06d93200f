/- Cells that can be reached from a cell over chosen cells beside each other: the list that grows, and what is in it. Plain theorems; no program. -/
import Derived.Test.YtloglnnemjofgaaFldB
namespace Go.Proofs.Ytloglnnemjofgaa
open Go.RowKit
theorem Near.symm {c i k : Int} (h : Near c false i k) : Near c false k i := by
  unfold Near rowD colD at *
  rcases h with h | ⟨h, _⟩
  · left; omega
  · cases h
section
variable (p : Int → Prop) (l : List Int) (c : Int)
/-- The chosen ones among the cells. -/
def Chosen (k : Int) : Prop := (0 ≤ k ∧ k < (l.length : Int)) ∧ p (l.getD k.toNat 0)
open Classical in
noncomputable def addOne (L : List Int) (o : Int) : List Int := if p (l.getD o.toNat 0) ∧ o ∉ L then L ++ [o] else L
noncomputable def grow (L N : List Int) : List Int := N.foldl (addOne p l) L
noncomputable def bfs (src : Int) : Nat → List Int
  | 0 => [src]
  | i + 1 => if h : i < (bfs src i).length then grow p l (bfs src i) (nearTo c false (bfs src i)[i] l.length) else bfs src i
open Classical in
noncomputable def reachL (src : Int) : List Int := if p (l.getD src.toNat 0) then bfs p l c src l.length else []
inductive Conn (src : Int) : Int → Prop
  | refl : Chosen p l src → Conn src src
  | step {i k : Int} : Conn src i → Near c false i k → Chosen p l k → Conn src k
end
section
variable {p : Int → Prop} {l : List Int} {c : Int}
theorem addOne_yes {L : List Int} {o : Int} (h1 : p (l.getD o.toNat 0)) (h2 : o ∉ L) : addOne p l L o = L ++ [o] := if_pos ⟨h1, h2⟩
theorem addOne_no {L : List Int} {o : Int} (h : ¬ (p (l.getD o.toNat 0) ∧ o ∉ L)) : addOne p l L o = L := if_neg h
theorem grow_nil (L : List Int) : grow p l L [] = L := rfl
theorem grow_snoc (L N : List Int) (o : Int) : grow p l L (N ++ [o]) = addOne p l (grow p l L N) o := by simp [grow, List.foldl_append]
theorem addOne_ex (L : List Int) (o : Int) : ∃ M, addOne p l L o = L ++ M := by
  by_cases h : p (l.getD o.toNat 0) ∧ o ∉ L
  · exact ⟨[o], addOne_yes h.1 h.2⟩
  · exact ⟨[], by rw [addOne_no h, List.append_nil]⟩
theorem grow_ex (L : List Int) : ∀ N : List Int, ∃ M, grow p l L N = L ++ M := by
  intro N
  induction N generalizing L with
  | nil => exact ⟨[], by rw [grow_nil, List.append_nil]⟩
  | cons o N ih =>
    obtain ⟨M, hM⟩ := addOne_ex (p := p) (l := l) L o
    obtain ⟨M', hM'⟩ := ih (addOne p l L o)
    refine ⟨M ++ M', ?_⟩
    have : grow p l L (o :: N) = grow p l (addOne p l L o) N := rfl
    rw [this, hM', hM, List.append_assoc]
theorem grow_len (L N : List Int) : L.length ≤ (grow p l L N).length := by
  obtain ⟨M, h⟩ := grow_ex (p := p) (l := l) L N
  rw [h]; simp
theorem grow_get {L N : List Int} {i : Nat} (hi : i < L.length) (h2 : i < (grow p l L N).length) : (grow p l L N)[i] = L[i] := by
  obtain ⟨M, h⟩ := grow_ex (p := p) (l := l) L N
  simp only [h, List.getElem_append_left hi]
theorem addOne_in {L : List Int} {o x : Int} : x ∈ addOne p l L o ↔ x ∈ L ∨ (x = o ∧ p (l.getD o.toNat 0)) := by
  by_cases h : p (l.getD o.toNat 0) ∧ o ∉ L
  · rw [addOne_yes h.1 h.2, List.mem_append, List.mem_singleton]
    exact ⟨fun h1 => h1.imp id fun e => ⟨e, h.1⟩, fun h1 => h1.imp id fun e => e.1⟩
  · rw [addOne_no h]
    refine ⟨.inl, ?_⟩
    rintro (h1 | ⟨rfl, h1⟩)
    · exact h1
    · exact Classical.byContradiction fun hn => h ⟨h1, hn⟩
theorem grow_in {x : Int} : ∀ {N L : List Int}, x ∈ grow p l L N ↔ x ∈ L ∨ (x ∈ N ∧ p (l.getD x.toNat 0)) := by
  intro N
  induction N with
  | nil => intro L; rw [grow_nil]; simp
  | cons o N ih =>
    intro L
    have : grow p l L (o :: N) = grow p l (addOne p l L o) N := rfl
    rw [this, ih, addOne_in, List.mem_cons]
    constructor
    · rintro ((h | ⟨rfl, h⟩) | ⟨h1, h2⟩)
      · exact .inl h
      · exact .inr ⟨.inl rfl, h⟩
      · exact .inr ⟨.inr h1, h2⟩
    · rintro (h | ⟨rfl | h1, h2⟩)
      · exact .inl (.inl h)
      · exact .inl (.inr ⟨rfl, h2⟩)
      · exact .inr ⟨h1, h2⟩
theorem addOne_nd {L : List Int} {o : Int} (h : L.Nodup) : (addOne p l L o).Nodup := by
  by_cases h1 : p (l.getD o.toNat 0) ∧ o ∉ L
  · rw [addOne_yes h1.1 h1.2]
    refine List.nodup_append.2 ⟨h, by simp, fun a ha b hb e => ?_⟩
    rw [List.mem_singleton.1 hb] at e
    exact h1.2 (e ▸ ha)
  · rw [addOne_no h1]; exact h
theorem grow_nd : ∀ {N L : List Int}, L.Nodup → (grow p l L N).Nodup := by
  intro N
  induction N with
  | nil => intro L h; exact h
  | cons o N ih => intro L h; exact ih (L := addOne p l L o) (addOne_nd h)
/-- Cells, each once. -/
def Cells (n : Nat) (L : List Int) : Prop := L.Nodup ∧ ∀ x ∈ L, 0 ≤ x ∧ x < (n : Int)
theorem nd_le : ∀ (n : Nat) (L : List Int), L.Nodup → (∀ x ∈ L, 0 ≤ x ∧ x < (n : Int)) → L.length ≤ n
  | 0, L, _, h => by
    cases L with
    | nil => simp
    | cons a L => have := h a (.head _); omega
  | n + 1, L, hn, h => by
    by_cases hm : (n : Int) ∈ L
    · have h1 := nd_le n (L.erase (n : Int)) (hn.erase _) (fun x hx => by
        have h2 := hn.mem_erase_iff.1 hx
        have := h x h2.2
        have := h2.1
        omega)
      rw [List.length_erase_of_mem hm] at h1
      omega
    · have h1 := nd_le n L hn (fun x hx => by
        have := h x hx
        have : x ≠ (n : Int) := fun e => hm (e ▸ hx)
        omega)
      omega
theorem Cells.len {n : Nat} {L : List Int} (h : Cells n L) : L.length ≤ n := nd_le n L h.1 h.2
theorem Cells.grow {L N : List Int} (h : Cells l.length L) (hN : ∀ x ∈ N, 0 ≤ x ∧ x < (l.length : Int)) : Cells l.length (grow p l L N) :=
  ⟨grow_nd h.1, fun x hx => by
    rcases grow_in.1 hx with h1 | ⟨h1, _⟩
    · exact h.2 x h1
    · exact hN x h1⟩
theorem nearTo_cells {i : Int} {k : Nat} : ∀ x ∈ nearTo c false i k, 0 ≤ x ∧ x < (k : Int) := fun _ hx => (mem_nearTo.1 hx).2
theorem bfs_succ {src : Int} {i : Nat} (h : i < (bfs p l c src i).length) : bfs p l c src (i + 1) = grow p l (bfs p l c src i) (nearTo c false (bfs p l c src i)[i] l.length) := by rw [bfs, dif_pos h]
theorem bfs_stop {src : Int} {i : Nat} (h : ¬ i < (bfs p l c src i).length) : bfs p l c src (i + 1) = bfs p l c src i := by rw [bfs, dif_neg h]
theorem bfs_cells {src : Int} (hs : 0 ≤ src ∧ src < (l.length : Int)) : ∀ i : Nat, Cells l.length (bfs p l c src i)
  | 0 => ⟨by simp [bfs], fun x hx => by rw [bfs, List.mem_singleton] at hx; rw [hx]; exact hs⟩
  | i + 1 => by
    have ih := bfs_cells hs i
    by_cases h : i < (bfs p l c src i).length
    · rw [bfs_succ h]; exact ih.grow nearTo_cells
    · rw [bfs_stop h]; exact ih
theorem bfs_stay {src : Int} {i : Nat} (h : (bfs p l c src i).length ≤ i) : ∀ k : Nat, bfs p l c src (i + k) = bfs p l c src i
  | 0 => rfl
  | k + 1 => by
    have ih := bfs_stay h k
    rw [← Nat.add_assoc, bfs_stop (by rw [ih]; omega), ih]
theorem bfs_end {src : Int} (hs : 0 ≤ src ∧ src < (l.length : Int)) {i : Nat} (h : (bfs p l c src i).length = i) : bfs p l c src l.length = bfs p l c src i := by
  have h1 := (bfs_cells (p := p) (c := c) hs i).len
  have := bfs_stay (p := p) (l := l) (c := c) (src := src) (i := i) (by omega) (l.length - i)
  rwa [show i + (l.length - i) = l.length by omega] at this
theorem bfs_mem {src : Int} : ∀ i : Nat, src ∈ bfs p l c src i
  | 0 => by simp [bfs]
  | i + 1 => by
    have ih := bfs_mem (src := src) i
    by_cases h : i < (bfs p l c src i).length
    · rw [bfs_succ h]; exact grow_in.2 (.inl ih)
    · rw [bfs_stop h]; exact ih
theorem bfs_conn {src : Int} (hs : Chosen p l src) : ∀ i : Nat, ∀ x ∈ bfs p l c src i, Conn p l c src x
  | 0 => fun x hx => by rw [bfs, List.mem_singleton] at hx; rw [hx]; exact .refl hs
  | i + 1 => fun x hx => by
    have ih := bfs_conn hs i
    by_cases h : i < (bfs p l c src i).length
    · rw [bfs_succ h] at hx
      rcases grow_in.1 hx with h1 | ⟨h1, h2⟩
      · exact ih x h1
      · have h3 := mem_nearTo.1 h1
        exact .step (ih _ (List.getElem_mem h)) h3.1 ⟨h3.2, h2⟩
    · rw [bfs_stop h] at hx; exact ih x hx
/-- What the first cells of the list lead to is in it. -/
theorem bfs_closed {src : Int} : ∀ i j : Nat, j < i → ∀ (hj : j < (bfs p l c src i).length) (x : Int), Near c false (bfs p l c src i)[j] x → Chosen p l x → x ∈ bfs p l c src i
  | 0, j, h => by omega
  | i + 1, j, h => fun hj x hn hx => by
    have ih := bfs_closed (src := src) i j
    by_cases hi : i < (bfs p l c src i).length
    · have hj' : j < (bfs p l c src i).length := by omega
      have e : (bfs p l c src (i + 1))[j] = (bfs p l c src i)[j] := by
        simp only [bfs_succ hi]; exact grow_get hj' _
      rw [e] at hn
      rw [bfs_succ hi]
      by_cases hji : j = i
      · subst hji
        exact grow_in.2 (.inr ⟨mem_nearTo.2 ⟨hn, hx.1⟩, hx.2⟩)
      · exact grow_in.2 (.inl (ih (by omega) hj' x hn hx))
    · have e := bfs_stop (p := p) (l := l) (c := c) (src := src) hi
      simp only [e] at hj hn ⊢
      exact ih (by omega) hj x hn hx
theorem mem_reachL {src x : Int} (hs : 0 ≤ src ∧ src < (l.length : Int)) : x ∈ reachL p l c src ↔ Conn p l c src x := by
  constructor
  · intro hx
    unfold reachL at hx
    split at hx
    · rename_i h; exact bfs_conn ⟨hs, h⟩ _ x hx
    · cases hx
  · intro hc
    have hsc : Chosen p l src := by
      induction hc with
      | refl h => exact h
      | step _ _ _ ih => exact ih
    unfold reachL
    rw [if_pos hsc.2]
    induction hc with
    | refl _ => exact bfs_mem _
    | @step i k _ hn hk ih =>
      obtain ⟨j, hj, e⟩ := List.getElem_of_mem ih
      have hl := (bfs_cells (p := p) (c := c) hs l.length).len
      exact bfs_closed l.length j (by omega) hj k (by rw [e]; exact hn) hk
theorem reachL_of {src : Int} (hs : 0 ≤ src ∧ src < (l.length : Int)) (h : p (l.getD src.toNat 0)) {i : Nat} (hi : (bfs p l c src i).length = i) : reachL p l c src = bfs p l c src i := by
  unfold reachL; rw [if_pos h, bfs_end hs hi]
theorem reachL_no {src : Int} (h : ¬ p (l.getD src.toNat 0)) : reachL p l c src = [] := by unfold reachL; rw [if_neg h]
theorem reachL_cells {src : Int} (hs : 0 ≤ src ∧ src < (l.length : Int)) : Cells l.length (reachL p l c src) := by
  unfold reachL
  split
  · exact bfs_cells hs _
  · exact ⟨List.nodup_nil, fun x hx => by cases hx⟩
theorem Conn.src {a b : Int} (h : Conn p l c a b) : Chosen p l a := by
  induction h with
  | refl h => exact h
  | step _ _ _ ih => exact ih
theorem Conn.dst {a b : Int} (h : Conn p l c a b) : Chosen p l b := by
  cases h with
  | refl h => exact h
  | step _ _ h => exact h
theorem Conn.trans {a b d : Int} (h1 : Conn p l c a b) (h2 : Conn p l c b d) : Conn p l c a d := by
  induction h2 with
  | refl _ => exact h1
  | step _ hn hk ih => exact .step ih hn hk
theorem Conn.symm {a b : Int} (h : Conn p l c a b) : Conn p l c b a := by
  induction h with
  | refl h => exact .refl h
  | @step i k hc hn hk ih => exact Conn.trans (.step (.refl hk) hn.symm hc.dst) ih
theorem Conn.mono {q : Int → Prop} {a b : Int} (hpq : ∀ x ∈ l, p x → q x) (h : Conn p l c a b) : Conn q l c a b := by
  have hch : ∀ k, Chosen p l k → Chosen q l k := fun k hk => ⟨hk.1, hpq _ (by
    have : k.toNat < l.length := by have := hk.1; omega
    rw [List.getD_eq_getElem?_getD, List.getElem?_eq_getElem this]; exact List.getElem_mem this) hk.2⟩
  induction h with
  | refl h => exact .refl (hch _ h)
  | step _ hn hk ih => exact .step ih hn (hch _ hk)
theorem reachL_congr {q : Int → Prop} (hpq : ∀ x ∈ l, p x ↔ q x) (src : Int) (hs : 0 ≤ src ∧ src < (l.length : Int)) : reachL p l c src = reachL q l c src := by
  have hin : ∀ k : Int, 0 ≤ k ∧ k < (l.length : Int) → l.getD k.toNat 0 ∈ l := fun k hk => by
    have : k.toNat < l.length := by omega
    rw [List.getD_eq_getElem?_getD, List.getElem?_eq_getElem this]; exact List.getElem_mem this
  have hg : ∀ (N L : List Int), (∀ x ∈ N, 0 ≤ x ∧ x < (l.length : Int)) → grow p l L N = grow q l L N := by
    intro N
    induction N with
    | nil => intro L _; rfl
    | cons o N ih =>
      intro L hN
      have e : addOne p l L o = addOne q l L o := by
        have hq := hpq _ (hin o (hN o (.head _)))
        by_cases h : p (l.getD o.toNat 0) ∧ o ∉ L
        · rw [addOne_yes h.1 h.2, addOne_yes (hq.1 h.1) h.2]
        · rw [addOne_no h, addOne_no (fun h2 => h ⟨hq.2 h2.1, h2.2⟩)]
      show grow p l (addOne p l L o) N = grow q l (addOne q l L o) N
      rw [e]; exact ih _ (fun x hx => hN x (.tail _ hx))
  have hb : ∀ i, bfs p l c src i = bfs q l c src i := by
    intro i
    induction i with
    | zero => rfl
    | succ i ih =>
      by_cases h : i < (bfs p l c src i).length
      · have h2 : i < (bfs q l c src i).length := by rw [← ih]; exact h
        rw [bfs_succ h, bfs_succ h2]
        simp only [ih]
        exact hg _ _ nearTo_cells
      · have h2 : ¬ i < (bfs q l c src i).length := by rw [← ih]; exact h
        rw [bfs_stop h, bfs_stop h2, ih]
  have hq := hpq _ (hin src hs)
  by_cases h : p (l.getD src.toNat 0)
  · unfold reachL; rw [if_pos h, if_pos (hq.1 h), hb]
  · unfold reachL; rw [if_neg h, if_neg (fun h2 => h (hq.2 h2))]
end
end Go.Proofs.Ytloglnnemjofgaa
