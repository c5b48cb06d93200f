/- Typed slices over the logic: a slice that reads as a list of structs of plain cells. Plain theorems; no condition. -/
import Derived.Test.YtnmhoeafdengfaaDoorOps
namespace Go.Proofs.YtnmhoeafdengfaaDoor
open Go.RowKit

noncomputable def dec (p : Prop) : Bool := @decide p (Classical.propDecidable p)
theorem dec_true {p : Prop} (h : p) : dec p = true := by simp [dec, h]
theorem dec_false {p : Prop} (h : ¬p) : dec p = false := by simp [dec, h]
theorem dec_congr {p q : Prop} (h : p ↔ q) : dec p = dec q := by
  by_cases hp : p
  · rw [dec_true hp, dec_true (h.1 hp)]
  · rw [dec_false hp, dec_false (fun hq => hp (h.2 hq))]
theorem dec_eq (p : Prop) [i : Decidable p] : decide p = dec p := by
  by_cases hp : p
  · simp [dec, hp]
  · simp [dec, hp]

theorem idx_zero : (0 : Int) = ((0 : Nat) : Int) := rfl
theorem idx_one : (1 : Int) = ((1 : Nat) : Int) := rfl
theorem idx_pred {k : Nat} (h : 0 < k) : ((k : Int) - 1) = ((k - 1 : Nat) : Int) := by omega
theorem vb_t {p : Prop} (h : p) : Value.bool true = Value.bool (dec p) := by rw [dec_true h]
theorem vb_f {p : Prop} (h : ¬p) : Value.bool false = Value.bool (dec p) := by rw [dec_false h]
theorem vb_i {p q : Prop} {i : Decidable p} (h : p ↔ q) : Value.bool (decide p) = Value.bool (dec q) := by rw [dec_eq, dec_congr h]
theorem vb_n {p q : Prop} {i : Decidable p} (h : ¬p ↔ q) : Value.bool (!decide p) = Value.bool (dec q) := by
  rw [← dec_congr h]
  by_cases hp : p
  · rw [dec_false (not_not_intro hp)]; simp [hp]
  · rw [dec_true hp]; simp [hp]
theorem vi_ {a b : Int} (h : a = b) : Value.int .i64 a = Value.int .i64 b := by rw [h]
/-- A number and whether there is one. -/
noncomputable def optI (p : Prop) (n : Int) : Value := .tuple #[.int .i64 (@ite _ p (Classical.propDecidable p) n 0), .bool (dec p)]
theorem optI_yes {p : Prop} {n : Int} (h : p) : optI p n = .tuple #[.int .i64 n, .bool true] := by unfold optI; rw [dec_true h, if_pos h]
theorem optI_no {p : Prop} {n : Int} (h : ¬p) : optI p n = .tuple #[.int .i64 0, .bool false] := by unfold optI; rw [dec_false h, if_neg h]
class Enc (α : Type) where
  size : Nat
  cells : α → List Value
  len : ∀ a, (cells a).length = size
  one : ∀ a, ∀ u ∈ cells a, u.oneCell' = true
  pos : 0 < size
open Enc
section
variable {α : Type} [Enc α]
def flat (l : List α) : List Value := l.flatMap cells
@[simp] theorem flat_nil : flat ([] : List α) = [] := rfl
@[simp] theorem flat_cons (a : α) (l : List α) : flat (a :: l) = cells a ++ flat l := rfl
@[simp] theorem flat_append (l m : List α) : flat (l ++ m) = flat l ++ flat m := by simp [flat]
theorem length_flat (l : List α) : (flat l).length = l.length * size α := by
  induction l with
  | nil => simp
  | cons a l ih => rw [flat_cons, List.length_append, ih, len, List.length_cons, Nat.succ_mul, Nat.add_comm]
theorem flat_at (l : List α) {i : Nat} (hi : i < l.length) {j : Nat} {u : Value} (hu : (cells l[i])[j]? = some u) : (flat l)[i * size α + j]? = some u := by
  induction l generalizing i with
  | nil => cases hi
  | cons a l ih =>
    cases i with
    | zero =>
      have hj : j < (cells a).length := (List.getElem?_eq_some_iff.1 hu).1
      simpa [List.getElem?_append_left hj] using hu
    | succ i =>
      have := ih (i := i) (by simpa using hi) (by simpa using hu)
      rw [flat_cons, List.getElem?_append_right (by rw [len]; have := Nat.add_one_mul i (size α); omega), len]
      rwa [show (i + 1) * size α + j - size α = i * size α + j by have := Nat.add_one_mul i (size α); omega]
theorem flat_one (l : List α) : ∀ u ∈ flat l, u.oneCell' = true := by
  intro u hu
  obtain ⟨a, _, ha⟩ := List.mem_flatMap.1 hu
  exact one a u ha
theorem flat_drop (l : List α) (i : Nat) : (flat l).drop (i * size α) = flat (l.drop i) := by
  induction l generalizing i with
  | nil => simp
  | cons a l ih =>
    cases i with
    | zero => simp
    | succ i =>
      rw [flat_cons, List.drop_append, List.drop_eq_nil_of_le (by rw [len]; have := Nat.add_one_mul i (size α); omega), len, List.nil_append]
      rw [show (i + 1) * size α - size α = i * size α by have := Nat.add_one_mul i (size α); omega, ih]
      simp
theorem setAt_append_right : ∀ (vs pre cs : List Value) (k : Nat), setAt (pre ++ cs) (pre.length + k) vs = pre ++ setAt cs k vs
  | [], _, _, _ => rfl
  | v :: vs, pre, cs, k => by
    unfold setAt
    rw [List.set_append_right _ _ (by omega), show pre.length + k - pre.length = k by omega, Nat.add_assoc, setAt_append_right vs pre (cs.set k v) (k + 1)]
theorem setAt_append_left : ∀ (vs cs post : List Value) (k : Nat), k + vs.length ≤ cs.length → setAt (cs ++ post) k vs = setAt cs k vs ++ post
  | [], _, _, _, _ => rfl
  | v :: vs, cs, post, k, h => by
    simp only [List.length_cons] at h
    unfold setAt
    rw [List.set_append_left _ _ (by omega), setAt_append_left vs (cs.set k v) post (k + 1) (by simp; omega)]
theorem flat_set (l : List α) {i : Nat} (hi : i < l.length) (a : α) : setAt (flat l) (i * size α) (cells a) = flat (l.set i a) := by
  induction l generalizing i with
  | nil => cases hi
  | cons b l ih =>
    cases i with
    | zero =>
      simp only [flat_cons, Nat.zero_mul, List.set_cons_zero]
      rw [setAt_append_left _ _ _ _ (by rw [len, len]; omega)]
      have := setAt_whole (cells a) [] (cells b) (by rw [len, len])
      simp only [List.nil_append, List.length_nil] at this
      rw [this]
    | succ i =>
      simp only [flat_cons, List.set_cons_succ]
      rw [show (i + 1) * size α = (cells b).length + i * size α by rw [len]; have := Nat.add_one_mul i (size α); omega, setAt_append_right, ih (by simpa using hi)]
/-- The slice's cells, in one world. -/
def SlB (w : World) (A : Option Addr) (l : List α) : Prop := ∀ (i : Nat) (hi : i < l.length) (j : Nat) (u : Value), (cells l[i])[j]? = some u → A ≠ none ∧ w.cell? ((adOf A).add (i * size α + j)) = some u
/-- .. in every world of a kind. -/
def SlR (cx : Cx) (hp : List Res) (A : Option Addr) (l : List α) : Prop := ∀ w, S cx hp w → SlB w A l
variable {cx : Cx} {hp : List Res} {A : Option Addr} {l : List α} {w w0 : World}
theorem SlB.keep {w' : World} (h : SlB w A l) (hk : ∀ p v, w.cell? p = some v → w'.cell? p = some v) : SlB w' A l := fun i hi j u hu => ⟨(h i hi j u hu).1, hk _ _ (h i hi j u hu).2⟩
theorem S.cell {w : World} (hs : S cx hp w) {p : Addr} {v : Value} (h : cx.w0.cell? p = some v) (hw : p.block ∉ cx.wr) : w.cell? p = some v := by
  have hlt := World.block_lt_of_cell? cx.w0 p h
  rw [World.cell?_of_block (w := cx.w0) (hs.block p.block hlt hw)]
  exact h
/-- An argument's slice. -/
theorem SlB.r (h : SlB w0 A l) : SlR ⟨w0, []⟩ hp A l := fun w hs => h.keep fun p v hv => hs.cell (p := p) hv (by simp)
theorem SlB.at_ (h : SlB w0 A l) {w : World} (hs : S ⟨w0, []⟩ hp w) : SlB w A l := h.r w hs
theorem SlR.own {b : Nat} {t : TypeId} {tot : Nat} (hm : Res.mk b t (flat l) tot ∈ hp) : SlR cx hp (some ⟨b, 0, none⟩) l := fun w hs i hi j u hu => by
  refine ⟨by simp, ?_⟩
  have := (hs.on _ hm).cell (flat_at l hi hu)
  simpa [adOf, Addr.add_lit] using this
theorem SlR.at_ (h : SlR cx hp A l) (hs : S cx hp w) : SlB w A l := h w hs
theorem SlB.ne (h : SlB w A l) {i : Nat} (hi : i < l.length) : A ≠ none :=
  (h i hi 0 _ (List.getElem?_eq_getElem (show 0 < (cells l[i]).length by rw [len]; exact pos))).1
theorem SlB.ne0 (h : SlB w A l) (hl : 0 < l.length) : A ≠ none := h.ne hl
theorem SlR.cell (h : SlR cx hp A l) {i j : Nat} (hi : i < l.length) {u : Value} (hu : (cells l[i])[j]? = some u) : Rd cx hp (((adOf A).add (i * size α)).add j) [u] := fun w hs k v hv => by
  cases k with
  | zero =>
    obtain rfl : u = v := by simpa using hv
    rw [Addr.add_zero', Go.Deep.add_add]
    exact (h w hs i hi j u hu).2
  | succ k => simp at hv
theorem SlR.elem (h : SlR cx hp A l) {i : Nat} (hi : i < l.length) : Rd cx hp ((adOf A).add (i * size α)) (cells l[i]) := fun w hs j u hu => by
  rw [Go.Deep.add_add]
  exact (h w hs i hi j u hu).2
/-- 's[k:]'. -/
def cutA (A : Option Addr) (c k sz : Nat) : Option Addr := if c = k then A else A.map (·.add (k * sz))
theorem SlB.cut (h : SlB w A l) {k c : Nat} (hk : k ≤ l.length) (hc : l.length ≤ c) : SlB w (cutA A c k (size α)) (l.drop k) := fun i hi j u hu => by
  have hi' : k + i < l.length := by simp at hi; omega
  have h1 := h (k + i) hi' j u (by simpa using hu)
  have hne : c ≠ k := by omega
  unfold cutA
  rw [if_neg hne]
  cases A with
  | none => exact absurd rfl h1.1
  | some ad =>
    refine ⟨by simp, ?_⟩
    have := h1.2
    simp only [adOf, Option.map_some, Option.getD_some] at this ⊢
    rw [Go.Deep.add_add, show k * size α + (i * size α + j) = (k + i) * size α + j by rw [Nat.add_mul]; omega]
    exact this
theorem SlB.take (h : SlB w A l) (k : Nat) : SlB w A (l.take k) := fun i hi j u hu => by
  have hi' : i < l.length := by simp at hi; omega
  exact h i hi' j u (by simpa using hu)
end
/-! ### What the laws' helpers do to lists -/
noncomputable def szOf (n : Nat) (k : Int) : Int := if k < n then -1 else k - n
theorem szOf_lt {n : Nat} {k : Int} (h : k < n) : szOf n k = -1 := if_pos h
theorem szOf_ge {n : Nat} {k : Int} (h : ¬ k < n) : szOf n k = k - n := if_neg h
/-- The first k elements are there, the others zero. -/
def fillTo {α : Type} (l : List α) (k : Nat) (z : α) : List α := l.take k ++ List.replicate (l.length - k) z
theorem fillTo_zero {α : Type} (l : List α) (z : α) : fillTo l 0 z = List.replicate l.length z := by simp [fillTo]
theorem fillTo_all {α : Type} (l : List α) (z : α) : fillTo l l.length z = l := by simp [fillTo]
theorem length_fillTo {α : Type} (l : List α) (k : Nat) (z : α) : (fillTo l k z).length = l.length := by simp [fillTo]; omega
theorem fillTo_set {α : Type} (l : List α) (k : Nat) (z : α) (hk : k < l.length) : fillTo l (k + 1) z = (fillTo l k z).set k l[k] := by
  unfold fillTo
  rw [List.set_append_right _ _ (by simp; omega)]
  have h1 : (l.take k).length = k := by simp; omega
  rw [h1, Nat.sub_self, List.take_succ_eq_append_getElem hk, show l.length - k = (l.length - (k + 1)) + 1 by omega, List.replicate_succ, List.set_cons_zero, List.append_assoc]
  rfl
theorem fillTo_step {α : Type} [Enc α] (l : List α) (k : Nat) (z : α) (hk : k < l.length) : flat (fillTo l (k + 1) z) = setAt (flat (fillTo l k z)) (k * Enc.size α) (Enc.cells l[k]) := by
  rw [fillTo_set l k z hk, flat_set _ (by rw [length_fillTo]; exact hk)]
theorem flat_replicate {α : Type} [Enc α] (n : Nat) (z : α) : flat (List.replicate n z) = (List.replicate n (Enc.cells z)).flatten := by
  induction n with
  | zero => rfl
  | succ n ih => rw [List.replicate_succ, flat_cons, ih, List.replicate_succ, List.flatten_cons]
theorem sub_eq {a b : List Res} (h : a = b) : a.Sublist b := h ▸ .refl _
instance : Enc Int := ⟨1, fun n => [.int .i64 n], fun _ => rfl, fun _ u hu => by rw [List.mem_singleton.1 hu]; rfl, by decide⟩
instance : Enc Bool := ⟨1, fun n => [.bool n], fun _ => rfl, fun _ u hu => by rw [List.mem_singleton.1 hu]; rfl, by decide⟩
end Go.Proofs.YtnmhoeafdengfaaDoor
