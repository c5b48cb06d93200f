/- Sums over lists: plain mathematics. No condition. -/
import Derived.Test.YtidbnifdaamnlaaData
namespace Go.Proofs.Ytidbnifdaamnlaa
def sumL {α : Type} (f : α → Int) : List α → Int
  | [] => 0
  | x :: r => f x + sumL f r
theorem sumL_append {α : Type} (f : α → Int) : ∀ l m : List α, sumL f (l ++ m) = sumL f l + sumL f m
  | [], m => by simp [sumL]
  | x :: r, m => by simp only [List.cons_append, sumL, sumL_append f r m]; omega
theorem sumL_succ {α : Type} (f : α → Int) {l : List α} {k : Nat} (hk : k < l.length) : sumL f (l.take (k + 1)) = sumL f (l.take k) + f l[k] := by
  rw [List.take_succ_eq_append_getElem hk, sumL_append]; simp [sumL]
theorem sumL_bd {α : Type} {f : α → Int} {b : Int} : ∀ {l : List α}, (∀ x ∈ l, 0 ≤ f x ∧ f x ≤ b) → 0 ≤ sumL f l ∧ sumL f l ≤ b * (l.length : Int)
  | [], _ => by simp [sumL]
  | x :: r, h => by
    have h1 := h x (.head _)
    have h2 := sumL_bd (l := r) fun y hy => h y (.tail _ hy)
    have e : b * ((x :: r).length : Int) = b * (r.length : Int) + b := by rw [List.length_cons, Int.natCast_add, Int.mul_add]; simp
    rw [e]; simp only [sumL]; omega
theorem sumL_le {α : Type} {f g : α → Int} : ∀ {l : List α}, (∀ x ∈ l, f x ≤ g x) → sumL f l ≤ sumL g l
  | [], _ => by simp [sumL]
  | x :: r, h => by
    have h1 := h x (.head _)
    have h2 := sumL_le (l := r) fun y hy => h y (.tail _ hy)
    simp only [sumL]; omega
theorem sumL_congr {α : Type} {f g : α → Int} : ∀ {l : List α}, (∀ x ∈ l, f x = g x) → sumL f l = sumL g l
  | [], _ => by simp [sumL]
  | x :: r, h => by
    have h1 := h x (.head _)
    have h2 := sumL_congr (l := r) fun y hy => h y (.tail _ hy)
    simp only [sumL]; omega
theorem sumL_add {α : Type} (f g : α → Int) : ∀ l : List α, sumL (fun x => f x + g x) l = sumL f l + sumL g l
  | [] => by simp [sumL]
  | x :: r => by
    have := sumL_add f g r
    simp only [sumL]; omega
end Go.Proofs.Ytidbnifdaamnlaa
