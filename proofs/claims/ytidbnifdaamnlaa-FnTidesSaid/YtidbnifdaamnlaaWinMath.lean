/- Windows: the runs of minutes at which something holds: plain mathematics. No condition. -/
import Derived.Test.YtidbnifdaamnlaaSum
import Derived.Test.YtidbnifdaamnlaaTideC
import Derived.Test.YtidbnifdaamnlaaWin
namespace Go.Proofs.Ytidbnifdaamnlaa
open Go.RowKit
open Classical in
noncomputable def runs (p : Int → Prop) (s : Int) : Nat → List (Int × Int)
  | 0 => []
  | k + 1 => if p (s + (k : Int)) then (match (runs p s k).getLast? with
      | some x => if x.2 = s + (k : Int) - 1 then (runs p s k).dropLast ++ [(x.1, s + (k : Int))] else runs p s k ++ [(s + (k : Int), s + (k : Int))]
      | none => runs p s k ++ [(s + (k : Int), s + (k : Int))]) else runs p s k
section
variable {p : Int → Prop} {s : Int} {k : Nat}
theorem runs_no (h : ¬ p (s + (k : Int))) : runs p s (k + 1) = runs p s k := by rw [runs, if_neg h]
theorem runs_ext (h : p (s + (k : Int))) {A : List (Int × Int)} {a : Int} (e : runs p s k = A ++ [(a, s + (k : Int) - 1)]) : runs p s (k + 1) = A ++ [(a, s + (k : Int))] := by
  rw [runs, if_pos h, e]; simp
theorem runs_new (h : p (s + (k : Int))) (e : ∀ A a b, runs p s k = A ++ [(a, b)] → b ≠ s + (k : Int) - 1) : runs p s (k + 1) = runs p s k ++ [(s + (k : Int), s + (k : Int))] := by
  rw [runs, if_pos h]
  rcases List.eq_nil_or_concat (runs p s k) with h0 | ⟨A, x, h1'⟩
  · rw [h0]; rfl
  · have h1 : runs p s k = A ++ [x] := by rw [h1', List.concat_eq_append]
    have := e A x.1 x.2 h1
    rw [h1]; simp [this]
theorem eq_nil_or_snoc {α : Type} (W : List α) : W = [] ∨ ∃ V x, W = V ++ [x] := by
  rcases List.eq_nil_or_concat W with h | ⟨V, x, h⟩
  · exact .inl h
  · exact .inr ⟨V, x, by rw [h, List.concat_eq_append]⟩
theorem concat_inj {α : Type} {A B : List α} {x y : α} (h : A ++ [x] = B ++ [y]) : A = B ∧ x = y := by
  have h1 := List.append_inj' h rfl
  exact ⟨h1.1, by simpa using h1.2⟩
theorem runs_in (p : Int → Prop) (s : Int) : ∀ k : Nat, ∀ x ∈ runs p s k, s ≤ x.1 ∧ x.1 ≤ x.2 ∧ x.2 ≤ s + (k : Int) - 1
  | 0, x, hx => by simp [runs] at hx
  | k + 1, x, hx => by
    by_cases h : p (s + (k : Int))
    · by_cases he : ∃ A a, runs p s k = A ++ [(a, s + (k : Int) - 1)]
      · obtain ⟨A, a, e⟩ := he
        rw [runs_ext h e] at hx
        have h1 := runs_in p s k
        rw [e] at h1
        rcases List.mem_append.1 hx with hx | hx
        · have := h1 x (List.mem_append_left _ hx); omega
        · have := h1 (a, s + (k : Int) - 1) (by simp)
          rw [List.mem_singleton.1 hx]
          dsimp only at this ⊢; omega
      · rw [runs_new h (fun A a b e hb => he ⟨A, a, by rw [e, hb]⟩)] at hx
        rcases List.mem_append.1 hx with hx | hx
        · have := runs_in p s k x hx; omega
        · rw [List.mem_singleton.1 hx]; dsimp only; omega
    · rw [runs_no h] at hx
      have := runs_in p s k x hx; omega
theorem runs_len (p : Int → Prop) (s : Int) : ∀ k : Nat, (runs p s k).length ≤ k
  | 0 => by simp [runs]
  | k + 1 => by
    have ih := runs_len p s k
    by_cases h : p (s + (k : Int))
    · by_cases he : ∃ A a, runs p s k = A ++ [(a, s + (k : Int) - 1)]
      · obtain ⟨A, a, e⟩ := he
        rw [runs_ext h e]
        rw [e] at ih
        simp at ih ⊢; omega
      · rw [runs_new h (fun A a b e hb => he ⟨A, a, by rw [e, hb]⟩)]
        simp; omega
    · rw [runs_no h]; omega
end
def OpenAt (l : List TidePoint) (n : Int) (t : Int) : Prop := n ≤ heightAt l t
/-- The windows of a curve. -/
noncomputable def winsOf (l : List TidePoint) (n : Int) : List (Int × Int) := runs (OpenAt l n) (l.getD 0 ⟨0, 0⟩).time (minutes l)
theorem minutes_eq {l : List TidePoint} (hok : CurveOk l) (h0 : 0 < l.length) : (minutes l : Int) = l[l.length - 1].time - l[0].time + 1 := by
  have h1 := hok.2
  have h2 := hok.lt (i := 0) (j := l.length - 1) (by omega) (by omega)
  unfold minutes
  simp only [List.getD_eq_getElem?_getD, List.getElem?_eq_getElem h0, List.getElem?_eq_getElem (show l.length - 1 < l.length by omega), Option.getD_some]
  omega
theorem winsOf_eq {l : List TidePoint} (n : Int) (h0 : 0 < l.length) : winsOf l n = runs (OpenAt l n) l[0].time (minutes l) := by
  unfold winsOf; simp [List.getD_eq_getElem?_getD, List.getElem?_eq_getElem h0]
theorem litSl_1 (A : Option Addr) (n c : Nat) (z : Value) : litCells 1 1 [z] [(0, .slice A n c)] = some #[.slice A n c] := by kernel_rfl
def WinOk (l : List TidePoint) (n : Int) : Prop := CurveOk l ∧ (-30000 ≤ n ∧ n ≤ 30000)
end Go.Proofs.Ytidbnifdaamnlaa
