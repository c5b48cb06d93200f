/- Tide curves: which lists are curves, the height at a minute: plain mathematics. No condition. -/
import Derived.Test.YtidbnifdaamnlaaTidePoint
namespace Go.Proofs.Ytidbnifdaamnlaa
open Go.RowKit
def TidePoint.ok (p : TidePoint) : Prop := (0 ≤ p.time ∧ p.time ≤ 10000) ∧ (-500 ≤ p.height ∧ p.height ≤ 2000)
def CurveTo (l : List TidePoint) (k : Nat) : Prop := ∀ i (_ : i < k) (h : i < l.length), l[i].ok ∧ (0 < i → l[i - 1].time < l[i].time)
def CurveOk (l : List TidePoint) : Prop := CurveTo l l.length ∧ 2 ≤ l.length ∧ l.length ≤ 15
theorem CurveTo.no {l : List TidePoint} {k : Nat} (hk : k < l.length) (h : ¬ (l[k].ok ∧ (0 < k → l[k - 1].time < l[k].time))) : ¬ CurveOk l := fun h1 => h (h1.1 k hk hk)
theorem CurveTo.succ {l : List TidePoint} {k : Nat} (hk : k < l.length) (h1 : CurveTo l k) (h : l[k].ok ∧ (0 < k → l[k - 1].time < l[k].time)) : CurveTo l (k + 1) := fun i hi hl => by
  by_cases e : i = k
  · subst e; exact h
  · exact h1 i (by omega) hl
theorem CurveOk.pt {l : List TidePoint} (h : CurveOk l) {i : Nat} (hi : i < l.length) : (0 ≤ l[i].time ∧ l[i].time ≤ 10000) ∧ (-500 ≤ l[i].height ∧ l[i].height ≤ 2000) := (h.1 i hi hi).1
theorem CurveOk.lt {l : List TidePoint} (h : CurveOk l) {i j : Nat} (hj : j < l.length) (hij : i < j) : l[i].time < l[j].time := by
  induction j with
  | zero => omega
  | succ j ih =>
    have h1 := (h.1 (j + 1) hj hj).2 (by omega)
    simp only [Nat.add_sub_cancel] at h1
    by_cases e : i = j
    · subst e; exact h1
    · have := ih (by omega) (by omega); omega
/-- From the first to the last minute. -/
def OnCurve (l : List TidePoint) (t : Int) : Prop := CurveOk l ∧ ∃ h : 0 < l.length, l[0].time ≤ t ∧ t ≤ l[l.length - 1].time
def hgt (a b : TidePoint) (t : Int) : Int := (a.height * (b.time - t) + b.height * (t - a.time)) / (b.time - a.time)
/-- n is the height at t: of the segment that ends first behind t. -/
def IsHgt (l : List TidePoint) (t n : Int) : Prop := ∃ i, ∃ h : i + 1 < l.length, (t ≤ l[i + 1].time ∧ ∀ j (hj : j < i + 1), 1 ≤ j → l[j].time < t) ∧ n = hgt l[i] l[i + 1] t
theorem IsHgt.unique {l : List TidePoint} {t n m : Int} (h1 : IsHgt l t n) (h2 : IsHgt l t m) : n = m := by
  obtain ⟨i, hi, ⟨a1, a2⟩, rfl⟩ := h1
  obtain ⟨j, hj, ⟨b1, b2⟩, rfl⟩ := h2
  rcases Nat.lt_trichotomy i j with h | h | h
  · have := b2 (i + 1) (by omega) (by omega); omega
  · subst h; rfl
  · have := a2 (j + 1) (by omega) (by omega); omega
open Classical in
noncomputable def heightAt (l : List TidePoint) (t : Int) : Int := if h : ∃ n, IsHgt l t n then Classical.choose h else 0
theorem IsHgt.eq {l : List TidePoint} {t n : Int} (h : IsHgt l t n) : heightAt l t = n := by
  have he : ∃ n, IsHgt l t n := ⟨n, h⟩
  unfold heightAt
  rw [dif_pos he]
  exact (Classical.choose_spec he).unique h
theorem mul_bd {x y a b : Int} (h1 : -a ≤ x ∧ x ≤ a) (h2 : -b ≤ y ∧ y ≤ b) : -(a * b) ≤ x * y ∧ x * y ≤ a * b := by
  have ha : 0 ≤ a := by omega
  have hb : 0 ≤ b := by omega
  have hx : x.natAbs ≤ a.natAbs := by omega
  have hy : y.natAbs ≤ b.natAbs := by omega
  have hm := Nat.mul_le_mul hx hy
  rw [← Int.natAbs_mul, ← Int.natAbs_mul] at hm
  have hab : 0 ≤ a * b := Int.mul_nonneg ha hb
  omega
theorem tdiv_bd (a b : Int) (ha : -9223372036854775807 ≤ a ∧ a ≤ 9223372036854775807) : -9223372036854775807 ≤ a.tdiv b ∧ a.tdiv b ≤ 9223372036854775807 := by
  have h := Int.natAbs_tdiv_le_natAbs a b
  omega
theorem div_of {a b q r : Int} (hb : 0 < b) (hr : 0 ≤ r ∧ r < b) (e : a = b * q + r) : a / b = q := by
  subst e
  rw [Int.add_comm, Int.add_mul_ediv_left _ _ (by omega), Int.ediv_eq_zero_of_lt hr.1 hr.2]
  omega
theorem floor_t (a b : Int) (hb : 0 < b) (h : a.tmod b < 0) : a.tdiv b - 1 = a / b := by
  have h1 := Int.mul_tdiv_add_tmod a b
  have h2 : -b < a.tmod b := by have := Int.tmod_lt_of_pos (-a) hb; rw [Int.neg_tmod] at this; omega
  exact (div_of hb (r := a.tmod b + b) (by omega) (by rw [Int.mul_sub]; omega)).symm
theorem floor_n (a b : Int) (hb : 0 < b) (h : ¬ a.tmod b < 0) : a.tdiv b = a / b := by
  have h1 := Int.mul_tdiv_add_tmod a b
  have h2 := Int.tmod_lt_of_pos a hb
  exact (div_of hb (r := a.tmod b) (by omega) (by omega)).symm
end Go.Proofs.Ytidbnifdaamnlaa
