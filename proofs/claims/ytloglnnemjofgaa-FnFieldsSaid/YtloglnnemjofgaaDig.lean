/- Fields and volumes: plain mathematics. No condition. -/
import Derived.Test.YtloglnnemjofgaaSum
namespace Go.Proofs.Ytloglnnemjofgaa
def DepthIn (x : Int) : Prop := -1000 ≤ x ∧ x ≤ 20000
/-- A field of r times c cells with depths l is valid. -/
def FieldOk (r c : Int) (l : List Int) : Prop := ((1 ≤ r ∧ r ≤ 6) ∧ (1 ≤ c ∧ c ≤ 6)) ∧ (l.length : Int) = r * c ∧ ∀ x ∈ l, DepthIn x
theorem FieldOk.prod {r c : Int} (h1 : 1 ≤ r ∧ r ≤ 6) (h2 : 1 ≤ c ∧ c ≤ 6) : 1 ≤ r * c ∧ r * c ≤ 36 := by
  have : r = 1 ∨ r = 2 ∨ r = 3 ∨ r = 4 ∨ r = 5 ∨ r = 6 := by omega
  rcases this with rfl | rfl | rfl | rfl | rfl | rfl <;> omega
theorem FieldOk.len {r c : Int} {l : List Int} (h : FieldOk r c l) : 1 ≤ l.length ∧ l.length ≤ 36 := by
  have := FieldOk.prod h.1.1 h.1.2
  have := h.2.1
  omega
theorem FieldOk.at_ {r c : Int} {l : List Int} (h : FieldOk r c l) {i : Nat} (hi : i < l.length) : -1000 ≤ l[i] ∧ l[i] ≤ 20000 := h.2.2 _ (List.getElem_mem hi)
/-- The volume of one cell that is less deep than 'd', down to 'w'. -/
def vol1 (d w x : Int) : Int := if x < d then 1000 * (w - x) else 0
def vol (l : List Int) (d w : Int) : Int := sumL (vol1 d w) l
theorem vol1_bd {d w x : Int} (hx : DepthIn x) (h : -1000 ≤ d ∧ d ≤ w ∧ w ≤ 20300) : 0 ≤ vol1 d w x ∧ vol1 d w x ≤ 21300000 := by
  unfold DepthIn at hx
  unfold vol1; split <;> omega
theorem vol_bd {l : List Int} {d w : Int} (hl : ∀ x ∈ l, DepthIn x) (h : -1000 ≤ d ∧ d ≤ w ∧ w ≤ 20300) : 0 ≤ vol l d w ∧ vol l d w ≤ 21300000 * (l.length : Int) := sumL_bd fun x hx => vol1_bd (hl x hx) h
theorem vol_take_bd {l : List Int} {d w : Int} (hl : ∀ x ∈ l, DepthIn x) (h : -1000 ≤ d ∧ d ≤ w ∧ w ≤ 20300) (k : Nat) : 0 ≤ vol (l.take k) d w ∧ vol (l.take k) d w ≤ 21300000 * (l.length : Int) := by
  have h1 := vol_bd (l := l.take k) (fun x hx => hl x (List.mem_of_mem_take hx)) h
  have h2 := List.length_take_le k l
  have h3 : (l.take k).length ≤ l.length := by simp; omega
  omega
theorem vol_yes {l : List Int} {d w : Int} {k : Nat} (hk : k < l.length) (h : l[k] < d) : vol (l.take (k + 1)) d w = vol (l.take k) d w + 1000 * (w - l[k]) := by
  unfold vol; rw [sumL_succ _ hk]; simp [vol1, h]
theorem vol_no {l : List Int} {d w : Int} {k : Nat} (hk : k < l.length) (h : ¬ l[k] < d) : vol (l.take (k + 1)) d w = vol (l.take k) d w := by
  unfold vol; rw [sumL_succ _ hk]; simp [vol1, h]
/-- The deeper the design the greater the volume. -/
theorem vol_mono {l : List Int} {d e : Int} (h : d ≤ e) : vol l d d ≤ vol l e e := sumL_le fun x _ => by
  unfold vol1; split <;> split <;> omega
end Go.Proofs.Ytloglnnemjofgaa
