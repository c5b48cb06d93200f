/- Calls of function values, and the first index at which something holds: plain theorems over the logic. No condition. -/
import Derived.Test.YtnmhoeafdengfaaDoorMem
namespace Go.Proofs.YtnmhoeafdengfaaDoor
open Go.RowKit
section
variable {P : Program} {Q : Exit → Act → World → Prop} {cx : Cx} {hp hp1 : List Res} {fr : Fr} {n : Nat} {ops : Array Oper} {rest : List Oper} {ty : TypeId} {ps : String} {d : Option Tmp} {af : Array Edge} {g : Option (Nat × Bool)}
theorem run_callV {f : FuncId} (hb : HasBody P f) {x : Operand} {xs : List Operand} {ts : Array TypeId} {us vs cs : List Value} {a : Act} (hf : FrOn n fr a) (hx : ev fr x = some (.func (.func f) us.toArray cs.toArray)) (hv : evs fr xs = some vs) (w : World) :
    (execOp a.eval ⟨d, .call { callee := .value x, args := xs.toArray, argTypes := ts }, ty, ps, af, g⟩).run P w = .ok (.enter f (us ++ vs ++ cs).toArray) w := by
  have := hf.evs hv
  simp [execOp, resolve, Deferred.ofValue, hf.ev hx, invoke, run_callFunc (hb := hb), this]
theorem QC.callV {f : FuncId} (hb : HasBody P f) {x : Operand} {xs : List Operand} {ts : Array TypeId} {us vs cs : List Value} {v : Value} (hx : ev fr x = some (.func (.func f) us.toArray cs.toArray)) (hv : evs fr xs = some vs) (h : ∀ w, S cx hp w → Calls P f (us ++ vs ++ cs).toArray w (Ret w v)) :
    QC P cx hp fr ⟨d, .call { callee := .value x, args := xs.toArray, argTypes := ts }, ty, ps, af, g⟩ v := fun n a w hf hs => by
  unfold Oper.quietAt
  rw [run_callV hb hf hx hv w]
  exact ⟨rfl, (h w hs).mono fun e w' ⟨he, hs'⟩ => ⟨he, by simpa using hs.step hs'⟩⟩
theorem Rd.arg {w0 : World} {ad : Addr} {v : Value} (h : w0.cell? ad = some v) : Rd ⟨w0, []⟩ hp ad [v] := fun w hs j u hu => by
  cases j with
  | zero =>
    obtain rfl : v = u := by simpa using hu
    rw [Addr.add_zero']
    exact hs.cell (cx := ⟨w0, []⟩) h (by simp)
  | succ j => simp at hu
/-- What our own cell reads, in a later world. -/
theorem S.own_cell {w : World} {b i tot : Nat} {t : TypeId} {cs : List Value} {v : Value} (h : S cx hp w) (hm : Res.mk b t cs tot ∈ hp) (hi : cs[i]? = some v) : w.cell? ⟨b, i, none⟩ = some v := (h.on _ hm).cell hi
theorem S.later {w w' : World} {hp' : List Res} {ad : Addr} {v : Value} (h : S ⟨w, []⟩ hp' w') (hc : w.cell? ad = some v) : w'.cell? ad = some v := h.cell (cx := ⟨w, []⟩) hc (by simp)
end
section
variable {α : Type}
open Classical in
noncomputable def firstIdx (p : α → Prop) (l : List α) : Int := if h : ∃ i : Nat, ∃ hi : i < l.length, p l[i] ∧ ∀ j (hj : j < i), ¬ p l[j] then ((Classical.choose h : Nat) : Int) else -1
theorem firstIdx_yes {p : α → Prop} {l : List α} {i : Nat} (hi : i < l.length) (h1 : p l[i]) (h2 : ∀ j (hj : j < i), ¬ p l[j]) : firstIdx p l = (i : Int) := by
  have he : ∃ i : Nat, ∃ hi : i < l.length, p l[i] ∧ ∀ j (hj : j < i), ¬ p l[j] := ⟨i, hi, h1, h2⟩
  unfold firstIdx
  rw [dif_pos he]
  obtain ⟨hi', g1, g2⟩ := Classical.choose_spec he
  rcases Nat.lt_trichotomy (Classical.choose he) i with h | h | h
  · exact absurd g1 (h2 _ h)
  · rw [h]
  · exact absurd h1 (g2 _ h)
theorem firstIdx_no {p : α → Prop} {l : List α} (h : ∀ j (hj : j < l.length), ¬ p l[j]) : firstIdx p l = -1 := by
  unfold firstIdx
  rw [dif_neg]
  rintro ⟨i, hi, h1, _⟩
  exact h i hi h1
theorem firstIdx_spec (p : α → Prop) (l : List α) : (∃ i : Nat, ∃ hi : i < l.length, p l[i] ∧ (∀ j (hj : j < i), ¬ p l[j]) ∧ firstIdx p l = (i : Int)) ∨ (firstIdx p l = -1 ∧ ∀ j (hj : j < l.length), ¬ p l[j]) := by
  by_cases h : ∃ i : Nat, ∃ hi : i < l.length, p l[i] ∧ ∀ j (hj : j < i), ¬ p l[j]
  · obtain ⟨i, hi, h1, h2⟩ := h
    exact .inl ⟨i, hi, h1, h2, firstIdx_yes hi h1 h2⟩
  · refine .inr ⟨by unfold firstIdx; rw [dif_neg h], ?_⟩
    intro j
    induction j using Nat.strongRecOn with
    | _ j ih => exact fun hj h1 => h ⟨j, hj, h1, fun i hi => ih i hi (by omega)⟩
end
end Go.Proofs.YtnmhoeafdengfaaDoor
