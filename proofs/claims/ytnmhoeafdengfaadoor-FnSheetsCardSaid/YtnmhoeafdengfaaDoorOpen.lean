/- From the form's reading of an argument to the logic's typed slices: plain lemmas; no condition. -/
import Derived.Test.YtnmhoeafdengfaaDoorData
import Derived.Test.YtnmhoeafdengfaaDoorTypes
import Derived.ProofKit
import Derived.ChangeOld
import Derived.ShutString
import Derived.Deep.Slices
namespace Go.Proofs.YtnmhoeafdengfaaDoor
open Go.ChangeShapes Go.WideShapes Go.ChangeAt Go.RowKit
/-- Cells that the form reads at type t are the cells of an 'α'. -/
class Dec (P : Program) (t : TypeId) (α : Type) [Enc α] : Prop where
  dec : ∀ {H : Type} {enc : TypeId × Value → H} {w : World} {base : Nat} {spare : Nat → Bool} {held : Bool} {fuel : Nat} {cs : List Value} {x : DataW H × List MemPlace}, DataW.trod enc P w base spare held fuel t cs = some x → ∃ a : α, cs = Enc.cells a
theorem cellsOf_of {P : Program} {t m : Nat} [h : TSize P t m] : P.cellsOf t = m := by simp [Program.cellsOf, h.size]
section
variable {P : Program} {H : Type} {enc : TypeId × Value → H} {w : World} {base : Nat} {spare : Nat → Bool} {held : Bool} {fuel : Nat} {cs : List Value} {x : DataW H × List MemPlace} {t : TypeId}
theorem dec_int [hT : TInt P t .i64] (h : DataW.trod enc P w base spare held fuel t cs = some x) : ∃ n : Int, cs = [.int .i64 n] := by
  obtain ⟨n, hn, _⟩ := DataW.trod_int hT.under h
  exact ⟨n, hn⟩
theorem dec_bool [hT : TBool P t] (h : DataW.trod enc P w base spare held fuel t cs = some x) : ∃ n : Bool, cs = [.bool n] := by
  obtain ⟨n, hn, _⟩ := DataW.trod_bool hT.under h
  exact ⟨n, hn⟩
instance [hT : TInt P t .i64] : Dec P t Int := ⟨fun h => dec_int h⟩
theorem open_sl {e : TypeId} {sz bt : Nat} {α : Type} [Enc α] [hT : TSlice P t e sz bt] [hS : TSize P e sz] [hD : Dec P e α] (hz : Enc.size α = sz) {v : Value} {d : DataW H} {p : List MemPlace} (hv : ∃ a len cap, v = .slice a len cap) (h : DataW.Trod enc P w base spare held t v d p) :
    ∃ (A : Option Addr) (c : Nat) (l : List α), v = .slice A l.length c ∧ SlB w A l ∧ l.length ≤ c ∧ c ≤ maxLen := by
  obtain ⟨a, len, cap, rfl⟩ := hv
  obtain ⟨fuel, hf⟩ := h
  rcases Go.Deep.open_slice hT.under hf with ⟨h1, _⟩ | ⟨a', len', cap', m, n, D, Pl, h1, _, hl, hm, hmm, _, hi⟩
  · simp [Value.cells] at h1
    obtain ⟨rfl, rfl, rfl⟩ := h1
    exact ⟨none, 0, [], rfl, (fun i hi => by cases hi), Nat.le_refl _, by simp [maxLen]⟩
  · simp [Value.cells] at h1
    obtain ⟨rfl, rfl, rfl⟩ := h1
    have hlm : len ≤ m := by rw [hmm]; split <;> omega
    have hc := cellsOf_of (h := hS)
    rw [hc] at hi
    have key : ∀ i, i < len → ∃ q : α, ∀ (j : Nat) (u : Value), (Enc.cells q)[j]? = some u → w.cell? (a'.add (i * sz + j)) = some u := by
      intro i hil
      obtain ⟨cs', h2, h3⟩ := hi i (by omega)
      obtain ⟨q, rfl⟩ := hD.dec h3
      obtain ⟨_, _, hat⟩ := World.cells?_some h2
      refine ⟨q, fun j u hu => ?_⟩
      have hj : j < sz := by
        have := (List.getElem?_eq_some_iff.1 hu).1
        rwa [Enc.len, hz] at this
      rw [← Go.Deep.add_add, hat j hj, hu]
    rcases Nat.eq_zero_or_pos len with h0 | h0
    · subst h0
      exact ⟨some a', cap, [], rfl, (fun i hi => by cases hi), Nat.zero_le _, hm⟩
    · obtain ⟨q0, _⟩ := key 0 h0
      haveI : Inhabited α := ⟨q0⟩
      obtain ⟨f, hf'⟩ := Go.Deep.choose_lt (p := fun i q => ∀ (j : Nat) (u : Value), (Enc.cells q)[j]? = some u → w.cell? (a'.add (i * sz + j)) = some u) key
      refine ⟨some a', cap, (List.range len).map f, by simp, ?_, by simpa using hl, hm⟩
      intro i hi2 j u hu
      have hil : i < len := by simpa using hi2
      refine ⟨by simp, ?_⟩
      simp only [List.getElem_map, List.getElem_range] at hu
      have := hf' i hil j u hu
      simpa [adOf, hz] using this
theorem open_st {α : Type} [Enc α] [hD : Dec P t α] {v : Value} {d : DataW H} {p : List MemPlace} (hv : ∃ cs, v = .agg cs ∧ cs.size = P.cellsOf t) (h : DataW.Trod enc P w base spare held t v d p) :
    ∃ a : α, v = .agg (Enc.cells a).toArray := by
  obtain ⟨cs, rfl, _⟩ := hv
  obtain ⟨fuel, hf⟩ := h
  obtain ⟨a, ha⟩ := hD.dec hf
  refine ⟨a, ?_⟩
  rw [← ha]
  simp [Value.cells]
end
theorem below_of {W w : World} (h : S ⟨W, []⟩ [] w) : Below W.heap.size W w := ⟨h.os, h.tape, h.output, h.size, fun k hk => h.block k hk (by simp)⟩
theorem wf_i64 {n : Int} (h : (Lit.int .i64 n).wf = true) : -9223372036854775808 ≤ n ∧ n ≤ 9223372036854775807 := by
  have h1 : IntKind.i64.min = -9223372036854775808 := rfl
  have h2 : IntKind.i64.max = 9223372036854775807 := rfl
  simp only [Lit.wf, Bool.and_eq_true, decide_eq_true_eq, h1, h2] at h
  exact h
end Go.Proofs.YtnmhoeafdengfaaDoor
