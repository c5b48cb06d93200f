/- What FnNotices draws. No condition beyond sizes. -/
import Derived.Test.YtnmhoeafdengfaaDoorNDrawB
namespace Go.Proofs.YtnmhoeafdengfaaDoor
open Go.RowKit
inductive Sel : List Res → List Res → Prop
  | nil {hp : List Res} : Sel [] hp
  | cons {r : Res} {hp hp1 hp' : List Res} : Rem r hp hp1 → Sel hp' hp1 → Sel (r :: hp') hp
theorem Rem.to_perm {r : Res} {hp hp1 : List Res} (h : Rem r hp hp1) : hp.Perm (r :: hp1) := by
  induction h with
  | head => exact .refl _
  | tail _ ih => exact (ih.cons _).trans (.swap _ _ _)
theorem Sel.to_perm {hp' hp : List Res} (h : Sel hp' hp) : ∃ l, hp.Perm (hp' ++ l) := by
  induction h with
  | @nil hp => exact ⟨hp, .refl _⟩
  | cons hr _ ih =>
    obtain ⟨l, hl⟩ := ih
    exact ⟨l, hr.to_perm.trans (hl.cons _)⟩
theorem S.sel {cx : Cx} {hp hp' : List Res} {w : World} (h : S cx hp w) (hs : Sel hp' hp) : S cx hp' w := by
  obtain ⟨l, hl⟩ := hs.to_perm
  exact (h.perm hl).sub (List.sublist_append_left _ _)
theorem At.againS {ι : Type} {n : Nat} {cx : Cx} {hp : List Res} {fr : Fr} {Q : Exit → Act → World → Prop} {ok : ι → Prop} {F : ι → Fr} {H : ι → List Res} {μ : ι → Nat} {i : ι} (j : ι) (hj : ok j) (hm : μ j < μ i) (hF : Sub (F j) fr) (hS : Sel (H j) hp) :
    At (Exit.then (Again ok F H μ n cx i) Q) .normal n cx hp fr := by
  unfold At
  exact fun _ _ hf hs => ⟨j, hj, hm, hf.sub hF, hs.sel hS⟩
theorem X.sel {P : Program} {c : Code} {n : Nat} {cx : Cx} {hp hp' : List Res} {fr : Fr} {Q : Exit → Act → World → Prop} (hS : Sel hp' hp) (h : X P c Q n cx hp' fr) : X P c Q n cx hp fr := by
  unfold X at h ⊢
  exact fun a w hf hs => h a w hf (hs.sel hS)
theorem At.cutS {n : Nat} {cx : Cx} {hp : List Res} {fr : Fr} {β : Type} {F : β → Fr} {H : β → List Res} (b : β) (hF : Sub (F b) fr) (hS : Sel (H b) hp) : At (Cut n cx F H) .normal n cx hp fr := by
  unfold At
  exact fun _ _ hf hs => ⟨rfl, b, hf.sub hF, hs.sel hS⟩
theorem RetP.sel {w w' : World} {wr : List Nat} {R : Value → List Res → Prop} {hp hp' : List Res} {v : Value} (hR : R v hp') (hs : S ⟨w, wr⟩ hp w') (hS : Sel hp' hp) : RetP w wr R (.returned v) w' := ⟨v, hp', rfl, hR, hs.sel hS⟩
attribute [local irreducible] X WL WQ WH WO At Q1 QC Rd RV Sub SlR SlB Calls Addr.add adOf low8
theorem fillC (A : Option Addr) (n c : Nat) (z0 : Value) : Instr.fill (fun i => (#[(0, 1), (1, 1), (2, 1)] : Array (Nat × Nat))[i]?) #[z0, .int .i64 0, .int .u64 0] [(0, .slice A n c)] = some #[.slice A n c, .int .i64 0, .int .u64 0] := by kernel_rfl
end Go.Proofs.YtnmhoeafdengfaaDoor
