/- The law FnExactEnterAll holds: for every input it returns true, and its arguments read as before. No condition. -/
import Derived.Test.YtnmhoeafdengfaaShtLawAll
import Derived.Test.YtnmhoeafdengfaaOpen
import Derived.OpenShut
import Derived.Test.YtnmhoeafdengfaaSheetOpen
import Derived.Test.YtnmhoeafdengfaaNoticeDec
namespace Go.Proofs.Ytnmhoeafdengfaa
open Go.ChangeShapes Go.WideShapes Go.ChangeAt Go.RowKit
theorem fnExactEnterAll_own : ownKnob Try.prog.godebug = none := by kernel_rfl
theorem fnExactEnterAll_laidOut : laidOutB Try.prog = true := by kernel_rfl
set_option maxRecDepth 100000 in
theorem fnExactEnterAll_lifted (os : Os) (started : os.Started) (H : Type) (enc : TypeId × Value → H) :
    ReturnsInHanded {} Try.checked os 10 .any (Rows.fnExactEnterAllSpec.pre6 enc Try.prog Try.f10 Rows.fnExactEnterAllRow.domain false) (Rows.fnExactEnterAllSpec.post enc Try.prog Try.f10 false true false false) := by
  refine returnsInHanded_of_change (C := Try.checked) fnExactEnterAll_own started (by kernel_rfl) Try.func10
    (ChangeSpec.witness6 (enc := enc) (C := Try.checked) false ⟨#[], #[.agg #[.slice none 0 0, .int .i64 0], .slice none 0 0], []⟩ 8 (by kernel_rfl) (by kernel_rfl) (by kernel_rfl) (by kernel_rfl)) ?_
  intro W base args ds gs before hval0 hW hcnd _
  have hval : ∀ (j : Nat) t v, Try.f10.params[j]? = some t → args[j]? = some v → Value.okWide Try.prog W .any base t v := hval0
  have hW' := hW
  obtain ⟨p, q, hA0, hV, rfl, hfz, hnd⟩ := hW
  have hA : DataW.TrodAll enc Try.prog W 0 (fun _ => true) true Try.f10.params.toList args.toList ds p := hA0
  rw [Try.params10] at hA hval
  obtain ⟨v0, vs0, d0, ds0, p0, q0, hargs, rfl, rfl, h0, r0⟩ := trodAll_cons hA
  obtain ⟨v1, vs1, d1, ds1, p1, q1, rfl, rfl, rfl, h1, r1⟩ := trodAll_cons r0
  obtain ⟨rfl, rfl, rfl⟩ := trodAll_nil r1
  obtain rfl : args = #[v0, v1] := by cases args; simp_all
  obtain ⟨rfl, rfl⟩ := trodVars_none hV
  have k0 := h0
  have lt0 : ∀ x ∈ p0, x.block < W.heap.size := by obtain ⟨m, hm⟩ := k0; exact DataW.trod_lt m _ _ _ hm
  obtain ⟨A0, c0, l0, fb0, rfl, H0, hc0, hm0⟩ := open_sh (okWide_struct Try.underlying34 (hval 0 34 v0 rfl rfl)) h0
  have hl0 : l0.length ≤ 9223372036854775807 := by simp only [maxLen] at hm0; omega
  have k1 := h1
  have lt1 : ∀ x ∈ p1, x.block < W.heap.size := by obtain ⟨m, hm⟩ := k1; exact DataW.trod_lt m _ _ _ hm
  obtain ⟨A1, c1, l1, rfl, H1, hc1, hm1⟩ := open_sl (α := Notice) (by rfl) (okWide_slice Try.underlying65 (hval 1 65 v1 rfl rfl)) h1
  have hl1 : l1.length ≤ 9223372036854775807 := by simp only [maxLen] at hm1; omega
  refine (lawEnterAll A0 c0 l0 fb0 A1 c1 l1 W H0 hl0 H1 hl1).mono fun e W' ⟨he, hs⟩ => ?_
  subst he
  have bel := below_of hs
  exact ⟨_, rfl, _, _, _, [], _, [], hW', trodAll_mk1 (shut_bool Try.underlying4 _), (trodAll_cons_mk (Below.trod fnExactEnterAll_laidOut (by kernel_rfl) (of_decide_eq_true (by kernel_rfl)) k0 bel lt0) (trodAll_cons_mk (Below.trod fnExactEnterAll_laidOut (by kernel_rfl) (of_decide_eq_true (by kernel_rfl)) k1 bel lt1) trodAll_mk0)), rfl, bel.frame _, fun h => by cases h⟩
theorem fnExactEnterAll_holds : Rows.FnExactEnterAllSaid :=
  OpenClaim.holds_of_wide 10 Try.f10 rfl rfl rfl rfl rfl rfl rfl ⟨rfl, rfl, rfl, rfl, rfl⟩ rfl rfl rfl rfl rfl (by kernel_rfl) Try.func10 (by kernel_rfl)
    (of_decide_eq_true (by kernel_rfl)) (by unfold Func.isWrapper; rw [if_neg (of_decide_eq_false (by kernel_rfl))]; exact ⟨rfl, rfl⟩)
    (fun os started H enc _ => fnExactEnterAll_lifted os started H enc)
#print axioms fnExactEnterAll_holds
end Go.Proofs.Ytnmhoeafdengfaa
