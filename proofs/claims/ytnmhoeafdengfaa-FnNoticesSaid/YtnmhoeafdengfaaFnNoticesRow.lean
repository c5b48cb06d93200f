/- The law FnNotices holds: for every input it returns true, and its arguments read as before. No condition. -/
import Derived.Test.YtnmhoeafdengfaaFnNotices
import Derived.Test.YtnmhoeafdengfaaOpen
import Derived.OpenShut
import Derived.Test.YtnmhoeafdengfaaUInt8Dec
namespace Go.Proofs.Ytnmhoeafdengfaa
open Go.ChangeShapes Go.WideShapes Go.ChangeAt Go.RowKit
theorem fnNotices_own : ownKnob Try.prog.godebug = none := by kernel_rfl
theorem fnNotices_laidOut : laidOutB Try.prog = true := by kernel_rfl
set_option maxRecDepth 100000 in
theorem fnNotices_lifted (os : Os) (started : os.Started) (H : Type) (enc : TypeId × Value → H) :
    ReturnsInHanded {} Try.checked os 11 .any (Rows.fnNoticesSpec.pre6 enc Try.prog Try.f11 Rows.fnNoticesRow.domain false) (Rows.fnNoticesSpec.post enc Try.prog Try.f11 false true false false) := by
  refine returnsInHanded_of_change (C := Try.checked) fnNotices_own started (by kernel_rfl) Try.func11
    (ChangeSpec.witness6 (enc := enc) (C := Try.checked) false ⟨#[], #[.slice none 0 0], []⟩ 8 (by kernel_rfl) (by kernel_rfl) (by kernel_rfl) (by kernel_rfl)) ?_
  intro W base args ds gs before hval0 hW hcnd _
  have hval : ∀ (j : Nat) t v, Try.f11.params[j]? = some t → args[j]? = some v → Value.okWide Try.prog W .any base t v := hval0
  have hW' := hW
  obtain ⟨p, q, hA0, hV, rfl, hfz, hnd⟩ := hW
  have hA : DataW.TrodAll enc Try.prog W 0 (fun _ => true) true Try.f11.params.toList args.toList ds p := hA0
  rw [Try.params11] at hA hval
  obtain ⟨v0, vs0, d0, ds0, p0, q0, hargs, rfl, rfl, h0, r0⟩ := trodAll_cons hA
  obtain ⟨rfl, rfl, rfl⟩ := trodAll_nil r0
  obtain rfl : args = #[v0] := by cases args; simp_all
  obtain ⟨rfl, rfl⟩ := trodVars_none hV
  have k0 := h0
  have lt0 : ∀ x ∈ p0, x.block < W.heap.size := by obtain ⟨m, hm⟩ := k0; exact DataW.trod_lt m _ _ _ hm
  obtain ⟨A0, c0, l0, rfl, H0, hc0, hm0⟩ := open_sl (α := UInt8) (by rfl) (okWide_slice Try.underlying74 (hval 0 74 v0 rfl rfl)) h0
  have hl0 : l0.length ≤ 9223372036854775807 := by simp only [maxLen] at hm0; omega
  refine (lawFnNotices A0 c0 l0 W H0 hl0).mono fun e W' ⟨he, hs⟩ => ?_
  subst he
  have bel := below_of hs
  exact ⟨_, rfl, _, _, _, [], _, [], hW', trodAll_mk1 (shut_bool Try.underlying4 _), (trodAll_cons_mk (Below.trod fnNotices_laidOut (by kernel_rfl) (of_decide_eq_true (by kernel_rfl)) k0 bel lt0) trodAll_mk0), rfl, bel.frame _, fun h => by cases h⟩
theorem fnNotices_holds : Rows.FnNoticesSaid :=
  OpenClaim.holds_of_wide 11 Try.f11 rfl rfl rfl rfl rfl rfl rfl ⟨rfl, rfl, rfl, rfl, rfl⟩ rfl rfl rfl rfl rfl (by kernel_rfl) Try.func11 (by kernel_rfl)
    (of_decide_eq_true (by kernel_rfl)) (by unfold Func.isWrapper; rw [if_neg (of_decide_eq_false (by kernel_rfl))]; exact ⟨rfl, rfl⟩)
    (fun os started H enc _ => fnNotices_lifted os started H enc)
#print axioms fnNotices_holds
end Go.Proofs.Ytnmhoeafdengfaa
