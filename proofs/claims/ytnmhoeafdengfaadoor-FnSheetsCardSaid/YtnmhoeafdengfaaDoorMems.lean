/- Calls that write several blocks of ours, each in its place; replacing blocks in the middle of the list. Plain theorems over the logic; no condition. -/
import Derived.Test.YtnmhoeafdengfaaDoorHeld
namespace Go.Proofs.YtnmhoeafdengfaaDoor
open Go.RowKit
section
variable {P : Program} {Q : Exit → Act → World → Prop} {cx : Cx} {hp hp1 : List Res} {fr : Fr} {n : Nat} {ops : Array Oper} {rest : List Oper} {ty : TypeId} {ps : String} {af : Array Edge} {g : Option (Nat × Bool)}
theorem Repl.app {r r' : Res} {l l' : List Res} : ∀ L : List Res, Repl r r' l l' → Repl r r' (L ++ l) (L ++ l')
  | [], h => h
  | _ :: L, h => .tail (Repl.app L h)
theorem Rem.app {r : Res} {l l' : List Res} : ∀ L : List Res, Rem r l l' → Rem r (L ++ l) (L ++ l')
  | [], h => h
  | _ :: L, h => .tail (Rem.app L h)
theorem Repl.rem {r r' : Res} {l l' : List Res} (h : Repl r r' l l') : ∃ l0, Rem r l l0 ∧ (r' :: l0).Perm l' := by
  induction h with
  | @head l => exact ⟨l, .head, .refl _⟩
  | @tail x l l' _ ih =>
    obtain ⟨l0, h1, h2⟩ := ih
    exact ⟨x :: l0, .tail h1, (List.Perm.swap x r' l0).trans (h2.cons x)⟩
/-- A call that writes one block of ours, in its place. -/
theorem WL.callR {dd : Tmp} {f : FuncId} [hb : HasBody P f] {xs : List Operand} {ts : Array TypeId} {vs : List Value} {V : Value} {r r' : Res} (hn : Nat.blt dd n = true) (hw : want ops fr g = some true) (hv : evs fr xs = some vs)
    (h : ∀ w, S cx hp w → Calls P f vs.toArray w (RetP w [r.b] (fun v hp' => v = V ∧ hp' = [r']))) (hr : Repl r r' hp hp1) (k : WL P ops Q rest n cx hp1 ((dd, V) :: fr)) :
    WL P ops Q (⟨some dd, .call { callee := .value (.func f), args := xs.toArray, argTypes := ts }, ty, ps, af, g⟩ :: rest) n cx hp fr := fun a w hf hs => by
  refine wpList_of (want_spec (o := ⟨some dd, _, ty, ps, af, g⟩) hf hw) ?_
  unfold Oper.wp
  rw [run_call hf hv w, Oper.upon_enter]
  refine (h w hs).mono fun e w' ⟨v, hp', he, ⟨hv', hh⟩, hs'⟩ => ?_
  subst he hv' hh
  obtain ⟨l0, h1, h2⟩ := hr.rem
  exact k _ w' (hf.put hn) ((hs.stepM h1 hs').perm h2)
inductive RemL (old : List Res) : List Res → List Res → Prop
  | head {l : List Res} : RemL old (old ++ l) l
  | tail {x : Res} {l l' : List Res} : RemL old l l' → RemL old (x :: l) (x :: l')
  | app {L l l' : List Res} : RemL old l l' → RemL old (L ++ l) (L ++ l')
theorem RemL.perm {old hp rest : List Res} (h : RemL old hp rest) : hp.Perm (old ++ rest) := by
  induction h with
  | head => exact .refl _
  | @tail x l l' _ ih => exact (ih.cons x).trans List.perm_middle.symm
  | @app L l l' _ ih => exact (ih.append_left L).trans (List.perm_append_comm_assoc L old l')
theorem RemL.nil {hp : List Res} : RemL [] hp hp := .head
theorem S.stepMs {old hp' rest : List Res} {w w' : World} (h : S cx hp w) (hr : hp.Perm (old ++ rest)) (h1 : S ⟨w, old.map (·.b)⟩ hp' w') : S cx (hp' ++ rest) w' := by
  have h0 := h.perm hr
  have hnd := List.pairwise_append.1 h0.nd
  have hlt : ∀ r ∈ old ++ rest, r.b < w.heap.size := fun r hr => (h0.on r hr).lt
  have kb : ∀ k, k < w.heap.size → k ∉ old.map (·.b) → w'.heap[k]? = w.heap[k]? := fun k hk e => h1.block k hk e
  have hne : ∀ s ∈ rest, s.b ∉ old.map (·.b) := fun s hs hm => by
    obtain ⟨r, hr1, hr2⟩ := List.mem_map.1 hm
    exact hnd.2.2 r hr1 s hs hr2
  refine ⟨h1.os.trans h0.os, h1.tape.trans h0.tape, h1.output.trans h0.output, Nat.le_trans h0.size h1.size, fun k hk hw => ?_, fun s hs => ?_, fun s hs => ?_, ?_⟩
  · rw [kb k (Nat.lt_of_lt_of_le hk h0.size) (fun e => ?_)]
    · exact h0.block k hk hw
    · obtain ⟨r, hr1, rfl⟩ := List.mem_map.1 e
      rcases h0.old r (List.mem_append_left _ hr1) with h3 | h3
      · exact hw h3
      · omega
  · rcases List.mem_append.1 hs with hs | hs
    · exact h1.on s hs
    · have h2 := h0.on s (List.mem_append_right _ hs)
      exact h2.same (kb _ h2.lt (hne s hs))
  · rcases List.mem_append.1 hs with hs | hs
    · rcases h1.old s hs with e | e
      · obtain ⟨r, hr1, hr2⟩ := List.mem_map.1 e
        rw [← hr2]; exact h0.old r (List.mem_append_left _ hr1)
      · exact .inr (Nat.le_trans h0.size e)
    · exact h0.old s (List.mem_append_right _ hs)
  · refine List.pairwise_append.2 ⟨h1.nd, hnd.2.1, fun s hs t ht e => ?_⟩
    rcases h1.old s hs with e2 | e2
    · rw [e] at e2; exact hne t ht e2
    · have := hlt t (List.mem_append_right _ ht)
      have : w.heap.size ≤ s.b := e2
      omega
theorem S.initM {w : World} {old rest : List Res} (h : S cx hp w) (hr : hp.Perm (old ++ rest)) : S ⟨w, old.map (·.b)⟩ old w := by
  have h0 := h.perm hr
  exact ⟨rfl, rfl, rfl, Nat.le_refl _, fun _ _ _ => rfl, fun s hs => h0.on s (List.mem_append_left _ hs), fun s hs => .inl (List.mem_map.2 ⟨s, hs, rfl⟩), (List.pairwise_append.1 h0.nd).1⟩
/-- A call that writes several blocks of ours. -/
theorem WL.callMs {dd : Tmp} {f : FuncId} [hb : HasBody P f] {xs : List Operand} {ts : Array TypeId} {vs : List Value} {R : Value → List Res → Prop} (old : List Res) (hn : Nat.blt dd n = true) (hw : want ops fr g = some true) (hv : evs fr xs = some vs)
    (hr : hp.Perm (old ++ hp1)) (h : ∀ w, S cx hp w → S ⟨w, old.map (·.b)⟩ old w → Calls P f vs.toArray w (RetP w (old.map (·.b)) R)) (k : ∀ v hp', R v hp' → WL P ops Q rest n cx (hp' ++ hp1) ((dd, v) :: fr)) :
    WL P ops Q (⟨some dd, .call { callee := .value (.func f), args := xs.toArray, argTypes := ts }, ty, ps, af, g⟩ :: rest) n cx hp fr := fun a w hf hs => by
  refine wpList_of (want_spec (o := ⟨some dd, _, ty, ps, af, g⟩) hf hw) ?_
  unfold Oper.wp
  rw [run_call hf hv w, Oper.upon_enter]
  refine (h w hs (hs.initM hr)).mono fun e w' ⟨v, hp', he, hR, hs'⟩ => ?_
  subst he
  exact k v hp' hR _ w' (hf.put hn) (hs.stepMs hr hs')
section
variable {fuel i : Nat} {listed : Array Bool} {hp0 : List Res}
theorem WO.clMs {dd : Tmp} {f : FuncId} {xs : List Operand} {ts : Array TypeId} {vs : List Value} {R : Value → List Res → Prop} (old : List Res) (hi : ops[i]? = some ⟨some dd, .call { callee := .value (.func f), args := xs.toArray, argTypes := ts }, ty, ps, af, g⟩) (hb : HasBody P f) (hn : Nat.blt dd n = true) (hw : want ops fr g = some true) (hv : evs fr xs = some vs)
    (hr : hp.Perm (old ++ hp1)) (h : ∀ w, S cx hp w → S ⟨w, old.map (·.b)⟩ old w → Calls P f vs.toArray w (RetP w (old.map (·.b)) R)) (hsub : hp0.Sublist hp1) (k : ∀ v hp', R v hp' → WH P ops Q fuel (listed.setIfInBounds i true) n cx hp0 (hp' ++ hp1) ((dd, v) :: fr)) :
    WO P ops Q i fuel listed n cx hp0 hp fr := fun a w hf hs => by
  refine wpOp_of hi (want_spec (o := ⟨some dd, _, ty, ps, af, g⟩) hf hw) ?_
  unfold Oper.wp
  rw [run_call hf hv w, Oper.upon_enter]
  refine (h w hs (hs.initM hr)).mono fun e w' ⟨v, hp', he, hR, hs'⟩ => ?_
  subst he
  have h1 := hs.stepMs hr hs'
  exact ⟨h1.sub (List.Sublist.trans hsub (List.sublist_append_right _ _)), k v hp' hR _ w' (hf.put hn) h1⟩
end
end
end Go.Proofs.YtnmhoeafdengfaaDoor
