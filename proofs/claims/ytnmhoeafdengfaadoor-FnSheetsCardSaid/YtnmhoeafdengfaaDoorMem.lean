/- Calls that write a block handed to them, and the marks of the laws: plain theorems over the logic. No condition. -/
import Derived.Test.YtnmhoeafdengfaaDoorData
import Derived.Test.YtnmhoeafdengfaaDoorTypes
namespace Go.Proofs.YtnmhoeafdengfaaDoor
open Go.RowKit
section
variable {P : Program} {Q : Exit → Act → World → Prop} {cx : Cx} {hp hp1 : List Res} {fr : Fr} {n : Nat} {ops : Array Oper} {rest : List Oper} {ty : TypeId} {ps : String}
theorem S.init1 {w : World} {r : Res} (h : r.On w) : S ⟨w, [r.b]⟩ [r] w := ⟨rfl, rfl, rfl, Nat.le_refl _, fun _ _ _ => rfl, (fun s hs => by rw [List.mem_singleton.1 hs]; exact h), (fun s hs => by rw [List.mem_singleton.1 hs]; exact .inl (.head _)), by simp⟩
theorem S.stepM {hp' : List Res} {r : Res} {w w' : World} (h : S cx hp w) (hr : Rem r hp hp1) (h1 : S ⟨w, [r.b]⟩ hp' w') : S cx (hp' ++ hp1) w' := by
  have hne := hr.ne h.nd
  have hlt : r.b < w.heap.size := (h.on r hr.mem).lt
  have kb : ∀ k, k < w.heap.size → k ≠ r.b → w'.heap[k]? = w.heap[k]? := fun k hk e => h1.block k hk (by simpa using e)
  refine ⟨h1.os.trans h.os, h1.tape.trans h.tape, h1.output.trans h.output, Nat.le_trans h.size h1.size, fun k hk hw => ?_, fun s hs => ?_, fun s hs => ?_, ?_⟩
  · rw [kb k (Nat.lt_of_lt_of_le hk h.size) (fun e => ?_)]
    · exact h.block k hk hw
    · subst e
      rcases h.old r hr.mem with h3 | h3
      · exact hw h3
      · omega
  · rcases List.mem_append.1 hs with hs | hs
    · exact h1.on s hs
    · have h2 := h.on s (hr.sub.subset hs)
      exact h2.same (kb _ h2.lt (hne s hs))
  · rcases List.mem_append.1 hs with hs | hs
    · rcases h1.old s hs with e | e
      · have e : s.b = r.b := by simpa using e
        rw [e]; exact h.old r hr.mem
      · exact .inr (Nat.le_trans h.size e)
    · exact h.old s (hr.sub.subset hs)
  · refine List.pairwise_append.2 ⟨h1.nd, (h.sub hr.sub).nd, fun s hs t ht e => ?_⟩
    rcases h1.old s hs with e2 | e2
    · have e2 : s.b = r.b := by simpa using e2
      exact hne t ht (by rw [← e, e2])
    · have := (h.on t (hr.sub.subset ht)).lt
      have : w.heap.size ≤ s.b := e2
      omega
/-- A call that writes a block of ours. -/
theorem WL.callM {dd : Tmp} {f : FuncId} [hb : HasBody P f] {af : Array Edge} {g : Option (Nat × Bool)} {xs : List Operand} {ts : Array TypeId} {vs : List Value} {R : Value → List Res → Prop} {b tot : Nat} {t : TypeId} {cs : List Value} (hn : Nat.blt dd n = true) (hw : want ops fr g = some true) (hv : evs fr xs = some vs)
    (h : ∀ w, S cx hp w → Calls P f vs.toArray w (RetP w [b] R)) (hr : Rem ⟨b, t, cs, tot⟩ hp hp1) (k : ∀ v hp', R v hp' → WL P ops Q rest n cx (hp' ++ hp1) ((dd, v) :: fr)) :
    WL P ops Q (⟨some dd, .call { callee := .value (.func f), args := xs.toArray, argTypes := ts }, ty, ps, af, g⟩ :: rest) n cx hp fr := fun a w hf hs => by
  refine wpList_of (want_spec (o := ⟨some dd, _, ty, ps, af, g⟩) hf hw) ?_
  unfold Oper.wp
  rw [run_call hf hv w, Oper.upon_enter]
  refine (h w hs).mono fun e w' ⟨v, hp', he, hR, hs'⟩ => ?_
  subst he
  exact k v hp' hR _ w' (hf.put hn) (hs.stepM hr hs')
end
section
variable {P : Program} {Q : Exit → Act → World → Prop} {cx : Cx} {hp : List Res} {fr : Fr} {n : Nat} {ops : Array Oper} {ty : TypeId} {ps : String} {af : Array Edge} {g : Option (Nat × Bool)} {fuel i : Nat} {listed : Array Bool} {hp0 : List Res}
/-- A call in a held region: it hands back new memory. -/
theorem WO.call {dd : Tmp} {f : FuncId} [hb : HasBody P f] {xs : List Operand} {ts : Array TypeId} {vs : List Value} {R : Value → List Res → Prop} (hi : ops[i]? = some ⟨some dd, .call { callee := .value (.func f), args := xs.toArray, argTypes := ts }, ty, ps, af, g⟩) (hn : Nat.blt dd n = true) (hw : want ops fr g = some true) (hv : evs fr xs = some vs) (hsub : hp0.Sublist hp)
    (h : ∀ w, S cx hp w → Calls P f vs.toArray w (RetP w [] R)) (k : ∀ v hp', R v hp' → WH P ops Q fuel (listed.setIfInBounds i true) n cx hp0 (hp' ++ hp) ((dd, v) :: fr)) : WO P ops Q i fuel listed n cx hp0 hp fr := fun a w hf hs => by
  refine wpOp_of hi (want_spec (o := ⟨some dd, _, ty, ps, af, g⟩) hf hw) ?_
  unfold Oper.wp
  rw [run_call hf hv w, Oper.upon_enter]
  refine (h w hs).mono fun e w' ⟨v, hp', he, hR, hs'⟩ => ?_
  subst he
  have h1 := hs.step hs'
  exact ⟨h1.sub (List.Sublist.trans hsub (List.sublist_append_right _ _)), k v hp' hR _ w' (hf.put hn) h1⟩
/-- A quiet call in a held region. -/
theorem WO.callQ {dd : Tmp} {f : FuncId} [hb : HasBody P f] {xs : List Operand} {ts : Array TypeId} {vs : List Value} {v : Value} (hi : ops[i]? = some ⟨some dd, .call { callee := .value (.func f), args := xs.toArray, argTypes := ts }, ty, ps, af, g⟩) (hn : Nat.blt dd n = true) (hw : want ops fr g = some true) (hv : evs fr xs = some vs) (hsub : hp0.Sublist hp)
    (h : ∀ w, S cx hp w → Calls P f vs.toArray w (Ret w v)) (k : WH P ops Q fuel (listed.setIfInBounds i true) n cx hp0 hp ((dd, v) :: fr)) : WO P ops Q i fuel listed n cx hp0 hp fr := fun a w hf hs => by
  refine wpOp_of hi (want_spec (o := ⟨some dd, _, ty, ps, af, g⟩) hf hw) ?_
  unfold Oper.wp
  rw [run_call hf hv w, Oper.upon_enter]
  refine (h w hs).mono fun e w' ⟨he, hs'⟩ => ?_
  subst he
  have h1 : S cx hp w' := by simpa using hs.step hs'
  exact ⟨h1.sub hsub, k _ w' (hf.put hn) h1⟩
end
theorem SlB.nil {α : Type} [Enc α] {w : World} {A : Option Addr} : SlB w A ([] : List α) := fun i hi => by cases hi
/-! ### Literals of one element, and of a few numbers -/
theorem lit1_2 (u0 u1 a0 a1 : Value) : litCells 2 1 [a0, a1] [(0, .agg #[u0, u1])] = some #[u0, u1] := by kernel_rfl
theorem lit1_3 (u0 u1 u2 a0 a1 a2 : Value) : litCells 3 1 [a0, a1, a2] [(0, .agg #[u0, u1, u2])] = some #[u0, u1, u2] := by kernel_rfl
theorem lit1_4 (u0 u1 u2 u3 a0 a1 a2 a3 : Value) : litCells 4 1 [a0, a1, a2, a3] [(0, .agg #[u0, u1, u2, u3])] = some #[u0, u1, u2, u3] := by kernel_rfl
theorem lit1_5 (u0 u1 u2 u3 u4 a0 a1 a2 a3 a4 : Value) : litCells 5 1 [a0, a1, a2, a3, a4] [(0, .agg #[u0, u1, u2, u3, u4])] = some #[u0, u1, u2, u3, u4] := by kernel_rfl
theorem lit1_6 (u0 u1 u2 u3 u4 u5 a0 a1 a2 a3 a4 a5 : Value) : litCells 6 1 [a0, a1, a2, a3, a4, a5] [(0, .agg #[u0, u1, u2, u3, u4, u5])] = some #[u0, u1, u2, u3, u4, u5] := by kernel_rfl
theorem lit1_7 (u0 u1 u2 u3 u4 u5 u6 a0 a1 a2 a3 a4 a5 a6 : Value) : litCells 7 1 [a0, a1, a2, a3, a4, a5, a6] [(0, .agg #[u0, u1, u2, u3, u4, u5, u6])] = some #[u0, u1, u2, u3, u4, u5, u6] := by kernel_rfl
theorem litI_1 (x0 : Int) (z : Value) : litCells 1 1 [z] [(0, .int .i64 x0)] = some #[.int .i64 x0] := by kernel_rfl
theorem litI_2 (x0 x1 : Int) (z : Value) : litCells 1 2 [z] [(0, .int .i64 x0), (1, .int .i64 x1)] = some #[.int .i64 x0, .int .i64 x1] := by kernel_rfl
theorem litI_3 (x0 x1 x2 : Int) (z : Value) : litCells 1 3 [z] [(0, .int .i64 x0), (1, .int .i64 x1), (2, .int .i64 x2)] = some #[.int .i64 x0, .int .i64 x1, .int .i64 x2] := by kernel_rfl
theorem litI_4 (x0 x1 x2 x3 : Int) (z : Value) : litCells 1 4 [z] [(0, .int .i64 x0), (1, .int .i64 x1), (2, .int .i64 x2), (3, .int .i64 x3)] = some #[.int .i64 x0, .int .i64 x1, .int .i64 x2, .int .i64 x3] := by kernel_rfl
theorem litI_5 (x0 x1 x2 x3 x4 : Int) (z : Value) : litCells 1 5 [z] [(0, .int .i64 x0), (1, .int .i64 x1), (2, .int .i64 x2), (3, .int .i64 x3), (4, .int .i64 x4)] = some #[.int .i64 x0, .int .i64 x1, .int .i64 x2, .int .i64 x3, .int .i64 x4] := by kernel_rfl
theorem litI_6 (x0 x1 x2 x3 x4 x5 : Int) (z : Value) : litCells 1 6 [z] [(0, .int .i64 x0), (1, .int .i64 x1), (2, .int .i64 x2), (3, .int .i64 x3), (4, .int .i64 x4), (5, .int .i64 x5)] = some #[.int .i64 x0, .int .i64 x1, .int .i64 x2, .int .i64 x3, .int .i64 x4, .int .i64 x5] := by kernel_rfl
theorem litI_7 (x0 x1 x2 x3 x4 x5 x6 : Int) (z : Value) : litCells 1 7 [z] [(0, .int .i64 x0), (1, .int .i64 x1), (2, .int .i64 x2), (3, .int .i64 x3), (4, .int .i64 x4), (5, .int .i64 x5), (6, .int .i64 x6)] = some #[.int .i64 x0, .int .i64 x1, .int .i64 x2, .int .i64 x3, .int .i64 x4, .int .i64 x5, .int .i64 x6] := by kernel_rfl
/-! ### What a mark leaves -/
section
variable {α : Type} [Enc α]
def marks (mk : Int → α) (m : Int) (k : Int) (n : Nat) : List α := (List.range n).map fun (i : Nat) => mk (k + m * (i : Int))
omit [Enc α] in
@[simp] theorem length_marks (mk : Int → α) (m k : Int) (n : Nat) : (marks mk m k n).length = n := by simp [marks]
omit [Enc α] in
theorem marks_at (mk : Int → α) (m k : Int) (n : Nat) {i : Nat} (h : i < (marks mk m k n).length) : (marks mk m k n)[i] = mk (k + m * (i : Int)) := by simp [marks]
omit [Enc α] in
theorem marks_succ (mk : Int → α) (m k : Int) (n : Nat) : marks mk m k (n + 1) = marks mk m k n ++ [mk (k + m * (n : Int))] := by simp [marks, List.range_succ]
def markTo (mk : Int → α) (m k : Int) (l : List α) (i : Nat) : List α := marks mk m k i ++ l.drop i
omit [Enc α] in
theorem markTo_zero (mk : Int → α) (m k : Int) (l : List α) : markTo mk m k l 0 = l := by simp [markTo, marks]
omit [Enc α] in
theorem markTo_all (mk : Int → α) (m k : Int) (l : List α) : markTo mk m k l l.length = marks mk m k l.length := by simp [markTo]
omit [Enc α] in
theorem length_markTo (mk : Int → α) (m k : Int) (l : List α) {i : Nat} (h : i ≤ l.length) : (markTo mk m k l i).length = l.length := by simp [markTo]; omega
theorem markTo_step (mk : Int → α) (m k : Int) (l : List α) {i : Nat} (h : i < l.length) : setAt (flat (markTo mk m k l i)) (i * Enc.size α) (Enc.cells (mk (k + m * (i : Int)))) = flat (markTo mk m k l (i + 1)) := by
  rw [flat_set _ (by rw [length_markTo _ _ _ _ (by omega)]; exact h)]
  congr 1
  unfold markTo
  rw [marks_succ, List.set_append_right _ _ (by simp), length_marks, Nat.sub_self, List.append_assoc]
  congr 1
  rw [List.drop_eq_getElem_cons h]
  rfl
end
end Go.Proofs.YtnmhoeafdengfaaDoor
