/- append in place, clear, slices with two and three bounds: rules over own blocks. Plain theorems; no condition. -/
import Derived.Test.YtnmhoeafdengfaaDoorIns
namespace Go.Proofs.YtnmhoeafdengfaaDoor
open Go.RowKit
section
variable {P : Program} {cx : Cx} {n : Nat} {hp : List Res} {fr : Fr} {ops : Array Oper} {rest : List Oper} {Q : Exit → Act → World → Prop} {d : Option Tmp} {ty : TypeId} {ps : String} {af : Array Edge} {g : Option (Nat × Bool)}
theorem SlR.part {α : Type} [Enc α] {A : Option Addr} {l : List α} (h : SlR cx hp A l) {i : Nat} (hi : i < l.length) {j m : Nat} {us : List Value} (e : ((Enc.cells l[i]).drop j).take m = us) : Rd cx hp (((adOf A).add (i * Enc.size α)).add j) us := fun w hs k v hv => by
  subst e
  rw [List.getElem?_take] at hv
  split at hv
  · rw [List.getElem?_drop] at hv
    rw [Go.Deep.add_add, Go.Deep.add_add]
    exact (h w hs i hi (j + k) v hv).2
  · cases hv
theorem Rd.nil {ad : Addr} : Rd cx hp ad [] := fun _ _ _ _ hu => by simp at hu
/-- 's[i:j:k]'. -/
theorem Q1.slice_3 {t e : TypeId} {sz bt : Nat} [hT : TSlice P t e sz bt] {x y z u : Operand} {A : Option Addr} {m c : Nat} {k1 k2 k3 : IntKind} {i1 i2 i3 : Int} (h1 : ev fr x = some (.slice A m c)) (h2 : ev fr y = some (.int k1 i1)) (h3 : ev fr z = some (.int k2 i2)) (h4 : ev fr u = some (.int k3 i3))
    (j1 j2 j3 : Nat) (e1 : i1 = (j1 : Int)) (e2 : i2 = (j2 : Int)) (e3 : i3 = (j3 : Int)) (l1 : j1 ≤ j2) (l2 : j2 ≤ j3) (l3 : j3 ≤ c) :
    Q1 P cx hp fr ⟨d, .slice t x (some y) (some z) (some u), ty, ps, af, g⟩ (.slice (if j3 = j1 then A else A.map (·.add (j1 * sz))) (j2 - j1) (j3 - j1)) := Q1.mk fun n a w hf hs => by
  subst e1 e2 e3
  have h5 := hT.info
  cases hi : P.info? e with
  | none => rw [hi] at h5; cases h5
  | some inf =>
    rw [hi] at h5
    obtain ⟨rfl, rfl⟩ : inf.size = sz ∧ inf.bytes = bt := by simpa using h5
    have hun : (underlying t).run P w = .ok (.slice e) w := run_underlying hT.under w
    have b3 : (Instr.sliceBound (.int k3 (j3 : Int)) c .slice3Acap).run P w = .ok j3 w := by simp [Instr.sliceBound, asIntOf, l3]
    have b2 : (Instr.sliceBound (.int k2 (j2 : Int)) j3 .slice3B).run P w = .ok j2 w := by simp [Instr.sliceBound, asIntOf, l2]
    have b1 : (Instr.sliceBound (.int k1 (j1 : Int)) j2 .slice3C).run P w = .ok j1 w := by simp [Instr.sliceBound, asIntOf, l1]
    have : (Instr.sliceAt t (.slice A m c) (some (.int k1 (j1 : Int))) (some (.int k2 (j2 : Int))) (some (.int k3 (j3 : Int)))).run P w = .ok (.slice (if j3 = j1 then A else A.map (·.add (j1 * inf.size))) (j2 - j1) (j3 - j1)) w := by
      unfold Instr.sliceAt
      simp only [Sem.run_bind, hun, Result.andThen_ok]
      unfold Instr.slice
      simp only [Sem.run_bind, hun, Result.andThen_ok]
      unfold Instr.sliceBounds
      simp [b1, b2, b3, sizeOf, typeInfo, hi]
    simp [execOp, hf.ev h1, hf.ev h2, hf.ev h3, hf.ev h4, this]
/-- 's[i:j]' of an own block. -/
theorem Q1.slice_lohiB {t e : TypeId} {sz bt : Nat} [hT : TSlice P t e sz bt] {x y z : Operand} {b m c : Nat} {k1 k2 : IntKind} {i1 i2 : Int} (h1 : ev fr x = some (.slice (some ⟨b, 0, none⟩) m c)) (h2 : ev fr y = some (.int k1 i1)) (h3 : ev fr z = some (.int k2 i2))
    (j1 j2 : Nat) (e1 : i1 = (j1 : Int)) (e2 : i2 = (j2 : Int)) (l1 : j1 < j2) (l2 : j2 ≤ c) :
    Q1 P cx hp fr ⟨d, .slice t x (some y) (some z) none, ty, ps, af, g⟩ (.slice (some ⟨b, j1 * sz, none⟩) (j2 - j1) (c - j1)) := Q1.mk fun n a w hf hs => by
  subst e1 e2
  have h5 := hT.info
  cases hi : P.info? e with
  | none => rw [hi] at h5; cases h5
  | some inf =>
    rw [hi] at h5
    obtain ⟨rfl, rfl⟩ : inf.size = sz ∧ inf.bytes = bt := by simpa using h5
    have hun : (underlying t).run P w = .ok (.slice e) w := run_underlying hT.under w
    have b2 : (Instr.sliceBound (.int k2 (j2 : Int)) c .sliceAcap).run P w = .ok j2 w := by simp [Instr.sliceBound, asIntOf, l2]
    have b1 : (Instr.sliceBound (.int k1 (j1 : Int)) j2 .sliceB).run P w = .ok j1 w := by simp [Instr.sliceBound, asIntOf, Nat.le_of_lt l1]
    have hne : ¬ c = j1 := by omega
    have : (Instr.sliceAt t (.slice (some ⟨b, 0, none⟩) m c) (some (.int k1 (j1 : Int))) (some (.int k2 (j2 : Int))) none).run P w = .ok (.slice (some ⟨b, j1 * inf.size, none⟩) (j2 - j1) (c - j1)) w := by
      unfold Instr.sliceAt
      simp only [Sem.run_bind, hun, Result.andThen_ok]
      unfold Instr.slice
      simp only [Sem.run_bind, hun, Result.andThen_ok]
      unfold Instr.sliceBounds
      simp [b1, b2, sizeOf, typeInfo, hi, hne, Addr.add_lit]
    simp [execOp, hf.ev h1, hf.ev h2, hf.ev h3, this]
/-- append where there is room. -/
theorem run_append_n {t e : TypeId} {sz bt : Nat} [hT : TSlice P t e sz bt] {b m c m' c' tot : Nat} {et : TypeId} {ad : Addr} {cs news : List Value} {hp' : List Res} {w : World} (hs : S cx hp w)
    (hr : Repl ⟨b, et, cs, tot⟩ ⟨b, et, setAt cs (m * sz) news, tot⟩ hp hp') (hrd : Rd cx hp ad news) (hl : news.length = m' * sz) (hroom : m + m' ≤ c) (ho : m * sz + news.length ≤ cs.length) (hone : ∀ u ∈ news, u.oneCell' = true) :
    ∃ w', (Builtin.append_ #[t, t] ty #[.slice (some ⟨b, 0, none⟩) m c, .slice (some ad) m' c']).run P w = .ok (.slice (some ⟨b, 0, none⟩) (m + m') c) w' ∧ S cx hp' w' := by
  have h5 := hT.info
  cases hi : P.info? e with
  | none => rw [hi] at h5; cases h5
  | some inf =>
    rw [hi] at h5
    obtain ⟨rfl, rfl⟩ : inf.size = sz ∧ inf.bytes = bt := by simpa using h5
    obtain ⟨w', hw', hs'⟩ := S.stores (P := P) news b et cs tot (m * inf.size) 0 hp hp' w hs hr hone (by simpa using ho)
    have hld := run_loadCells_list (P := P) w ad news (hrd w hs)
    rw [hl] at hld
    refine ⟨w', ?_, hs'⟩
    simp [Builtin.append_, run_underlying hT.under, sizeOf, typeInfo, hi, Builtin.lenOf, Builtin.firstCells, hld, hroom, Addr.add_lit, hw']
theorem WL.appendR {dd : Tmp} {t e : TypeId} {sz bt : Nat} [hT : TSlice P t e sz bt] {x y : Operand} {b m c m' c' tot : Nat} {et : TypeId} {ad : Addr} {cs : List Value} {hp' : List Res} (news : List Value) (hn : Nat.blt dd n = true) (hw : want ops fr g = some true)
    (hx : ev fr x = some (.slice (some ⟨b, 0, none⟩) m c)) (hy : ev fr y = some (.slice (some ad) m' c')) (hr : Repl ⟨b, et, cs, tot⟩ ⟨b, et, setAt cs (m * sz) news, tot⟩ hp hp') (hrd : Rd cx hp ad news) (hl : news.length = m' * sz)
    (hroom : m + m' ≤ c) (ho : m * sz + news.length ≤ cs.length) (hone : ∀ u ∈ news, u.oneCell' = true) (k : WL P ops Q rest n cx hp' ((dd, .slice (some ⟨b, 0, none⟩) (m + m') c) :: fr)) :
    WL P ops Q (⟨some dd, .call { callee := .builtin .append, args := #[x, y], argTypes := #[t, t] }, ty, ps, af, g⟩ :: rest) n cx hp fr := fun a w hf hs => by
  refine wpList_of (want_spec (o := ⟨some dd, _, ty, ps, af, g⟩) hf hw) ?_
  obtain ⟨w', hw', hs'⟩ := run_append_n (P := P) (t := t) (ty := ty) (c' := c') (hT := hT) hs hr hrd hl hroom ho hone
  have : (execOp a.eval ⟨some dd, .call { callee := .builtin .append, args := #[x, y], argTypes := #[t, t] }, ty, ps, af, g⟩).run P w = .ok (.value (.slice (some ⟨b, 0, none⟩) (m + m') c)) w' := by
    simp [execOp, resolve, invoke, builtin, hf.ev hx, hf.ev hy, hw']
  unfold Oper.wp
  rw [this, Oper.upon_value]
  exact k _ _ (hf.put hn) hs'
theorem WO.appendR {fuel i : Nat} {listed : Array Bool} {hp0 : List Res} {dd : Tmp} {t e : TypeId} {sz bt : Nat} {x y : Operand} {b m c m' c' tot : Nat} {et : TypeId} {ad : Addr} {cs : List Value} {hp' : List Res} (news : List Value) (hi : ops[i]? = some ⟨some dd, .call { callee := .builtin .append, args := #[x, y], argTypes := #[t, t] }, ty, ps, af, g⟩) (hT : TSlice P t e sz bt) (hn : Nat.blt dd n = true) (hw : want ops fr g = some true)
    (hx : ev fr x = some (.slice (some ⟨b, 0, none⟩) m c)) (hy : ev fr y = some (.slice (some ad) m' c')) (hr : Repl ⟨b, et, cs, tot⟩ ⟨b, et, setAt cs (m * sz) news, tot⟩ hp hp') (hrd : Rd cx hp ad news) (hl : news.length = m' * sz)
    (hroom : m + m' ≤ c) (ho : m * sz + news.length ≤ cs.length) (hone : ∀ u ∈ news, u.oneCell' = true) (hsub : hp0.Sublist hp') (k : WH P ops Q fuel (listed.setIfInBounds i true) n cx hp0 hp' ((dd, .slice (some ⟨b, 0, none⟩) (m + m') c) :: fr)) : WO P ops Q i fuel listed n cx hp0 hp fr := fun a w hf hs => by
  refine wpOp_of hi (want_spec (o := ⟨some dd, _, ty, ps, af, g⟩) hf hw) ?_
  obtain ⟨w', hw', hs'⟩ := run_append_n (P := P) (t := t) (ty := ty) (c' := c') (hT := hT) hs hr hrd hl hroom ho hone
  have : (execOp a.eval ⟨some dd, .call { callee := .builtin .append, args := #[x, y], argTypes := #[t, t] }, ty, ps, af, g⟩).run P w = .ok (.value (.slice (some ⟨b, 0, none⟩) (m + m') c)) w' := by
    simp [execOp, resolve, invoke, builtin, hf.ev hx, hf.ev hy, hw']
  unfold Oper.wp
  rw [this, Oper.upon_value]
  exact ⟨hs'.sub hsub, k _ _ (hf.put hn) hs'⟩
/-- clear of a part of an own block. -/
theorem WL.clear {t e : TypeId} {sz bt : Nat} {zs : List Value} [hT : TSlice P t e sz bt] [hZ : TZero P e zs] {x : Operand} {b o m c tot : Nat} {et : TypeId} {cs : List Value} {hp' : List Res} (news : List Value) (hw : want ops fr g = some true)
    (hx : ev fr x = some (.slice (some ⟨b, o, none⟩) m c)) (hm : 0 < m) (hz : ∀ z : Value, z.cells = zs.toArray → (Builtin.zeroCells z.cells m).toList = news) (hr : Repl ⟨b, et, cs, tot⟩ ⟨b, et, setAt cs o news, tot⟩ hp hp')
    (ho : o + news.length ≤ cs.length) (hone : ∀ u ∈ news, u.oneCell' = true) (k : WL P ops Q rest n cx hp' fr) :
    WL P ops Q (⟨none, .call { callee := .builtin .clear, args := #[x], argTypes := #[t] }, ty, ps, af, g⟩ :: rest) n cx hp fr := fun a w hf hs => by
  refine wpList_of (want_spec (o := ⟨none, _, ty, ps, af, g⟩) hf hw) ?_
  obtain ⟨w', hw', hs'⟩ := S.stores (P := P) news b et cs tot o 0 hp hp' w hs (by simpa using hr) hone (by simpa using ho)
  obtain ⟨z, hz1, hrun⟩ := run_zero (hT := hZ) (P := P) w
  obtain ⟨m, rfl⟩ : ∃ k, m = k + 1 := ⟨m - 1, by omega⟩
  have hz2 := hz z (by rw [← hz1])
  have hcl : (Builtin.clear_ #[t] ty #[.slice (some ⟨b, o, none⟩) (m + 1) c]).run P w = .ok (.tuple #[]) w' := by
    simp [Builtin.clear_, run_underlying hT.under, hrun, hz2, hw']
  have : (execOp a.eval ⟨none, .call { callee := .builtin .clear, args := #[x], argTypes := #[t] }, ty, ps, af, g⟩).run P w = .ok (.value (.tuple #[])) w' := by
    simp [execOp, resolve, invoke, builtin, hf.ev hx, hcl]
  unfold Oper.wp
  rw [this, Oper.upon_value]
  exact k _ _ hf hs'
end
end Go.Proofs.YtnmhoeafdengfaaDoor
