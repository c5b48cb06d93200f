/- Drawn regions that make memory, without a cut: a panic's claim does not hang on the slots, so reads go first whatever the claim is. Plain theorems over the logic. No condition. -/
import Derived.Test.YtnmhoeafdengfaaDoorMem
namespace Go.Proofs.YtnmhoeafdengfaaDoor
open Go.RowKit
section
variable {P : Program} {cx : Cx} {n : Nat} {hp : List Res} {fr : Fr} {ops : Array Oper} {Q : Exit → Act → World → Prop} {fuel : Nat} {listed : Array Bool} {hp0 : List Res}
def NP (Q : Exit → Act → World → Prop) : Prop := ∀ c (a : Act) (d : Option Tmp) v w, Q (.panic c) (a.put d v) w → Q (.panic c) a w
theorem NP.then_ {K : Act → World → Prop} (h : NP Q) : NP (Exit.then K Q) := fun c a d v w h1 => h c a d v w h1
theorem NP.block {id : Nat} (h : NP Q) : NP (Exit.inBlock id Q) := fun c a d v w h1 => h c a d v w h1
theorem NP.body {fn : Func} {R : Ending → World → Prop} : NP (bodyPost P fn R) := fun c a d v w h1 => by
  cases d with
  | none => exact h1
  | some d => exact ⟨h1.1, h1.2⟩
theorem NP.cut {β : Type} {F : β → Fr} {H : β → List Res} : NP (Cut n cx F H) := fun _ _ _ _ _ h => by cases h.1
theorem WH.go (h : WH P ops Q fuel listed n cx hp0 hp fr) : WH P ops Q fuel listed n cx hp0 hp fr := h
theorem WH.tk (i : Nat) {d : Nat} {v : Value} {o : Oper} (hr : (Region.ready .any ops listed).contains i = true) (hi : ops[i]? = some o) (hd : o.dst = some d) (hn : Nat.blt d n = true) (hw : want ops fr o.guard = some true)
    (hq : Q1 P cx hp0 fr o v) (hs : Region.noSelect ops = true) (hf : Region.free .any ops listed i = true) (hQ : NP Q)
    (hsub : hp0.Sublist hp) (h : WH P ops Q fuel (listed.setIfInBounds i true) n cx hp0 hp ((d, v) :: fr)) : WH P ops Q (fuel + 1) listed n cx hp0 hp fr := fun a w hfr hsw => by
  refine wpAnyH_take (v := v) hi hs hf hr (fun c a w h => hQ c a _ _ w h) (.inl ⟨want_spec hfr hw, fun w' hs' => hq n a w' hfr hs'⟩) (hsw.sub hsub) ?_
  rw [hd]
  exact h _ _ (hfr.put hn) hsw
theorem WH.ps (i : Nat) {d : Nat} {o : Oper} (hr : (Region.ready .any ops listed).contains i = true) (hi : ops[i]? = some o) (hd : o.dst = some d) (hn : Nat.blt d n = true) (hw : want ops fr o.guard = some false)
    (hs : Region.noSelect ops = true) (hf : Region.free .any ops listed i = true) (hQ : NP Q)
    (hsub : hp0.Sublist hp) (h : WH P ops Q fuel (listed.setIfInBounds i true) n cx hp0 hp ((d, undef) :: fr)) : WH P ops Q (fuel + 1) listed n cx hp0 hp fr := fun a w hfr hsw => by
  refine wpAnyH_take (v := undef) hi hs hf hr (fun c a w h => hQ c a _ _ w h) (.inr ⟨want_spec hfr hw, rfl⟩) (hsw.sub hsub) ?_
  rw [hd]
  exact h _ _ (hfr.put hn) hsw
/-- A Bool in a slot, parted. -/
theorem WH.part (s : Nat) {e : Bool} (hl : look fr s = some (.bool e)) (ht : e = true → WH P ops Q fuel listed n cx hp0 hp ((s, .bool true) :: fr)) (hf : e = false → WH P ops Q fuel listed n cx hp0 hp ((s, .bool false) :: fr)) : WH P ops Q fuel listed n cx hp0 hp fr := fun a w h hs => by
  cases e with
  | true => exact ht rfl a w (h.learn (h.on _ _ hl)) hs
  | false => exact hf rfl a w (h.learn (h.on _ _ hl)) hs
variable {ty : TypeId} {ps : String} {af : Array Edge} {g : Option (Nat × Bool)} {i : Nat}
/-- An operation that may come up now: a call that hands back new memory. -/
theorem WO.cl {dd : Tmp} {f : FuncId} {xs : List Operand} {ts : Array TypeId} {vs : List Value} {R : Value → List Res → Prop} (hi : ops[i]? = some ⟨some dd, .call { callee := .value (.func f), args := xs.toArray, argTypes := ts }, ty, ps, af, g⟩) (hb : HasBody P f) (hn : Nat.blt dd n = true) (hw : want ops fr g = some true) (hv : evs fr xs = some vs) (hsub : hp0.Sublist hp)
    (h : ∀ w, S cx hp w → Calls P f vs.toArray w (RetP w [] R)) (k : ∀ v hp', R v hp' → WH P ops Q fuel (listed.setIfInBounds i true) n cx hp0 (hp' ++ hp) ((dd, v) :: fr)) : WO P ops Q i fuel listed n cx hp0 hp fr :=
  WO.call (hb := hb) hi hn hw hv hsub h k
theorem WO.cq {dd : Tmp} {f : FuncId} {xs : List Operand} {ts : Array TypeId} {vs : List Value} {v : Value} (hi : ops[i]? = some ⟨some dd, .call { callee := .value (.func f), args := xs.toArray, argTypes := ts }, ty, ps, af, g⟩) (hb : HasBody P f) (hn : Nat.blt dd n = true) (hw : want ops fr g = some true) (hv : evs fr xs = some vs) (hsub : hp0.Sublist hp)
    (h : ∀ w, S cx hp w → Calls P f vs.toArray w (Ret w v)) (k : WH P ops Q fuel (listed.setIfInBounds i true) n cx hp0 hp ((dd, v) :: fr)) : WO P ops Q i fuel listed n cx hp0 hp fr :=
  WO.callQ (hb := hb) hi hn hw hv hsub h k
/-- .. a call that writes a block of ours. -/
theorem WO.clM {dd : Tmp} {f : FuncId} {xs : List Operand} {ts : Array TypeId} {vs : List Value} {R : Value → List Res → Prop} {b tot : Nat} {t : TypeId} {cs : List Value} {hp1 : List Res} (hi : ops[i]? = some ⟨some dd, .call { callee := .value (.func f), args := xs.toArray, argTypes := ts }, ty, ps, af, g⟩) (hb : HasBody P f) (hn : Nat.blt dd n = true) (hw : want ops fr g = some true) (hv : evs fr xs = some vs)
    (h : ∀ w, S cx hp w → Calls P f vs.toArray w (RetP w [b] R)) (hr : Rem ⟨b, t, cs, tot⟩ hp hp1) (hsub : hp0.Sublist hp1) (k : ∀ v hp', R v hp' → WH P ops Q fuel (listed.setIfInBounds i true) n cx hp0 (hp' ++ hp1) ((dd, v) :: fr)) : WO P ops Q i fuel listed n cx hp0 hp fr := fun a w hf hs => by
  refine wpOp_of hi (want_spec (o := ⟨some dd, _, ty, ps, af, g⟩) hf hw) ?_
  unfold Oper.wp
  rw [run_call hf hv w, Oper.upon_enter]
  refine (h w hs).mono fun e w' ⟨v, hp', he, hR, hs'⟩ => ?_
  subst he
  have h1 := hs.stepM hr hs'
  exact ⟨h1.sub (List.Sublist.trans hsub (List.sublist_append_right _ _)), k v hp' hR _ w' (hf.put hn) h1⟩
/-- .. a struct boxed. -/
theorem WO.box {dd : Tmp} {t : TypeId} {x : Operand} {v : Value} (hi : ops[i]? = some ⟨some dd, .box t x, ty, ps, af, g⟩) (hn : Nat.blt dd n = true) (hw : want ops fr g = some true) (hx : ev fr x = some v) (hsub : hp0.Sublist hp)
    (k : ∀ b, WH P ops Q fuel (listed.setIfInBounds i true) n cx hp0 (⟨b, t, v.cells.toList, v.cells.toList.length⟩ :: hp) ((dd, .pointer (some ⟨b, 0, none⟩)) :: fr)) : WO P ops Q i fuel listed n cx hp0 hp fr := fun a w hf hs => by
  refine wpOp_of hi (want_spec (o := ⟨some dd, _, ty, ps, af, g⟩) hf hw) ?_
  have : (execOp a.eval ⟨some dd, .box t x, ty, ps, af, g⟩).run P w = .ok (.value (.pointer (some ⟨w.heap.size, 0, none⟩))) (w.alloc (.cells v.cells.toList.toArray t)) := by
    simp [execOp, Instr.box, newVar, newRow, hf.ev hx]
  unfold Oper.wp
  rw [this, Oper.upon_value]
  have h1 := hs.alloc v.cells.toList t
  exact ⟨h1.sub (.cons _ hsub), k _ _ _ (hf.put hn) h1⟩
/-- .. whatever only reads. -/
theorem WO.q {dd : Nat} {v : Value} {o : Oper} (hi : ops[i]? = some o) (hd : o.dst = some dd) (hn : Nat.blt dd n = true) (hw : want ops fr o.guard = some true) (hq : Q1 P cx hp fr o v) (hsub : hp0.Sublist hp)
    (k : WH P ops Q fuel (listed.setIfInBounds i true) n cx hp0 hp ((dd, v) :: fr)) : WO P ops Q i fuel listed n cx hp0 hp fr := fun a w hf hs => by
  refine wpOp_of hi (want_spec hf hw) ?_
  refine Oper.wp_of_quiet (K := fun a' => FrOn n ((dd, v) :: fr) a') (C := S cx hp) hs (fun a' w' hs' hf' => ⟨hs'.sub hsub, k a' w' hf' hs'⟩) ⟨v, fun w' hs' => QC.v hq n a w' hf hs', ?_⟩
  rw [hd]
  exact hf.put hn
theorem WO.store1 {t et : TypeId} {x y : Operand} {b j tot : Nat} {cs : List Value} {v : Value} {hp' : List Res} (hi : ops[i]? = some ⟨none, .store t x y, ty, ps, af, g⟩) (hT : TSize P t 1) (hw : want ops fr g = some true) {ad : Addr} (hx : ev fr x = some (.pointer (some ad))) (had : ad = ⟨b, j, none⟩) (hy : ev fr y = some v)
    (hone : v.oneCell' = true) (hr : Repl ⟨b, et, cs, tot⟩ ⟨b, et, cs.set j v, tot⟩ hp hp') (hl : j < cs.length) (hsub : hp0.Sublist hp') (k : WH P ops Q fuel (listed.setIfInBounds i true) n cx hp0 hp' fr) :
    WO P ops Q i fuel listed n cx hp0 hp fr := by
  have hc : v.cells = #[v] := by cases v <;> first | rfl | (simp [Value.oneCell'] at hone)
  exact WO.store (hT := hT) hi hw hx had hy (by simp [hc]) (by simpa [hc] using hone) (by simpa [hc, setAt] using hr) (Nat.succ_le_of_lt hl) hsub k
theorem WO.al {dd : Tmp} {t : TypeId} {cs : List Value} (hi : ops[i]? = some ⟨some dd, .alloc t, ty, ps, af, g⟩) (hT : TZero P t cs) (hn : Nat.blt dd n = true) (hw : want ops fr g = some true) (hsub : hp0.Sublist hp)
    (k : ∀ b, WH P ops Q fuel (listed.setIfInBounds i true) n cx hp0 (⟨b, t, cs, cs.length⟩ :: hp) ((dd, .pointer (some ⟨b, 0, none⟩)) :: fr)) : WO P ops Q i fuel listed n cx hp0 hp fr := WO.alloc (hT := hT) hi hn hw hsub k
theorem WO.sa {t et : TypeId} {m : Nat} {x y : Operand} {b tot : Nat} {cs us : List Value} {hp' : List Res} (hi : ops[i]? = some ⟨none, .store t x y, ty, ps, af, g⟩) (hT : TSize P t m) (hw : want ops fr g = some true) (hx : ev fr x = some (.pointer (some ⟨b, 0, none⟩))) (hy : ev fr y = some (.agg us.toArray))
    (hm : us.length = m) (hone : ∀ u ∈ us, u.oneCell' = true) (hr : Repl ⟨b, et, cs, tot⟩ ⟨b, et, us, tot⟩ hp hp') (hl : cs.length = m) (hsub : hp0.Sublist hp') (k : WH P ops Q fuel (listed.setIfInBounds i true) n cx hp0 hp' fr) :
    WO P ops Q i fuel listed n cx hp0 hp fr := WO.storeAll (hT := hT) hi hw hx hy hm hone hr hl hsub k
/-- .. with what is held chosen: the blocks that the region does not write. -/
theorem X.heldS {id : Nat} {l : List Oper} (hm : P.follows .mixedOrders = true) (hp0 : List Res) (h : WH P l.toArray Q l.length (Array.replicate l.length false) n cx hp0 hp fr) : X P (.region id l.toArray true) Q n cx hp fr := fun a w hf hs =>
  wp_region_held (S := S cx hp0) hm (by simpa using h a _ hf hs.drew)
theorem X.perm {c : Code} {hp' : List Res} (hP : hp.Perm hp') (h : X P c Q n cx hp' fr) : X P c Q n cx hp fr := fun a w hf hs => h a w hf (hs.perm hP)
end
/-! ### Arrays -/
section
variable {P : Program} {cx : Cx} {n : Nat} {hp : List Res} {fr : Fr} {d : Option Tmp} {ty : TypeId} {ps : String} {af : Array Edge} {g : Option (Nat × Bool)}
theorem Q1.indexArr {t : TypeId} {x y : Operand} {len : Nat} {e : TypeId} {sz : Nat} [hT : TArr P t len e sz] {ad : Addr} {k : IntKind} {i : Int} (h1 : ev fr x = some (.pointer (some ad))) (h2 : ev fr y = some (.int k i)) (j : Nat) (hj : i = (j : Int)) (hm : j < len) :
    Q1 P cx hp fr ⟨d, .indexAddr t x y, ty, ps, af, g⟩ (.pointer (some (ad.add (j * sz)))) := Q1.mk fun n a w hf hs => by
  have h3 := hT.info
  cases hi : P.info? e with
  | none => rw [hi] at h3; cases h3
  | some inf =>
    rw [hi] at h3
    obtain rfl : inf.size = sz := by simpa using h3
    subst hj
    have hun : (underlying t).run P w = .ok (.array len e) w := run_underlying hT.under w
    have : (Instr.indexAt t (.pointer (some ad)) (.int k (j : Int))).run P w = .ok (.pointer (some (ad.add (j * inf.size)))) w := by
      unfold Instr.indexAt
      simp [asIntOf, hun, hm, sizeOf, typeInfo, hi, Instr.sureAddr]
    simp [execOp, hf.ev h1, hf.ev h2, this]
theorem Q1.indexArrB {t : TypeId} {x y : Operand} {len : Nat} {e : TypeId} {sz : Nat} [hT : TArr P t len e sz] {b o : Nat} {k : IntKind} {i : Int} (h1 : ev fr x = some (.pointer (some ⟨b, o, none⟩))) (h2 : ev fr y = some (.int k i)) (j : Nat) (hj : i = (j : Int)) (hm : j < len) :
    Q1 P cx hp fr ⟨d, .indexAddr t x y, ty, ps, af, g⟩ (.pointer (some ⟨b, o + j * sz, none⟩)) := (Q1.indexArr h1 h2 j hj hm).to (by rw [Addr.add_lit])
theorem Q1.buildA {t : TypeId} {len : Nat} {e : TypeId} {sz : Nat} {zs : List Value} [hT : TArr P t len e sz] [hZ : TZero P t zs] {parts : List (Nat × Operand)} {vs : List (Nat × Value)} {cs : List Value}
    (hx : evParts fr parts = some vs) (hc : Instr.fill (fun i => some (i * sz, sz)) zs.toArray vs = some cs.toArray) : Q1 P cx hp fr ⟨d, .build t parts.toArray, ty, ps, af, g⟩ (.agg cs.toArray) := Q1.mk fun n a w hf hs => by
  obtain ⟨z, hz, hrun⟩ := run_zero (hT := hZ) (P := P) w
  have hp1 := hf.evParts hx
  have hz' : z.cells = zs.toArray := by rw [← hz]
  have h3 := hT.info
  cases hi : P.info? e with
  | none => rw [hi] at h3; cases h3
  | some inf =>
    rw [hi] at h3
    obtain rfl : inf.size = sz := by simpa using h3
    simp [execOp, Instr.build, hrun, run_underlying hT.under, sizeOf, typeInfo, hi, hz', hp1, hc]
end
theorem fillA2 (x0 x1 : Int) (z0 z1 : Value) : Instr.fill (fun i => some (i * 1, 1)) #[z0, z1] [(0, .int .i64 x0), (1, .int .i64 x1)] = some #[.int .i64 x0, .int .i64 x1] := by kernel_rfl
theorem fillF (r c : Int) (A : Option Addr) (n d : Nat) (z0 z1 z2 : Value) : Instr.fill (fun i => (#[(0, 1), (1, 1), (2, 1)] : Array (Nat × Nat))[i]?) #[z0, z1, z2] [(0, .int .i64 r), (1, .int .i64 c), (2, .slice A n d)] = some #[.int .i64 r, .int .i64 c, .slice A n d] := by kernel_rfl
end Go.Proofs.YtnmhoeafdengfaaDoor
