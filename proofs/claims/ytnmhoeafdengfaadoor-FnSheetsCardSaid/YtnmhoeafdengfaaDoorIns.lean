/- copy, cap, append of a make that finds no room, slices.overlaps: rules over own blocks; what they do to lists. Plain theorems; no condition. -/
import Derived.Test.YtnmhoeafdengfaaDoorMems
import Derived.Deep.AppendSrc
import Derived.Lib.Overlaps
import Derived.Laws.Externs
namespace Go.Proofs.YtnmhoeafdengfaaDoor
open Go.RowKit
section
variable {P : Program} {cx : Cx} {n : Nat} {hp : List Res} {fr : Fr} {ops : Array Oper} {rest : List Oper} {Q : Exit → Act → World → Prop} {d : Option Tmp} {ty : TypeId} {ps : String} {af : Array Edge} {g : Option (Nat × Bool)}
theorem idx_succ2 {k : Nat} : ((k : Int) + 1) = ((k + 1 : Nat) : Int) := rfl
theorem idx_succ' {k : Nat} : ((k : Int) + ((1 : Nat) : Int)) = ((k + 1 : Nat) : Int) := rfl
theorem Q1.cap {t e : TypeId} {sz bt : Nat} {x : Operand} {A : Option Addr} {m c : Nat} [hT : TSlice P t e sz bt] (h : ev fr x = some (.slice A m c)) :
    Q1 P cx hp fr ⟨d, .call { callee := .builtin .cap, args := #[x], argTypes := #[t] }, ty, ps, af, g⟩ (.int .i64 (c : Int)) := Q1.mk fun n a w hf hs => by
  simp [execOp, resolve, invoke, builtin, Builtin.cap_, hf.ev h, run_underlying hT.under, goInt]
theorem Q1.slice_loB {t e : TypeId} {sz bt : Nat} [hT : TSlice P t e sz bt] {x y : Operand} {b m c : Nat} {k : IntKind} {i : Int} (h1 : ev fr x = some (.slice (some ⟨b, 0, none⟩) m c)) (h2 : ev fr y = some (.int k i)) (j : Nat) (hj : i = (j : Int)) (hc : j ≤ m) (hm : j < c) :
    Q1 P cx hp fr ⟨d, .slice t x (some y) none none, ty, ps, af, g⟩ (.slice (some ⟨b, j * sz, none⟩) (m - j) (c - j)) :=
  (Q1.slice_lo h1 h2 j hj hc).to (by rw [if_neg (by omega)]; simp [Addr.add_lit])
/-- copy over own cells. -/
theorem run_copy_n {t t' e : TypeId} {sz bt : Nat} [hT : TSlice P t e sz bt] [hS : TSize P e sz] {b o dl dc sl sc tot : Nat} {et : TypeId} {ad : Addr} {cs news : List Value} {hp' : List Res} {w : World} (hs : S cx hp w)
    (hr : Repl ⟨b, et, cs, tot⟩ ⟨b, et, setAt cs o news, tot⟩ hp hp') (hrd : Rd cx hp ad news) (hl : news.length = Nat.min sl dl * sz) (ho : o + news.length ≤ cs.length) (hone : ∀ u ∈ news, u.oneCell' = true) :
    ∃ w', (Builtin.copy_ #[t, t'] ty #[.slice (some ⟨b, o, none⟩) dl dc, .slice (some ad) sl sc]).run P w = .ok (goInt (Nat.min sl dl)) w' ∧ S cx hp' w' := by
  obtain ⟨w', hw', hs'⟩ := S.stores (P := P) news b et cs tot o 0 hp hp' w hs hr hone (by simpa using ho)
  have hld := run_loadCells_list (P := P) w ad news (hrd w hs)
  rw [hl] at hld
  refine ⟨w', ?_, hs'⟩
  simp [Builtin.copy_, run_underlying hT.under, Builtin.lenOf, Builtin.firstCells, run_sizeOf (hT := hS), hld, hw']
theorem WL.copy {dd : Tmp} {t t' e : TypeId} {sz bt : Nat} [hT : TSlice P t e sz bt] [hS : TSize P e sz] {x y : Operand} {b o dl dc sl sc tot : Nat} {et : TypeId} {ad : Addr} {cs : List Value} {hp' : List Res} (news : List Value) (hn : Nat.blt dd n = true) (hw : want ops fr g = some true)
    (hx : ev fr x = some (.slice (some ⟨b, o, none⟩) dl dc)) (hy : ev fr y = some (.slice (some ad) sl sc)) (hr : Repl ⟨b, et, cs, tot⟩ ⟨b, et, setAt cs o news, tot⟩ hp hp') (hrd : Rd cx hp ad news) (hl : news.length = Nat.min sl dl * sz)
    (ho : o + news.length ≤ cs.length) (hone : ∀ u ∈ news, u.oneCell' = true) (k : WL P ops Q rest n cx hp' ((dd, goInt (Nat.min sl dl)) :: fr)) :
    WL P ops Q (⟨some dd, .call { callee := .builtin .copy, args := #[x, y], argTypes := #[t, t'] }, ty, ps, af, g⟩ :: rest) n cx hp fr := fun a w hf hs => by
  refine wpList_of (want_spec (o := ⟨some dd, _, ty, ps, af, g⟩) hf hw) ?_
  obtain ⟨w', hw', hs'⟩ := run_copy_n (P := P) (t := t) (t' := t') (ty := ty) (dc := dc) (sc := sc) (hT := hT) (hS := hS) hs hr hrd hl ho hone
  have : (execOp a.eval ⟨some dd, .call { callee := .builtin .copy, args := #[x, y], argTypes := #[t, t'] }, ty, ps, af, g⟩).run P w = .ok (.value (goInt (Nat.min sl dl))) w' := by
    simp [execOp, resolve, invoke, builtin, hf.ev hx, hf.ev hy, hw']
  unfold Oper.wp
  rw [this, Oper.upon_value]
  exact k _ _ (hf.put hn) hs'
/-- A drawn region whose reads are of slots alone. -/
theorem X.held0 {id : Nat} {l : List Oper} (hm : P.follows .mixedOrders = true) (h : WH P l.toArray Q l.length (Array.replicate l.length false) n cx [] hp fr) : X P (.region id l.toArray true) Q n cx hp fr := fun a w hf hs =>
  wp_region_held (S := S cx []) hm (by simpa using h a _ hf hs.drew)
section
variable {fuel i : Nat} {listed : Array Bool} {hp0 : List Res}
theorem WO.copy {dd : Tmp} {t t' e : TypeId} {sz bt : Nat} {x y : Operand} {b o dl dc sl sc tot : Nat} {et : TypeId} {ad : Addr} {cs : List Value} {hp' : List Res} (news : List Value) (hi : ops[i]? = some ⟨some dd, .call { callee := .builtin .copy, args := #[x, y], argTypes := #[t, t'] }, ty, ps, af, g⟩) (hT : TSlice P t e sz bt) (hS : TSize P e sz) (hn : Nat.blt dd n = true) (hw : want ops fr g = some true)
    (hx : ev fr x = some (.slice (some ⟨b, o, none⟩) dl dc)) (hy : ev fr y = some (.slice (some ad) sl sc)) (hr : Repl ⟨b, et, cs, tot⟩ ⟨b, et, setAt cs o news, tot⟩ hp hp') (hrd : Rd cx hp ad news) (hl : news.length = Nat.min sl dl * sz)
    (ho : o + news.length ≤ cs.length) (hone : ∀ u ∈ news, u.oneCell' = true) (hsub : hp0.Sublist hp') (k : WH P ops Q fuel (listed.setIfInBounds i true) n cx hp0 hp' ((dd, goInt (Nat.min sl dl)) :: fr)) : WO P ops Q i fuel listed n cx hp0 hp fr := fun a w hf hs => by
  refine wpOp_of hi (want_spec (o := ⟨some dd, _, ty, ps, af, g⟩) hf hw) ?_
  obtain ⟨w', hw', hs'⟩ := run_copy_n (P := P) (t := t) (t' := t') (ty := ty) (dc := dc) (sc := sc) (hT := hT) (hS := hS) hs hr hrd hl ho hone
  have : (execOp a.eval ⟨some dd, .call { callee := .builtin .copy, args := #[x, y], argTypes := #[t, t'] }, ty, ps, af, g⟩).run P w = .ok (.value (goInt (Nat.min sl dl))) w' := by
    simp [execOp, resolve, invoke, builtin, hf.ev hx, hf.ev hy, hw']
  unfold Oper.wp
  rw [this, Oper.upon_value]
  exact ⟨hs'.sub hsub, k _ _ (hf.put hn) hs'⟩
end
/-- Spare cells of an own block, brought to light. -/
theorem S.expose {b tot : Nat} {t : TypeId} {cs : List Value} {hp1 : List Res} {w : World} (h : S cx hp w) (hr : Rem ⟨b, t, cs, tot⟩ hp hp1) (k : Nat) (hk : cs.length + k ≤ tot) : ∃ sp : List Value, sp.length = k ∧ S cx (⟨b, t, cs ++ sp, tot⟩ :: hp1) w := by
  obtain ⟨sp, h1, h2⟩ := h.on _ hr.mem
  have h2' : cs.length + sp.length = tot := by simpa using h2
  refine ⟨sp.take k, by simp; omega, h.os, h.tape, h.output, h.size, h.block, fun r hr' => ?_, fun r hr' => ?_, List.pairwise_cons.2 ⟨fun s hs e => hr.ne h.nd s hs e.symm, (h.sub hr.sub).nd⟩⟩
  · rcases List.mem_cons.1 hr' with rfl | hr'
    · refine ⟨sp.drop k, ?_, ?_⟩
      · rw [List.append_assoc, List.take_append_drop]; exact h1
      · rw [List.append_assoc, List.take_append_drop]; exact h2
    · exact h.on r (hr.sub.subset hr')
  · rcases List.mem_cons.1 hr' with rfl | hr'
    · exact h.old ⟨b, t, cs, tot⟩ hr.mem
    · exact h.old r (hr.sub.subset hr')
theorem X.expose {b tot : Nat} {t : TypeId} {cs : List Value} {hp1 : List Res} {c : Code} (k : Nat) (hr : Rem ⟨b, t, cs, tot⟩ hp hp1) (hk : cs.length + k ≤ tot) (h : ∀ sp : List Value, sp.length = k → X P c Q n cx (⟨b, t, cs ++ sp, tot⟩ :: hp1) fr) : X P c Q n cx hp fr := fun a w hf hs => by
  obtain ⟨sp, h1, h2⟩ := hs.expose hr k hk
  exact h sp h1 a w hf h2
theorem S.hide {b tot : Nat} {t : TypeId} {cs sp : List Value} {w : World} (h : S cx (⟨b, t, cs ++ sp, tot⟩ :: hp) w) : S cx (⟨b, t, cs, tot⟩ :: hp) w := by
  refine ⟨h.os, h.tape, h.output, h.size, h.block, fun r hr' => ?_, fun r hr' => ?_, List.pairwise_cons.2 ⟨fun s hs e => (List.pairwise_cons.1 h.nd).1 s hs e, (List.pairwise_cons.1 h.nd).2⟩⟩
  · rcases List.mem_cons.1 hr' with rfl | hr'
    · obtain ⟨s2, h1, h2⟩ := h.on _ (.head _)
      exact ⟨sp ++ s2, by rw [← List.append_assoc]; exact h1, by rw [← List.append_assoc]; exact h2⟩
    · exact h.on r (.tail _ hr')
  · rcases List.mem_cons.1 hr' with rfl | hr'
    · exact h.old ⟨b, t, cs ++ sp, tot⟩ (.head _)
    · exact h.old r (.tail _ hr')
/-- append(s[:m], make([]E, k)...) where there is no room: a new block. -/
theorem WL.appendMake {dd : Tmp} {t e ti : TypeId} {sz bt : Nat} {ki : IntKind} {zs : List Value} [hT : TSlice P t e sz bt] [hI : TInt P ti ki] [hZ : TZero P e zs] {s x : Operand} {ad : Addr} {m c m' : Nat} {ik : IntKind} {im : Int} (olds : List Value) (hn : Nat.blt dd n = true) (hw : want ops fr g = some true)
    (hs : ev fr s = some (.slice (some ad) m c)) (hx : ev fr x = some (.int ik im)) (him : im = (m' : Int)) (hrd : Rd cx hp ad olds) (hol : olds.length = m * sz) (hg : c < m + m') (h63 : m + m' ≤ 1048577) (hby : (m + m') * bt ≤ 140737488355328) (hbt : m' * bt ≤ 140737488355328) (hmc : m ≤ c) (hsz : 0 < sz) (hzl : zs.length = sz)
    (k : ∀ b' c'', m + m' ≤ c'' → c'' ≤ maxLen → WL P ops Q rest n cx (⟨b', e, olds ++ (List.replicate m' zs).flatten, c'' * sz⟩ :: hp) ((dd, .slice (some ⟨b', 0, none⟩) (m + m') c'') :: fr)) :
    WL P ops Q (⟨some dd, .call { callee := .builtin .append, args := #[s, x], argTypes := #[t, ti] }, ty, ps, af, g⟩ :: rest) n cx hp fr := fun a w hf hsw => by
  refine wpList_of (want_spec (o := ⟨some dd, _, ty, ps, af, g⟩) hf hw) ?_
  subst him
  have h1 := hZ.zero
  have h3 := hT.info
  cases hi : P.info? e with
  | none => rw [hi] at h1; cases h1
  | some inf =>
    rw [hi] at h1 h3
    obtain ⟨rfl, rfl⟩ : inf.size = sz ∧ inf.bytes = bt := by simpa using h3
    cases hzz : inf.zero with
    | none => simp [hzz] at h1
    | some z =>
      have hzs : z.cells.toList = zs := by simpa [hzz] using h1
      have hzsz : z.cells.size = inf.size := by rw [← hzl, ← hzs]; simp
      have hold := run_firstCells_some (P := P) w.drew inf.size m ad m c olds hol (by simpa using hrd w hsw)
      have hwr : IntKind.i64.wrap (m' : Int) = (m' : Int) := by rw [IntKind.wrap_i64]; omega
      have hn1 : ¬ (m + m' ≤ c) := by omega
      have hcap : Builtin.nextslicecap (m + m') c * inf.bytes ≤ 281474976710656 := by
        have h4 : Builtin.nextslicecap (m + m') c ≤ 2 * (m + m') := nextslicecap_le hg
        have h5 := Nat.mul_le_mul_right inf.bytes h4
        rw [Nat.mul_assoc] at h5
        omega
      have h48 : ¬ ((281474976710656 : Nat) < Builtin.nextslicecap (m + m') c * inf.bytes) := by omega
      have h63' : ¬ (9223372036854775807 < ((m : Int) + (m' : Int))) := by omega
      have hb0 : ¬ ((281474976710656 : Int) < (m' : Int) * (inf.bytes : Int)) := by
        have : ((m' * inf.bytes : Nat) : Int) ≤ 140737488355328 := by omega
        rw [Int.natCast_mul] at this
        omega
      have hm0 : ¬ (m' * inf.size = 0) := by
        have : 0 < m' * inf.size := Nat.mul_pos (by omega) hsz
        omega
      have hzc : Builtin.zeroCells z.cells m' = (List.replicate m' zs).flatten.toArray := by
        apply Array.ext'
        rw [← hzs, ← run_zeros z.cells.toList m']
        simp [Builtin.zeroCells]
      have hrun : (Builtin.append_ #[t, ti] ty #[.slice (some ad) m c, .int ik (m' : Int)]).run P w = .ok (.slice (some ⟨w.heap.size, 0, none⟩) (m + m') (grownCap w (m + m') c e)) (w.drew.alloc (.cells (olds.toArray ++ (List.replicate m' zs).flatten.toArray ++ Builtin.zeroCells z.cells (grownCap w (m + m') c e - (m + m'))) e)) := by
        simp [Builtin.append_, run_underlying hT.under, run_underlying hI.under, sizeOf, typeInfo, zeroValue, hi, hzz, asInt, asIntOf, hwr, hn1, hb0, h48, h63', hm0, Question.forced, hold, newRow, grownCap, hzc, show ¬ ((m' : Int) < 0) by omega]
        refine congrArg (fun x => w.drew.alloc (Obj.cells x e)) ?_
        apply Array.ext'
        simp [List.append_assoc]
      have hge : m + m' ≤ grownCap w (m + m') c e := grownCap_ge w _ _ _
      have hle : grownCap w (m + m') c e ≤ maxLen := grownCap_le_maxLen w (m + m') c e (by unfold maxLen; omega)
      have hS2 : S cx (⟨w.heap.size, e, olds ++ (List.replicate m' zs).flatten, grownCap w (m + m') c e * inf.size⟩ :: hp) (w.drew.alloc (.cells (olds.toArray ++ (List.replicate m' zs).flatten.toArray ++ Builtin.zeroCells z.cells (grownCap w (m + m') c e - (m + m'))) e)) := by
        have hS1 := (hsw.drew).alloc (olds ++ (List.replicate m' zs).flatten ++ (Builtin.zeroCells z.cells (grownCap w (m + m') c e - (m + m'))).toList) e
        have e0 : (olds ++ (List.replicate m' zs).flatten ++ (Builtin.zeroCells z.cells (grownCap w (m + m') c e - (m + m'))).toList).toArray = olds.toArray ++ (List.replicate m' zs).flatten.toArray ++ Builtin.zeroCells z.cells (grownCap w (m + m') c e - (m + m')) := by
          apply Array.ext'; simp
        have e1 : (olds ++ (List.replicate m' zs).flatten ++ (Builtin.zeroCells z.cells (grownCap w (m + m') c e - (m + m'))).toList).length = grownCap w (m + m') c e * inf.size := by
          have hfl : ((List.replicate m' zs).flatten).length = m' * inf.size := by simp [List.length_flatten, hzl]
          have hzl2 : (Builtin.zeroCells z.cells (grownCap w (m + m') c e - (m + m'))).toList.length = (grownCap w (m + m') c e - (m + m')) * inf.size := by simp [Builtin.zeroCells, hzsz]
          rw [List.length_append, List.length_append, hol, hfl, hzl2, ← Nat.add_mul, ← Nat.add_mul]
          congr 1
          omega
        rw [e0, e1] at hS1
        exact hS1.hide
      have : (execOp a.eval ⟨some dd, .call { callee := .builtin .append, args := #[s, x], argTypes := #[t, ti] }, ty, ps, af, g⟩).run P w = .ok (.value (.slice (some ⟨w.heap.size, 0, none⟩) (m + m') (grownCap w (m + m') c e))) (w.drew.alloc (.cells (olds.toArray ++ (List.replicate m' zs).flatten.toArray ++ Builtin.zeroCells z.cells (grownCap w (m + m') c e - (m + m'))) e)) := by
        simp only [execOp, resolve, invoke, builtin, Sem.run_bind, Sem.run_pure, Result.andThen_ok, List.map_toArray, List.map_cons, List.map_nil, hf.ev hs, hf.ev hx, hrun]
      unfold Oper.wp
      rw [this, Oper.upon_value]
      exact k _ _ hge hle _ _ (hf.put hn) hS2
theorem WL.appendMakeT {dd : Tmp} {t e ti : TypeId} {sz bt : Nat} {ki : IntKind} {zs : List Value} [hT : TSlice P t e sz bt] [hI : TInt P ti ki] [hZ : TZero P e zs] {s x : Operand} {ad : Addr} {m c : Nat} {ik : IntKind} {im : Int} (m' m2 : Nat) (olds : List Value) (hn : Nat.blt dd n = true) (hw : want ops fr g = some true)
    (hs : ev fr s = some (.slice (some ad) m c)) (hx : ev fr x = some (.int ik im)) (him : im = (m' : Int)) (hrd : Rd cx hp ad olds) (hol : olds.length = m * sz) (hg : c < m2) (h63 : m2 ≤ 1048577) (hby : m2 * bt ≤ 140737488355328) (hmc : m ≤ c) (hsz : 0 < sz) (hzl : zs.length = sz) (hm2 : m + m' = m2)
    (k : ∀ b' c'', m2 ≤ c'' → c'' ≤ maxLen → WL P ops Q rest n cx (⟨b', e, olds ++ (List.replicate m' zs).flatten, c'' * sz⟩ :: hp) ((dd, .slice (some ⟨b', 0, none⟩) m2 c'') :: fr)) :
    WL P ops Q (⟨some dd, .call { callee := .builtin .append, args := #[s, x], argTypes := #[t, ti] }, ty, ps, af, g⟩ :: rest) n cx hp fr := by
  subst hm2
  refine WL.appendMake olds hn hw hs hx him hrd hol hg h63 hby ?_ hmc hsz hzl k
  have := Nat.mul_le_mul_right bt (show m' ≤ m + m' by omega)
  omega
theorem run_callF {f : FuncId} {xs : List Operand} {ts : Array TypeId} {vs : List Value} {v : Value} (hv : evs fr xs = some vs) (h : ∀ w, S cx hp w → (callFunc f vs.toArray).run P w = .ok (.value v) w) :
    Q1 P cx hp fr ⟨d, .call { callee := .value (.func f), args := xs.toArray, argTypes := ts }, ty, ps, af, g⟩ v := Q1.mk fun n a w hf hs => by
  have h1 := hf.evs hv
  have h2 := h w hs
  simp [execOp, resolve, Deferred.ofValue, Act.eval, invoke, h1, h2]
theorem Res.On.shape {r : Res} {w : World} (h : r.On w) : w.shape? r.b = some (r.t, r.tot) := by
  obtain ⟨sp, h1, h2⟩ := h
  simp only [World.shape?, h1]
  rw [← h2]; simp
theorem Rd.segTake {α : Type} [Enc α] {b tot : Nat} {t : TypeId} {l : List α} (hm : Res.mk b t (flat l) tot ∈ hp) (i : Nat) : Rd cx hp ⟨b, 0, none⟩ (flat (l.take i)) := Rd.own hm fun j u hu => by
  have e : flat l = flat (l.take i) ++ flat (l.drop i) := by rw [← flat_append, List.take_append_drop]
  rw [e, Nat.zero_add, List.getElem?_append_left (List.getElem?_eq_some_iff.1 hu).1]
  exact hu
theorem Rd.segDrop {α : Type} [Enc α] {b tot : Nat} {t : TypeId} {l : List α} (hm : Res.mk b t (flat l) tot ∈ hp) (i : Nat) : Rd cx hp ⟨b, i * Enc.size α, none⟩ (flat (l.drop i)) := Rd.own hm fun j u hu => by
  rw [← flat_drop, List.getElem?_drop] at hu
  exact hu
theorem Rd.segDropS {α : Type} [Enc α] {b tot : Nat} {t : TypeId} {l : List α} {sp : List Value} (hm : Res.mk b t (flat l ++ sp) tot ∈ hp) (i : Nat) : Rd cx hp ⟨b, i * Enc.size α, none⟩ (flat (l.drop i)) := Rd.own hm fun j u hu => by
  rw [← flat_drop, List.getElem?_drop] at hu
  rw [List.getElem?_append_left (List.getElem?_eq_some_iff.1 hu).1]
  exact hu
end
theorem setAt_mid (A B C vs : List Value) (h : B.length = vs.length) : setAt (A ++ B ++ C) A.length vs = A ++ vs ++ C := by
  have h1 := setAt_append_right vs A (B ++ C) 0
  have h2 := setAt_append_left vs B C 0 (by omega)
  have h3 := setAt_whole vs [] B h
  simp only [List.nil_append, List.length_nil] at h3
  rw [Nat.add_zero] at h1
  rw [List.append_assoc, h1, h2, h3, List.append_assoc]
section
variable {α : Type} [Enc α]
theorem flat_parts (l : List α) (i : Nat) : flat l = flat (l.take i) ++ flat (l.drop i) := by rw [← flat_append, List.take_append_drop]
theorem length_flat_take (l : List α) {i : Nat} (hi : i ≤ l.length) : (flat (l.take i)).length = i * Enc.size α := by rw [length_flat, List.length_take, Nat.min_eq_left hi]
theorem length_flat_drop (l : List α) (i : Nat) : (flat (l.drop i)).length = (l.length - i) * Enc.size α := by rw [length_flat, List.length_drop]
theorem ins_flat (l : List α) (x : α) (i : Nat) : flat (l.take i ++ x :: l.drop i) = flat (l.take i) ++ Enc.cells x ++ flat (l.drop i) := by simp [List.append_assoc]
theorem ins_room (l : List α) (x : α) {i : Nat} (hi : i ≤ l.length) {sp : List Value} (hsp : sp.length = Enc.size α) :
    setAt (setAt (flat l ++ sp) ((i + 1) * Enc.size α) (flat (l.drop i))) (i * Enc.size α) (flat [x]) = flat (l.take i ++ x :: l.drop i) := by
  have hA := length_flat_take l hi
  have hD := length_flat_drop l i
  generalize hT : flat (l.drop i) ++ sp = T
  have hTl : T.length = (l.length - i) * Enc.size α + Enc.size α := by rw [← hT, List.length_append, hD, hsp]
  have e1 : flat l ++ sp = (flat (l.take i) ++ T.take (Enc.size α)) ++ T.drop (Enc.size α) ++ [] := by
    rw [List.append_nil, List.append_assoc, List.take_append_drop, ← hT, ← List.append_assoc, ← flat_parts]
  have h1 : (T.take (Enc.size α)).length = Enc.size α := by rw [List.length_take]; omega
  have h2 : (T.drop (Enc.size α)).length = (flat (l.drop i)).length := by rw [List.length_drop, hD]; omega
  have h3 : (flat (l.take i) ++ T.take (Enc.size α)).length = (i + 1) * Enc.size α := by rw [List.length_append, hA, h1, Nat.add_one_mul]
  rw [e1, ← h3, setAt_mid _ _ _ _ h2, ← hA, List.append_nil, setAt_mid _ _ _ _ (by rw [h1]; simp [Enc.len]), ins_flat]
  simp
theorem ins_grow (l : List α) (x : α) {i : Nat} (hi : i ≤ l.length) {Z : List Value} (hZ : Z.length = (l.length + 1 - i) * Enc.size α) :
    setAt (setAt (flat (l.take i) ++ Z) (i * Enc.size α) (flat [x])) ((i + 1) * Enc.size α) (flat (l.drop i)) = flat (l.take i ++ x :: l.drop i) := by
  have hA := length_flat_take l hi
  have hD := length_flat_drop l i
  have hZ2 : Z.length = (l.length - i) * Enc.size α + Enc.size α := by rw [hZ, ← Nat.add_one_mul]; congr 1; omega
  have h1 : (Z.take (Enc.size α)).length = Enc.size α := by rw [List.length_take]; omega
  have hx : (flat [x]).length = Enc.size α := by simp [Enc.len]
  have e1 : flat (l.take i) ++ Z = flat (l.take i) ++ Z.take (Enc.size α) ++ Z.drop (Enc.size α) := by rw [List.append_assoc, List.take_append_drop]
  have h2 : (flat (l.take i) ++ flat [x]).length = (i + 1) * Enc.size α := by rw [List.length_append, hA, hx, Nat.add_one_mul]
  have h3 := setAt_mid (flat (l.take i)) (Z.take (Enc.size α)) (Z.drop (Enc.size α)) (flat [x]) (by rw [h1, hx])
  rw [hA] at h3
  have h4 := setAt_mid (flat (l.take i) ++ flat [x]) (Z.drop (Enc.size α)) [] (flat (l.drop i)) (by rw [List.length_drop, hD]; omega)
  rw [h2, List.append_nil] at h4
  rw [e1, h3, h4, ins_flat]
  simp
end
section
variable {P : Program} {cx : Cx} {n : Nat} {hp : List Res} {fr : Fr} {ops : Array Oper} {Q : Exit → Act → World → Prop} {ty : TypeId} {ps : String} {af : Array Edge} {g : Option (Nat × Bool)}
theorem WO.append {dd : Tmp} {fuel i : Nat} {listed : Array Bool} {hp0 : List Res} {t e : TypeId} {sz bt : Nat} {zs : List Value} {s x : Operand} {b m c m' c' : Nat} {ad : Addr} {cs : List Value} {hp1 : List Res} (news : List Value) (hop : ops[i]? = some ⟨some dd, .call { callee := .builtin .append, args := #[s, x], argTypes := #[t, t] }, ty, ps, af, g⟩) (hT : TSlice P t e sz bt) (hZ : TZero P e zs) (hn : Nat.blt dd n = true) (hw : want ops fr g = some true)
    (hs : ev fr s = some (.slice (some ⟨b, 0, none⟩) m c)) (hx : ev fr x = some (.slice (some ad) m' c')) (hrem : Rem ⟨b, e, cs, c * sz⟩ hp hp1) (hrd : Rd cx hp ad news) (hnl : news.length = m' * sz) (hone : ∀ u ∈ news, u.oneCell' = true)
    (hm : cs.length = m * sz) (hmc : m ≤ c) (hcm : c ≤ maxLen) (h63 : m + m' ≤ maxLen) (hby : (m + m') * bt ≤ 140737488355328) (hsz : 0 < sz) (hzl : zs.length = sz) (hsub : hp0.Sublist hp1)
    (k : ∀ b' c'', m + m' ≤ c'' → c'' ≤ maxLen → WH P ops Q fuel (listed.setIfInBounds i true) n cx hp0 (⟨b', e, cs ++ news, c'' * sz⟩ :: hp1) ((dd, .slice (some ⟨b', 0, none⟩) (m + m') c'') :: fr)) :
    WO P ops Q i fuel listed n cx hp0 hp fr := fun a w hf hsw => by
  refine wpOp_of hop (want_spec (o := ⟨some dd, _, ty, ps, af, g⟩) hf hw) ?_
  have h1 := hZ.zero
  have h3 := hT.info
  cases hi : P.info? e with
  | none => rw [hi] at h1; cases h1
  | some inf =>
    rw [hi] at h1 h3
    obtain ⟨rfl, rfl⟩ : inf.size = sz ∧ inf.bytes = bt := by simpa using h3
    cases hzz : inf.zero with
    | none => simp [hzz] at h1
    | some z =>
      have hzs : z.cells.toList = zs := by simpa [hzz] using h1
      have hzsz : z.cells.size = inf.size := by rw [← hzl, ← hzs]; simp
      have hown := own_res (hsw.on _ hrem.mem) hm hmc hcm
      obtain ⟨v', w', hr, h5, h6, h7, h8⟩ := run_append_own_at (P := P) w 0 t ty e inf z inf.size inf.bytes hT.under hi hzz rfl rfl hzsz hsz _ m cs hown ad m' c' news hnl (hrd w hsw) hone h63 hby (Nat.zero_le _)
      have hne : v' ≠ .slice none 0 0 := fun e => by have := (h7.1 e).1; cases this
      obtain ⟨b', c'', rfl, h9, h10, h11⟩ := res_own h5 hne
      have hsw' : S cx (⟨b', e, cs ++ news, c'' * inf.size⟩ :: hp1) w' := hsw.grown hrem (by simpa [Value.ownBlock] using h6) h11 (by simpa [Value.ownBlock] using h8)
      have : (execOp a.eval ⟨some dd, .call { callee := .builtin .append, args := #[s, x], argTypes := #[t, t] }, ty, ps, af, g⟩).run P w = .ok (.value (.slice (some ⟨b', 0, none⟩) (m + m') c'')) w' := by
        simp [execOp, resolve, invoke, builtin, hf.ev hs, hf.ev hx, hr]
      unfold Oper.wp
      rw [this, Oper.upon_value]
      exact ⟨hsw'.sub (.cons _ hsub), k b' c'' h9 h10 _ _ (hf.put hn) hsw'⟩
theorem WO.lit {dd : Tmp} {fuel i : Nat} {listed : Array Bool} {hp0 : List Res} {t e : TypeId} {sz bt len : Nat} {zs : List Value} {parts : List (Nat × Operand)} {vs : List (Nat × Value)} {cs : List Value} (hop : ops[i]? = some ⟨some dd, .buildSlice t len parts.toArray, ty, ps, af, g⟩) (hT : TSlice P t e sz bt) (hS : TSize P e sz) (hZ : TZero P e zs) (hn : Nat.blt dd n = true) (hw : want ops fr g = some true)
    (hx : evParts fr parts = some vs) (hlen : len * sz ≤ 16777216) (h0 : len * sz ≠ 0) (hc : litCells sz len zs vs = some cs.toArray) (hcl : cs.length = len * sz) (hsub : hp0.Sublist hp)
    (k : ∀ b, WH P ops Q fuel (listed.setIfInBounds i true) n cx hp0 (⟨b, e, cs, len * sz⟩ :: hp) ((dd, .slice (some ⟨b, 0, none⟩) len len) :: fr)) :
    WO P ops Q i fuel listed n cx hp0 hp fr := fun a w hf hs => by
  refine wpOp_of hop (want_spec (o := ⟨some dd, _, ty, ps, af, g⟩) hf hw) ?_
  obtain ⟨z, hz, hrun⟩ := run_zero (hT := hZ) (P := P) w
  have hp1 := hf.evParts hx
  have hz' : z.cells = zs.toArray := by rw [← hz]
  have : (execOp a.eval ⟨some dd, .buildSlice t len parts.toArray, ty, ps, af, g⟩).run P w = .ok (.value (.slice (some ⟨w.heap.size, 0, none⟩) len len)) (w.alloc (.cells cs.toArray e)) := by
    unfold litCells at hc
    simp at hc
    simp [execOp, Instr.buildSlice, run_underlying hT.under, run_sizeOf (hT := hS), Nat.not_lt.2 hlen, h0, hrun, hz', hp1, hc, newRow]
  unfold Oper.wp
  rw [this, Oper.upon_value]
  have h9 := hs.alloc cs e
  rw [hcl] at h9
  exact ⟨h9.sub (.cons _ hsub), k _ _ _ (hf.put hn) h9⟩
theorem WO.lit0 {dd : Tmp} {fuel i : Nat} {listed : Array Bool} {hp0 : List Res} {t e : TypeId} {sz bt : Nat} (hop : ops[i]? = some ⟨some dd, .buildSlice t 0 #[], ty, ps, af, g⟩) (hT : TSlice P t e sz bt) (hS : TSize P e sz) (hn : Nat.blt dd n = true) (hw : want ops fr g = some true) (hsub : hp0.Sublist hp)
    (k : ∀ b, WH P ops Q fuel (listed.setIfInBounds i true) n cx hp0 (⟨b, e, [], 0 * sz⟩ :: hp) ((dd, .slice (some ⟨b, 0, none⟩) 0 0) :: fr)) :
    WO P ops Q i fuel listed n cx hp0 hp fr := fun a w hf hs => by
  refine wpOp_of hop (want_spec (o := ⟨some dd, _, ty, ps, af, g⟩) hf hw) ?_
  have : (execOp a.eval ⟨some dd, .buildSlice t 0 #[], ty, ps, af, g⟩).run P w = .ok (.value (.slice (some ⟨w.heap.size, 0, none⟩) 0 0)) (w.alloc (.cells ([] : List Value).toArray e)) := by
    simp [execOp, Instr.buildSlice, run_underlying hT.under, run_sizeOf (hT := hS), Instr.fill, newRow, Array.range_zero']
  unfold Oper.wp
  rw [this, Oper.upon_value]
  have h9 : S cx (⟨w.heap.size, e, [], 0 * sz⟩ :: hp) (w.alloc (.cells ([] : List Value).toArray e)) := by simpa using hs.alloc [] e
  exact ⟨h9.sub (.cons _ hsub), k _ _ _ (hf.put hn) h9⟩
/-- .. the sum spelled as wanted. -/
theorem WO.appendT {dd : Tmp} {fuel i : Nat} {listed : Array Bool} {hp0 : List Res} {t e : TypeId} {sz bt : Nat} {zs : List Value} {s x : Operand} {b m c m' c' : Nat} {ad : Addr} {cs : List Value} {hp1 : List Res} (news cs' : List Value) (m2 : Nat) (hop : ops[i]? = some ⟨some dd, .call { callee := .builtin .append, args := #[s, x], argTypes := #[t, t] }, ty, ps, af, g⟩) (hT : TSlice P t e sz bt) (hZ : TZero P e zs) (hn : Nat.blt dd n = true) (hw : want ops fr g = some true)
    (hs : ev fr s = some (.slice (some ⟨b, 0, none⟩) m c)) (hx : ev fr x = some (.slice (some ad) m' c')) (hrem : Rem ⟨b, e, cs, c * sz⟩ hp hp1) (hrd : Rd cx hp ad news) (hnl : news.length = m' * sz) (hone : ∀ u ∈ news, u.oneCell' = true)
    (hm : cs.length = m * sz) (hmc : m ≤ c) (hcm : c ≤ maxLen) (h63 : m + m' ≤ maxLen) (hby : (m + m') * bt ≤ 140737488355328) (hsz : 0 < sz) (hzl : zs.length = sz) (hsub : hp0.Sublist hp1) (hcs : cs ++ news = cs') (hm2 : m + m' = m2)
    (k : ∀ b' c'', m2 ≤ c'' → c'' ≤ maxLen → WH P ops Q fuel (listed.setIfInBounds i true) n cx hp0 (⟨b', e, cs', c'' * sz⟩ :: hp1) ((dd, .slice (some ⟨b', 0, none⟩) m2 c'') :: fr)) :
    WO P ops Q i fuel listed n cx hp0 hp fr := by
  subst hcs hm2
  exact WO.append news hop hT hZ hn hw hs hx hrem hrd hnl hone hm hmc hcm h63 hby hsz hzl hsub k
theorem WL.appendT {rest : List Oper} {dd : Tmp} {t e : TypeId} {sz bt : Nat} {zs : List Value} [hT : TSlice P t e sz bt] [hZ : TZero P e zs] {s x : Operand} {b m c m' c' : Nat} {ad : Addr} {cs : List Value} {hp1 : List Res} (news cs' : List Value) (m2 : Nat) (hn : Nat.blt dd n = true) (hw : want ops fr g = some true)
    (hs : ev fr s = some (.slice (some ⟨b, 0, none⟩) m c)) (hx : ev fr x = some (.slice (some ad) m' c')) (hrem : Rem ⟨b, e, cs, c * sz⟩ hp hp1) (hrd : Rd cx hp ad news) (hnl : news.length = m' * sz) (hone : ∀ u ∈ news, u.oneCell' = true)
    (hm : cs.length = m * sz) (hmc : m ≤ c) (hcm : c ≤ maxLen) (h63 : m + m' ≤ maxLen) (hby : (m + m') * bt ≤ 140737488355328) (hsz : 0 < sz) (hzl : zs.length = sz) (hcs : cs ++ news = cs') (hm2 : m + m' = m2)
    (k : ∀ b' c'', m2 ≤ c'' → c'' ≤ maxLen → WL P ops Q rest n cx (⟨b', e, cs', c'' * sz⟩ :: hp1) ((dd, .slice (some ⟨b', 0, none⟩) m2 c'') :: fr)) :
    WL P ops Q (⟨some dd, .call { callee := .builtin .append, args := #[s, x], argTypes := #[t, t] }, ty, ps, af, g⟩ :: rest) n cx hp fr := by
  subst hcs hm2
  exact WL.append news hn hw hs hx hrem hrd hnl hone hm hmc hcm h63 hby hsz hzl k
end
/-! ### Whole slices -/
section
variable {α : Type} [Enc α]
theorem flat_split : ∀ {l : List α} {j : Nat} {u : Value}, (flat l)[j]? = some u → ∃ i, ∃ hi : i < l.length, ∃ k, j = i * Enc.size α + k ∧ (Enc.cells l[i])[k]? = some u
  | [], j, u, h => by simp at h
  | a :: l, j, u, h => by
    rw [flat_cons] at h
    by_cases hj : j < (Enc.cells a).length
    · rw [List.getElem?_append_left hj] at h
      exact ⟨0, by simp, j, by simp, by simpa using h⟩
    · rw [List.getElem?_append_right (by omega), Enc.len] at h
      obtain ⟨i, hi, k, e, hk⟩ := flat_split h
      refine ⟨i + 1, by simpa using hi, k, ?_, by simpa using hk⟩
      rw [Enc.len] at hj
      rw [Nat.add_one_mul]; omega
theorem SlR.rd {cx : Cx} {hp : List Res} {ad : Addr} {l : List α} (h : SlR cx hp (some ad) l) : Rd cx hp ad (flat l) := fun w hs j u hu => by
  obtain ⟨i, hi, k, rfl, hk⟩ := flat_split hu
  exact (h w hs i hi k u hk).2
def cutS (ad : Addr) (c k sz : Nat) : Addr := if c = k then ad else ad.add (k * sz)
theorem cutS_some (ad : Addr) (c k sz : Nat) : (if c = k then some ad else (some ad).map (·.add (k * sz))) = some (cutS ad c k sz) := by unfold cutS; split <;> rfl
theorem SlB.cutS {w : World} {ad : Addr} {l : List α} (h : SlB w (some ad) l) {k c : Nat} (hk : k ≤ l.length) (hc : l.length ≤ c) : SlB w (some (cutS ad c k (Enc.size α))) (l.drop k) := by
  have := h.cut hk hc
  unfold cutA at this
  rwa [cutS_some] at this
end
theorem Q1.slice_loS {P : Program} {cx : Cx} {hp : List Res} {fr : Fr} {d : Option Tmp} {ty : TypeId} {ps : String} {af : Array Edge} {g : Option (Nat × Bool)} {t e : TypeId} {sz bt : Nat} [hT : TSlice P t e sz bt] {x y : Operand} {ad : Addr} {m c : Nat} {k : IntKind} {i : Int} (h1 : ev fr x = some (.slice (some ad) m c)) (h2 : ev fr y = some (.int k i)) (j : Nat) (hj : i = (j : Int)) (hc : j ≤ m) :
    Q1 P cx hp fr ⟨d, .slice t x (some y) none none, ty, ps, af, g⟩ (.slice (some (cutS ad c j sz)) (m - j) (c - j)) :=
  (Q1.slice_lo h1 h2 j hj hc).to (by rw [cutS_some])
end Go.Proofs.YtnmhoeafdengfaaDoor
