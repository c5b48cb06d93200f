/- A small program logic over the guide's 'Code.wp': frames as lists of known slots, own memory as a list of blocks, the world hidden. Plain theorems; no condition. -/
import Derived.WalkKit
import Derived.WalkSpells
import Derived.Deep.Quiet
import Derived.KernelRfl
import Derived.OrdersHeld
namespace Go.Proofs.YtnmhoeafdengfaaDoor
open Go.RowKit

/-! ### Frames -/
abbrev Fr := List (Nat × Value)
def look : Fr → Nat → Option Value
  | [], _ => none
  | (j, v) :: r, i => bif Nat.beq j i then some v else look r i
structure FrOn (n : Nat) (fr : Fr) (a : Act) : Prop where
  size : a.tmps.size = n
  defers : a.defers = []
  on : ∀ i v, look fr i = some v → a.tmps[i]? = some v
theorem look_cons (j i : Nat) (v : Value) (r : Fr) : look ((j, v) :: r) i = if j = i then some v else look r i := by
  show (bif Nat.beq j i then some v else look r i) = _
  by_cases h : j = i
  · subst h; simp
  · have : Nat.beq j i = false := by
      cases hb : Nat.beq j i with
      | false => rfl
      | true => exact absurd (Nat.eq_of_beq_eq_true hb) h
    rw [this, if_neg h]; rfl
theorem FrOn.put {n : Nat} {fr : Fr} {a : Act} {d : Nat} {v : Value} (h : FrOn n fr a) (hd : Nat.blt d n = true) : FrOn n ((d, v) :: fr) (a.put (some d) v) := by
  have hd' : d < n := by simpa [Nat.blt_eq] using hd
  refine ⟨by simp [Act.put, h.size], by simp [Act.put, h.defers], fun i u hu => ?_⟩
  rw [look_cons] at hu
  by_cases hi : d = i
  · subst hi
    rw [if_pos rfl] at hu
    have hs := h.size
    simp [Act.put, hs, hd', Option.some.inj hu]
  · rw [if_neg hi] at hu
    have := h.on i u hu
    simp [Act.put, hi, this]
theorem FrOn.learn {n : Nat} {fr : Fr} {a : Act} {d : Nat} {v : Value} (h : FrOn n fr a) (hd : a.tmps[d]? = some v) : FrOn n ((d, v) :: fr) a := by
  refine ⟨h.size, h.defers, fun i u hu => ?_⟩
  rw [look_cons] at hu
  by_cases hi : d = i
  · subst hi; rw [if_pos rfl] at hu; rw [hd, hu]
  · rw [if_neg hi] at hu; exact h.on i u hu
/-- 'fr'' says no more than 'fr'. -/
def Sub (fr' fr : Fr) : Prop := ∀ i v, look fr' i = some v → look fr i = some v
theorem Sub.nil {fr : Fr} : Sub [] fr := fun _ _ h => by cases h
theorem Sub.cons {fr' fr : Fr} {j : Nat} {v u : Value} (h : look fr j = some u) (e : u = v) (hs : Sub fr' fr) : Sub ((j, v) :: fr') fr := by
  intro i x hx
  rw [look_cons] at hx
  by_cases hi : j = i
  · subst hi; rw [if_pos rfl] at hx; rw [h, e, hx]
  · rw [if_neg hi] at hx; exact hs i x hx
theorem Sub.refl {fr : Fr} : Sub fr fr := fun _ _ h => h
theorem FrOn.sub {n : Nat} {fr fr' : Fr} {a : Act} (h : FrOn n fr a) (hs : Sub fr' fr) : FrOn n fr' a := ⟨h.size, h.defers, fun i v hv => h.on i v (hs i v hv)⟩
def ev (fr : Fr) : Operand → Option Value
  | .tmp t => look fr t
  | .const v => some v
  | .func f => some (.func (.func f) #[] #[])
  | .global g => some (.pointer (some ⟨g, 0, none⟩))
theorem FrOn.ev {n : Nat} {fr : Fr} {a : Act} {x : Operand} {v : Value} (h : FrOn n fr a) (hx : ev fr x = some v) : a.eval x = v := by
  cases x with
  | tmp t =>
    have := h.on t v hx
    simp [Act.eval, Array.getD_eq_getD_getElem?, this]
  | const u => exact Option.some.inj hx
  | global g => exact Option.some.inj hx
  | func f => exact Option.some.inj hx
def evs (fr : Fr) : List Operand → Option (List Value)
  | [] => some []
  | x :: r => match ev fr x with
    | some v => match evs fr r with
      | some vs => some (v :: vs)
      | none => none
    | none => none
theorem FrOn.evs {n : Nat} {fr : Fr} {a : Act} (h : FrOn n fr a) : ∀ {xs : List Operand} {vs : List Value}, evs fr xs = some vs → xs.map a.eval = vs
  | [], vs, hx => Option.some.inj hx
  | x :: r, vs, hx => by
    unfold Go.Proofs.YtnmhoeafdengfaaDoor.evs at hx
    cases h1 : Go.Proofs.YtnmhoeafdengfaaDoor.ev fr x with
    | none => rw [h1] at hx; cases hx
    | some v =>
      cases h2 : Go.Proofs.YtnmhoeafdengfaaDoor.evs fr r with
      | none => rw [h1, h2] at hx; cases hx
      | some us =>
        rw [h1, h2] at hx
        rw [← Option.some.inj hx, List.map_cons, h.ev h1, FrOn.evs h h2]
def argFr : List Value → Nat → Fr
  | [], _ => []
  | v :: r, i => (i, v) :: argFr r (i + 1)
theorem look_argFr : ∀ (vs : List Value) (k i : Nat) (v : Value), look (argFr vs k) i = some v → k ≤ i ∧ vs[i - k]? = some v
  | [], _, _, _, h => by cases h
  | u :: r, k, i, v, h => by
    unfold argFr at h
    rw [look_cons] at h
    by_cases hi : k = i
    · subst hi; rw [if_pos rfl] at h; simpa using h
    · rw [if_neg hi] at h
      obtain ⟨h1, h2⟩ := look_argFr r (k + 1) i v h
      refine ⟨by omega, ?_⟩
      rw [show i - k = (i - (k + 1)) + 1 by omega]
      simpa using h2

/-! ### Own memory -/
structure Res where
  b : Nat
  t : TypeId
  cs : List Value
  tot : Nat
def Res.On (r : Res) (w : World) : Prop := ∃ sp : List Value, w.heap[r.b]? = some (.cells (r.cs ++ sp).toArray r.t (0, 0)) ∧ (r.cs ++ sp).length = r.tot
structure Cx where
  w0 : World
  wr : List Nat
structure S (cx : Cx) (hp : List Res) (w : World) : Prop where
  os : w.os = cx.w0.os
  tape : w.tape = cx.w0.tape
  output : w.output = cx.w0.output
  size : cx.w0.heap.size ≤ w.heap.size
  block : ∀ k, k < cx.w0.heap.size → k ∉ cx.wr → w.heap[k]? = cx.w0.heap[k]?
  on : ∀ r ∈ hp, r.On w
  old : ∀ r ∈ hp, r.b ∈ cx.wr ∨ cx.w0.heap.size ≤ r.b
  nd : hp.Pairwise (fun r s => r.b ≠ s.b)
theorem Res.On.lt {r : Res} {w : World} (h : r.On w) : r.b < w.heap.size := by
  obtain ⟨sp, h, _⟩ := h
  exact (Array.getElem?_eq_some_iff.1 h).1
theorem Res.On.cell {r : Res} {w : World} (h : r.On w) {i : Nat} {v : Value} (hi : r.cs[i]? = some v) : w.cell? ⟨r.b, i, none⟩ = some v := by
  obtain ⟨sp, h, _⟩ := h
  have hl : i < r.cs.length := (List.getElem?_eq_some_iff.1 hi).1
  rw [cell_of_row w r.b i _ r.t (0, 0) h]
  simp [List.getElem?_append_left hl, hi]
theorem Res.On.frozen {r : Res} {w : World} (h : r.On w) (i : Nat) : w.frozen? ⟨r.b, i, none⟩ = false := by
  obtain ⟨sp, h, _⟩ := h
  simp [World.frozen?, h]
theorem Res.On.same {r : Res} {w w' : World} (h : r.On w) (e : w'.heap[r.b]? = w.heap[r.b]?) : r.On w' := by
  obtain ⟨sp, h, hl⟩ := h
  exact ⟨sp, e.trans h, hl⟩
theorem S.init (w : World) (wr : List Nat) : S ⟨w, wr⟩ [] w := ⟨rfl, rfl, rfl, Nat.le_refl _, fun _ _ _ => rfl, (fun _ h => by cases h), (fun _ h => by cases h), List.Pairwise.nil⟩
theorem S.drew {cx : Cx} {hp : List Res} {w : World} (h : S cx hp w) : S cx hp { w with drawn := w.drawn + 1 } := ⟨h.os, h.tape, h.output, h.size, h.block, h.on, h.old, h.nd⟩
theorem S.sub {cx : Cx} {hp hp' : List Res} {w : World} (h : S cx hp w) (hs : hp'.Sublist hp) : S cx hp' w :=
  ⟨h.os, h.tape, h.output, h.size, h.block, fun r hr => h.on r (hs.subset hr), fun r hr => h.old r (hs.subset hr), h.nd.sublist hs⟩
/-- A step that keeps the blocks that were there. -/
theorem S.step {cx : Cx} {hp hp' : List Res} {w w' : World} (h : S cx hp w) (h1 : S ⟨w, []⟩ hp' w') : S cx (hp' ++ hp) w' := by
  have kb : ∀ k, k < w.heap.size → w'.heap[k]? = w.heap[k]? := fun k hk => h1.block k hk (by simp)
  refine ⟨h1.os.trans h.os, h1.tape.trans h.tape, h1.output.trans h.output, Nat.le_trans h.size h1.size, fun k hk hw => (kb k (Nat.lt_of_lt_of_le hk h.size)).trans (h.block k hk hw), ?_, ?_, ?_⟩
  · intro r hr
    rcases List.mem_append.1 hr with hr | hr
    · exact h1.on r hr
    · exact (h.on r hr).same (kb _ (h.on r hr).lt)
  · intro r hr
    rcases List.mem_append.1 hr with hr | hr
    · rcases h1.old r hr with h2 | h2
      · cases h2
      · exact .inr (Nat.le_trans h.size h2)
    · exact h.old r hr
  · refine List.pairwise_append.2 ⟨h1.nd, h.nd, fun r hr s hs e => ?_⟩
    have h2 := (h.on s hs).lt
    rcases h1.old r hr with h3 | h3
    · cases h3
    · have : w.heap.size ≤ r.b := h3
      omega
theorem S.alloc {cx : Cx} {hp : List Res} {w : World} (h : S cx hp w) (cs : List Value) (t : TypeId) : S cx (⟨w.heap.size, t, cs, cs.length⟩ :: hp) (w.alloc (.cells cs.toArray t)) := by
  have h1 : S ⟨w, []⟩ [⟨w.heap.size, t, cs, cs.length⟩] (w.alloc (.cells cs.toArray t)) := by
    refine ⟨rfl, rfl, rfl, by simp, fun k hk _ => Below.heap_alloc w _ k hk, fun r hr => ?_, fun r hr => ?_, by simp⟩
    · rw [List.mem_singleton.1 hr]
      refine ⟨[], ?_, by simp⟩
      have := heap_alloc_new w (.cells cs.toArray t)
      simpa using this
    · rw [List.mem_singleton.1 hr]
      exact .inr (Nat.le_refl _)
  simpa using h.step h1
/-- One block of the list turned. -/
inductive Repl (r r' : Res) : List Res → List Res → Prop
  | head {l : List Res} : Repl r r' (r :: l) (r' :: l)
  | tail {x : Res} {l l' : List Res} : Repl r r' l l' → Repl r r' (x :: l) (x :: l')
theorem Repl.mem {r r' : Res} {hp hp' : List Res} (h : Repl r r' hp hp') : r ∈ hp := by
  induction h with
  | head => exact .head _
  | tail _ ih => exact .tail _ ih
theorem Repl.spec {r r' : Res} {hp hp' : List Res} (h : Repl r r' hp hp') (hb : r'.b = r.b) (nd : hp.Pairwise (fun r s => r.b ≠ s.b)) :
    (∀ s ∈ hp', s = r' ∨ (s ∈ hp ∧ s.b ≠ r.b)) ∧ hp'.Pairwise (fun r s => r.b ≠ s.b) := by
  induction h with
  | @head l =>
    rw [List.pairwise_cons] at nd
    refine ⟨fun s hs => ?_, List.pairwise_cons.2 ⟨fun s hs => by rw [hb]; exact nd.1 s hs, nd.2⟩⟩
    rcases List.mem_cons.1 hs with rfl | hs
    · exact .inl rfl
    · exact .inr ⟨.tail _ hs, fun e => nd.1 s hs e.symm⟩
  | @tail x l l' hh ih =>
    rw [List.pairwise_cons] at nd
    obtain ⟨i1, i2⟩ := ih nd.2
    have hx : x.b ≠ r.b := nd.1 r hh.mem
    refine ⟨fun s hs => ?_, List.pairwise_cons.2 ⟨fun s hs => ?_, i2⟩⟩
    · rcases List.mem_cons.1 hs with rfl | hs
      · exact .inr ⟨.head _, hx⟩
      · rcases i1 s hs with e | ⟨h1, h2⟩
        · exact .inl e
        · exact .inr ⟨.tail _ h1, h2⟩
    · rcases i1 s hs with rfl | ⟨h1, _⟩
      · rw [hb]; exact hx
      · exact nd.1 s h1
/-- A world that differs in block 'r.b' alone, which holds 'r'' now. -/
theorem S.repl {cx : Cx} {hp hp' : List Res} {r r' : Res} {w w' : World} (h : S cx hp w) (hr : Repl r r' hp hp') (hb : r'.b = r.b) (ho : w'.os = w.os) (ht : w'.tape = w.tape) (hu : w'.output = w.output)
    (hs : w'.heap.size = w.heap.size) (hk : ∀ k, k ≠ r.b → w'.heap[k]? = w.heap[k]?) (hon : r'.On w') : S cx hp' w' := by
  obtain ⟨h1, h2⟩ := hr.spec hb h.nd
  refine ⟨ho.trans h.os, ht.trans h.tape, hu.trans h.output, by rw [hs]; exact h.size, fun k hk1 hk2 => ?_, fun s hs' => ?_, fun s hs' => ?_, h2⟩
  · rw [hk k (fun e => ?_)]
    · exact h.block k hk1 hk2
    · subst e
      rcases h.old r hr.mem with h3 | h3
      · exact hk2 h3
      · omega
  · rcases h1 s hs' with rfl | ⟨h3, h4⟩
    · exact hon
    · exact (h.on s h3).same (hk _ h4)
  · rcases h1 s hs' with rfl | ⟨h3, h4⟩
    · rw [hb]; exact h.old r hr.mem
    · exact h.old s h3
theorem Res.On.set {r : Res} {w : World} (h : r.On w) {i : Nat} (hi : i < r.cs.length) (v : Value) : Res.On ⟨r.b, r.t, r.cs.set i v, r.tot⟩ (w.setCell ⟨r.b, i, none⟩ v) := by
  obtain ⟨sp, h, hl⟩ := h
  refine ⟨sp, ?_, by simpa using hl⟩
  simp [World.setCell, Array.getElem?_modify, h, List.set_append_left _ _ hi]
theorem S.set {cx : Cx} {hp hp' : List Res} {b : Nat} {t : TypeId} {cs : List Value} {tot i : Nat} {v : Value} {w : World} (h : S cx hp w) (hr : Repl ⟨b, t, cs, tot⟩ ⟨b, t, cs.set i v, tot⟩ hp hp') (hi : i < cs.length) :
    S cx hp' (w.setCell ⟨b, i, none⟩ v) :=
  h.repl hr rfl rfl rfl rfl (by simp) (fun k hk => Below.heap_setCell _ _ _ _ hk) ((h.on _ hr.mem).set hi v)

/-! ### Endings -/
/-- What a call that writes at most the old blocks 'wr' leaves. -/
def RetP (w : World) (wr : List Nat) (R : Value → List Res → Prop) (e : Ending) (w' : World) : Prop := ∃ v hp, e = .returned v ∧ R v hp ∧ S ⟨w, wr⟩ hp w'
/-- It hands back just this value, and keeps all that was there. -/
def Ret (w : World) (v : Value) (e : Ending) (w' : World) : Prop := e = .returned v ∧ S ⟨w, []⟩ [] w'
theorem Ret.mk {w w' : World} {hp : List Res} {u v : Value} (e : v = u) (hs : S ⟨w, []⟩ hp w') : Ret w u (.returned v) w' := ⟨by rw [e], hs.sub (List.nil_sublist _)⟩
theorem RetP.mk {w w' : World} {wr : List Nat} {R : Value → List Res → Prop} {hp hp' : List Res} {v : Value} (hR : R v hp') (hs : S ⟨w, wr⟩ hp w') (hh : hp'.Sublist hp) : RetP w wr R (.returned v) w' := ⟨v, hp', rfl, hR, hs.sub hh⟩
theorem ret_of {w : World} {v : Value} {e : Ending} {w' : World} (h : RetP w [] (fun u hp => u = v ∧ hp = []) e w') : Ret w v e w' := by
  obtain ⟨u, hp, he, ⟨rfl, rfl⟩, hs⟩ := h
  exact ⟨he, hs⟩

/-! ### The judgements -/
section
variable {P : Program} {cx : Cx} {n : Nat} {hp : List Res} {fr : Fr} {ops : Array Oper} {rest : List Oper} {o : Oper} {Q : Exit → Act → World → Prop}
def X (P : Program) (c : Code) (Q : Exit → Act → World → Prop) (n : Nat) (cx : Cx) (hp : List Res) (fr : Fr) : Prop := ∀ a w, FrOn n fr a → S cx hp w → c.wp P Q a w
def At (Q : Exit → Act → World → Prop) (e : Exit) (n : Nat) (cx : Cx) (hp : List Res) (fr : Fr) : Prop := ∀ a w, FrOn n fr a → S cx hp w → Q e a w
def WL (P : Program) (ops : Array Oper) (Q : Exit → Act → World → Prop) (l : List Oper) (n : Nat) (cx : Cx) (hp : List Res) (fr : Fr) : Prop := ∀ a w, FrOn n fr a → S cx hp w → wpList P ops Q l a w
def KQ (Q : Exit → Act → World → Prop) (cx : Cx) (hp : List Res) (a : Act) : Prop := ∀ w, S cx hp w → Q .normal a w
def WQ (P : Program) (ops : Array Oper) (Q : Exit → Act → World → Prop) (l : List Oper) (n : Nat) (cx : Cx) (hp : List Res) (fr : Fr) : Prop := ∀ a, FrOn n fr a → wpQuiet P ops (S cx hp) (KQ Q cx hp) l a
/-- One operation that only reads: the value that it yields. -/
def Q1 (P : Program) (cx : Cx) (hp : List Res) (fr : Fr) (o : Oper) (v : Value) : Prop := ∀ n a w, FrOn n fr a → S cx hp w → (execOp a.eval o).run P w = .ok (.value v) w
/-- .. or a call that keeps all. -/
def QC (P : Program) (cx : Cx) (hp : List Res) (fr : Fr) (o : Oper) (v : Value) : Prop := ∀ n a w, FrOn n fr a → S cx hp w → Oper.quietAt P o a (S cx hp) w v
theorem QC.v {o : Oper} {v : Value} (h : Q1 P cx hp fr o v) : QC P cx hp fr o v := fun n a w hf hs => by
  unfold Oper.quietAt
  rw [h n a w hf hs]
  exact ⟨rfl, rfl⟩
/-- Is the operation wanted? -/
def want (ops : Array Oper) (fr : Fr) : Option (Nat × Bool) → Option Bool
  | none => some true
  | some (j, b) => match (ops[j]?).bind (·.dst) with
    | some t => match look fr t with
      | some (.bool c) => some (c == b)
      | some _ => some false
      | none => none
    | none => none
theorem want_spec {a : Act} {b : Bool} (hf : FrOn n fr a) (h : want ops fr o.guard = some b) : Region.wanted o (yielded ops a.tmps) = b := by
  unfold Region.wanted
  generalize o.guard = g at *
  cases g with
  | none => exact Option.some.inj h
  | some p =>
    obtain ⟨j, c⟩ := p
    simp only [want] at h
    split at h
    · rename_i t ht
      split at h
      · rename_i d hd
        have := hf.on t _ hd
        simp only [yielded, ht, Option.bind_some, this, ← Option.some.inj h]
        cases d <;> cases c <;> rfl
      · rename_i u hu hd
        have := hf.on t _ hd
        simp only [yielded, ht, Option.bind_some, this, ← Option.some.inj h]
        split
        · rename_i heq; simp only [Option.some.injEq] at heq; subst heq; exact absurd rfl (hu _)
        · rfl
      · cases h
    · cases h

/-! ### Regions -/
theorem WL.nil (h : At Q .normal n cx hp fr) : WL P ops Q [] n cx hp fr := fun a w hf hs => wpList_nil (h a w hf hs)
theorem WQ.nil (h : At Q .normal n cx hp fr) : WQ P ops Q [] n cx hp fr := fun a hf => wpQuiet_nil fun w hs => h a w hf hs
theorem WL.sub {fr' : Fr} {l : List Oper} (h : WL P ops Q l n cx hp fr') (hs : Sub fr' fr) : WL P ops Q l n cx hp fr := fun a w hf => h a w (hf.sub hs)
theorem WQ.sub {fr' : Fr} {l : List Oper} (h : WQ P ops Q l n cx hp fr') (hs : Sub fr' fr) : WQ P ops Q l n cx hp fr := fun a hf => h a (hf.sub hs)
theorem At.sub {e : Exit} {fr' : Fr} {hp' : List Res} (h : At Q e n cx hp' fr') (hs : Sub fr' fr) (hh : hp'.Sublist hp) : At Q e n cx hp fr := fun a w hf hw => h a w (hf.sub hs) (hw.sub hh)
theorem X.sub {c : Code} {fr' : Fr} {hp' : List Res} (h : X P c Q n cx hp' fr') (hs : Sub fr' fr) (hh : hp'.Sublist hp) : X P c Q n cx hp fr := fun a w hf hw => h a w (hf.sub hs) (hw.sub hh)
theorem WL.skip {d : Nat} (hd : o.dst = some d) (hn : Nat.blt d n = true) (hw : want ops fr o.guard = some false) (h : WL P ops Q rest n cx hp ((d, undef) :: fr)) : WL P ops Q (o :: rest) n cx hp fr := fun a w hf hs => by
  have h1 : Region.wanted o (yielded ops a.tmps) = false := want_spec hf hw
  unfold wpList
  rw [if_neg (by rw [h1]; simp), hd]
  exact h _ _ (hf.put hn) hs
theorem WQ.skip {d : Nat} (hd : o.dst = some d) (hn : Nat.blt d n = true) (hw : want ops fr o.guard = some false) (h : WQ P ops Q rest n cx hp ((d, undef) :: fr)) : WQ P ops Q (o :: rest) n cx hp fr := fun a hf => by
  have h1 : Region.wanted o (yielded ops a.tmps) = false := want_spec hf hw
  unfold wpQuiet
  rw [if_neg (by rw [h1]; simp), hd]
  exact h _ (hf.put hn)
theorem WQ.q {d : Nat} {v : Value} (hd : o.dst = some d) (hn : Nat.blt d n = true) (hw : want ops fr o.guard = some true) (hq : QC P cx hp fr o v) (h : WQ P ops Q rest n cx hp ((d, v) :: fr)) : WQ P ops Q (o :: rest) n cx hp fr := fun a hf => by
  have h1 : Region.wanted o (yielded ops a.tmps) = true := want_spec hf hw
  unfold wpQuiet
  rw [if_pos h1]
  refine ⟨v, fun w hs => hq n a w hf hs, ?_⟩
  rw [hd]
  exact h _ (hf.put hn)
theorem WL.q {d : Nat} {v : Value} (hd : o.dst = some d) (hn : Nat.blt d n = true) (hw : want ops fr o.guard = some true) (hq : QC P cx hp fr o v) (h : WL P ops Q rest n cx hp ((d, v) :: fr)) : WL P ops Q (o :: rest) n cx hp fr := fun a w hf hs => by
  have h1 : Region.wanted o (yielded ops a.tmps) = true := want_spec hf hw
  unfold wpList
  rw [if_pos h1]
  refine .inl (Oper.wp_of_quiet (K := fun a' => FrOn n ((d, v) :: fr) a') (C := S cx hp) hs (fun a' w' hs' hf' => h a' w' hf' hs') ⟨v, fun w' hs' => hq n a w' hf hs', ?_⟩)
  rw [hd]
  exact hf.put hn
/-- A Bool in a slot, parted. -/
theorem WL.part {l : List Oper} (s : Nat) {e : Bool} (hl : look fr s = some (.bool e)) (ht : e = true → WL P ops Q l n cx hp ((s, .bool true) :: fr)) (hf : e = false → WL P ops Q l n cx hp ((s, .bool false) :: fr)) : WL P ops Q l n cx hp fr := fun a w h hs => by
  cases e with
  | true => exact ht rfl a w (h.learn (h.on _ _ hl)) hs
  | false => exact hf rfl a w (h.learn (h.on _ _ hl)) hs
theorem WQ.part {l : List Oper} (s : Nat) {e : Bool} (hl : look fr s = some (.bool e)) (ht : e = true → WQ P ops Q l n cx hp ((s, .bool true) :: fr)) (hf : e = false → WQ P ops Q l n cx hp ((s, .bool false) :: fr)) : WQ P ops Q l n cx hp fr := fun a h => by
  cases e with
  | true => exact ht rfl a (h.learn (h.on _ _ hl))
  | false => exact hf rfl a (h.learn (h.on _ _ hl))

/-! ### Code -/
theorem X.region {id : Nat} {l : List Oper} (h : WL P l.toArray Q l n cx hp fr) : X P (.region id l.toArray false) Q n cx hp fr := fun a w hf hs => wp_region_lit (h a w hf hs)
theorem X.drawn {id : Nat} {l : List Oper} (hm : P.follows .mixedOrders = true) (hB : Region.lexB .any l.toArray = true) (h : WQ P l.toArray Q l n cx hp fr) : X P (.region id l.toArray true) Q n cx hp fr := fun a w hf hs => by
  have h1 := h a hf
  refine wp_region_quiet (C := S cx hp) hm hB hs.drew ?_
  exact h1
theorem X.seq {x y : Code} (h : X P x (Exit.then (y.wp P Q) Q) n cx hp fr) : X P (.seq x y) Q n cx hp fr := fun a w hf hs => wp_seq (h a w hf hs)
theorem X.block {id : Nat} {c : Code} (h : X P c (Exit.inBlock id Q) n cx hp fr) : X P (.block id c) Q n cx hp fr := fun a w hf hs => wp_block (h a w hf hs)
theorem X.skip (h : At Q .normal n cx hp fr) : X P .skip Q n cx hp fr := fun a w hf hs => wp_skip (h a w hf hs)
theorem X.ret (h : At Q .ret n cx hp fr) : X P .ret Q n cx hp fr := fun a w hf hs => wp_ret (h a w hf hs)
theorem X.exit {id : Nat} (h : At Q (.exit id) n cx hp fr) : X P (.exit id) Q n cx hp fr := fun a w hf hs => wp_exit (h a w hf hs)
theorem X.yes {c : Operand} {x y : Code} (hc : ev fr c = some (.bool true)) (h : X P x Q n cx hp fr) : X P (.cond c x y) Q n cx hp fr := fun a w hf hs => wp_cond_true (hf.ev hc) (h a w hf hs)
theorem X.no {c : Operand} {x y : Code} (hc : ev fr c = some (.bool false)) (h : X P y Q n cx hp fr) : X P (.cond c x y) Q n cx hp fr := fun a w hf hs => wp_cond_false (hf.ev hc) (h a w hf hs)
theorem X.cond {c : Operand} {x y : Code} {e : Bool} (hc : ev fr c = some (.bool e)) (ht : e = true → X P x Q n cx hp fr) (hf : e = false → X P y Q n cx hp fr) : X P (.cond c x y) Q n cx hp fr := fun a w h hs => by
  cases e with
  | true => exact wp_cond_true (h.ev hc) (ht rfl a w h hs)
  | false => exact wp_cond_false (h.ev hc) (hf rfl a w h hs)
theorem X.condP {c : Operand} {x y : Code} {p : Prop} {i : Decidable p} (hc : ev fr c = some (.bool (decide p))) (ht : p → X P x Q n cx hp fr) (hf : ¬p → X P y Q n cx hp fr) : X P (.cond c x y) Q n cx hp fr :=
  X.cond hc (fun h => ht (of_decide_eq_true h)) (fun h => hf (of_decide_eq_false h))
theorem X.condN {c : Operand} {x y : Code} {p : Prop} {i : Decidable p} (hc : ev fr c = some (.bool (!decide p))) (ht : ¬p → X P x Q n cx hp fr) (hf : p → X P y Q n cx hp fr) : X P (.cond c x y) Q n cx hp fr :=
  X.cond hc (fun h => ht (by simpa using h)) (fun h => hf (by simpa using h))
theorem X.condPt {c : Operand} {x y : Code} {p : Prop} {i : Decidable p} (hc : ev fr c = some (.bool (decide p))) (h : p) (ht : X P x Q n cx hp fr) : X P (.cond c x y) Q n cx hp fr := X.condP hc (fun _ => ht) (fun hn => absurd h hn)
theorem X.condPf {c : Operand} {x y : Code} {p : Prop} {i : Decidable p} (hc : ev fr c = some (.bool (decide p))) (h : ¬p) (ht : X P y Q n cx hp fr) : X P (.cond c x y) Q n cx hp fr := X.condP hc (fun hn => absurd hn h) (fun _ => ht)
theorem X.condNt {c : Operand} {x y : Code} {p : Prop} {i : Decidable p} (hc : ev fr c = some (.bool (!decide p))) (h : ¬p) (ht : X P x Q n cx hp fr) : X P (.cond c x y) Q n cx hp fr := X.condN hc (fun _ => ht) (fun hn => absurd hn h)
theorem X.condNf {c : Operand} {x y : Code} {p : Prop} {i : Decidable p} (hc : ev fr c = some (.bool (!decide p))) (h : p) (ht : X P y Q n cx hp fr) : X P (.cond c x y) Q n cx hp fr := X.condN hc (fun hn => absurd h hn) (fun _ => ht)
theorem WL.partP {l : List Oper} (s : Nat) {p : Prop} {i : Decidable p} (hl : look fr s = some (.bool (decide p))) (ht : p → WL P ops Q l n cx hp ((s, .bool true) :: fr)) (hf : ¬p → WL P ops Q l n cx hp ((s, .bool false) :: fr)) : WL P ops Q l n cx hp fr :=
  WL.part s hl (fun h => ht (of_decide_eq_true h)) (fun h => hf (of_decide_eq_false h))
theorem WQ.partP {l : List Oper} (s : Nat) {p : Prop} {i : Decidable p} (hl : look fr s = some (.bool (decide p))) (ht : p → WQ P ops Q l n cx hp ((s, .bool true) :: fr)) (hf : ¬p → WQ P ops Q l n cx hp ((s, .bool false) :: fr)) : WQ P ops Q l n cx hp fr :=
  WQ.part s hl (fun h => ht (of_decide_eq_true h)) (fun h => hf (of_decide_eq_false h))
theorem WL.partN {l : List Oper} (s : Nat) {p : Prop} {i : Decidable p} (hl : look fr s = some (.bool (!decide p))) (ht : ¬p → WL P ops Q l n cx hp ((s, .bool true) :: fr)) (hf : p → WL P ops Q l n cx hp ((s, .bool false) :: fr)) : WL P ops Q l n cx hp fr :=
  WL.part s hl (fun h => ht (by simpa using h)) (fun h => hf (by simpa using h))
theorem WQ.partN {l : List Oper} (s : Nat) {p : Prop} {i : Decidable p} (hl : look fr s = some (.bool (!decide p))) (ht : ¬p → WQ P ops Q l n cx hp ((s, .bool true) :: fr)) (hf : p → WQ P ops Q l n cx hp ((s, .bool false) :: fr)) : WQ P ops Q l n cx hp fr :=
  WQ.part s hl (fun h => ht (by simpa using h)) (fun h => hf (by simpa using h))
/-- The slot that the next operation's guard looks at. -/
def gslot (ops : Array Oper) : Option (Nat × Bool) → Option Nat
  | none => none
  | some (j, _) => (ops[j]?).bind (·.dst)
theorem WL.guardP {s : Nat} (_hg : gslot ops o.guard = some s) {p : Prop} {i : Decidable p} (hl : look fr s = some (.bool (decide p))) (ht : p → WL P ops Q (o :: rest) n cx hp ((s, .bool true) :: fr)) (hf : ¬p → WL P ops Q (o :: rest) n cx hp ((s, .bool false) :: fr)) : WL P ops Q (o :: rest) n cx hp fr := WL.partP s hl ht hf
theorem WL.guardN {s : Nat} (_hg : gslot ops o.guard = some s) {p : Prop} {i : Decidable p} (hl : look fr s = some (.bool (!decide p))) (ht : ¬p → WL P ops Q (o :: rest) n cx hp ((s, .bool true) :: fr)) (hf : p → WL P ops Q (o :: rest) n cx hp ((s, .bool false) :: fr)) : WL P ops Q (o :: rest) n cx hp fr := WL.partN s hl ht hf
theorem WQ.guardP {s : Nat} (_hg : gslot ops o.guard = some s) {p : Prop} {i : Decidable p} (hl : look fr s = some (.bool (decide p))) (ht : p → WQ P ops Q (o :: rest) n cx hp ((s, .bool true) :: fr)) (hf : ¬p → WQ P ops Q (o :: rest) n cx hp ((s, .bool false) :: fr)) : WQ P ops Q (o :: rest) n cx hp fr := WQ.partP s hl ht hf
theorem WQ.guardN {s : Nat} (_hg : gslot ops o.guard = some s) {p : Prop} {i : Decidable p} (hl : look fr s = some (.bool (!decide p))) (ht : ¬p → WQ P ops Q (o :: rest) n cx hp ((s, .bool true) :: fr)) (hf : p → WQ P ops Q (o :: rest) n cx hp ((s, .bool false) :: fr)) : WQ P ops Q (o :: rest) n cx hp fr := WQ.partN s hl ht hf
theorem WL.guardPt {s : Nat} (_hg : gslot ops o.guard = some s) {p : Prop} {i : Decidable p} (hl : look fr s = some (.bool (decide p))) (h : p) (ht : WL P ops Q (o :: rest) n cx hp ((s, .bool true) :: fr)) : WL P ops Q (o :: rest) n cx hp fr := WL.partP s hl (fun _ => ht) (fun hn => absurd h hn)
theorem WL.guardPf {s : Nat} (_hg : gslot ops o.guard = some s) {p : Prop} {i : Decidable p} (hl : look fr s = some (.bool (decide p))) (h : ¬p) (ht : WL P ops Q (o :: rest) n cx hp ((s, .bool false) :: fr)) : WL P ops Q (o :: rest) n cx hp fr := WL.partP s hl (fun hn => absurd hn h) (fun _ => ht)
theorem WL.guardNt {s : Nat} (_hg : gslot ops o.guard = some s) {p : Prop} {i : Decidable p} (hl : look fr s = some (.bool (!decide p))) (h : ¬p) (ht : WL P ops Q (o :: rest) n cx hp ((s, .bool true) :: fr)) : WL P ops Q (o :: rest) n cx hp fr := WL.partN s hl (fun _ => ht) (fun hn => absurd hn h)
theorem WL.guardNf {s : Nat} (_hg : gslot ops o.guard = some s) {p : Prop} {i : Decidable p} (hl : look fr s = some (.bool (!decide p))) (h : p) (ht : WL P ops Q (o :: rest) n cx hp ((s, .bool false) :: fr)) : WL P ops Q (o :: rest) n cx hp fr := WL.partN s hl (fun hn => absurd h hn) (fun _ => ht)
theorem WQ.guardPt {s : Nat} (_hg : gslot ops o.guard = some s) {p : Prop} {i : Decidable p} (hl : look fr s = some (.bool (decide p))) (h : p) (ht : WQ P ops Q (o :: rest) n cx hp ((s, .bool true) :: fr)) : WQ P ops Q (o :: rest) n cx hp fr := WQ.partP s hl (fun _ => ht) (fun hn => absurd h hn)
theorem WQ.guardPf {s : Nat} (_hg : gslot ops o.guard = some s) {p : Prop} {i : Decidable p} (hl : look fr s = some (.bool (decide p))) (h : ¬p) (ht : WQ P ops Q (o :: rest) n cx hp ((s, .bool false) :: fr)) : WQ P ops Q (o :: rest) n cx hp fr := WQ.partP s hl (fun hn => absurd hn h) (fun _ => ht)
theorem WQ.guardNt {s : Nat} (_hg : gslot ops o.guard = some s) {p : Prop} {i : Decidable p} (hl : look fr s = some (.bool (!decide p))) (h : ¬p) (ht : WQ P ops Q (o :: rest) n cx hp ((s, .bool true) :: fr)) : WQ P ops Q (o :: rest) n cx hp fr := WQ.partN s hl (fun _ => ht) (fun hn => absurd hn h)
theorem WQ.guardNf {s : Nat} (_hg : gslot ops o.guard = some s) {p : Prop} {i : Decidable p} (hl : look fr s = some (.bool (!decide p))) (h : p) (ht : WQ P ops Q (o :: rest) n cx hp ((s, .bool false) :: fr)) : WQ P ops Q (o :: rest) n cx hp fr := WQ.partN s hl (fun hn => absurd h hn) (fun _ => ht)
theorem At.then_normal {y : Code} (h : X P y Q n cx hp fr) : At (Exit.then (y.wp P Q) Q) .normal n cx hp fr := h
theorem At.then_exit {K : Act → World → Prop} {id : Nat} (h : At Q (.exit id) n cx hp fr) : At (Exit.then K Q) (.exit id) n cx hp fr := h
theorem At.then_ret {K : Act → World → Prop} (h : At Q .ret n cx hp fr) : At (Exit.then K Q) .ret n cx hp fr := h
theorem At.block_normal {id : Nat} (h : At Q .normal n cx hp fr) : At (Exit.inBlock id Q) .normal n cx hp fr := h
theorem At.block_ret {id : Nat} (h : At Q .ret n cx hp fr) : At (Exit.inBlock id Q) .ret n cx hp fr := h
theorem At.block_here {id : Nat} (h : At Q .normal n cx hp fr) : At (Exit.inBlock id Q) (.exit id) n cx hp fr := fun a w hf hs => by
  show if id = id then _ else _
  rw [if_pos rfl]; exact h a w hf hs
theorem At.block_past {id id' : Nat} (hne : Nat.beq id' id = false) (h : At Q (.exit id') n cx hp fr) : At (Exit.inBlock id Q) (.exit id') n cx hp fr := fun a w hf hs => by
  have : id' ≠ id := fun e => by subst e; simp at hne
  show if id' = id then _ else _
  rw [if_neg this]; exact h a w hf hs
/-- What a round must come back to. -/
def Again {ι : Type} (ok : ι → Prop) (F : ι → Fr) (H : ι → List Res) (μ : ι → Nat) (n : Nat) (cx : Cx) (i : ι) (a : Act) (w : World) : Prop := ∃ j, ok j ∧ μ j < μ i ∧ FrOn n (F j) a ∧ S cx (H j) w
theorem X.loop {c : Code} {ι : Type} (ok : ι → Prop) (F : ι → Fr) (H : ι → List Res) (μ : ι → Nat) (i0 : ι) (h0 : ok i0) (hF : Sub (F i0) fr) (hH : (H i0).Sublist hp)
    (round : ∀ i, ok i → X P c (Exit.then (Again ok F H μ n cx i) Q) n cx (H i) (F i)) : X P (.loop c) Q n cx hp fr := fun a w hf hs b k cs => by
  have key : ∀ (m : Nat) (i : ι), μ i = m → ok i → ∀ a w, FrOn n (F i) a → S cx (H i) w →
      ∃ e a' w', Q e a' w' ∧ Arrives P (lone (b.at a (.code c :: .inLoop c :: k)) cs w) b k cs e a' w' := by
    intro m
    induction m using Nat.strongRecOn with
    | _ m ih =>
      intro i hi hok a w hf hs
      obtain ⟨e, a1, w1, hq, harr⟩ := round i hok a w hf hs b (.inLoop c :: k) cs
      cases e with
      | normal =>
        obtain ⟨j, hj1, hj2, hj3, hj4⟩ := hq
        obtain ⟨e2, a2, w2, hq2, harr2⟩ := ih (μ j) (by omega) j rfl hj1 a1 w1 hj3 hj4
        exact ⟨e2, a2, w2, hq2, .of_steps (Steps.trans harr (.one step_inLoop)) harr2⟩
      | exit id => exact ⟨_, a1, w1, hq, .pass (x := .inLoop c) rfl (fun _ _ => .inl (by simp)) harr⟩
      | goto l => exact ⟨_, a1, w1, hq, .pass (x := .inLoop c) rfl (fun _ _ => .inl (by simp)) harr⟩
      | ret => exact ⟨_, a1, w1, hq, .pass (x := .inLoop c) rfl (fun _ _ => .inl (by simp)) harr⟩
      | panic ch => exact ⟨_, a1, w1, hq, .pass (x := .inLoop c) rfl (fun _ _ => .inl (by simp)) harr⟩
      | outgrown => exact ⟨_, a1, w1, hq, .pass (x := .inLoop c) rfl (fun _ _ => .inl (by simp)) harr⟩
  obtain ⟨e, a', w', hq, harr⟩ := key _ i0 rfl h0 a w (hf.sub hF) (hs.sub hH)
  exact ⟨e, a', w', hq, .of_steps (.one step_loop) harr⟩
theorem At.again {ι : Type} {ok : ι → Prop} {F : ι → Fr} {H : ι → List Res} {μ : ι → Nat} {i : ι} (j : ι) (hj : ok j) (hm : μ j < μ i) (hF : Sub (F j) fr) (hH : (H j).Sublist hp) :
    At (Exit.then (Again ok F H μ n cx i) Q) .normal n cx hp fr := fun _ _ hf hs => ⟨j, hj, hm, hf.sub hF, hs.sub hH⟩

/-! ### A cut: whichever way a piece of code goes, it leaves one of these states -/
theorem S.perm {hp' : List Res} {w : World} (h : S cx hp w) (hp1 : hp.Perm hp') : S cx hp' w :=
  ⟨h.os, h.tape, h.output, h.size, h.block, fun r hr => h.on r (hp1.mem_iff.2 hr), fun r hr => h.old r (hp1.mem_iff.2 hr), hp1.pairwise h.nd (fun hne e => hne e.symm)⟩
def Cut {β : Type} (n : Nat) (cx : Cx) (F : β → Fr) (H : β → List Res) (e : Exit) (a : Act) (w : World) : Prop := e = .normal ∧ ∃ b, FrOn n (F b) a ∧ S cx (H b) w
theorem X.cut {c : Code} {β : Type} (F : β → Fr) (H : β → List Res) (h : X P c (Cut n cx F H) n cx hp fr) (k : ∀ b, At Q .normal n cx (H b) (F b)) : X P c Q n cx hp fr := fun a w hf hs =>
  wp_mono (h a w hf hs) fun e a' w' ⟨he, b, h1, h2⟩ => by subst he; exact k b a' w' h1 h2
theorem At.cut {β : Type} {F : β → Fr} {H : β → List Res} (b : β) (hF : Sub (F b) fr) {hp' : List Res} (hH : hp'.Sublist hp) (hP : hp'.Perm (H b)) : At (Cut n cx F H) .normal n cx hp fr := fun _ _ hf hs => ⟨rfl, b, hf.sub hF, (hs.sub hH).perm hP⟩

/-! ### A drawn region that makes memory: reads first, then whichever comes up -/
def WH (P : Program) (ops : Array Oper) (Q : Exit → Act → World → Prop) (fuel : Nat) (listed : Array Bool) (n : Nat) (cx : Cx) (hp0 hp : List Res) (fr : Fr) : Prop := ∀ a w, FrOn n fr a → S cx hp w → wpAnyH P .any ops Q (S cx hp0) fuel listed a w
def WO (P : Program) (ops : Array Oper) (Q : Exit → Act → World → Prop) (i fuel : Nat) (listed : Array Bool) (n : Nat) (cx : Cx) (hp0 hp : List Res) (fr : Fr) : Prop := ∀ a w, FrOn n fr a → S cx hp w →
  wpOp P ops Q i (fun a' w' => S cx hp0 w' ∧ wpAnyH P .any ops Q (S cx hp0) fuel (listed.setIfInBounds i true) a' w') a w
theorem X.held {id : Nat} {l : List Oper} (hm : P.follows .mixedOrders = true) (h : WH P l.toArray Q l.length (Array.replicate l.length false) n cx hp hp fr) : X P (.region id l.toArray true) Q n cx hp fr := fun a w hf hs =>
  wp_region_held hm (by simpa using h a _ hf hs.drew)
section
variable {fuel : Nat} {listed : Array Bool} {hp0 : List Res} {β : Type} {F : β → Fr} {H : β → List Res}
theorem cut_noPanic (c : List PanicEntry) (_a _b : Act) (_w : World) (h : Cut n cx F H (.panic c) _a _w) : Cut n cx F H (.panic c) _b _w := by cases h.1
theorem WH.take (i : Nat) {d : Nat} {v : Value} {o : Oper} (hi : ops[i]? = some o) (hd : o.dst = some d) (hn : Nat.blt d n = true) (hw : want ops fr o.guard = some true) (hs : Region.noSelect ops = true) (hf : Region.free .any ops listed i = true)
    (hr : (Region.ready .any ops listed).contains i = true) (hsub : hp0.Sublist hp) (hq : Q1 P cx hp0 fr o v) (h : WH P ops (Cut n cx F H) fuel (listed.setIfInBounds i true) n cx hp0 hp ((d, v) :: fr)) : WH P ops (Cut n cx F H) (fuel + 1) listed n cx hp0 hp fr := fun a w hfr hsw => by
  refine wpAnyH_take (v := v) hi hs hf hr (fun c _ _ h => cut_noPanic c _ _ _ h) (.inl ⟨want_spec hfr hw, fun w' hs' => hq n a w' hfr hs'⟩) (hsw.sub hsub) ?_
  rw [hd]
  exact h _ _ (hfr.put hn) hsw
theorem WH.pass (i : Nat) {d : Nat} {o : Oper} (hi : ops[i]? = some o) (hd : o.dst = some d) (hn : Nat.blt d n = true) (hw : want ops fr o.guard = some false) (hs : Region.noSelect ops = true) (hf : Region.free .any ops listed i = true)
    (hr : (Region.ready .any ops listed).contains i = true) (hsub : hp0.Sublist hp) (h : WH P ops (Cut n cx F H) fuel (listed.setIfInBounds i true) n cx hp0 hp ((d, undef) :: fr)) : WH P ops (Cut n cx F H) (fuel + 1) listed n cx hp0 hp fr := fun a w hfr hsw => by
  refine wpAnyH_take (v := undef) hi hs hf hr (fun c _ _ h => cut_noPanic c _ _ _ h) (.inr ⟨want_spec hfr hw, rfl⟩) (hsw.sub hsub) ?_
  rw [hd]
  exact h _ _ (hfr.put hn) hsw
theorem WH.done (hr : Region.ready .any ops listed = []) (h : At Q .normal n cx hp fr) : WH P ops Q fuel listed n cx hp0 hp fr := fun a w hf hs => wpAnyH_done hr (h a w hf hs) fuel
theorem WH.one (i : Nat) (hr : Region.ready .any ops listed = [i]) (h : WO P ops Q i fuel listed n cx hp0 hp fr) : WH P ops Q (fuel + 1) listed n cx hp0 hp fr := fun a w hf hs =>
  wpAnyH_all hr (by simp) fun j hj => by rw [List.mem_singleton.1 hj]; exact h a w hf hs
theorem WH.two (i j : Nat) (hr : Region.ready .any ops listed = [i, j]) (h1 : WO P ops Q i fuel listed n cx hp0 hp fr) (h2 : WO P ops Q j fuel listed n cx hp0 hp fr) : WH P ops Q (fuel + 1) listed n cx hp0 hp fr := fun a w hf hs =>
  wpAnyH_all hr (by simp) fun k hk => by
    rcases List.mem_cons.1 hk with e | hk
    · rw [e]; exact h1 a w hf hs
    · rw [List.mem_singleton.1 hk]; exact h2 a w hf hs
theorem WH.three (i j k : Nat) (hr : Region.ready .any ops listed = [i, j, k]) (h1 : WO P ops Q i fuel listed n cx hp0 hp fr) (h2 : WO P ops Q j fuel listed n cx hp0 hp fr) (h3 : WO P ops Q k fuel listed n cx hp0 hp fr) : WH P ops Q (fuel + 1) listed n cx hp0 hp fr := fun a w hf hs =>
  wpAnyH_all hr (by simp) fun l hl => by
    rcases List.mem_cons.1 hl with e | hl
    · rw [e]; exact h1 a w hf hs
    · rcases List.mem_cons.1 hl with e | hl
      · rw [e]; exact h2 a w hf hs
      · rw [List.mem_singleton.1 hl]; exact h3 a w hf hs
end

/-! ### A function's body -/
theorem Calls.ofX {f : FuncId} {fn : Func} {c : Code} {args : List Value} {w : World} {wr : List Nat} {R : Ending → World → Prop} (hf : P.funcs[f]? = some fn) (hb : fn.body = some c) (hn : fn.ntmps = n) (hl : Nat.ble args.length n = true)
    (hs : S ⟨w, wr⟩ hp w) (h : X P c (bodyPost P fn R) n ⟨w, wr⟩ hp (argFr args 0)) : Calls P f args.toArray w R := by
  refine calls_of_wp hf hb (h _ _ ⟨?_, rfl, ?_⟩ hs)
  · have := Nat.le_of_ble_eq_true hl
    simp [hn]; omega
  · intro i v hv
    obtain ⟨_, h1⟩ := look_argFr args 0 i v hv
    simp only [Nat.sub_zero] at h1
    obtain ⟨hl', h2⟩ := List.getElem?_eq_some_iff.1 h1
    simp [Array.getElem?_append, hl', h2]
/-- What a result variable holds. -/
def rvSem (tmps : Array Value) : ResultVar → Sem Value
  | .tmp t => pure (tmps.getD t undef)
  | .cell p t => do loadVar t (← asAddr (tmps.getD p undef))
theorem results_eq (fn : Func) (tmps : Array Value) : results fn tmps = (do let vs ← fn.results.mapM (rvSem tmps); pure (if h : vs.size = 1 then vs[0] else .tuple vs)) := by
  unfold results
  rfl
def RV (P : Program) (cx : Cx) (hp : List Res) (fr : Fr) (r : ResultVar) (v : Value) : Prop := ∀ n a w, FrOn n fr a → S cx hp w → (rvSem a.tmps r).run P w = .ok v w
theorem RV.tmp {t : Tmp} {v : Value} (h : look fr t = some v) : RV P cx hp fr (.tmp t) v := fun n a w hf hs => by
  have := hf.on _ _ h
  simp [rvSem, Array.getD_eq_getD_getElem?, this]
theorem At.ret1 {fn : Func} {R : Ending → World → Prop} {e : Exit} (he : e = .ret ∨ e = .normal) {r : ResultVar} {v : Value} (hr : fn.results = #[r]) (h1 : RV P cx hp fr r v) (hR : ∀ w, S cx hp w → R (.returned v) w) : At (bodyPost P fn R) e n cx hp fr := fun a w hf hs => by
  have hv : (results fn a.tmps).run P w = .ok v w := by
    have e1 := h1 n a w hf hs
    simp [results_eq, hr, e1]
  rcases he with rfl | rfl <;> exact ⟨hf.defers, v, hv, hR w hs⟩
theorem At.ret2 {fn : Func} {R : Ending → World → Prop} {e : Exit} (he : e = .ret ∨ e = .normal) {r1 r2 : ResultVar} {v1 v2 : Value} (hr : fn.results = #[r1, r2]) (h1 : RV P cx hp fr r1 v1) (h2 : RV P cx hp fr r2 v2)
    (hR : ∀ w, S cx hp w → R (.returned (.tuple #[v1, v2])) w) : At (bodyPost P fn R) e n cx hp fr := fun a w hf hs => by
  have hv : (results fn a.tmps).run P w = .ok (.tuple #[v1, v2]) w := by
    have e1 := h1 n a w hf hs
    have e2 := h2 n a w hf hs
    simp [results_eq, hr, e1, e2]
  rcases he with rfl | rfl <;> exact ⟨hf.defers, _, hv, hR w hs⟩
theorem At.ret3 {fn : Func} {R : Ending → World → Prop} {e : Exit} (he : e = .ret ∨ e = .normal) {r1 r2 r3 : ResultVar} {v1 v2 v3 : Value} (hr : fn.results = #[r1, r2, r3]) (h1 : RV P cx hp fr r1 v1) (h2 : RV P cx hp fr r2 v2) (h3 : RV P cx hp fr r3 v3)
    (hR : ∀ w, S cx hp w → R (.returned (.tuple #[v1, v2, v3])) w) : At (bodyPost P fn R) e n cx hp fr := fun a w hf hs => by
  have hv : (results fn a.tmps).run P w = .ok (.tuple #[v1, v2, v3]) w := by
    have e1 := h1 n a w hf hs
    have e2 := h2 n a w hf hs
    have e3 := h3 n a w hf hs
    simp [results_eq, hr, e1, e2, e3]
  rcases he with rfl | rfl <;> exact ⟨hf.defers, _, hv, hR w hs⟩
end
end Go.Proofs.YtnmhoeafdengfaaDoor
