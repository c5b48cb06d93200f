/- The logic's rules for single operations: numbers, tests, fields, indexes, loads, stores, new blocks, slices, calls. Plain theorems; no condition. -/
import Derived.Test.YtnmhoeafdengfaaDoorLogic
import Derived.Maps.AppendAt
import Derived.Deep.Slices
namespace Go.Proofs.YtnmhoeafdengfaaDoor
open Go.RowKit

/-! ### Facts on types, found by instance -/
class TAgg (P : Program) (t : TypeId) (m : outParam Nat) : Prop where
  agg : (match P.underlying t with | some (.struct _) => true | some (.array _ _) => true | _ => false) = true
  size : (P.info? t).map (·.size) = some m
class TOne (P : Program) (t : TypeId) : Prop where
  one : (match P.underlying t with | some (.struct _) => false | some (.array _ _) => false | some _ => true | none => false) = true
  size : (P.info? t).map (·.size) = some 1
class TZero (P : Program) (t : TypeId) (cs : outParam (List Value)) : Prop where
  zero : (P.info? t).bind (fun i => i.zero.map (·.cells.toList)) = some cs
class TSlice (P : Program) (t : TypeId) (e : outParam TypeId) (size : outParam Nat) (bytes : outParam Nat) : Prop where
  under : P.underlying t = some (.slice e)
  info : (P.info? e).map (fun i => (i.size, i.bytes)) = some (size, bytes)
class TField (P : Program) (t : TypeId) (f : Nat) (off : outParam Nat) (ft : outParam TypeId) : Prop where
  field : (match P.underlying t with | some (.struct fs) => (fs[f]?).map fun x => (x.offset, x.type) | _ => none) = some (off, ft)
  size : (match (P.info? ft).map (·.size) with | some m => Nat.blt 0 m | none => false) = true
class TArr (P : Program) (t : TypeId) (len : outParam Nat) (e : outParam TypeId) (size : outParam Nat) : Prop where
  under : P.underlying t = some (.array len e)
  info : (P.info? e).map (·.size) = some size
class TInt (P : Program) (t : TypeId) (k : outParam IntKind) : Prop where
  under : P.underlying t = some (.int k)
class TString (P : Program) (t : TypeId) : Prop where
  under : P.underlying t = some .string
class HasBody (P : Program) (f : FuncId) : Prop where
  body : (match P.funcs[f]? with | some fn => fn.name != "runtime.NumGoroutine" && fn.body.isSome | none => false) = true

section
variable {P : Program} {cx : Cx} {n : Nat} {hp : List Res} {fr : Fr} {ops : Array Oper} {rest : List Oper} {Q : Exit → Act → World → Prop} {d : Option Tmp} {ty : TypeId} {ps : String} {af : Array Edge} {g : Option (Nat × Bool)}

theorem Q1.mk {o : Oper} {v : Value} (h : ∀ n a w, FrOn n fr a → S cx hp w → (execOp a.eval o).run P w = .ok (.value v) w) : Q1 P cx hp fr o v := h

/-! ### Plain values -/
theorem Q1.move {x : Operand} {v : Value} (h : ev fr x = some v) : Q1 P cx hp fr ⟨d, .move x, ty, ps, af, g⟩ v := Q1.mk fun n a w hf hs => by simp [execOp, hf.ev h]
theorem Q1.assign {x : Operand} {v : Value} (h : ev fr x = some v) : Q1 P cx hp fr ⟨d, .assign x, ty, ps, af, g⟩ v := Q1.mk fun n a w hf hs => by simp [execOp, hf.ev h]
theorem Q1.pick_t {c x y : Operand} {v : Value} (hc : ev fr c = some (.bool true)) (h : ev fr x = some v) : Q1 P cx hp fr ⟨d, .pick c x y, ty, ps, af, g⟩ v := Q1.mk fun n a w hf hs => by simp [execOp, hf.ev h, hf.ev hc, asBool]
theorem Q1.pick_f {c x y : Operand} {v : Value} (hc : ev fr c = some (.bool false)) (h : ev fr y = some v) : Q1 P cx hp fr ⟨d, .pick c x y, ty, ps, af, g⟩ v := Q1.mk fun n a w hf hs => by simp [execOp, hf.ev h, hf.ev hc, asBool]
theorem Q1.not {t : TypeId} {x : Operand} {b : Bool} (h : ev fr x = some (.bool b)) : Q1 P cx hp fr ⟨d, .unOp .not t x, ty, ps, af, g⟩ (.bool (!b)) := Q1.mk fun n a w hf hs => by simp [execOp, hf.ev h, Op.unary]
theorem Q1.neg {t : TypeId} {x : Operand} {k : IntKind} {m : Int} (h : ev fr x = some (.int k m)) : Q1 P cx hp fr ⟨d, .unOp .neg t x, ty, ps, af, g⟩ (.int k (k.wrap (0 - m))) := Q1.mk fun n a w hf hs => by simp [execOp, hf.ev h, Op.unary, Op.intArith]
theorem Q1.extract {x : Operand} {i : Nat} {vs : Array Value} {v : Value} (h : ev fr x = some (.tuple vs)) (hi : vs[i]? = some v) : Q1 P cx hp fr ⟨d, .extract x i, ty, ps, af, g⟩ v := Q1.mk fun n a w hf hs => by simp [execOp, hf.ev h, Instr.extract, hi]
theorem Q1.ex20 {x : Operand} {u0 u1 : Value} (h : ev fr x = some (.tuple #[u0, u1])) : Q1 P cx hp fr ⟨d, .extract x 0, ty, ps, af, g⟩ u0 := Q1.extract h rfl
theorem Q1.ex21 {x : Operand} {u0 u1 : Value} (h : ev fr x = some (.tuple #[u0, u1])) : Q1 P cx hp fr ⟨d, .extract x 1, ty, ps, af, g⟩ u1 := Q1.extract h rfl
theorem Q1.ex30 {x : Operand} {u0 u1 u2 : Value} (h : ev fr x = some (.tuple #[u0, u1, u2])) : Q1 P cx hp fr ⟨d, .extract x 0, ty, ps, af, g⟩ u0 := Q1.extract h rfl
theorem Q1.ex31 {x : Operand} {u0 u1 u2 : Value} (h : ev fr x = some (.tuple #[u0, u1, u2])) : Q1 P cx hp fr ⟨d, .extract x 1, ty, ps, af, g⟩ u1 := Q1.extract h rfl
theorem Q1.ex32 {x : Operand} {u0 u1 u2 : Value} (h : ev fr x = some (.tuple #[u0, u1, u2])) : Q1 P cx hp fr ⟨d, .extract x 2, ty, ps, af, g⟩ u2 := Q1.extract h rfl
theorem Q1.makeFunc {f : Fn} {xs ys : List Operand} {us vs : List Value} (h1 : evs fr xs = some us) (h2 : evs fr ys = some vs) : Q1 P cx hp fr ⟨d, .makeFunc f xs.toArray ys.toArray, ty, ps, af, g⟩ (.func f us.toArray vs.toArray) := Q1.mk fun n a w hf hs => by simp [execOp, Instr.makeFunc, hf.evs h1, hf.evs h2]
theorem Q1.nilCheck {x : Operand} {ad : Addr} (h : ev fr x = some (.pointer (some ad))) : Q1 P cx hp fr ⟨d, .nilCheck x, ty, ps, af, g⟩ (.pointer (some ad)) := Q1.mk fun n a w hf hs => by simp [execOp, hf.ev h]

/-! ### Numbers -/
section
variable {t t' : TypeId} {x y : Operand} {k : IntKind} {p q : Int}
theorem Q1.lss (h1 : ev fr x = some (.int k p)) (h2 : ev fr y = some (.int k q)) : Q1 P cx hp fr ⟨d, .binOp .lss t x y t', ty, ps, af, g⟩ (.bool (decide (p < q))) := Q1.mk fun n a w hf hs => by simp [execOp, hf.ev h1, hf.ev h2, eqGuard, binOp, Op.intCmp]
theorem Q1.leq (h1 : ev fr x = some (.int k p)) (h2 : ev fr y = some (.int k q)) : Q1 P cx hp fr ⟨d, .binOp .leq t x y t', ty, ps, af, g⟩ (.bool (decide (p ≤ q))) := Q1.mk fun n a w hf hs => by simp [execOp, hf.ev h1, hf.ev h2, eqGuard, binOp, Op.intCmp]
theorem Q1.gtr (h1 : ev fr x = some (.int k p)) (h2 : ev fr y = some (.int k q)) : Q1 P cx hp fr ⟨d, .binOp .gtr t x y t', ty, ps, af, g⟩ (.bool (decide (q < p))) := Q1.mk fun n a w hf hs => by simp [execOp, hf.ev h1, hf.ev h2, eqGuard, binOp, Op.intCmp]
theorem Q1.geq (h1 : ev fr x = some (.int k p)) (h2 : ev fr y = some (.int k q)) : Q1 P cx hp fr ⟨d, .binOp .geq t x y t', ty, ps, af, g⟩ (.bool (decide (q ≤ p))) := Q1.mk fun n a w hf hs => by simp [execOp, hf.ev h1, hf.ev h2, eqGuard, binOp, Op.intCmp]
theorem Q1.eqlI (h1 : ev fr x = some (.int k p)) (h2 : ev fr y = some (.int k q)) : Q1 P cx hp fr ⟨d, .binOp .eql t x y t', ty, ps, af, g⟩ (.bool (decide (p = q))) := Q1.mk fun n a w hf hs => by
  have : (p == q) = decide (p = q) := rfl
  simp [execOp, hf.ev h1, hf.ev h2, eqGuard, binOp, Op.intCmp, this]
theorem Q1.neqI (h1 : ev fr x = some (.int k p)) (h2 : ev fr y = some (.int k q)) : Q1 P cx hp fr ⟨d, .binOp .neq t x y t', ty, ps, af, g⟩ (.bool (!decide (p = q))) := Q1.mk fun n a w hf hs => by
  have : (p != q) = !decide (p = q) := rfl
  simp [execOp, hf.ev h1, hf.ev h2, eqGuard, binOp, Op.intCmp, this]
theorem Q1.addw (h1 : ev fr x = some (.int k p)) (h2 : ev fr y = some (.int k q)) : Q1 P cx hp fr ⟨d, .binOp .add t x y t', ty, ps, af, g⟩ (.int k (k.wrap (p + q))) := Q1.mk fun n a w hf hs => by simp [execOp, hf.ev h1, hf.ev h2, eqGuard, binOp, Op.intArith]
theorem Q1.subw (h1 : ev fr x = some (.int k p)) (h2 : ev fr y = some (.int k q)) : Q1 P cx hp fr ⟨d, .binOp .sub t x y t', ty, ps, af, g⟩ (.int k (k.wrap (p - q))) := Q1.mk fun n a w hf hs => by simp [execOp, hf.ev h1, hf.ev h2, eqGuard, binOp, Op.intArith]
theorem Q1.mulw (h1 : ev fr x = some (.int k p)) (h2 : ev fr y = some (.int k q)) : Q1 P cx hp fr ⟨d, .binOp .mul t x y t', ty, ps, af, g⟩ (.int k (k.wrap (p * q))) := Q1.mk fun n a w hf hs => by simp [execOp, hf.ev h1, hf.ev h2, eqGuard, binOp, Op.intArith]
theorem Q1.quow (h1 : ev fr x = some (.int k p)) (h2 : ev fr y = some (.int k q)) (hq : q ≠ 0) : Q1 P cx hp fr ⟨d, .binOp .quo t x y t', ty, ps, af, g⟩ (.int k (k.wrap (p.tdiv q))) := Q1.mk fun n a w hf hs => by simp [execOp, hf.ev h1, hf.ev h2, eqGuard, binOp, Op.intDiv, hq]
theorem Q1.remw (h1 : ev fr x = some (.int k p)) (h2 : ev fr y = some (.int k q)) (hq : q ≠ 0) : Q1 P cx hp fr ⟨d, .binOp .rem t x y t', ty, ps, af, g⟩ (.int k (p.tmod q)) := Q1.mk fun n a w hf hs => by simp [execOp, hf.ev h1, hf.ev h2, eqGuard, binOp, Op.intDiv, hq]
def In64 (p : Int) : Prop := -9223372036854775808 ≤ p ∧ p ≤ 9223372036854775807
theorem Q1.add (h1 : ev fr x = some (.int .i64 p)) (h2 : ev fr y = some (.int .i64 q)) (h : -9223372036854775808 ≤ p + q ∧ p + q ≤ 9223372036854775807) : Q1 P cx hp fr ⟨d, .binOp .add t x y t', ty, ps, af, g⟩ (.int .i64 (p + q)) := by
  have := Q1.addw (P := P) (cx := cx) (hp := hp) (d := d) (t := t) (t' := t') (ty := ty) (ps := ps) (af := af) (g := g) h1 h2
  rwa [IntWalk.i64_in _ h] at this
theorem Q1.neg1 (h1 : ev fr x = some (.int .i64 p)) (h : -9223372036854775807 ≤ p ∧ p ≤ 9223372036854775807) : Q1 P cx hp fr ⟨d, .unOp .neg t x, ty, ps, af, g⟩ (.int .i64 (-p)) := by
  have := Q1.neg (P := P) (cx := cx) (hp := hp) (d := d) (t := t) (ty := ty) (ps := ps) (af := af) (g := g) h1
  rw [IntWalk.i64_in _ (by omega)] at this
  simpa using this
theorem Q1.sub (h1 : ev fr x = some (.int .i64 p)) (h2 : ev fr y = some (.int .i64 q)) (h : -9223372036854775808 ≤ p - q ∧ p - q ≤ 9223372036854775807) : Q1 P cx hp fr ⟨d, .binOp .sub t x y t', ty, ps, af, g⟩ (.int .i64 (p - q)) := by
  have := Q1.subw (P := P) (cx := cx) (hp := hp) (d := d) (t := t) (t' := t') (ty := ty) (ps := ps) (af := af) (g := g) h1 h2
  rwa [IntWalk.i64_in _ h] at this
theorem Q1.mul (h1 : ev fr x = some (.int .i64 p)) (h2 : ev fr y = some (.int .i64 q)) (h : -9223372036854775808 ≤ p * q ∧ p * q ≤ 9223372036854775807) : Q1 P cx hp fr ⟨d, .binOp .mul t x y t', ty, ps, af, g⟩ (.int .i64 (p * q)) := by
  have := Q1.mulw (P := P) (cx := cx) (hp := hp) (d := d) (t := t) (t' := t') (ty := ty) (ps := ps) (af := af) (g := g) h1 h2
  rwa [IntWalk.i64_in _ h] at this
theorem Q1.quo (h1 : ev fr x = some (.int .i64 p)) (h2 : ev fr y = some (.int .i64 q)) (h : 0 ≤ p ∧ p ≤ 9223372036854775807 ∧ 1 ≤ q) : Q1 P cx hp fr ⟨d, .binOp .quo t x y t', ty, ps, af, g⟩ (.int .i64 (p / q)) := by
  have := Q1.quow (P := P) (cx := cx) (hp := hp) (d := d) (t := t) (t' := t') (ty := ty) (ps := ps) (af := af) (g := g) h1 h2 (by omega)
  rwa [IntWalk.i64_quo _ _ h] at this
theorem Q1.quoT (h1 : ev fr x = some (.int .i64 p)) (h2 : ev fr y = some (.int .i64 q)) (h : -9223372036854775808 ≤ p ∧ p ≤ 9223372036854775807 ∧ 1 ≤ q) : Q1 P cx hp fr ⟨d, .binOp .quo t x y t', ty, ps, af, g⟩ (.int .i64 (p.tdiv q)) := by
  have := Q1.quow (P := P) (cx := cx) (hp := hp) (d := d) (t := t) (t' := t') (ty := ty) (ps := ps) (af := af) (g := g) h1 h2 (by omega)
  rwa [IntWalk.i64_quo' _ _ h] at this
theorem Q1.rem (h1 : ev fr x = some (.int .i64 p)) (h2 : ev fr y = some (.int .i64 q)) (h : 0 ≤ p ∧ 1 ≤ q) : Q1 P cx hp fr ⟨d, .binOp .rem t x y t', ty, ps, af, g⟩ (.int .i64 (p % q)) := by
  have := Q1.remw (P := P) (cx := cx) (hp := hp) (d := d) (t := t) (t' := t') (ty := ty) (ps := ps) (af := af) (g := g) h1 h2 (by omega)
  rwa [Int.tmod_eq_emod_of_nonneg h.1] at this
/-- A value spelled otherwise. -/
theorem Q1.to {o : Oper} {u v : Value} (h : Q1 P cx hp fr o u) (e : u = v) : Q1 P cx hp fr o v := e ▸ h
theorem eqGuard_bool (op : BinOp) (a b : Bool) (w : World) : (eqGuard op t x y (.bool a) (.bool b)).run P w = .ok () w := by
  unfold eqGuard
  cases op <;> rfl
theorem eqGuard_string (op : BinOp) (a b : ByteArray) (w : World) : (eqGuard op t x y (.string a) (.string b)).run P w = .ok () w := by
  unfold eqGuard
  cases op <;> rfl
class TBool (P : Program) (t : TypeId) : Prop where
  under : P.underlying t = some .bool
theorem run_equal_bool [hT : TBool P t] (a b : Bool) (w : World) : (Op.equal t (.bool a) (.bool b)).run P w = .ok (a == b) w := by
  show (Op.equalIn (9999 + 1) t (.bool a) (.bool b)).run P w = _
  unfold Op.equalIn
  simp only [Sem.run_bind, run_underlying hT.under, Result.andThen_ok, Sem.run_pure]
theorem Q1.eqlB [hT : TBool P t] {a b : Bool} (h1 : ev fr x = some (.bool a)) (h2 : ev fr y = some (.bool b)) : Q1 P cx hp fr ⟨d, .binOp .eql t x y t', ty, ps, af, g⟩ (.bool (a == b)) := Q1.mk fun n ac w hf hs => by
  have hb : binOp .eql t (.bool a) (.bool b) = (do pure (.bool (← Op.equal t (.bool a) (.bool b)))) := rfl
  simp only [execOp, hf.ev h1, hf.ev h2, Sem.run_bind, eqGuard_bool, Result.andThen_ok, hb, run_equal_bool, Sem.run_pure]
theorem Q1.neqB [hT : TBool P t] {a b : Bool} (h1 : ev fr x = some (.bool a)) (h2 : ev fr y = some (.bool b)) : Q1 P cx hp fr ⟨d, .binOp .neq t x y t', ty, ps, af, g⟩ (.bool (!(a == b))) := Q1.mk fun n ac w hf hs => by
  have hb : binOp .neq t (.bool a) (.bool b) = (do pure (.bool (!(← Op.equal t (.bool a) (.bool b))))) := rfl
  simp only [execOp, hf.ev h1, hf.ev h2, Sem.run_bind, eqGuard_bool, Result.andThen_ok, hb, run_equal_bool, Sem.run_pure]
theorem Q1.neqB_same [hT : TBool P t] {a : Bool} (h1 : ev fr x = some (.bool a)) (h2 : ev fr y = some (.bool a)) : Q1 P cx hp fr ⟨d, .binOp .neq t x y t', ty, ps, af, g⟩ (.bool false) := (Q1.neqB h1 h2).to (by simp)
theorem Q1.neqI_same (h1 : ev fr x = some (.int k p)) (h2 : ev fr y = some (.int k p)) : Q1 P cx hp fr ⟨d, .binOp .neq t x y t', ty, ps, af, g⟩ (.bool false) := (Q1.neqI h1 h2).to (by simp)
theorem Q1.eqlS {a b : ByteArray} (h1 : ev fr x = some (.string a)) (h2 : ev fr y = some (.string b)) : Q1 P cx hp fr ⟨d, .binOp .eql t x y t', ty, ps, af, g⟩ (.bool (a.toList == b.toList)) := Q1.mk fun n ac w hf hs => by
  simp [execOp, hf.ev h1, hf.ev h2, eqGuard_string, binOp, Op.stringOp]
theorem Q1.neqS {a b : ByteArray} (h1 : ev fr x = some (.string a)) (h2 : ev fr y = some (.string b)) : Q1 P cx hp fr ⟨d, .binOp .neq t x y t', ty, ps, af, g⟩ (.bool (!(a.toList == b.toList))) := Q1.mk fun n ac w hf hs => by
  simp [execOp, hf.ev h1, hf.ev h2, eqGuard_string, binOp, Op.stringOp]
theorem Q1.addS {a b : ByteArray} (h1 : ev fr x = some (.string a)) (h2 : ev fr y = some (.string b)) (hl : a.size + b.size ≤ 9223372036854775807) : Q1 P cx hp fr ⟨d, .binOp .add t x y t', ty, ps, af, g⟩ (.string (a ++ b)) := Q1.mk fun n ac w hf hs => by
  have hmax : IntKind.i64.max = 9223372036854775807 := rfl
  have : ¬ (((a.size + b.size : Nat) : Int) > IntKind.i64.max) := by rw [hmax]; omega
  simp only [execOp, hf.ev h1, hf.ev h2, eqGuard_string, binOp, Op.stringOp, Sem.run_bind, Result.andThen_ok, if_neg this, Sem.run_pure]
end

/-! ### Builtins -/
theorem Q1.len {t : TypeId} {x : Operand} {A : Option Addr} {m c : Nat} {e : TypeId} {sz bt : Nat} [hT : TSlice P t e sz bt] (h : ev fr x = some (.slice A m c)) :
    Q1 P cx hp fr ⟨d, .call { callee := .builtin .len, args := #[x], argTypes := #[t] }, ty, ps, af, g⟩ (.int .i64 (m : Int)) := Q1.mk fun n a w hf hs => by
  simp [execOp, resolve, invoke, builtin, Builtin.len_, hf.ev h, run_underlying hT.under, goInt]
theorem Q1.lenS {t : TypeId} {x : Operand} {s : ByteArray} [hT : TString P t] (h : ev fr x = some (.string s)) :
    Q1 P cx hp fr ⟨d, .call { callee := .builtin .len, args := #[x], argTypes := #[t] }, ty, ps, af, g⟩ (.int .i64 (s.size : Int)) := Q1.mk fun n a w hf hs => by
  simp [execOp, resolve, invoke, builtin, Builtin.len_, hf.ev h, run_underlying hT.under, goInt]
theorem Q1.lenA {t : TypeId} {x : Operand} {v : Value} {l : Nat} {e : TypeId} {sz : Nat} [hT : TArr P t l e sz] (h : ev fr x = some v) :
    Q1 P cx hp fr ⟨d, .call { callee := .builtin .len, args := #[x], argTypes := #[t] }, ty, ps, af, g⟩ (.int .i64 (l : Int)) := Q1.mk fun n a w hf hs => by
  simp [execOp, resolve, invoke, builtin, Builtin.len_, hf.ev h, run_underlying hT.under, goInt]
theorem Q1.min2 {ts : Array TypeId} {x y : Operand} {k k' : IntKind} {p q : Int} (h1 : ev fr x = some (.int k p)) (h2 : ev fr y = some (.int k' q)) :
    Q1 P cx hp fr ⟨d, .call { callee := .builtin .min, args := #[x, y], argTypes := ts }, ty, ps, af, g⟩ (.int k (min p q)) := Q1.mk fun n a w hf hs => by
  have : (if q < p then q else p) = min p q := by omega
  simp [execOp, resolve, invoke, builtin, Builtin.min_, Builtin.min2, hf.ev h1, hf.ev h2, this]
theorem Q1.max2 {ts : Array TypeId} {x y : Operand} {k k' : IntKind} {p q : Int} (h1 : ev fr x = some (.int k p)) (h2 : ev fr y = some (.int k' q)) :
    Q1 P cx hp fr ⟨d, .call { callee := .builtin .max, args := #[x, y], argTypes := ts }, ty, ps, af, g⟩ (.int k (max p q)) := Q1.mk fun n a w hf hs => by
  have : (if p < q then q else p) = max p q := by omega
  simp [execOp, resolve, invoke, builtin, Builtin.max_, Builtin.max2, hf.ev h1, hf.ev h2, this]

/-! ### Places -/
theorem run_fieldAt {s : TypeId} {f off : Nat} {ft : TypeId} [hT : TField P s f off ft] (ad : Addr) (w : World) : (Instr.fieldAt s (.pointer (some ad)) f).run P w = .ok (.pointer (some (ad.add off))) w := by
  have h1 := hT.field
  have h2 := hT.size
  split at h1
  · rename_i fs hfs
    cases hx : fs[f]? with
    | none => rw [hx] at h1; cases h1
    | some x =>
      rw [hx] at h1
      obtain ⟨rfl, rfl⟩ : x.offset = off ∧ x.type = ft := by simpa using h1
      cases hi : P.info? x.type with
      | none => rw [hi] at h2; cases h2
      | some i =>
        rw [hi] at h2
        have hne : ¬ i.size = 0 := by
          intro e
          simp [e] at h2
        simp [Instr.fieldAt, run_underlying hfs, hx, Instr.sureAddr, fieldPlace, sizeOf, typeInfo, hi, hne]
  · cases h1
theorem Q1.fieldAddr {s : TypeId} {x : Operand} {f off : Nat} {ft : TypeId} [hT : TField P s f off ft] {ad : Addr} (h : ev fr x = some (.pointer (some ad))) : Q1 P cx hp fr ⟨d, .fieldAddr s x f, ty, ps, af, g⟩ (.pointer (some (ad.add off))) := Q1.mk fun n a w hf hs => by
  simp [execOp, hf.ev h, run_fieldAt (hT := hT)]
/-- .. of an own block: the cell's number reckoned. -/
theorem Q1.fieldAddrB {s : TypeId} {x : Operand} {f off : Nat} {ft : TypeId} [hT : TField P s f off ft] {b o : Nat} (h : ev fr x = some (.pointer (some ⟨b, o, none⟩))) : Q1 P cx hp fr ⟨d, .fieldAddr s x f, ty, ps, af, g⟩ (.pointer (some ⟨b, o + off, none⟩)) := Q1.mk fun n a w hf hs => by
  simp [execOp, hf.ev h, run_fieldAt (hT := hT), Addr.add_lit]
def adOf (A : Option Addr) : Addr := A.getD ⟨0, 0, none⟩
theorem Q1.indexAddr {t : TypeId} {x y : Operand} {e : TypeId} {sz bt : Nat} [hT : TSlice P t e sz bt] {A : Option Addr} {m c : Nat} {k : IntKind} {i : Int} (h1 : ev fr x = some (.slice A m c)) (h2 : ev fr y = some (.int k i)) (j : Nat) (hj : i = (j : Int)) (hm : j < m) (hA : A ≠ none) :
    Q1 P cx hp fr ⟨d, .indexAddr t x y, ty, ps, af, g⟩ (.pointer (some ((adOf A).add (j * sz)))) := Q1.mk fun n a w hf hs => by
  cases A with
  | none => exact absurd rfl hA
  | some ad =>
    have h3 := hT.info
    cases hi : P.info? e with
    | none => rw [hi] at h3; cases h3
    | some inf =>
      rw [hi] at h3
      obtain ⟨rfl, rfl⟩ : inf.size = sz ∧ inf.bytes = bt := by simpa using h3
      subst hj
      have hlt : (0 : Int) ≤ (j : Int) ∧ (j : Int) < (m : Int) := by omega
      have hun : (underlying t).run P w = .ok (.slice e) w := run_underlying hT.under w
      have : (Instr.indexAt t (.slice (some ad) m c) (.int k (j : Int))).run P w = .ok (.pointer (some (ad.add (j * inf.size)))) w := by
        unfold Instr.indexAt
        simp [asIntOf, hun, hm, sizeOf, typeInfo, hi]
      simp [execOp, hf.ev h1, hf.ev h2, this, adOf]
/-- .. of a slice that starts at an own block's head. -/
theorem Q1.indexAddrB {t : TypeId} {x y : Operand} {e : TypeId} {sz bt : Nat} [hT : TSlice P t e sz bt] {b m c : Nat} {k : IntKind} {i : Int} (h1 : ev fr x = some (.slice (some ⟨b, 0, none⟩) m c)) (h2 : ev fr y = some (.int k i)) (j : Nat) (hj : i = (j : Int)) (hm : j < m) :
    Q1 P cx hp fr ⟨d, .indexAddr t x y, ty, ps, af, g⟩ (.pointer (some ⟨b, j * sz, none⟩)) :=
  (Q1.indexAddr h1 h2 j hj hm (by simp)).to (by simp [adOf, Addr.add_lit])

/-! ### Reading -/
/-- In every such world the cells at 'ad' hold 'cs'. -/
def Rd (cx : Cx) (hp : List Res) (ad : Addr) (cs : List Value) : Prop := ∀ w, S cx hp w → ∀ (j : Nat) (u : Value), cs[j]? = some u → w.cell? (ad.add j) = some u
theorem Rd.own {b : Nat} {t : TypeId} {cs us : List Value} {tot i : Nat} (hm : Res.mk b t cs tot ∈ hp) (h : ∀ (j : Nat) (u : Value), us[j]? = some u → cs[i + j]? = some u) : Rd cx hp ⟨b, i, none⟩ us := fun w hs j u hu => by
  rw [Addr.add_lit]
  exact (hs.on _ hm).cell (h j u hu)
theorem Rd.own1 {b : Nat} {t : TypeId} {cs : List Value} {tot i : Nat} {v : Value} (hm : Res.mk b t cs tot ∈ hp) (h : cs[i]? = some v) : Rd cx hp ⟨b, i, none⟩ [v] :=
  Rd.own hm fun j u hu => by
    cases j with
    | zero => simpa using (by simpa using hu : v = u) ▸ h
    | succ j => simp at hu
theorem Rd.whole {b : Nat} {t : TypeId} {cs : List Value} {tot : Nat} (hm : Res.mk b t cs tot ∈ hp) : Rd cx hp ⟨b, 0, none⟩ cs := Rd.own hm fun j u hu => by simpa using hu
theorem Q1.load1 {t : TypeId} {x : Operand} [hT : TOne P t] {ad : Addr} {v : Value} (h : ev fr x = some (.pointer (some ad))) (hr : Rd cx hp ad [v]) : Q1 P cx hp fr ⟨d, .load t x, ty, ps, af, g⟩ v := Q1.mk fun n a w hf hs => by
  have hc := hr w hs 0 v rfl
  simp only [Addr.add_zero'] at hc
  have h1 := hT.one
  cases hu : P.underlying t with
  | none => rw [hu] at h1; cases h1
  | some dd =>
    rw [hu] at h1
    have : (isAgg t).run P w = .ok false w := by
      unfold isAgg
      cases dd <;> first | (simp at h1; done) | simp [run_underlying hu]
    simp [execOp, hf.ev h, Instr.loadAt, Instr.sureAddr, loadVar, this, hc]
theorem run_loadAgg {t : TypeId} {m : Nat} [hT : TAgg P t m] {ad : Addr} {cs : List Value} (hl : cs.length = m) (w : World) (hc : ∀ (j : Nat) (u : Value), cs[j]? = some u → w.cell? (ad.add j) = some u) : (loadVar t ad).run P w = .ok (.agg cs.toArray) w := by
  have h1 := hT.agg
  have h2 := hT.size
  cases hi : P.info? t with
  | none => rw [hi] at h2; cases h2
  | some inf =>
    rw [hi] at h2
    obtain rfl : inf.size = m := by simpa using h2
    have hld := run_loadCells_list (P := P) w ad cs hc
    rw [hl] at hld
    cases hu : P.underlying t with
    | none => rw [hu] at h1; cases h1
    | some dd =>
      rw [hu] at h1
      have : (isAgg t).run P w = .ok true w := by
        unfold isAgg
        cases dd <;> first | (simp at h1; done) | simp [run_underlying hu]
      simp [loadVar, this, sizeOf, typeInfo, hi, hld]
theorem Q1.loadN {t : TypeId} {x : Operand} {m : Nat} [hT : TAgg P t m] {ad : Addr} {cs : List Value} (h : ev fr x = some (.pointer (some ad))) (hr : Rd cx hp ad cs) (hl : cs.length = m) : Q1 P cx hp fr ⟨d, .load t x, ty, ps, af, g⟩ (.agg cs.toArray) := Q1.mk fun n a w hf hs => by
  simp [execOp, hf.ev h, Instr.loadAt, Instr.sureAddr, run_loadAgg hl w (hr w hs)]
theorem RV.cell1 {p : Tmp} {t : TypeId} [hT : TOne P t] {ad : Addr} {v : Value} (h : look fr p = some (.pointer (some ad))) (hr : Rd cx hp ad [v]) : RV P cx hp fr (.cell p t) v := fun n a w hf hs => by
  have hp' : a.tmps.getD p undef = .pointer (some ad) := by have := hf.on _ _ h; simp [Array.getD_eq_getD_getElem?, this]
  have hc := hr w hs 0 v rfl
  simp only [Addr.add_zero'] at hc
  have h1 := hT.one
  cases hu : P.underlying t with
  | none => rw [hu] at h1; cases h1
  | some dd =>
    rw [hu] at h1
    have : (isAgg t).run P w = .ok false w := by
      unfold isAgg
      cases dd <;> first | (simp at h1; done) | simp [run_underlying hu]
    simp [rvSem, hp', asAddr, loadVar, this, hc]
theorem RV.cellN {p : Tmp} {t : TypeId} {m : Nat} [hT : TAgg P t m] {ad : Addr} {cs : List Value} (h : look fr p = some (.pointer (some ad))) (hr : Rd cx hp ad cs) (hl : cs.length = m) : RV P cx hp fr (.cell p t) (.agg cs.toArray) := fun n a w hf hs => by
  have hp' : a.tmps.getD p undef = .pointer (some ad) := by have := hf.on _ _ h; simp [Array.getD_eq_getD_getElem?, this]
  simp [rvSem, hp', asAddr, run_loadAgg hl w (hr w hs)]

theorem Q1.field {t : TypeId} {x : Operand} {f off : Nat} {ft : TypeId} [hT : TField P t f off ft] [hO : TOne P ft] {cs : Array Value} {v : Value} (h : ev fr x = some (.agg cs)) (hv : cs[off]? = some v) : Q1 P cx hp fr ⟨d, .field t x f, ty, ps, af, g⟩ v := Q1.mk fun n a w hf hs => by
  have h1 := hT.field
  split at h1
  · rename_i fs hfs
    cases hx : fs[f]? with
    | none => rw [hx] at h1; cases h1
    | some x =>
      rw [hx] at h1
      obtain ⟨rfl, rfl⟩ : x.offset = off ∧ x.type = ft := by simpa using h1
      have h2 := hO.one
      cases hu : P.underlying x.type with
      | none => rw [hu] at h2; cases h2
      | some dd =>
        rw [hu] at h2
        have : (isAgg x.type).run P w = .ok false w := by
          unfold isAgg
          cases dd <;> first | (simp at h2; done) | simp [run_underlying hu]
        simp [execOp, hf.ev h, Instr.field, run_underlying hfs, hx, asAgg, part, this, hv]
  · cases h1
theorem Q1.fieldN {t : TypeId} {x : Operand} {f off : Nat} {ft : TypeId} {m : Nat} [hT : TField P t f off ft] [hO : TAgg P ft m] {cs : Array Value} (h : ev fr x = some (.agg cs)) : Q1 P cx hp fr ⟨d, .field t x f, ty, ps, af, g⟩ (.agg (cs.extract off (off + m))) := Q1.mk fun n a w hf hs => by
  have h1 := hT.field
  split at h1
  · rename_i fs hfs
    cases hx : fs[f]? with
    | none => rw [hx] at h1; cases h1
    | some x =>
      rw [hx] at h1
      obtain ⟨rfl, rfl⟩ : x.offset = off ∧ x.type = ft := by simpa using h1
      have h2 := hO.agg
      have h3 := hO.size
      cases hi : P.info? x.type with
      | none => rw [hi] at h3; cases h3
      | some inf =>
        rw [hi] at h3
        obtain rfl : inf.size = m := by simpa using h3
        cases hu : P.underlying x.type with
        | none => rw [hu] at h2; cases h2
        | some dd =>
          rw [hu] at h2
          have : (isAgg x.type).run P w = .ok true w := by
            unfold isAgg
            cases dd <;> first | (simp at h2; done) | simp [run_underlying hu]
          simp [execOp, hf.ev h, Instr.field, run_underlying hfs, hx, asAgg, part, this, sizeOf, typeInfo, hi]
  · cases h1

/-! ### Calls -/
theorem run_callFunc {f : FuncId} [hb : HasBody P f] (vs : Array Value) (w : World) : (callFunc f vs).run P w = .ok (.enter f vs) w := by
  have h := hb.body
  cases hf : P.funcs[f]? with
  | none => rw [hf] at h; cases h
  | some fn =>
    rw [hf] at h
    simp only [Bool.and_eq_true] at h
    have h2 : ¬ (fn.body.isNone = true) := by cases hb : fn.body <;> simp_all
    have h1 : ¬ ((fn.name == "runtime.NumGoroutine") = true) := by have := h.1; simp only [bne, Bool.not_eq_true'] at this; rw [this]; exact Bool.false_ne_true
    simp only [callFunc, Sem.run_bind, run_program, Result.andThen_ok, hf, if_neg h1, if_neg h2, Sem.run_pure]
theorem run_call {f : FuncId} [hb : HasBody P f] {xs : List Operand} {ts : Array TypeId} {vs : List Value} {a : Act} (hf : FrOn n fr a) (hv : evs fr xs = some vs) (w : World) :
    (execOp a.eval ⟨d, .call { callee := .value (.func f), args := xs.toArray, argTypes := ts }, ty, ps, af, g⟩).run P w = .ok (.enter f vs.toArray) w := by
  have := hf.evs hv
  simp [execOp, resolve, Deferred.ofValue, Act.eval, invoke, run_callFunc, this]
theorem QC.call {f : FuncId} [hb : HasBody P f] {xs : List Operand} {ts : Array TypeId} {vs : List Value} {v : Value} (hv : evs fr xs = some vs) (h : ∀ w, S cx hp w → Calls P f vs.toArray w (Ret w v)) :
    QC P cx hp fr ⟨d, .call { callee := .value (.func f), args := xs.toArray, argTypes := ts }, ty, ps, af, g⟩ v := fun n a w hf hs => by
  unfold Oper.quietAt
  rw [run_call hf hv w]
  exact ⟨rfl, (h w hs).mono fun e w' ⟨he, hs'⟩ => ⟨he, by simpa using hs.step hs'⟩⟩
theorem wpList_of {o : Oper} {a : Act} {w : World} (hw : Region.wanted o (yielded ops a.tmps) = true) (h : o.wp P a w (wpList P ops Q rest) Q) : wpList P ops Q (o :: rest) a w := by
  unfold wpList
  rw [if_pos hw]
  exact .inl h
/-- A call that hands back new memory. -/
theorem WL.call {dd : Tmp} {f : FuncId} [hb : HasBody P f] {xs : List Operand} {ts : Array TypeId} {vs : List Value} {R : Value → List Res → Prop} (hn : Nat.blt dd n = true) (hw : want ops fr g = some true) (hv : evs fr xs = some vs)
    (h : ∀ w, S cx hp w → Calls P f vs.toArray w (RetP w [] R)) (k : ∀ v hp', R v hp' → WL P ops Q rest n cx (hp' ++ hp) ((dd, v) :: fr)) :
    WL P ops Q (⟨some dd, .call { callee := .value (.func f), args := xs.toArray, argTypes := ts }, ty, ps, af, g⟩ :: rest) n cx hp fr := fun a w hf hs => by
  refine wpList_of (want_spec (o := ⟨some dd, _, ty, ps, af, g⟩) hf hw) ?_
  unfold Oper.wp
  rw [run_call hf hv w, Oper.upon_enter]
  refine (h w hs).mono fun e w' ⟨v, hp', he, hR, hs'⟩ => ?_
  subst he
  exact k v hp' hR _ w' (hf.put hn) (hs.step hs')

/-! ### New blocks, stores -/
theorem run_zero {t : TypeId} {cs : List Value} [hT : TZero P t cs] (w : World) : ∃ z : Value, z.cells.toList = cs ∧ (zeroValue t).run P w = .ok z w := by
  have h := hT.zero
  cases hi : P.info? t with
  | none => rw [hi] at h; cases h
  | some inf =>
    rw [hi] at h
    cases hz : inf.zero with
    | none => simp [hz] at h
    | some z => exact ⟨z, by simpa [hz] using h, by simp [zeroValue, typeInfo, hi, hz]⟩
theorem WL.alloc {dd : Tmp} {t : TypeId} {cs : List Value} [hT : TZero P t cs] (hn : Nat.blt dd n = true) (hw : want ops fr g = some true) (k : ∀ b, WL P ops Q rest n cx (⟨b, t, cs, cs.length⟩ :: hp) ((dd, .pointer (some ⟨b, 0, none⟩)) :: fr)) :
    WL P ops Q (⟨some dd, .alloc t, ty, ps, af, g⟩ :: rest) n cx hp fr := fun a w hf hs => by
  refine wpList_of (want_spec (o := ⟨some dd, _, ty, ps, af, g⟩) hf hw) ?_
  obtain ⟨z, hz, hrun⟩ := run_zero (hT := hT) (P := P) w
  have : (execOp a.eval ⟨some dd, .alloc t, ty, ps, af, g⟩).run P w = .ok (.value (.pointer (some ⟨w.heap.size, 0, none⟩))) (w.alloc (.cells cs.toArray t)) := by
    simp [execOp, Instr.alloc, hrun, newVar, newRow, ← hz]
  unfold Oper.wp
  rw [this, Oper.upon_value]
  exact k _ _ _ (hf.put hn) (hs.alloc cs t)
theorem WL.box {dd : Tmp} {t : TypeId} {x : Operand} {v : Value} (hn : Nat.blt dd n = true) (hw : want ops fr g = some true) (hx : ev fr x = some v) (k : ∀ b, WL P ops Q rest n cx (⟨b, t, v.cells.toList, v.cells.toList.length⟩ :: hp) ((dd, .pointer (some ⟨b, 0, none⟩)) :: fr)) :
    WL P ops Q (⟨some dd, .box t x, ty, ps, af, g⟩ :: rest) n cx hp fr := fun a w hf hs => by
  refine wpList_of (want_spec (o := ⟨some dd, _, ty, ps, af, g⟩) hf hw) ?_
  have : (execOp a.eval ⟨some dd, .box t x, ty, ps, af, g⟩).run P w = .ok (.value (.pointer (some ⟨w.heap.size, 0, none⟩))) (w.alloc (.cells v.cells.toList.toArray t)) := by
    simp [execOp, Instr.box, newVar, newRow, hf.ev hx]
  unfold Oper.wp
  rw [this, Oper.upon_value]
  exact k _ _ _ (hf.put hn) (hs.alloc _ t)
/-- 'vs' written over 'cs' from 'i' on. -/
def setAt : List Value → Nat → List Value → List Value
  | cs, _, [] => cs
  | cs, i, v :: r => setAt (cs.set i v) (i + 1) r
theorem length_setAt : ∀ (vs cs : List Value) (i : Nat), (setAt cs i vs).length = cs.length
  | [], _, _ => rfl
  | v :: r, cs, i => by unfold setAt; rw [length_setAt r]; simp
theorem Repl.same' {x y : Res} {l l' : List Res} (h : Repl x y l l') (e : x = y) : l' = l := by
  induction h with
  | head => rw [e]
  | tail _ ih => rw [ih]
theorem Repl.same {r : Res} {hp hp' : List Res} (h : Repl r r hp hp') : hp' = hp := h.same' rfl
theorem Repl.via {r r' : Res} {hp hp' : List Res} (h : Repl r r' hp hp') (r1 : Res) : ∃ hp1, Repl r r1 hp hp1 ∧ Repl r1 r' hp1 hp' := by
  induction h with
  | head => exact ⟨_, .head, .head⟩
  | tail _ ih =>
    obtain ⟨l, h1, h2⟩ := ih
    exact ⟨_, .tail h1, .tail h2⟩
theorem S.stores : ∀ (vs : List Value) (b : Nat) (t : TypeId) (cs : List Value) (tot i o : Nat) (hp hp' : List Res) (w : World), S cx hp w → Repl ⟨b, t, cs, tot⟩ ⟨b, t, setAt cs (i + o) vs, tot⟩ hp hp' → (∀ u ∈ vs, u.oneCell' = true) → i + o + vs.length ≤ cs.length →
    ∃ w', (storeCells ⟨b, i, none⟩ vs o).run P w = .ok () w' ∧ S cx hp' w'
  | [], b, t, cs, tot, i, o, hp, hp', w, hs, hr, _, _ => ⟨w, by simp [storeCells], by have := hr.same; subst this; exact hs⟩
  | v :: vs, b, t, cs, tot, i, o, hp, hp', w, hs, hr, hone, hlen => by
    simp only [List.length_cons] at hlen
    obtain ⟨hp1, h1, h2⟩ := hr.via ⟨b, t, cs.set (i + o) v, tot⟩
    have hlt : i + o < cs.length := by omega
    have hon := hs.on _ hr.mem
    have hc : w.cell? ⟨b, i + o, none⟩ = some cs[i + o] := hon.cell (List.getElem?_eq_getElem hlt)
    have hfz : w.frozen? ⟨b, i + o, none⟩ = false := hon.frozen _
    have hs1 := hs.set h1 hlt
    have hst : (store ⟨b, i + o, none⟩ v).run P w = .ok () (w.setCell ⟨b, i + o, none⟩ v) := by
      rw [run_store P w _ v _ (hone v (.head _)), hc, hfz]
      rfl
    obtain ⟨w', hw', hs'⟩ := S.stores vs b t (cs.set (i + o) v) tot i (o + 1) hp1 hp' _ hs1 (by simpa [setAt, Nat.add_assoc] using h2) (fun u hu => hone u (.tail _ hu)) (by simp; omega)
    refine ⟨w', ?_, hs'⟩
    simp only [storeCells, Sem.run_bind, Addr.add_lit, hst, Result.andThen_ok]
    exact hw'
class TSize (P : Program) (t : TypeId) (m : outParam Nat) : Prop where
  size : (P.info? t).map (·.size) = some m
theorem run_sizeOf {t : TypeId} {m : Nat} [hT : TSize P t m] (w : World) : (sizeOf t).run P w = .ok m w := by
  have h := hT.size
  cases hi : P.info? t with
  | none => rw [hi] at h; cases h
  | some inf =>
    rw [hi] at h
    obtain rfl : inf.size = m := by simpa using h
    simp [sizeOf, typeInfo, hi]
theorem WL.store {t et : TypeId} {m : Nat} [hT : TSize P t m] {x y : Operand} {b i tot : Nat} {cs : List Value} {v : Value} {hp' : List Res} (hw : want ops fr g = some true) {ad : Addr} (hx : ev fr x = some (.pointer (some ad))) (had : ad = ⟨b, i, none⟩) (hy : ev fr y = some v)
    (hm : v.cells.size = m) (hone : ∀ u ∈ v.cells.toList, u.oneCell' = true) (hl : i + m ≤ cs.length) (hr : Repl ⟨b, et, cs, tot⟩ ⟨b, et, setAt cs i v.cells.toList, tot⟩ hp hp') (k : WL P ops Q rest n cx hp' fr) :
    WL P ops Q (⟨none, .store t x y, ty, ps, af, g⟩ :: rest) n cx hp fr := fun a w hf hs => by
  refine wpList_of (want_spec (o := ⟨none, _, ty, ps, af, g⟩) hf hw) ?_
  subst had
  obtain ⟨w', hw', hs'⟩ := S.stores (P := P) v.cells.toList b et cs tot i 0 hp hp' w hs hr hone (by simpa [hm] using hl)
  have : (execOp a.eval ⟨none, .store t x y, ty, ps, af, g⟩).run P w = .ok .skip w' := by
    simp [execOp, hf.ev hx, hf.ev hy, Instr.storeAt, Instr.sureAddr, storeVar, run_sizeOf (hT := hT), hm, hw']
  unfold Oper.wp
  rw [this, Oper.upon_skip]
  exact k _ _ hf hs'
/-- .. of one cell. -/
theorem WL.store1 {t et : TypeId} [hT : TSize P t 1] {x y : Operand} {b i tot : Nat} {cs : List Value} {v : Value} {hp' : List Res} (hw : want ops fr g = some true) {ad : Addr} (hx : ev fr x = some (.pointer (some ad))) (had : ad = ⟨b, i, none⟩) (hy : ev fr y = some v)
    (hone : v.oneCell' = true) (hr : Repl ⟨b, et, cs, tot⟩ ⟨b, et, cs.set i v, tot⟩ hp hp') (hl : i < cs.length) (k : WL P ops Q rest n cx hp' fr) :
    WL P ops Q (⟨none, .store t x y, ty, ps, af, g⟩ :: rest) n cx hp fr := by
  have hc : v.cells = #[v] := by cases v <;> first | rfl | (simp [Value.oneCell'] at hone)
  exact WL.store (hT := hT) hw hx had hy (by simp [hc]) (by simpa [hc] using hone) (Nat.succ_le_of_lt hl) (by simpa [hc, setAt] using hr) k
theorem setAt_whole : ∀ (vs pre cs : List Value), cs.length = vs.length → setAt (pre ++ cs) pre.length vs = pre ++ vs
  | [], pre, cs, h => by
    have : cs = [] := List.eq_nil_of_length_eq_zero h
    subst this; rfl
  | v :: vs, pre, c :: cs, h => by
    have := setAt_whole vs (pre ++ [v]) cs (by simpa using h)
    unfold setAt
    simpa [List.set_append] using this
/-- .. of a whole block. -/
theorem WL.storeAll {t et : TypeId} {m : Nat} [hT : TSize P t m] {x y : Operand} {b tot : Nat} {cs us : List Value} {hp' : List Res} (hw : want ops fr g = some true) (hx : ev fr x = some (.pointer (some ⟨b, 0, none⟩))) (hy : ev fr y = some (.agg us.toArray))
    (hm : us.length = m) (hone : ∀ u ∈ us, u.oneCell' = true) (hr : Repl ⟨b, et, cs, tot⟩ ⟨b, et, us, tot⟩ hp hp') (hl : cs.length = m) (k : WL P ops Q rest n cx hp' fr) :
    WL P ops Q (⟨none, .store t x y, ty, ps, af, g⟩ :: rest) n cx hp fr := by
  have := setAt_whole us [] cs (by rw [hl, hm])
  simp only [List.nil_append, List.length_nil] at this
  exact WL.store (hT := hT) (m := m) (cs := cs) (i := 0) hw hx rfl hy (by simpa [Value.cells] using hm) (by simpa [Value.cells] using hone) (by omega) (by simpa [Value.cells, this] using hr) k

theorem adOf_add (b i : Nat) : (adOf (some ⟨b, 0, none⟩)).add i = ⟨b, i, none⟩ := by simp [adOf, Addr.add_lit]
theorem adOf_add2 (b i j : Nat) : ((adOf (some ⟨b, 0, none⟩)).add i).add j = ⟨b, i + j, none⟩ := by simp [adOf, Addr.add_lit]

/-! ### Slices -/
/-- 's[:h]'. -/
theorem Q1.slice_hi {t e : TypeId} {sz bt : Nat} [hT : TSlice P t e sz bt] {x y : Operand} {A : Option Addr} {m c : Nat} {k : IntKind} {i : Int} (h1 : ev fr x = some (.slice A m c)) (h2 : ev fr y = some (.int k i)) (j : Nat) (hj : i = (j : Int)) (hc : j ≤ c) :
    Q1 P cx hp fr ⟨d, .slice t x none (some y) none, ty, ps, af, g⟩ (.slice A j c) := Q1.mk fun n a w hf hs => by
  subst hj
  have h3 := hT.info
  cases hi : P.info? e with
  | none => rw [hi] at h3; cases h3
  | some inf =>
    have hun : (underlying t).run P w = .ok (.slice e) w := run_underlying hT.under w
    have hsb : (Instr.sliceBound (.int k (j : Int)) c .sliceAcap).run P w = .ok j w := by simp [Instr.sliceBound, asIntOf, hc]
    have : (Instr.sliceAt t (.slice A m c) none (some (.int k (j : Int))) none).run P w = .ok (.slice A j c) w := by
      unfold Instr.sliceAt
      simp only [Sem.run_bind, hun, Result.andThen_ok]
      unfold Instr.slice
      simp only [Sem.run_bind, hun, Result.andThen_ok, Instr.sliceBounds, Sem.run_pure, if_true, hsb, sizeOf, typeInfo, hi, run_program]
      by_cases h0 : c = 0 <;> cases A <;> simp [h0, Addr.add]
    simp [execOp, hf.ev h1, hf.ev h2, this]
/-- 's[l:]'. -/
theorem Q1.slice_lo {t e : TypeId} {sz bt : Nat} [hT : TSlice P t e sz bt] {x y : Operand} {A : Option Addr} {m c : Nat} {k : IntKind} {i : Int} (h1 : ev fr x = some (.slice A m c)) (h2 : ev fr y = some (.int k i)) (j : Nat) (hj : i = (j : Int)) (hc : j ≤ m) :
    Q1 P cx hp fr ⟨d, .slice t x (some y) none none, ty, ps, af, g⟩ (.slice (if c = j then A else A.map (·.add (j * sz))) (m - j) (c - j)) := Q1.mk fun n a w hf hs => by
  subst hj
  have h3 := hT.info
  cases hi : P.info? e with
  | none => rw [hi] at h3; cases h3
  | some inf =>
    rw [hi] at h3
    obtain ⟨rfl, rfl⟩ : inf.size = sz ∧ inf.bytes = bt := by simpa using h3
    have hun : (underlying t).run P w = .ok (.slice e) w := run_underlying hT.under w
    have hsb : (Instr.sliceBound (.int k (j : Int)) m .sliceB).run P w = .ok j w := by simp [Instr.sliceBound, asIntOf, hc]
    have : (Instr.sliceAt t (.slice A m c) (some (.int k (j : Int))) none none).run P w = .ok (.slice (if c = j then A else A.map (·.add (j * inf.size))) (m - j) (c - j)) w := by
      unfold Instr.sliceAt
      simp only [Sem.run_bind, hun, Result.andThen_ok]
      unfold Instr.slice
      simp only [Sem.run_bind, hun, Result.andThen_ok, Instr.sliceBounds, Sem.run_pure, sizeOf, typeInfo, hi, run_program]
      simp [hsb]
    simp [execOp, hf.ev h1, hf.ev h2, this]
theorem run_zeros (z : List Value) (m : Nat) : ((Array.range (m * z.length)).map (z.toArray[· % z.toArray.size]!)).toList = (List.replicate m z).flatten := by
  simp only [Array.toList_map, Array.toList_range, List.size_toArray]
  induction m with
  | zero => simp
  | succ m ih =>
    rw [Nat.succ_mul, List.range_add, List.map_append, ih, List.replicate_succ', List.flatten_append]
    congr 1
    apply List.ext_getElem
    · simp
    · intro i h1 h2
      have hi : i < z.length := by simpa using h1
      have h0 : 0 < z.length := by omega
      simp [Nat.add_mod, Nat.mod_eq_of_lt hi, hi]
theorem WL.makeSlice {dd : Tmp} {t e : TypeId} {sz bt : Nat} {zs : List Value} [hT : TSlice P t e sz bt] [hZ : TZero P e zs] {x y : Operand} {k1 k2 : IntKind} (m : Nat) (hn : Nat.blt dd n = true) (hw : want ops fr g = some true)
    (hx : ev fr x = some (.int k1 (m : Int))) (hy : ev fr y = some (.int k2 (m : Int))) (hz : zs.length = sz) (hsz : 0 < sz) (hb : bt * m ≤ 281474976710656) (h63 : m ≤ maxLen)
    (k : ∀ b, WL P ops Q rest n cx (⟨b, e, (List.replicate m zs).flatten, m * sz⟩ :: hp) ((dd, .slice (some ⟨b, 0, none⟩) m m) :: fr)) :
    WL P ops Q (⟨some dd, .makeSlice t x y, ty, ps, af, g⟩ :: rest) n cx hp fr := fun a w hf hs => by
  refine wpList_of (want_spec (o := ⟨some dd, _, ty, ps, af, g⟩) hf hw) ?_
  have h1 := hZ.zero
  have h3 := hT.info
  cases hi : P.info? e with
  | none => rw [hi] at h1; cases h1
  | some inf =>
    rw [hi] at h1 h3
    obtain ⟨rfl, rfl⟩ : inf.size = sz ∧ inf.bytes = bt := by simpa using h3
    cases hzz : inf.zero with
    | none => simp [hzz] at h1
    | some z =>
      have hzs : z.cells.toList = zs := by simpa [hzz] using h1
      have hb' : (inf.bytes : Int) * (m : Int) ≤ 281474976710656 := by
        have h : ((inf.bytes * m : Nat) : Int) ≤ 281474976710656 := by omega
        rwa [Int.natCast_mul] at h
      have h63' : (m : Int) ≤ 9223372036854775807 := by simp only [maxLen] at h63; omega
      have hr := run_make (P := P) w t e inf z hT.under hi hzz k1 k2 (m : Int) (m : Int) (by omega) (Int.le_refl _) hb' h63'
      simp only [Int.toNat_natCast] at hr
      have hcells : madeCells z.cells (m * inf.size) = (List.replicate m zs).flatten.toArray := by
        apply Array.ext'
        rw [← hz, ← run_zeros zs m, ← hzs]
        simp [madeCells]
      have : (execOp a.eval ⟨some dd, .makeSlice t x y, ty, ps, af, g⟩).run P w = .ok (.value (.slice (some ⟨w.heap.size, 0, none⟩) m m)) (w.alloc (.cells (List.replicate m zs).flatten.toArray e)) := by
        simp only [execOp, hf.ev hx, hf.ev hy, Sem.run_bind, hr, Result.andThen_ok, Sem.run_pure, hcells]
      unfold Oper.wp
      rw [this, Oper.upon_value]
      have hl : ((List.replicate m zs).flatten).length = m * inf.size := by simp [List.length_flatten, hz]
      refine k _ _ _ (hf.put hn) ?_
      have := hs.alloc (List.replicate m zs).flatten e
      rwa [hl] at this
/-- What a slice literal lays. -/
def litCells (sz len : Nat) (zs : List Value) (parts : List (Nat × Value)) : Option (Array Value) :=
  Instr.fill (fun i => some (i * sz, sz)) ((Array.range (len * sz)).map (zs.toArray[· % zs.toArray.size]!)) parts
def evParts (fr : Fr) : List (Nat × Operand) → Option (List (Nat × Value))
  | [] => some []
  | (i, x) :: r => match ev fr x with
    | some v => match evParts fr r with
      | some vs => some ((i, v) :: vs)
      | none => none
    | none => none
theorem FrOn.evParts {a : Act} (h : FrOn n fr a) : ∀ {xs : List (Nat × Operand)} {vs : List (Nat × Value)}, evParts fr xs = some vs → xs.map (fun (i, x) => (i, a.eval x)) = vs
  | [], vs, hx => Option.some.inj hx
  | (i, x) :: r, vs, hx => by
    unfold Go.Proofs.YtnmhoeafdengfaaDoor.evParts at hx
    cases h1 : Go.Proofs.YtnmhoeafdengfaaDoor.ev fr x with
    | none => rw [h1] at hx; cases hx
    | some v =>
      cases h2 : Go.Proofs.YtnmhoeafdengfaaDoor.evParts fr r with
      | none => rw [h1, h2] at hx; cases hx
      | some us =>
        rw [h1, h2] at hx
        rw [← Option.some.inj hx, List.map_cons, FrOn.evParts h h2]
        show (i, a.eval x) :: us = (i, v) :: us
        rw [h.ev h1]
theorem WL.lit {dd : Tmp} {t e : TypeId} {sz bt len : Nat} {zs : List Value} [hT : TSlice P t e sz bt] [hS : TSize P e sz] [hZ : TZero P e zs] {parts : List (Nat × Operand)} {vs : List (Nat × Value)} {cs : List Value} (hn : Nat.blt dd n = true) (hw : want ops fr g = some true)
    (hx : evParts fr parts = some vs) (hlen : len * sz ≤ 16777216) (h0 : len * sz ≠ 0) (hc : litCells sz len zs vs = some cs.toArray) (hcl : cs.length = len * sz)
    (k : ∀ b, WL P ops Q rest n cx (⟨b, e, cs, len * sz⟩ :: hp) ((dd, .slice (some ⟨b, 0, none⟩) len len) :: fr)) :
    WL P ops Q (⟨some dd, .buildSlice t len parts.toArray, ty, ps, af, g⟩ :: rest) n cx hp fr := fun a w hf hs => by
  refine wpList_of (want_spec (o := ⟨some dd, _, ty, ps, af, g⟩) hf hw) ?_
  obtain ⟨z, hz, hrun⟩ := run_zero (hT := hZ) (P := P) w
  have hp1 := hf.evParts hx
  have hz' : z.cells = zs.toArray := by rw [← hz]
  have : (execOp a.eval ⟨some dd, .buildSlice t len parts.toArray, ty, ps, af, g⟩).run P w = .ok (.value (.slice (some ⟨w.heap.size, 0, none⟩) len len)) (w.alloc (.cells cs.toArray e)) := by
    unfold litCells at hc
    simp at hc
    simp [execOp, Instr.buildSlice, run_underlying hT.under, run_sizeOf (hT := hS), Nat.not_lt.2 hlen, h0, hrun, hz', hp1, hc, newRow]
  unfold Oper.wp
  rw [this, Oper.upon_value]
  refine k _ _ _ (hf.put hn) ?_
  have := hs.alloc cs e
  rwa [hcl] at this
theorem WL.lit0 {dd : Tmp} {t e : TypeId} {sz bt : Nat} [hT : TSlice P t e sz bt] [hS : TSize P e sz] (hn : Nat.blt dd n = true) (hw : want ops fr g = some true)
    (k : ∀ b, WL P ops Q rest n cx (⟨b, e, [], 0 * sz⟩ :: hp) ((dd, .slice (some ⟨b, 0, none⟩) 0 0) :: fr)) :
    WL P ops Q (⟨some dd, .buildSlice t 0 #[], ty, ps, af, g⟩ :: rest) n cx hp fr := fun a w hf hs => by
  refine wpList_of (want_spec (o := ⟨some dd, _, ty, ps, af, g⟩) hf hw) ?_
  have : (execOp a.eval ⟨some dd, .buildSlice t 0 #[], ty, ps, af, g⟩).run P w = .ok (.value (.slice (some ⟨w.heap.size, 0, none⟩) 0 0)) (w.alloc (.cells ([] : List Value).toArray e)) := by
    simp [execOp, Instr.buildSlice, run_underlying hT.under, run_sizeOf (hT := hS), Instr.fill, newRow, Array.range_zero']
  unfold Oper.wp
  rw [this, Oper.upon_value]
  refine k _ _ _ (hf.put hn) ?_
  have := hs.alloc [] e
  simpa using this
/-- What a struct literal is. -/
class TPlaces (P : Program) (t : TypeId) (places : outParam (Array (Nat × Nat))) : Prop where
  places : (match P.underlying t with | some (.struct fs) => fs.toList.mapM (fun f => (P.info? f.type).map fun i => (f.offset, i.size)) | _ => none) = some places.toList
theorem Q1.build {t : TypeId} {pl : Array (Nat × Nat)} {zs : List Value} [hT : TPlaces P t pl] [hZ : TZero P t zs] {parts : List (Nat × Operand)} {vs : List (Nat × Value)} {cs : List Value}
    (hx : evParts fr parts = some vs) (hc : Instr.fill (fun i => pl[i]?) zs.toArray vs = some cs.toArray) : Q1 P cx hp fr ⟨d, .build t parts.toArray, ty, ps, af, g⟩ (.agg cs.toArray) := Q1.mk fun n a w hf hs => by
  obtain ⟨z, hz, hrun⟩ := run_zero (hT := hZ) (P := P) w
  have hp1 := hf.evParts hx
  have hz' : z.cells = zs.toArray := by rw [← hz]
  have h1 := hT.places
  split at h1
  · rename_i fs hfs
    have hm : ∀ (l : List Field) (r : List (Nat × Nat)), l.mapM (fun f => (P.info? f.type).map fun i => (f.offset, i.size)) = some r → (l.mapM (m := Sem) fun f => do pure (f.offset, ← sizeOf f.type)).run P w = .ok r w := by
      intro l
      induction l with
      | nil => intro r hr; simp at hr; subst hr; simp
      | cons f l ih =>
        intro r hr
        rw [List.mapM_cons] at hr
        cases hi : P.info? f.type with
        | none => rw [hi] at hr; cases hr
        | some i =>
          rw [hi] at hr
          cases hl : l.mapM (fun f => (P.info? f.type).map fun i => (f.offset, i.size)) with
          | none => rw [hl] at hr; cases hr
          | some r' =>
            rw [hl] at hr
            have := ih r' hl
            obtain rfl : (f.offset, i.size) :: r' = r := by simpa using hr
            simp [List.mapM_cons, sizeOf, typeInfo, hi] at this ⊢
            simp [this]
    have hm' : (fs.mapM (m := Sem) fun f => do pure (f.offset, ← sizeOf f.type)).run P w = .ok pl w := by
      have := hm _ _ h1
      rw [← Array.toArray_toList (xs := fs), List.mapM_toArray, Sem.run_map, this]
      simp
    simp only [execOp, Instr.build, Sem.run_bind, hrun, Result.andThen_ok, run_underlying hfs, hm']
    simp [hz', hp1, hc]
  · cases h1

/-! ### append -/
inductive Rem (r : Res) : List Res → List Res → Prop
  | head {l : List Res} : Rem r (r :: l) l
  | tail {x : Res} {l l' : List Res} : Rem r l l' → Rem r (x :: l) (x :: l')
theorem Rem.mem {r : Res} {hp hp' : List Res} (h : Rem r hp hp') : r ∈ hp := by
  induction h with
  | head => exact .head _
  | tail _ ih => exact .tail _ ih
theorem Rem.sub {r : Res} {hp hp' : List Res} (h : Rem r hp hp') : hp'.Sublist hp := by
  induction h with
  | head => exact .cons _ (.refl _)
  | tail _ ih => exact .cons_cons _ ih
theorem Rem.ne {r : Res} {hp hp' : List Res} (h : Rem r hp hp') (nd : hp.Pairwise (fun r s => r.b ≠ s.b)) : ∀ s ∈ hp', s.b ≠ r.b := by
  induction h with
  | head =>
    rw [List.pairwise_cons] at nd
    exact fun s hs e => nd.1 s hs e.symm
  | @tail x l l' hh ih =>
    rw [List.pairwise_cons] at nd
    intro s hs
    rcases List.mem_cons.1 hs with rfl | hs
    · exact nd.1 r hh.mem
    · exact ih nd.2 s hs
theorem S.grown {r r' : Res} {hp1 : List Res} {w w' : World} (h : S cx hp w) (hr : Rem r hp hp1) (hg : w.grownBy w' (some r.b)) (hon : r'.On w') (hb : r'.b = r.b ∨ r'.b = w.heap.size) : S cx (r' :: hp1) w' := by
  have hne := hr.ne h.nd
  refine ⟨hg.os.trans h.os, hg.tape.trans h.tape, hg.output.trans h.output, Nat.le_trans h.size hg.size, fun k hk hk2 => ?_, fun s hs => ?_, fun s hs => ?_, List.pairwise_cons.2 ⟨fun s hs e => ?_, (h.sub hr.sub).nd⟩⟩
  · rw [hg.block k (Nat.lt_of_lt_of_le hk h.size) (fun e => ?_)]
    · exact h.block k hk hk2
    · have e : k = r.b := by simpa using e
      subst e
      rcases h.old r hr.mem with h3 | h3
      · exact hk2 h3
      · omega
  · rcases List.mem_cons.1 hs with rfl | hs
    · exact hon
    · have h1 := h.on s (hr.sub.subset hs)
      exact h1.same (hg.block _ h1.lt (fun e => hne s hs (by simpa using e)))
  · rcases List.mem_cons.1 hs with rfl | hs
    · rcases hb with e | e
      · rw [e]; exact h.old r hr.mem
      · rw [e]; exact .inr h.size
    · exact h.old s (hr.sub.subset hs)
  · rcases hb with e2 | e2
    · exact hne s hs (by rw [← e, e2])
    · have := (h.on s (hr.sub.subset hs)).lt
      omega
theorem own_res {w : World} {b m c sz : Nat} {e : TypeId} {cs : List Value} (h : Res.On ⟨b, e, cs, c * sz⟩ w) (hm : cs.length = m * sz) (hmc : m ≤ c) (hcm : c ≤ maxLen) : w.ownsRow 0 e sz (.slice (some ⟨b, 0, none⟩) m c) m cs := by
  obtain ⟨sp, h1, h2⟩ := h
  refine ⟨hm, .inr ⟨b, c, _, rfl, Nat.zero_le _, h1, hmc, hcm, by simpa using h2, ?_⟩⟩
  simp [← hm]
theorem res_own {w : World} {v : Value} {m sz : Nat} {e : TypeId} {cs : List Value} (h : w.ownsRow 0 e sz v m cs) (hv : v ≠ .slice none 0 0) : ∃ g c, v = .slice (some ⟨g, 0, none⟩) m c ∧ m ≤ c ∧ c ≤ maxLen ∧ Res.On ⟨g, e, cs, c * sz⟩ w := by
  rcases h.2 with ⟨h1, _⟩ | ⟨g, c, cur, hv', _, hg, hmc, hcm, hs, ht⟩
  · exact absurd h1 hv
  · refine ⟨g, c, hv', hmc, hcm, cur.toList.drop (m * sz), ?_, ?_⟩
    · rw [← ht, List.take_append_drop]; exact hg
    · rw [← ht, List.take_append_drop]; simpa using hs
theorem WL.append {dd : Tmp} {t e : TypeId} {sz bt : Nat} {zs : List Value} [hT : TSlice P t e sz bt] [hZ : TZero P e zs] {s x : Operand} {b m c m' c' : Nat} {ad : Addr} {cs : List Value} {hp1 : List Res} (news : List Value) (hn : Nat.blt dd n = true) (hw : want ops fr g = some true)
    (hs : ev fr s = some (.slice (some ⟨b, 0, none⟩) m c)) (hx : ev fr x = some (.slice (some ad) m' c')) (hrem : Rem ⟨b, e, cs, c * sz⟩ hp hp1) (hrd : Rd cx hp ad news) (hnl : news.length = m' * sz) (hone : ∀ u ∈ news, u.oneCell' = true)
    (hm : cs.length = m * sz) (hmc : m ≤ c) (hcm : c ≤ maxLen) (h63 : m + m' ≤ maxLen) (hby : (m + m') * bt ≤ 140737488355328) (hsz : 0 < sz) (hzl : zs.length = sz)
    (k : ∀ b' c'', m + m' ≤ c'' → c'' ≤ maxLen → WL P ops Q rest n cx (⟨b', e, cs ++ news, c'' * sz⟩ :: hp1) ((dd, .slice (some ⟨b', 0, none⟩) (m + m') c'') :: fr)) :
    WL P ops Q (⟨some dd, .call { callee := .builtin .append, args := #[s, x], argTypes := #[t, t] }, ty, ps, af, g⟩ :: rest) n cx hp fr := fun a w hf hsw => by
  refine wpList_of (want_spec (o := ⟨some dd, _, ty, ps, af, g⟩) hf hw) ?_
  have h1 := hZ.zero
  have h3 := hT.info
  cases hi : P.info? e with
  | none => rw [hi] at h1; cases h1
  | some inf =>
    rw [hi] at h1 h3
    obtain ⟨rfl, rfl⟩ : inf.size = sz ∧ inf.bytes = bt := by simpa using h3
    cases hzz : inf.zero with
    | none => simp [hzz] at h1
    | some z =>
      have hzs : z.cells.toList = zs := by simpa [hzz] using h1
      have hzsz : z.cells.size = inf.size := by rw [← hzl, ← hzs]; simp
      have hown := own_res (hsw.on _ hrem.mem) hm hmc hcm
      obtain ⟨v', w', hr, h5, h6, h7, h8⟩ := run_append_own_at (P := P) w 0 t ty e inf z inf.size inf.bytes hT.under hi hzz rfl rfl hzsz hsz _ m cs hown ad m' c' news hnl (hrd w hsw) hone h63 hby (Nat.zero_le _)
      have hne : v' ≠ .slice none 0 0 := fun e => by have := (h7.1 e).1; cases this
      obtain ⟨b', c'', rfl, h9, h10, h11⟩ := res_own h5 hne
      have hsw' : S cx (⟨b', e, cs ++ news, c'' * inf.size⟩ :: hp1) w' := hsw.grown hrem (by simpa [Value.ownBlock] using h6) h11 (by simpa [Value.ownBlock] using h8)
      have : (execOp a.eval ⟨some dd, .call { callee := .builtin .append, args := #[s, x], argTypes := #[t, t] }, ty, ps, af, g⟩).run P w = .ok (.value (.slice (some ⟨b', 0, none⟩) (m + m') c'')) w' := by
        simp [execOp, resolve, invoke, builtin, hf.ev hs, hf.ev hx, hr]
      unfold Oper.wp
      rw [this, Oper.upon_value]
      exact k b' c'' h9 h10 _ _ (hf.put hn) hsw'
/-- .. to a nil slice. -/
theorem WL.append0 {dd : Tmp} {t e : TypeId} {sz bt : Nat} {zs : List Value} [hT : TSlice P t e sz bt] [hZ : TZero P e zs] {s x : Operand} {m' c' : Nat} {ad : Addr} (news : List Value) (hn : Nat.blt dd n = true) (hw : want ops fr g = some true)
    (hs : ev fr s = some (.slice none 0 0)) (hx : ev fr x = some (.slice (some ad) m' c')) (hrd : Rd cx hp ad news) (hnl : news.length = m' * sz) (hone : ∀ u ∈ news, u.oneCell' = true)
    (hm' : 0 < m') (h63 : m' ≤ maxLen) (hby : m' * bt ≤ 140737488355328) (hsz : 0 < sz) (hzl : zs.length = sz)
    (k : ∀ b' c'', m' ≤ c'' → c'' ≤ maxLen → WL P ops Q rest n cx (⟨b', e, news, c'' * sz⟩ :: hp) ((dd, .slice (some ⟨b', 0, none⟩) m' c'') :: fr)) :
    WL P ops Q (⟨some dd, .call { callee := .builtin .append, args := #[s, x], argTypes := #[t, t] }, ty, ps, af, g⟩ :: rest) n cx hp fr := fun a w hf hsw => by
  refine wpList_of (want_spec (o := ⟨some dd, _, ty, ps, af, g⟩) hf hw) ?_
  have h1 := hZ.zero
  have h3 := hT.info
  cases hi : P.info? e with
  | none => rw [hi] at h1; cases h1
  | some inf =>
    rw [hi] at h1 h3
    obtain ⟨rfl, rfl⟩ : inf.size = sz ∧ inf.bytes = bt := by simpa using h3
    cases hzz : inf.zero with
    | none => simp [hzz] at h1
    | some z =>
      have hzs : z.cells.toList = zs := by simpa [hzz] using h1
      have hzsz : z.cells.size = inf.size := by rw [← hzl, ← hzs]; simp
      obtain ⟨v', w', hr, h5, h6, h7, h8⟩ := run_append_own_at (P := P) w 0 t ty e inf z inf.size inf.bytes hT.under hi hzz rfl rfl hzsz hsz _ 0 [] (World.ownsRow_nil w 0 e inf.size) ad m' c' news hnl (hrd w hsw) hone (by simpa using h63) (by simpa using hby) (Nat.zero_le _)
      have hne : v' ≠ .slice none 0 0 := fun e => by have := (h7.1 e).2; omega
      rw [Nat.zero_add, List.nil_append] at h5
      obtain ⟨b', c'', rfl, h9, h10, h11⟩ := res_own h5 hne
      have hb' : b' = w.heap.size := by simpa [Value.ownBlock] using h8
      have hst : S ⟨w, []⟩ [⟨b', e, news, c'' * inf.size⟩] w' := ⟨h6.os, h6.tape, h6.output, h6.size, fun k hk _ => h6.block k hk (by simp [Value.ownBlock]), fun r hr => by rw [List.mem_singleton.1 hr]; exact h11, fun r hr => by rw [List.mem_singleton.1 hr]; exact .inr (by simp [hb']), by simp⟩
      have : (execOp a.eval ⟨some dd, .call { callee := .builtin .append, args := #[s, x], argTypes := #[t, t] }, ty, ps, af, g⟩).run P w = .ok (.value (.slice (some ⟨b', 0, none⟩) m' c'')) w' := by
        simp [execOp, resolve, invoke, builtin, hf.ev hs, hf.ev hx, hr]
      unfold Oper.wp
      rw [this, Oper.upon_value]
      exact k b' c'' h9 h10 _ _ (hf.put hn) (by simpa using hsw.step hst)

/-! ### One operation of a drawn region that makes memory -/
section
variable {fuel i : Nat} {listed : Array Bool} {hp0 : List Res}
theorem wpOp_of {o : Oper} {a : Act} {w : World} {K : Act → World → Prop} (hi : ops[i]? = some o) (hw : Region.wanted o (yielded ops a.tmps) = true) (h : o.wp P a w K Q) : wpOp P ops Q i K a w := by
  unfold wpOp
  simp only [hi]
  rw [if_pos hw]
  exact .inl h
theorem WO.alloc {dd : Tmp} {t : TypeId} {cs : List Value} [hT : TZero P t cs] (hi : ops[i]? = some ⟨some dd, .alloc t, ty, ps, af, g⟩) (hn : Nat.blt dd n = true) (hw : want ops fr g = some true) (hsub : hp0.Sublist hp)
    (k : ∀ b, WH P ops Q fuel (listed.setIfInBounds i true) n cx hp0 (⟨b, t, cs, cs.length⟩ :: hp) ((dd, .pointer (some ⟨b, 0, none⟩)) :: fr)) : WO P ops Q i fuel listed n cx hp0 hp fr := fun a w hf hs => by
  refine wpOp_of hi (want_spec (o := ⟨some dd, _, ty, ps, af, g⟩) hf hw) ?_
  obtain ⟨z, hz, hrun⟩ := run_zero (hT := hT) (P := P) w
  have : (execOp a.eval ⟨some dd, .alloc t, ty, ps, af, g⟩).run P w = .ok (.value (.pointer (some ⟨w.heap.size, 0, none⟩))) (w.alloc (.cells cs.toArray t)) := by
    simp [execOp, Instr.alloc, hrun, newVar, newRow, ← hz]
  unfold Oper.wp
  rw [this, Oper.upon_value]
  have h1 := hs.alloc cs t
  exact ⟨h1.sub (.cons _ hsub), k _ _ _ (hf.put hn) h1⟩
theorem WO.store {t et : TypeId} {m : Nat} [hT : TSize P t m] {x y : Operand} {b j tot : Nat} {cs : List Value} {v : Value} {hp' : List Res} (hi : ops[i]? = some ⟨none, .store t x y, ty, ps, af, g⟩) (hw : want ops fr g = some true) {ad : Addr} (hx : ev fr x = some (.pointer (some ad))) (had : ad = ⟨b, j, none⟩) (hy : ev fr y = some v)
    (hm : v.cells.size = m) (hone : ∀ u ∈ v.cells.toList, u.oneCell' = true) (hr : Repl ⟨b, et, cs, tot⟩ ⟨b, et, setAt cs j v.cells.toList, tot⟩ hp hp') (hl : j + m ≤ cs.length) (hsub : hp0.Sublist hp') (k : WH P ops Q fuel (listed.setIfInBounds i true) n cx hp0 hp' fr) :
    WO P ops Q i fuel listed n cx hp0 hp fr := fun a w hf hs => by
  refine wpOp_of hi (want_spec (o := ⟨none, _, ty, ps, af, g⟩) hf hw) ?_
  subst had
  obtain ⟨w', hw', hs'⟩ := S.stores (P := P) v.cells.toList b et cs tot j 0 hp hp' w hs hr hone (by simpa [hm] using hl)
  have : (execOp a.eval ⟨none, .store t x y, ty, ps, af, g⟩).run P w = .ok .skip w' := by
    simp [execOp, hf.ev hx, hf.ev hy, Instr.storeAt, Instr.sureAddr, storeVar, run_sizeOf (hT := hT), hm, hw']
  unfold Oper.wp
  rw [this, Oper.upon_skip]
  exact ⟨hs'.sub hsub, k _ _ hf hs'⟩
theorem WO.storeAll {t et : TypeId} {m : Nat} [hT : TSize P t m] {x y : Operand} {b tot : Nat} {cs us : List Value} {hp' : List Res} (hi : ops[i]? = some ⟨none, .store t x y, ty, ps, af, g⟩) (hw : want ops fr g = some true) (hx : ev fr x = some (.pointer (some ⟨b, 0, none⟩))) (hy : ev fr y = some (.agg us.toArray))
    (hm : us.length = m) (hone : ∀ u ∈ us, u.oneCell' = true) (hr : Repl ⟨b, et, cs, tot⟩ ⟨b, et, us, tot⟩ hp hp') (hl : cs.length = m) (hsub : hp0.Sublist hp') (k : WH P ops Q fuel (listed.setIfInBounds i true) n cx hp0 hp' fr) :
    WO P ops Q i fuel listed n cx hp0 hp fr := by
  have := setAt_whole us [] cs (by rw [hl, hm])
  simp only [List.nil_append, List.length_nil] at this
  exact WO.store (hT := hT) (m := m) (cs := cs) (j := 0) hi hw hx rfl hy (by simpa [Value.cells] using hm) (by simpa [Value.cells] using hone) (by simpa [Value.cells, this] using hr) (by omega) hsub k
end
end
end Go.Proofs.YtnmhoeafdengfaaDoor
