/- The reference's source of choices: the next byte, a pick, one of some numbers. No condition beyond sizes. -/
import Derived.Test.YtnmhoeafdengfaaMem
import Derived.Test.YtnmhoeafdengfaaHeld
import Derived.Test.YtnmhoeafdengfaaMems
import Derived.Test.YtnmhoeafdengfaaIns
namespace Go.Proofs.Ytnmhoeafdengfaa
open Go.RowKit
instance : Enc UInt8 := ⟨1, fun b => [.int .u8 (b.toNat : Int)], fun _ => rfl, fun _ u hu => by rw [List.mem_singleton.1 hu]; rfl, by decide⟩
theorem addr_block (a : Addr) (n : Nat) : (a.add n).block = a.block := by unfold Addr.add; split <;> rfl
/-- A slice that reads as a list, off a block. -/
def SrcOf {α : Type} [Enc α] (w : World) (cb : Nat) (A : Option Addr) (l : List α) : Prop := SlB w A l ∧ (0 < l.length → (adOf A).block ≠ cb)
section
variable {α : Type} [Enc α] {w w' : World} {cb : Nat} {A : Option Addr} {l : List α} {hp hp1 : List Res} {cx : Cx}
theorem SrcOf.r (h : SrcOf w cb A l) : SlR ⟨w, [cb]⟩ hp A l := fun w' hs i hi j u hu => by
  have h1 := h.1 i hi j u hu
  refine ⟨h1.1, hs.cell h1.2 ?_⟩
  rw [addr_block, List.mem_singleton]
  exact h.2 (by omega)
theorem SrcOf.at_ (h : SrcOf w cb A l) (hs : S ⟨w, [cb]⟩ hp w') : SrcOf w' cb A l := ⟨h.r w' hs, h.2⟩
/-- An argument's slice and a block of ours. -/
theorem SrcOf.top (h : SlB w A l) (hs : S ⟨w, []⟩ hp w') {t : TypeId} {cs : List Value} {tot : Nat} (hm : Res.mk cb t cs tot ∈ hp) : SrcOf w' cb A l := ⟨h.at_ hs, fun h0 e => by
  have h1 := h 0 h0 0 _ (List.getElem?_eq_getElem (show 0 < (Enc.cells l[0]).length by rw [Enc.len]; exact Enc.pos))
  have h2 := World.block_lt_of_cell? w _ h1.2
  rw [addr_block, e] at h2
  rcases hs.old _ hm with h3 | h3
  · cases h3
  · have : w.heap.size ≤ cb := h3
    omega⟩
/-- A block of ours and another one. -/
theorem SrcOf.own (hs : S cx hp w) {t t2 : TypeId} {cs : List Value} {tot tot2 lb : Nat} (hr : Rem ⟨cb, t, cs, tot⟩ hp hp1) (hm : Res.mk lb t2 (flat l) tot2 ∈ hp1) : SrcOf w cb (some ⟨lb, 0, none⟩) l :=
  ⟨(SlR.own (cx := cx) (hr.sub.subset hm)) w hs, fun _ => hr.ne hs.nd _ hm⟩
theorem slr_cut {cx : Cx} {hp : List Res} {b tot e : Nat} {t : TypeId} {l : List Int} {k : Nat} (hk : k ≤ l.length) (he : l.length ≤ e) (hm : Res.mk b t (flat l) tot ∈ hp) : SlR cx hp (some (cutS ⟨b, 0, none⟩ e k 1)) (l.drop k) := fun w hs => ((SlR.own (cx := cx) hm) w hs).cutS hk he
/-- A part of a block of ours. -/
theorem SlR.ownAt {b o tot : Nat} {t : TypeId} {pre : List Value} (ho : pre.length = o) (hm : Res.mk b t (pre ++ flat l) tot ∈ hp) : SlR cx hp (some ⟨b, o, none⟩) l := fun w hs i hi j u hu => by
  refine ⟨by simp, ?_⟩
  have h1 := flat_at l hi hu
  have h2 : (pre ++ flat l)[o + (i * Enc.size α + j)]? = some u := by rw [List.getElem?_append_right (by omega), ← ho]; simpa using h1
  have := (hs.on _ hm).cell h2
  simpa [adOf, Addr.add_lit] using this
end
section
variable {P : Program} {cx : Cx} {hp : List Res} {fr : Fr} {d : Option Tmp} {ty t t' : TypeId} {ps : String} {af : Array Edge} {g : Option (Nat × Bool)} {x y : Operand}
theorem Q1.conv {k k0 k' : IntKind} [hT : TInt P t k0] [hU : TInt P t' k'] {n : Int} (h : ev fr x = some (.int k n)) : Q1 P cx hp fr ⟨d, .convert t t' x, ty, ps, af, g⟩ (.int k' (k'.wrap n)) := Q1.mk fun m a w hf hs => by
  simp [execOp, hf.ev h, convert, run_underlying hT.under, run_underlying hU.under, Conv.intToInt]
theorem Q1.convI {k k0 : IntKind} [hT : TInt P t k0] [hU : TInt P t' .i64] {n : Int} (h : ev fr x = some (.int k n)) (hn : -9223372036854775808 ≤ n ∧ n ≤ 9223372036854775807) : Q1 P cx hp fr ⟨d, .convert t t' x, ty, ps, af, g⟩ (.int .i64 n) := (Q1.conv h).to (by rw [IntWalk.i64_in _ hn])
theorem Q1.shr {k k' : IntKind} {p q : Int} (h1 : ev fr x = some (.int k p)) (h2 : ev fr y = some (.int k' q)) (hq : 0 ≤ q) : Q1 P cx hp fr ⟨d, .binOp .shr t x y t', ty, ps, af, g⟩ (.int k (p.fdiv (2 ^ (min q.toNat k.bits)))) := Q1.mk fun n a w hf hs => by
  simp [execOp, hf.ev h1, hf.ev h2, eqGuard, binOp, Op.shift, Int.not_lt.2 hq]
def low8 (p : Int) : Int := IntKind.u64.wrap ((BitVec.ofInt IntKind.u64.bits p &&& BitVec.ofInt IntKind.u64.bits 255).toNat : Int)
theorem low8_bd (p : Int) : 0 ≤ low8 p ∧ low8 p ≤ 255 := by
  have h : (BitVec.ofInt IntKind.u64.bits p &&& BitVec.ofInt IntKind.u64.bits 255).toNat ≤ 255 := by
    rw [BitVec.toNat_and]
    exact Nat.le_trans Nat.and_le_right (by decide)
  unfold low8 IntKind.wrap
  have e : (2 ^ IntKind.u64.bits : Int) = 18446744073709551616 := rfl
  have e2 : IntKind.u64.signed = false := rfl
  simp only [e, e2, Bool.false_and, Bool.false_eq_true, if_false]
  omega
theorem Q1.and255 {p : Int} (h1 : ev fr x = some (.int .u64 p)) (h2 : ev fr y = some (.int .u64 255)) : Q1 P cx hp fr ⟨d, .binOp .and t x y t', ty, ps, af, g⟩ (.int .u64 (low8 p)) := Q1.mk fun n a w hf hs => by
  simp [execOp, hf.ev h1, hf.ev h2, eqGuard, binOp, Op.intBits, low8]
theorem Q1.convL {k0 : IntKind} [hT : TInt P t k0] [hU : TInt P t' .i64] {p : Int} (h : ev fr x = some (.int .u64 (low8 p))) : Q1 P cx hp fr ⟨d, .convert t t' x, ty, ps, af, g⟩ (.int .i64 (low8 p)) := Q1.convI h (by have := low8_bd p; omega)
end
attribute [local irreducible] X WL WQ WH WO At Q1 QC Rd RV Sub SlR SlB Calls Addr.add adOf low8
theorem byte_bd (b : UInt8) : 0 ≤ (b.toNat : Int) ∧ (b.toNat : Int) ≤ 255 := by have := b.toNat_lt; omega
theorem next_any (cb : Nat) (A : Option Addr) (cc : Nat) (code : List UInt8) (at_ : Nat) (sd : Int) (w : World) (H : Res.On ⟨cb, 108, [.slice A code.length cc, .int .i64 (at_ : Int), .int .u64 sd], 3⟩ w) (Hc : SrcOf w cb A code) (hn : code.length ≤ 65536) (hat : at_ ≤ 4000000000) : Calls Try.prog 99 #[.pointer (some ⟨cb, 0, none⟩)] w (RetP w [cb] (fun v hp => ∃ (x : Int) (at2 : Nat) (sd2 : Int), v = .int .i64 x ∧ (0 ≤ x ∧ x ≤ 255) ∧ at2 ≤ at_ + 1 ∧ hp = [⟨cb, 108, [.slice A code.length cc, .int .i64 (at2 : Int), .int .u64 sd2], 3⟩])) := by
  refine Calls.ofX (args := [.pointer (some ⟨cb, 0, none⟩)]) Try.func99 rfl Try.ntmps99 rfl (S.init1 H) ?_
  by_cases hlt : at_ < code.length
  · have hbd := byte_bd code[at_]
    repeat' (first | apply X.seq | apply X.region | (apply X.drawn mixed; kernel_rfl) | apply X.ret | (apply X.condPt; exact rfl; (omega)) | apply At.then_normal | apply At.then_ret | apply WL.nil | apply WQ.nil | (apply WL.q; exact rfl; exact rfl; exact rfl; ((apply QC.v; (first | (apply Q1.move; exact rfl) | (apply Q1.assign; exact rfl) | (apply Q1.conv; exact rfl) | (apply Q1.fieldAddrB; exact rfl) | (apply Q1.load1; exact rfl; (exact Rd.own1 (by (repeat (exact .head _))) rfl)) | (apply Q1.add; exact rfl; exact rfl; omega) | (apply Q1.nilCheck; exact rfl) | (apply Q1.addw; exact rfl; exact rfl) | (apply Q1.mulw; exact rfl; exact rfl))))) | (apply WQ.q; exact rfl; exact rfl; exact rfl; ((apply QC.v; (first | (apply Q1.move; exact rfl) | (apply Q1.assign; exact rfl) | (apply Q1.convI; exact rfl; omega) | (apply Q1.load1; exact rfl; exact SlR.elem Hc.r hlt) | (apply Q1.indexAddr; exact rfl; exact rfl; exact rfl; exact hlt; exact SlB.ne Hc.1 hlt) | (apply Q1.len; exact rfl) | (apply Q1.fieldAddrB; exact rfl) | (apply Q1.load1; exact rfl; (exact Rd.own1 (by (repeat (exact .head _))) rfl)) | (apply Q1.lss; exact rfl; exact rfl) | (apply Q1.leq; exact rfl; exact rfl) | (apply Q1.nilCheck; exact rfl))))) | (apply WL.store1; exact rfl; exact rfl; exact rfl; exact rfl; exact rfl; (repeat (exact .head)); (exact Nat.le_of_ble_eq_true rfl)))
    (apply At.ret1 (by first | exact .inl rfl | exact .inr rfl); exact rfl; exact RV.tmp rfl; intro w2 hw2)
    exact RetP.mk ⟨_, at_ + 1, _, rfl, hbd, Nat.le_refl _, rfl⟩ hw2 (.refl _)
  · have hl8 := low8_bd
    repeat' (first | apply X.seq | apply X.region | (apply X.drawn mixed; kernel_rfl) | apply X.skip | apply X.ret | (apply X.condPf; exact rfl; (omega)) | apply At.then_normal | apply WL.nil | apply WQ.nil | (apply WL.q; exact rfl; exact rfl; exact rfl; ((apply QC.v; (first | (apply Q1.move; exact rfl) | (apply Q1.assign; exact rfl) | (apply Q1.convL; exact rfl) | (apply Q1.conv; exact rfl) | (apply Q1.shr; exact rfl; exact rfl; decide) | (apply Q1.and255; exact rfl; exact rfl) | (apply Q1.fieldAddrB; exact rfl) | (apply Q1.load1; exact rfl; (exact Rd.own1 (by (repeat (exact .head _))) rfl)) | (apply Q1.add; exact rfl; exact rfl; omega) | (apply Q1.nilCheck; exact rfl) | (apply Q1.addw; exact rfl; exact rfl) | (apply Q1.mulw; exact rfl; exact rfl))))) | (apply WQ.q; exact rfl; exact rfl; exact rfl; ((apply QC.v; (first | (apply Q1.move; exact rfl) | (apply Q1.len; exact rfl) | (apply Q1.fieldAddrB; exact rfl) | (apply Q1.load1; exact rfl; (exact Rd.own1 (by (repeat (exact .head _))) rfl)) | (apply Q1.lss; exact rfl; exact rfl) | (apply Q1.leq; exact rfl; exact rfl) | (apply Q1.nilCheck; exact rfl))))) | (apply WL.store1; exact rfl; exact rfl; exact rfl; exact rfl; exact rfl; (repeat (exact .head)); (exact Nat.le_of_ble_eq_true rfl)))
    (apply At.ret1 (by first | exact .inl rfl | exact .inr rfl); exact rfl; exact RV.tmp rfl; intro w2 hw2)
    exact RetP.mk ⟨_, at_ + 1, _, rfl, hl8 _, Nat.le_refl _, rfl⟩ hw2 (.refl _)
theorem pick_any (cb : Nat) (A : Option Addr) (cc : Nat) (code : List UInt8) (at_ : Nat) (sd : Int) (n : Int) (w : World) (H : Res.On ⟨cb, 108, [.slice A code.length cc, .int .i64 (at_ : Int), .int .u64 sd], 3⟩ w) (Hc : SrcOf w cb A code) (hn : code.length ≤ 65536) (hat : at_ ≤ 3900000000) (hN : n ≤ 65536) : Calls Try.prog 80 #[.pointer (some ⟨cb, 0, none⟩), .int .i64 n] w (RetP w [cb] (fun v hp => ∃ (x : Int) (at2 : Nat) (sd2 : Int), v = .int .i64 x ∧ (0 ≤ x ∧ (1 ≤ n → x < n)) ∧ at2 ≤ at_ + 2 ∧ hp = [⟨cb, 108, [.slice A code.length cc, .int .i64 (at2 : Int), .int .u64 sd2], 3⟩])) := by
  refine Calls.ofX (args := [.pointer (some ⟨cb, 0, none⟩), .int .i64 n]) Try.func80 rfl Try.ntmps80 rfl (S.init1 H) ?_
  by_cases h1 : n ≤ 1
  · repeat' (first | apply X.seq | apply X.region | apply X.ret | (apply X.condPt; exact rfl; (assumption)) | apply At.then_normal | apply At.then_ret | apply WL.nil | (apply WL.q; exact rfl; exact rfl; exact rfl; ((apply QC.v; (first | (apply Q1.move; exact rfl) | (apply Q1.assign; exact rfl) | (apply Q1.leq; exact rfl; exact rfl))))))
    (apply At.ret1 (by first | exact .inl rfl | exact .inr rfl); exact rfl; exact RV.tmp rfl; intro w2 hw2)
    exact RetP.mk ⟨0, at_, _, rfl, ⟨by omega, fun _ => by omega⟩, by omega, rfl⟩ hw2 (.refl _)
  · by_cases h2 : n ≤ 200
    · repeat' (first | apply X.seq | apply X.region | apply X.skip | apply X.ret | (apply X.condPf; exact rfl; (first | assumption | omega)) | apply At.then_normal | apply WL.nil | (apply WL.callM; exact rfl; exact rfl; exact rfl; (intro w hw; exact next_any cb A cc code _ _ w (hw.on _ (by (repeat (exact .head _)))) (Hc.at_ hw) hn (by omega)); (repeat (exact .head)); rintro _ _ ⟨x1, at1, sd1, rfl, hx1, hat1, rfl⟩) | (apply WL.q; exact rfl; exact rfl; exact rfl; ((apply QC.v; (first | (apply Q1.move; exact rfl) | (apply Q1.assign; exact rfl) | (apply Q1.leq; exact rfl; exact rfl) | (apply Q1.gtr; exact rfl; exact rfl) | (apply Q1.rem; exact rfl; exact rfl; omega))))))
      (apply At.ret1 (by first | exact .inl rfl | exact .inr rfl); exact rfl; exact RV.tmp rfl; intro w2 hw2)
      exact RetP.mk ⟨_, at1, sd1, rfl, ⟨Int.emod_nonneg _ (by omega), fun _ => Int.emod_lt_of_pos _ (by omega)⟩, by omega, rfl⟩ hw2 (.refl _)
    · repeat' (first | apply X.seq | apply X.region | apply X.skip | apply X.ret | (apply X.condPt; exact rfl; (omega)) | (apply X.condPf; exact rfl; (assumption)) | apply At.then_normal | apply WL.nil | (apply WL.callM; exact rfl; exact rfl; exact rfl; (intro w hw; exact next_any cb A cc code _ _ w (hw.on _ (by (repeat (exact .head _)))) (Hc.at_ hw) hn (by omega)); (repeat (exact .head)); rintro _ _ ⟨_, _, _, rfl, _, _, rfl⟩) | (apply WL.q; exact rfl; exact rfl; exact rfl; ((apply QC.v; (first | (apply Q1.move; exact rfl) | (apply Q1.assign; exact rfl) | (apply Q1.leq; exact rfl; exact rfl) | (apply Q1.gtr; exact rfl; exact rfl) | (apply Q1.add; exact rfl; exact rfl; omega) | (apply Q1.mul; exact rfl; exact rfl; omega) | (apply Q1.rem; exact rfl; exact rfl; omega))))))
      (apply At.ret1 (by first | exact .inl rfl | exact .inr rfl); exact rfl; exact RV.tmp rfl; intro w2 hw2)
      exact RetP.mk ⟨_, _, _, rfl, ⟨Int.emod_nonneg _ (by omega), fun _ => Int.emod_lt_of_pos _ (by omega)⟩, by omega, rfl⟩ hw2 (.refl _)
theorem one_any (cb : Nat) (A : Option Addr) (cc : Nat) (code : List UInt8) (at_ : Nat) (sd : Int) (n : Int) (w : World) (H : Res.On ⟨cb, 108, [.slice A code.length cc, .int .i64 (at_ : Int), .int .u64 sd], 3⟩ w) (Hc : SrcOf w cb A code) (hn : code.length ≤ 65536) (hat : at_ ≤ 3800000000) (hN : n ≤ 65536) : Calls Try.prog 81 #[.pointer (some ⟨cb, 0, none⟩), .int .i64 n] w (RetP w [cb] (fun v hp => ∃ (x : Bool) (at2 : Nat) (sd2 : Int), v = .bool x ∧ True ∧ at2 ≤ at_ + 2 ∧ hp = [⟨cb, 108, [.slice A code.length cc, .int .i64 (at2 : Int), .int .u64 sd2], 3⟩])) := by
  refine Calls.ofX (args := [.pointer (some ⟨cb, 0, none⟩), .int .i64 n]) Try.func81 rfl Try.ntmps81 rfl (S.init1 H) ?_
  repeat' (first | apply X.seq | apply X.region | apply X.ret | apply At.then_normal | apply WL.nil | (apply WL.callM; exact rfl; exact rfl; exact rfl; (intro w hw; exact pick_any cb A cc code _ _ n w (hw.on _ (by (repeat (exact .head _)))) (Hc.at_ hw) hn (by omega) (by omega)); (repeat (exact .head)); rintro _ _ ⟨x1, at1, sd1, rfl, hx1, hat1, rfl⟩) | (apply WL.q; exact rfl; exact rfl; exact rfl; ((apply QC.v; (first | (apply Q1.move; exact rfl) | (apply Q1.assign; exact rfl) | (apply Q1.eqlI; exact rfl; exact rfl))))))
  (apply At.ret1 (by first | exact .inl rfl | exact .inr rfl); exact rfl; exact RV.tmp rfl; intro w2 hw2)
  exact RetP.mk ⟨_, at1, sd1, rfl, trivial, hat1, rfl⟩ hw2 (.refl _)
theorem among_any (cb : Nat) (A : Option Addr) (cc : Nat) (code : List UInt8) (at_ : Nat) (sd : Int) (B : Option Addr) (m : Nat) (vs : List Int) (w : World) (H : Res.On ⟨cb, 108, [.slice A code.length cc, .int .i64 (at_ : Int), .int .u64 sd], 3⟩ w) (Hc : SrcOf w cb A code) (hn : code.length ≤ 65536) (hat : at_ ≤ 3800000000) (Hv : SrcOf w cb B vs) (hv : 0 < vs.length ∧ vs.length ≤ 65536) : Calls Try.prog 97 #[.pointer (some ⟨cb, 0, none⟩), .slice B vs.length m] w (RetP w [cb] (fun v hp => ∃ (x : Int) (at2 : Nat) (sd2 : Int), v = .int .i64 x ∧ x ∈ vs ∧ at2 ≤ at_ + 2 ∧ hp = [⟨cb, 108, [.slice A code.length cc, .int .i64 (at2 : Int), .int .u64 sd2], 3⟩])) := by
  refine Calls.ofX (args := [.pointer (some ⟨cb, 0, none⟩), .slice B vs.length m]) Try.func97 rfl Try.ntmps97 rfl (S.init1 H) ?_
  repeat' (first | apply X.seq | apply X.region | apply X.ret | apply At.then_normal | apply WL.nil | (apply WL.callM; exact rfl; exact rfl; exact rfl; (intro w hw; exact pick_any cb A cc code _ _ _ w (hw.on _ (by (repeat (exact .head _)))) (Hc.at_ hw) hn (by omega) (by omega)); (repeat (exact .head)); rintro _ _ ⟨x1, at1, sd1, rfl, hx1, hat1, rfl⟩) | (apply WL.q; exact rfl; exact rfl; exact rfl; ((apply QC.v; (first | (apply Q1.move; exact rfl) | (apply Q1.assign; exact rfl) | (apply Q1.indexAddr; exact rfl; exact rfl; exact (Int.toNat_of_nonneg hx1.1).symm; (have := hx1.2 (by omega); omega); exact SlB.ne0 Hv.1 hv.1) | (apply Q1.load1; exact rfl; exact SlR.elem Hv.r (by have := hx1.2 (by omega); omega)) | (apply Q1.len; exact rfl))))))
  (apply At.ret1 (by first | exact .inl rfl | exact .inr rfl); exact rfl; exact RV.tmp rfl; intro w2 hw2)
  exact RetP.mk ⟨_, at1, sd1, rfl, List.getElem_mem _, hat1, rfl⟩ hw2 (.refl _)
end Go.Proofs.Ytnmhoeafdengfaa
