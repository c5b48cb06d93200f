/- How the form reads the struct Sheet: a slice of Marked and a number. No condition. -/
import Derived.Test.YtnmhoeafdengfaaDoorOpen
import Derived.Test.YtnmhoeafdengfaaDoorMarkedDec
namespace Go.Proofs.YtnmhoeafdengfaaDoor
open Go.ChangeShapes Go.WideShapes Go.ChangeAt Go.RowKit
theorem slB_of {P : Program} {H : Type} {enc : TypeId × Value → H} {w : World} {base : Nat} {spare : Nat → Bool} {held : Bool} {fuel : Nat} {cs : List Value} {x : DataW H × List MemPlace} {t e : TypeId} {sz bt : Nat} {α : Type} [Enc α] [hT : TSlice P t e sz bt] [hS : TSize P e sz] [hD : Dec P e α] (hz : Enc.size α = sz)
    (h : DataW.trod enc P w base spare held fuel t cs = some x) : ∃ (A : Option Addr) (c : Nat) (l : List α), cs = [.slice A l.length c] ∧ SlB w A l ∧ l.length ≤ c ∧ c ≤ maxLen := by
  have key : ∃ a n c, cs = [.slice a n c] := by
    rcases Go.Deep.open_slice hT.under h with ⟨h1, _⟩ | ⟨a, len, cap, m, n, D, Pl, h1, _⟩
    · exact ⟨_, _, _, h1⟩
    · exact ⟨_, _, _, h1⟩
  obtain ⟨a, n, c, rfl⟩ := key
  obtain ⟨A, c', l, e1, h2, h3, h4⟩ := open_sl (α := α) hz ⟨a, n, c, rfl⟩ (show DataW.Trod enc P w base spare held t (.slice a n c) x.1 x.2 from ⟨fuel, by simpa [Value.cells] using h⟩)
  exact ⟨A, c', l, by rw [e1], h2, h3, h4⟩
set_option maxRecDepth 100000 in
theorem open_sh {H : Type} {enc : TypeId × Value → H} {w : World} {base : Nat} {spare : Nat → Bool} {held : Bool} {v : Value} {d : DataW H} {p : List MemPlace} (hv : ∃ cs, v = .agg cs ∧ cs.size = Tryd.prog.cellsOf 24) (h : DataW.Trod enc Tryd.prog w base spare held 24 v d p) :
    ∃ (A : Option Addr) (cp : Nat) (l : List Marked) (t : Int), v = .agg #[.slice A l.length cp, .int .i64 t] ∧ SlB w A l ∧ l.length ≤ cp ∧ cp ≤ maxLen := by
  obtain ⟨cs, rfl, _⟩ := hv
  obtain ⟨fuel, hf0⟩ := h
  obtain ⟨xs, n, _, _, hl, hlen, hf⟩ := DataW.trod_struct Tryd.underlying24 hf0
  rw [cellsOf_of (m := 2)] at hl
  have hcs : ((Value.agg cs).cells.toList) = cs.toList := rfl
  rw [hcs] at hl hf
  obtain ⟨l0, hl0⟩ : ∃ l0, cs.toList = l0 := ⟨_, rfl⟩
  rw [hl0] at hl hf
  match l0, hl, hl0 with
  | [c0, c1], _, hl0 =>
    have g0 := hf 0 _ rfl
    obtain ⟨y0, hy0⟩ : ∃ y, xs[0]? = some y := ⟨_, List.getElem?_eq_getElem (by rw [hlen]; exact Nat.le_of_ble_eq_true rfl)⟩
    rw [hy0] at g0
    obtain ⟨A, cp, l, e0, h2, h3, h4⟩ := slB_of (P := Tryd.prog) (t := 22) (cs := [c0]) (α := Marked) rfl g0
    obtain rfl := List.singleton_inj.1 e0
    have g1 := hf 1 _ rfl
    obtain ⟨y1, hy1⟩ : ∃ y, xs[1]? = some y := ⟨_, List.getElem?_eq_getElem (by rw [hlen]; exact Nat.le_of_ble_eq_true rfl)⟩
    rw [hy1] at g1
    obtain ⟨a1, e1⟩ := dec_int (P := Tryd.prog) (t := 3) (cs := [c1]) g1
    obtain rfl := List.singleton_inj.1 e1
    exact ⟨A, cp, l, a1, by rw [show cs = #[.slice A l.length cp, .int .i64 a1] from Array.ext' (by simpa using hl0)], h2, h3, h4⟩
end Go.Proofs.YtnmhoeafdengfaaDoor
