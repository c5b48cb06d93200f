/- How the form reads the struct Light: numbers, a name, a spot and a slice of Phase. No condition. -/
import Derived.Test.YtnmhoeafdengfaaOpen
import Derived.Test.YtnmhoeafdengfaaSpotDec
import Derived.Test.YtnmhoeafdengfaaPhaseDec
namespace Go.Proofs.Ytnmhoeafdengfaa
open Go.ChangeShapes Go.WideShapes Go.ChangeAt Go.RowKit
theorem slB_of2 {P : Program} {H : Type} {enc : TypeId × Value → H} {w : World} {base : Nat} {spare : Nat → Bool} {held : Bool} {fuel : Nat} {cs : List Value} {x : DataW H × List MemPlace} {t e : TypeId} {sz bt : Nat} {α : Type} [Enc α] [hT : TSlice P t e sz bt] [hS : TSize P e sz] [hD : Dec P e α] (hz : Enc.size α = sz)
    (h : DataW.trod enc P w base spare held fuel t cs = some x) : ∃ (A : Option Addr) (c : Nat) (l : List α), cs = [.slice A l.length c] ∧ SlB w A l ∧ l.length ≤ c ∧ c ≤ maxLen := by
  have key : ∃ a n c, cs = [.slice a n c] := by
    rcases Go.Deep.open_slice hT.under h with ⟨h1, _⟩ | ⟨a, len, cap, m, n, D, Pl, h1, _⟩
    · exact ⟨_, _, _, h1⟩
    · exact ⟨_, _, _, h1⟩
  obtain ⟨a, n, c, rfl⟩ := key
  obtain ⟨A, c', l, e1, h2, h3, h4⟩ := open_sl (α := α) hz ⟨a, n, c, rfl⟩ (show DataW.Trod enc P w base spare held t (.slice a n c) x.1 x.2 from ⟨fuel, by simpa [Value.cells] using h⟩)
  exact ⟨A, c', l, by rw [e1], h2, h3, h4⟩
set_option maxRecDepth 100000 in
theorem open_lt {H : Type} {enc : TypeId × Value → H} {w : World} {base : Nat} {spare : Nat → Bool} {held : Bool} {v : Value} {d : DataW H} {p : List MemPlace} (hv : ∃ cs, v = .agg cs ∧ cs.size = Try.prog.cellsOf 83) (h : DataW.Trod enc Try.prog w base spare held 83 v d p) :
    ∃ (id : Int) (nm : ByteArray) (x y rg : Int) (A : Option Addr) (cp : Nat) (l : List Phase), v = .agg #[.int .i64 id, .string nm, .int .i64 x, .int .i64 y, .int .i64 rg, .slice A l.length cp] ∧ SlB w A l ∧ l.length ≤ cp ∧ cp ≤ maxLen ∧ nm.size ≤ maxLen := by
  obtain ⟨cs, rfl, _⟩ := hv
  obtain ⟨fuel, hf0⟩ := h
  obtain ⟨xs, n, _, _, hl, hlen, hf⟩ := DataW.trod_struct Try.underlying83 hf0
  rw [cellsOf_of (m := 6)] at hl
  have hcs : ((Value.agg cs).cells.toList) = cs.toList := rfl
  rw [hcs] at hl hf
  obtain ⟨l0, hl0⟩ : ∃ l0, cs.toList = l0 := ⟨_, rfl⟩
  rw [hl0] at hl hf
  match l0, hl, hl0 with
  | [c0, c1, c2, c3, c4, c5], _, hl0 =>
    have g0 := hf 0 _ rfl
    obtain ⟨y0, hy0⟩ : ∃ y, xs[0]? = some y := ⟨_, List.getElem?_eq_getElem (by rw [hlen]; exact Nat.le_of_ble_eq_true rfl)⟩
    rw [hy0] at g0
    obtain ⟨a0, e0⟩ := dec_int (P := Try.prog) (t := 3) (cs := [c0]) g0
    obtain rfl := List.singleton_inj.1 e0
    have g1 := hf 1 _ rfl
    obtain ⟨y1, hy1⟩ : ∃ y, xs[1]? = some y := ⟨_, List.getElem?_eq_getElem (by rw [hlen]; exact Nat.le_of_ble_eq_true rfl)⟩
    rw [hy1] at g1
    obtain ⟨nm, e1, _, hnm⟩ := DataW.trod_string (P := Try.prog) (t := 9) (cs := [c1]) (TString.under (P := Try.prog) (t := 9)) g1
    obtain rfl := List.singleton_inj.1 e1
    have g2 := hf 2 _ rfl
    obtain ⟨y2, hy2⟩ : ∃ y, xs[2]? = some y := ⟨_, List.getElem?_eq_getElem (by rw [hlen]; exact Nat.le_of_ble_eq_true rfl)⟩
    rw [hy2] at g2
    obtain ⟨a2, e2⟩ := Dec.dec (P := Try.prog) (t := 23) (α := Spot) (cs := [c2, c3]) g2
    obtain ⟨rfl, rfl⟩ : c2 = .int .i64 a2.x ∧ c3 = .int .i64 a2.y := by simpa [Enc.cells] using e2
    have g3 := hf 3 _ rfl
    obtain ⟨y3, hy3⟩ : ∃ y, xs[3]? = some y := ⟨_, List.getElem?_eq_getElem (by rw [hlen]; exact Nat.le_of_ble_eq_true rfl)⟩
    rw [hy3] at g3
    obtain ⟨a3, e3⟩ := dec_int (P := Try.prog) (t := 3) (cs := [c4]) g3
    obtain rfl := List.singleton_inj.1 e3
    have g4 := hf 4 _ rfl
    obtain ⟨y4, hy4⟩ : ∃ y, xs[4]? = some y := ⟨_, List.getElem?_eq_getElem (by rw [hlen]; exact Nat.le_of_ble_eq_true rfl)⟩
    rw [hy4] at g4
    obtain ⟨A, cp, l, e4, h2, h3, h4⟩ := slB_of2 (P := Try.prog) (t := 81) (cs := [c5]) (α := Phase) rfl g4
    obtain rfl := List.singleton_inj.1 e4
    exact ⟨a0, nm, a2.x, a2.y, a3, A, cp, l, by rw [show cs = #[.int .i64 a0, .string nm, .int .i64 a2.x, .int .i64 a2.y, .int .i64 a3, .slice A l.length cp] from Array.ext' (by simpa using hl0)], h2, h3, h4, hnm⟩
end Go.Proofs.Ytnmhoeafdengfaa
