/- How the form reads the struct Marked. No condition. -/
import Derived.Test.YtnmhoeafdengfaaDoorMarked
import Derived.Test.YtnmhoeafdengfaaDoorOpen
import Derived.Test.YtnmhoeafdengfaaDoorSpotDec
namespace Go.Proofs.YtnmhoeafdengfaaDoor
open Go.ChangeShapes Go.WideShapes Go.ChangeAt Go.RowKit
set_option maxRecDepth 100000 in
instance : Dec Tryd.prog 73 Marked := ⟨fun {H enc w base spare held fuel cs x} h => by
  obtain ⟨xs, n, _, _, hl, hlen, hf⟩ := DataW.trod_struct Tryd.underlying73 h
  rw [cellsOf_of (m := 4)] at hl
  match cs, hl with
  | [c0, c1, c2, c3], _ =>
    have g0 := hf 0 _ rfl
    obtain ⟨y0, hy0⟩ : ∃ y, xs[0]? = some y := ⟨_, List.getElem?_eq_getElem (by rw [hlen]; exact Nat.le_of_ble_eq_true rfl)⟩
    rw [hy0] at g0
    obtain ⟨a0, e0⟩ := dec_int (P := Tryd.prog) (t := 3) (cs := [c0]) g0
    obtain rfl := List.singleton_inj.1 e0
    have g1 := hf 1 _ rfl
    obtain ⟨y1, hy1⟩ : ∃ y, xs[1]? = some y := ⟨_, List.getElem?_eq_getElem (by rw [hlen]; exact Nat.le_of_ble_eq_true rfl)⟩
    rw [hy1] at g1
    obtain ⟨a1, e1⟩ := Dec.dec (P := Tryd.prog) (t := 71) (α := Spot) (cs := [c1, c2]) g1
    obtain ⟨rfl, rfl⟩ : c1 = .int .i64 a1.x ∧ c2 = .int .i64 a1.y := by simpa [Enc.cells] using e1
    have g2 := hf 2 _ rfl
    obtain ⟨y2, hy2⟩ : ∃ y, xs[2]? = some y := ⟨_, List.getElem?_eq_getElem (by rw [hlen]; exact Nat.le_of_ble_eq_true rfl)⟩
    rw [hy2] at g2
    obtain ⟨a2, e2⟩ := dec_int (P := Tryd.prog) (t := 3) (cs := [c3]) g2
    obtain rfl := List.singleton_inj.1 e2
    exact ⟨⟨a0, a1.x, a1.y, a2⟩, rfl⟩⟩
end Go.Proofs.YtnmhoeafdengfaaDoor
