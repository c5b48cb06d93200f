/- How the form reads the struct Spot. No condition. -/
import Derived.Test.YtnmhoeafdengfaaDoorSpot
import Derived.Test.YtnmhoeafdengfaaDoorOpen
namespace Go.Proofs.YtnmhoeafdengfaaDoor
open Go.ChangeShapes Go.WideShapes Go.ChangeAt Go.RowKit
set_option maxRecDepth 100000 in
instance : Dec Tryd.prog 71 Spot := ⟨fun {H enc w base spare held fuel cs x} h => by
  obtain ⟨xs, n, _, _, hl, hlen, hf⟩ := DataW.trod_struct Tryd.underlying71 h
  rw [cellsOf_of (m := 2)] at hl
  match cs, hl with
  | [c0, c1], _ =>
    have g0 := hf 0 _ rfl
    obtain ⟨y0, hy0⟩ : ∃ y, xs[0]? = some y := ⟨_, List.getElem?_eq_getElem (by rw [hlen]; exact Nat.le_of_ble_eq_true rfl)⟩
    rw [hy0] at g0
    obtain ⟨a0, e0⟩ := dec_int (P := Tryd.prog) (t := 3) (cs := [c0]) g0
    obtain rfl := List.singleton_inj.1 e0
    have g1 := hf 1 _ rfl
    obtain ⟨y1, hy1⟩ : ∃ y, xs[1]? = some y := ⟨_, List.getElem?_eq_getElem (by rw [hlen]; exact Nat.le_of_ble_eq_true rfl)⟩
    rw [hy1] at g1
    obtain ⟨a1, e1⟩ := dec_int (P := Tryd.prog) (t := 3) (cs := [c1]) g1
    obtain rfl := List.singleton_inj.1 e1
    exact ⟨⟨a0, a1⟩, rfl⟩⟩
end Go.Proofs.YtnmhoeafdengfaaDoor
