/- How the form reads the struct Notice. No condition. -/
import Derived.Test.YtnmhoeafdengfaaNotice
import Derived.Test.YtnmhoeafdengfaaOpen
import Derived.Test.YtnmhoeafdengfaaSpotDec
namespace Go.Proofs.Ytnmhoeafdengfaa
open Go.ChangeShapes Go.WideShapes Go.ChangeAt Go.RowKit
set_option maxRecDepth 100000 in
instance : Dec Try.prog 25 Notice := ⟨fun {H enc w base spare held fuel cs x} h => by
  obtain ⟨xs, n, _, _, hl, hlen, hf⟩ := DataW.trod_struct Try.underlying25 h
  rw [cellsOf_of (m := 7)] at hl
  match cs, hl with
  | [c0, c1, c2, c3, c4, c5, c6], _ =>
    have g0 := hf 0 _ rfl
    obtain ⟨y0, hy0⟩ : ∃ y, xs[0]? = some y := ⟨_, List.getElem?_eq_getElem (by rw [hlen]; exact Nat.le_of_ble_eq_true rfl)⟩
    rw [hy0] at g0
    obtain ⟨a0, e0⟩ := dec_int (P := Try.prog) (t := 3) (cs := [c0]) g0
    obtain rfl := List.singleton_inj.1 e0
    have g1 := hf 1 _ rfl
    obtain ⟨y1, hy1⟩ : ∃ y, xs[1]? = some y := ⟨_, List.getElem?_eq_getElem (by rw [hlen]; exact Nat.le_of_ble_eq_true rfl)⟩
    rw [hy1] at g1
    obtain ⟨a1, e1⟩ := dec_int (P := Try.prog) (t := 3) (cs := [c1]) g1
    obtain rfl := List.singleton_inj.1 e1
    have g2 := hf 2 _ rfl
    obtain ⟨y2, hy2⟩ : ∃ y, xs[2]? = some y := ⟨_, List.getElem?_eq_getElem (by rw [hlen]; exact Nat.le_of_ble_eq_true rfl)⟩
    rw [hy2] at g2
    obtain ⟨a2, e2⟩ := dec_int (P := Try.prog) (t := 3) (cs := [c2]) g2
    obtain rfl := List.singleton_inj.1 e2
    have g3 := hf 3 _ rfl
    obtain ⟨y3, hy3⟩ : ∃ y, xs[3]? = some y := ⟨_, List.getElem?_eq_getElem (by rw [hlen]; exact Nat.le_of_ble_eq_true rfl)⟩
    rw [hy3] at g3
    obtain ⟨a3, e3⟩ := dec_int (P := Try.prog) (t := 3) (cs := [c3]) g3
    obtain rfl := List.singleton_inj.1 e3
    have g4 := hf 4 _ rfl
    obtain ⟨y4, hy4⟩ : ∃ y, xs[4]? = some y := ⟨_, List.getElem?_eq_getElem (by rw [hlen]; exact Nat.le_of_ble_eq_true rfl)⟩
    rw [hy4] at g4
    obtain ⟨a4, e4⟩ := dec_int (P := Try.prog) (t := 3) (cs := [c4]) g4
    obtain rfl := List.singleton_inj.1 e4
    have g5 := hf 5 _ rfl
    obtain ⟨y5, hy5⟩ : ∃ y, xs[5]? = some y := ⟨_, List.getElem?_eq_getElem (by rw [hlen]; exact Nat.le_of_ble_eq_true rfl)⟩
    rw [hy5] at g5
    obtain ⟨a5, e5⟩ := Dec.dec (P := Try.prog) (t := 23) (α := Spot) (cs := [c5, c6]) g5
    obtain ⟨rfl, rfl⟩ : c5 = .int .i64 a5.x ∧ c6 = .int .i64 a5.y := by simpa [Enc.cells] using e5
    exact ⟨⟨a0, a1, a2, a3, a4, a5.x, a5.y⟩, rfl⟩⟩
end Go.Proofs.Ytnmhoeafdengfaa
