/- How the form reads a byte. No condition. -/
import Derived.Test.YtnmhoeafdengfaaDoorCur
import Derived.Test.YtnmhoeafdengfaaDoorOpen
namespace Go.Proofs.YtnmhoeafdengfaaDoor
open Go.ChangeShapes Go.WideShapes Go.ChangeAt Go.RowKit
instance {P : Program} {t : TypeId} [hT : TInt P t .u8] : Dec P t UInt8 := ⟨fun {H enc w base spare held fuel cs x} h => by
  obtain ⟨n, hn, _, hw⟩ := DataW.trod_int hT.under h
  have h1 : IntKind.u8.min = 0 := rfl
  have h2 : IntKind.u8.max = 255 := rfl
  simp only [Lit.wf, Bool.and_eq_true, decide_eq_true_eq, h1, h2] at hw
  refine ⟨UInt8.ofNat n.toNat, ?_⟩
  rw [hn]
  have e : (UInt8.ofNat n.toNat).toNat = n.toNat := by
    rw [UInt8.toNat_ofNat']; omega
  show [Value.int .u8 n] = [Value.int .u8 ((UInt8.ofNat n.toNat).toNat : Int)]
  rw [e, show ((n.toNat : Nat) : Int) = n by omega]⟩
end Go.Proofs.YtnmhoeafdengfaaDoor
