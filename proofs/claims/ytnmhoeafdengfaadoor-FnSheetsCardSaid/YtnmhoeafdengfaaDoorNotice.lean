/- The struct Notice as plain cells, and what the laws' helpers for it do. No condition. -/
import Derived.Test.YtnmhoeafdengfaaDoorData
import Derived.Test.YtnmhoeafdengfaaDoorTypes
import Derived.Test.YtnmhoeafdengfaaDoorSpot
namespace Go.Proofs.YtnmhoeafdengfaaDoor
open Go.RowKit
attribute [local irreducible] X WL WQ WH WO At Q1 QC Rd RV Sub SlR SlB Calls Addr.add adOf

@[ext] structure Notice where
  number : Int
  kind : Int
  mark : Int
  old : Int
  depth : Int
  x : Int
  y : Int
instance : Enc Notice := ⟨7, fun q => [.int .i64 q.number, .int .i64 q.kind, .int .i64 q.mark, .int .i64 q.old, .int .i64 q.depth, .int .i64 q.x, .int .i64 q.y], fun _ => rfl, fun _ u hu => by simp at hu; rcases hu with rfl | rfl | rfl | rfl | rfl | rfl | rfl <;> rfl, by decide⟩
def Notice.zero : Notice := ⟨0, 0, 0, 0, 0, 0, 0⟩
end Go.Proofs.YtnmhoeafdengfaaDoor
