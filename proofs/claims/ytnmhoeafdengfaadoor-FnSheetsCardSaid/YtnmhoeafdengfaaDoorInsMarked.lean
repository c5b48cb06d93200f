/- slices.Insert of one element at []Marked: what it computes, for every capacity. No condition beyond sizes. -/
import Derived.Test.YtnmhoeafdengfaaDoorIns
import Derived.Test.YtnmhoeafdengfaaDoorMarked
namespace Go.Proofs.YtnmhoeafdengfaaDoor
open Go.RowKit
attribute [local irreducible] X WL WQ WH WO At Q1 QC Rd RV Sub SlR SlB Calls Addr.add adOf
end Go.Proofs.YtnmhoeafdengfaaDoor
