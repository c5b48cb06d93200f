/- What the laws' markers do with slices of Marked. No condition beyond sizes. -/
import Derived.Test.YtnmhoeafdengfaaDoorMem
import Derived.Test.YtnmhoeafdengfaaDoorMarked
namespace Go.Proofs.YtnmhoeafdengfaaDoor
open Go.RowKit
attribute [local irreducible] X WL WQ WH WO At Q1 QC Rd RV Sub SlR SlB Calls Addr.add adOf
def mkMarked (a : Int) : Marked := ⟨a, a + 1, a + 1 + 1, a + 1 + 1 + 1⟩
end Go.Proofs.YtnmhoeafdengfaaDoor
