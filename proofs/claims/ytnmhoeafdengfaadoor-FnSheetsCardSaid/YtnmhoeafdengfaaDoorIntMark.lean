/- What the laws' markers do with slices of Int. No condition beyond sizes. -/
import Derived.Test.YtnmhoeafdengfaaDoorMem
namespace Go.Proofs.YtnmhoeafdengfaaDoor
open Go.RowKit
attribute [local irreducible] X WL WQ WH WO At Q1 QC Rd RV Sub SlR SlB Calls Addr.add adOf
def mkInt (a : Int) : Int := a
end Go.Proofs.YtnmhoeafdengfaaDoor
