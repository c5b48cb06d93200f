/- Slices of numbers: what the laws' helpers for them do. No condition beyond sizes. -/
import Derived.Test.YtnmhoeafdengfaaDoorData
import Derived.Test.YtnmhoeafdengfaaDoorTypes
namespace Go.Proofs.YtnmhoeafdengfaaDoor
open Go.RowKit
attribute [local irreducible] X WL WQ WH WO At Q1 QC Rd RV Sub SlR SlB Calls Addr.add adOf
end Go.Proofs.YtnmhoeafdengfaaDoor
