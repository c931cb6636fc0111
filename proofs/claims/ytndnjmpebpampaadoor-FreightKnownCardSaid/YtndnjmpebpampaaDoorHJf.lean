/-
Freight: the reference's Check.
Freight: big freights, copies, comparisons.
Conditions: none.
-/
import Derived.Test.YtndnjmpebpampaaDoorHBf
set_option linter.unusedVariables false
set_option linter.unusedSimpArgs false
namespace Go.Sas
open Go.Proofs
set_option maxRecDepth 100000
end Go.Sas
namespace Go.Sas
open Go.Proofs
set_option maxRecDepth 100000
end Go.Sas
