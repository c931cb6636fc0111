/-
Freight: the reference's checks of plans, and what a way delivers: contracts.
Freight: the reference's ranges and promises: contracts.
Conditions: none.
-/
import Derived.Test.YtndnjmpebpampaaDoorHDf
import Derived.Test.YtndnjmpebpampaaDoorHFf
import Derived.Test.YtndnjmpebpampaaDoorHKf
set_option linter.unusedVariables false
set_option linter.unusedSimpArgs false
namespace Go.Sas
open Go.Proofs
set_option maxRecDepth 100000
end Go.Sas
namespace Go.Sas
open Go.Proofs
set_option maxRecDepth 100000
end Go.Sas
