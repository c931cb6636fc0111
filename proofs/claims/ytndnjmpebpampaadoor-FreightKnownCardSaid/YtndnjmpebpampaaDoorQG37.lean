/-
Freight: what may go on a day (of the kit): contract.
Conditions: none.
-/
import Derived.Test.YtndnjmpebpampaaDoorHKf
set_option linter.unusedVariables false
set_option linter.unusedSimpArgs false
namespace Go.Sas
open Go.Proofs
set_option maxRecDepth 100000
end Go.Sas
