/-
Freight: orders sorted: contract.
Freight: the bound: contract.
Conditions: none.
-/
import Derived.Test.YtndnjmpebpampaaDoorHNf
import Derived.Test.YtndnjmpebpampaaDoorHEf
set_option linter.unusedVariables false
set_option linter.unusedSimpArgs false
namespace Go.Sas
open Go.Proofs
set_option maxRecDepth 100000
end Go.Sas
namespace Go.Sas
open Go.Proofs
set_option maxRecDepth 100000
end Go.Sas
