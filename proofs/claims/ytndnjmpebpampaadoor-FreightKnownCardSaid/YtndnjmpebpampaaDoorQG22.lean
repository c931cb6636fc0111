/-
Freight: copies and comparisons of freights: contracts.
Conditions: none.
-/
import Derived.Test.YtndnjmpebpampaaDoorHEf
import Derived.Test.YtndnjmpebpampaaDoorHJf
import Derived.Test.YtndnjmpebpampaaDoorQG8
set_option linter.unusedVariables false
set_option linter.unusedSimpArgs false
namespace Go.Sas
open Go.Proofs
set_option maxRecDepth 100000
end Go.Sas
