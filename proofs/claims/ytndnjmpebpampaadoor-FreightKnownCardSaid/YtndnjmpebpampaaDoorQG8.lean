/-
Freight: functions that draw numbers, comparisons of lists.
Conditions: none.
-/
import Derived.Test.YtndnjmpebpampaaDoorP7f
import Derived.Test.YtndnjmpebpampaaDoorXFf
set_option linter.unusedVariables false
set_option linter.unusedSimpArgs false
namespace Go.Sas
open Go.Proofs
set_option maxRecDepth 100000
end Go.Sas
