/-

Freight: the law FreightChecks: its core.
Conditions: none.
-/
import Derived.Test.YtndnjmpebpampaaDoorP4f
import Derived.Test.YtndnjmpebpampaaDoorQG22
import Derived.Test.YtndnjmpebpampaaDoorHJf
import Derived.Test.YtndnjmpebpampaaDoorQG21
set_option linter.unusedVariables false
set_option linter.unusedSimpArgs false

namespace Go.Sas
open Go.Proofs
set_option maxRecDepth 100000
end Go.Sas
