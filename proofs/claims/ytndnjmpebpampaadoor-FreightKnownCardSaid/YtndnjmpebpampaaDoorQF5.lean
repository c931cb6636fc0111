/-

Conditions: none.
-/
import Derived.Test.YtndnjmpebpampaaDoorP4f
set_option linter.unusedVariables false
set_option linter.unusedSimpArgs false

