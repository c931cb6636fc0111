/-

Conditions: none.
-/
import Derived.Test.YtafplipkiaolmaaP4
set_option linter.unusedVariables false
set_option linter.unusedSimpArgs false

