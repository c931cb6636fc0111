/-

Conditions: none.
-/
import Derived.Test.YtpokfjhlilbpfaaGreatDoorP4g
set_option linter.unusedVariables false
set_option linter.unusedSimpArgs false

