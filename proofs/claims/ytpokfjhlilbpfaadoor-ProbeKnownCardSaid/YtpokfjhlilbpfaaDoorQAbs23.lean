/-
An abstract machine over values, part 23: the run by reckoning, made plain step by step, for the kernel.
Conditions: none.
-/
import Derived.Test.YtpokfjhlilbpfaaDoorQAbs22
set_option linter.unusedVariables false
set_option linter.unusedSimpArgs false
namespace Go.Sas

section
variable {β : Type}
end

end Go.Sas
