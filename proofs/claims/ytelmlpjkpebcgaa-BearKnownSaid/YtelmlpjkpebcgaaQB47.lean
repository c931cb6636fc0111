/-
BearKnown: the run by reckoning: a gap of three; an example.
Conditions: none.
-/
import Derived.Test.YtelmlpjkpebcgaaJ8
set_option linter.unusedVariables false
set_option linter.unusedSimpArgs false
namespace Go.Sas
open Go.Proofs
set_option maxRecDepth 100000
theorem r63c : runK ctV [] 1100 63 [plC, I 700, row63 [8000, 8000, 8000]] = some (.tup [I 20, I 0]) := by kernel_rfl
theorem r19 : runK ctV [] 500 19 [] = some (.lit (.bool true)) := by kernel_rfl
end Go.Sas
