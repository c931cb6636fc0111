/-
BearKnown: the run by reckoning: gaps.
Conditions: none.
-/
import Derived.Test.YtelmlpjkpebcgaaJ8
set_option linter.unusedVariables false
set_option linter.unusedSimpArgs false
namespace Go.Sas
open Go.Proofs
set_option maxRecDepth 100000
theorem r63a : runK ctV [] 900 63 [plC, I 500, row63 [8000, 8000]] = some (.tup [I 100, I 0]) := by kernel_rfl
theorem r63b : runK ctV [] 800 63 [plC, I 500, row63 [10001]] = some (.tup [I (-1), I 0]) := by kernel_rfl
end Go.Sas
