/-
What the functions that ice rests on yield, part 10: waves and speeds.
What the functions that ice rests on yield, part 11: the verdicts on speeds.
What the functions that ice rests on yield, part 12: comparisons, examples.
Conditions: none.
-/
import Derived.Test.YtelmlpjkpebcgaaJ4
import Derived.Test.YtelmlpjkpebcgaaQT3
set_option linter.unusedVariables false
set_option linter.unusedSimpArgs false
namespace Go.Sas
open Go.Proofs
set_option maxRecDepth 100000
end Go.Sas
namespace Go.Sas
open Go.Proofs
set_option maxRecDepth 100000
end Go.Sas
namespace Go.Sas
open Go.Proofs
set_option maxRecDepth 100000
end Go.Sas
