/-
What comes in, by the types of chapter 3.
Conditions: none.
-/
import Derived.Test.YtelmlpjkpebcgaaJ1
import Derived.Test.YtelmlpjkpebcgaaProg
set_option linter.unusedVariables false
set_option linter.unusedSimpArgs false
namespace Go.Sas
open Go.Proofs
set_option maxRecDepth 100000
end Go.Sas
