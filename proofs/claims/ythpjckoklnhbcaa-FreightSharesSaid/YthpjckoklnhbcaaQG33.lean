/-
Freight: Tell, and what a plan does in a winter: contracts.
Conditions: none.
-/
import Derived.Test.YthpjckoklnhbcaaHG
set_option linter.unusedVariables false
set_option linter.unusedSimpArgs false
namespace Go.Sas
open Go.Proofs
set_option maxRecDepth 100000
end Go.Sas
