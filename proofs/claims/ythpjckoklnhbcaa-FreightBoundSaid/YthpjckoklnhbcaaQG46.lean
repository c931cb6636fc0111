/-
Freight: the reference's ranges and promises: contracts.
Conditions: none.
-/
import Derived.Test.YthpjckoklnhbcaaQG45
import Derived.Test.YthpjckoklnhbcaaHK
set_option linter.unusedVariables false
set_option linter.unusedSimpArgs false
namespace Go.Sas
open Go.Proofs
set_option maxRecDepth 100000
end Go.Sas
