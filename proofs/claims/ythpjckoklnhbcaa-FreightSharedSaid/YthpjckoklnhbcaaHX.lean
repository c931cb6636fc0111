/-
Freight: the reference's checks of plans, and what a way delivers: contracts.
Freight: the reference's ranges and promises: contracts.
Conditions: none.
-/
import Derived.Test.YthpjckoklnhbcaaHD
import Derived.Test.YthpjckoklnhbcaaHF
import Derived.Test.YthpjckoklnhbcaaHK
set_option linter.unusedVariables false
set_option linter.unusedSimpArgs false
namespace Go.Sas
open Go.Proofs
set_option maxRecDepth 100000
end Go.Sas
namespace Go.Sas
open Go.Proofs
set_option maxRecDepth 100000
end Go.Sas
