/-
Freight: the next list of the same numbers: contract.
Freight: the reference's best plan: contract.
Freight: what the law FreightSpreads calls: contracts.
Conditions: none.
-/
import Derived.Test.YthpjckoklnhbcaaHF
import Derived.Test.YthpjckoklnhbcaaHI
import Derived.Test.YthpjckoklnhbcaaHX
import Derived.Test.YthpjckoklnhbcaaH8
set_option linter.unusedVariables false
set_option linter.unusedSimpArgs false
namespace Go.Sas
open Go.Proofs
set_option maxRecDepth 100000
end Go.Sas
namespace Go.Sas
open Go.Proofs
set_option maxRecDepth 100000
def hF (j k : Nat) : Int := if k < j then iLen k else 0
theorem nidL_natI (l : List Nat) : AV.nidL (l.map natI) = true := by
  induction l with
  | nil => rfl
  | cons x l ih => simpa [AV.nidL, AV.nid] using ih
end Go.Sas
namespace Go.Sas
open Go.Proofs
set_option maxRecDepth 100000
end Go.Sas
