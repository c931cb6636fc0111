/-
Freight: a copy of a row of spans, to be written to: contract.
Freight: a copy of a freight whose capacities may be written to: contract.
Freight: what the reference's bound calls: contracts.
Conditions: none.
-/
import Derived.Test.YtndnjmpebpampaaDoorQG37
import Derived.Test.YtndnjmpebpampaaDoorQF5
import Derived.Test.YtndnjmpebpampaaDoorHXf
import Derived.Test.YtndnjmpebpampaaDoorHIf
set_option linter.unusedVariables false
set_option linter.unusedSimpArgs false
namespace Go.Sas
open Go.Proofs
set_option maxRecDepth 100000
end Go.Sas
namespace Go.Sas
open Go.Proofs
set_option maxRecDepth 100000
theorem Frees.weak {m : Nat} {Kk : AV → AHeap → Prop} {r : AV} {H : AHeap} (q : Nat) {gg : Nat} {cs : List AV} (hX : H[q]? = some (.own gg cs)) (h : Frees m Kk r (H.set q (.own gg []))) : Frees m Kk r H :=
  fun st0 w0 st w v hm he hH hr => h st0 w0 st w v hm he (hH.weak hX) hr
end Go.Sas
namespace Go.Sas
open Go.Proofs
set_option maxRecDepth 100000
end Go.Sas
