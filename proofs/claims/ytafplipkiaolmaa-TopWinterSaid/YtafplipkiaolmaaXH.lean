/-
Freight: the best plan: contract of Best.
Conditions: none.
-/
import Derived.Test.YtafplipkiaolmaaHE
set_option linter.unusedVariables false
set_option linter.unusedSimpArgs false
namespace Go.Sas
open Go.Proofs
set_option maxRecDepth 100000
def worstW (f : Frt) : Win := ⟨f.fi.2, f.la.1, f.caps.map (·.1)⟩
def bestW (f : Frt) : Win := ⟨f.fi.1, f.la.2, f.caps.map (·.2)⟩
end Go.Sas
