/-
Freight: more room, more delivered, less cost: plain laws.
Conditions: none.
-/
import Derived.Test.YtndnjmpebpampaaDoorHGf
set_option linter.unusedVariables false
set_option linter.unusedSimpArgs false
namespace Go.Sas
def Win.Ok (w : Win) : Prop := ∀ x ∈ w.caps, 0 ≤ x ∧ x ≤ 1000000
theorem FrtV.worst {f : Frt} (hV : FrtV f) : (worstW f).Ok := hV.lo
theorem FrtV.best {f : Frt} (hV : FrtV f) : (bestW f).Ok := hV.hi
end Go.Sas
