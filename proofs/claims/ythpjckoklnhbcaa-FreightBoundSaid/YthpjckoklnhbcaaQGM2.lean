/-
Freight: more room, more delivered, less cost: plain laws.
Conditions: none.
-/
import Derived.Test.YthpjckoklnhbcaaHG
set_option linter.unusedVariables false
set_option linter.unusedSimpArgs false
namespace Go.Sas
theorem sumR_le {R R' : Nat → Int} : ∀ d, (∀ e, e < d → R e ≤ R' e) → sumR R d ≤ sumR R' d
  | 0, _ => Int.le_refl _
  | d + 1, h => by
    have h1 := sumR_le d fun e he => h e (by omega)
    have h2 := h d (by omega)
    simp only [sumR]; omega
def Win.Ok (w : Win) : Prop := ∀ x ∈ w.caps, 0 ≤ x ∧ x ≤ 1000000
theorem FrtV.worst {f : Frt} (hV : FrtV f) : (worstW f).Ok := hV.lo
theorem FrtV.best {f : Frt} (hV : FrtV f) : (bestW f).Ok := hV.hi
theorem worst_win {f : Frt} (hV : FrtV f) : WinV f (worstW f) := by
  refine ⟨⟨hV.fi.2.1, Int.le_refl _⟩, ⟨Int.le_refl _, hV.la.2.1⟩, by simp [worstW], fun i x c hx hc => ?_⟩
  simp only [worstW, List.getElem?_map, hc, Option.map_some, Option.some.injEq] at hx
  subst hx
  have := hV.cb c (List.mem_of_getElem? hc)
  omega
end Go.Sas
