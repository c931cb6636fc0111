/-
Probe: where a course breaks.
Probe: courses that fit do not break; the course of a number that is known.
Conditions: none.
-/
import Derived.Test.YtajegdbljldakaaPO
import Derived.Test.YtajegdbljldakaaPM
set_option linter.unusedVariables false
set_option linter.unusedSimpArgs false
namespace Go.Sas
end Go.Sas
namespace Go.Sas
def FitsL (T : Nat → Nat → Int) (f : Int) (hours n : Nat) (l : List Lk) : Prop := ∀ x ∈ l, ∀ i p : Nat, i < hours → p < n → x.h = f + i → x.p = p → x.lo ≤ T i p ∧ T i p ≤ x.hi
theorem FitsL.of {R : List Rch} {T : Nat → Nat → Int} {f : Int} {hours : Nat} {l : List Lk} (h : ∀ x ∈ l, LkFit R T f hours x) : FitsL T f hours R.length l := by
  intro x hx i p hi hp h1 h2
  obtain ⟨_, j, q, k2, k3, k4, k5, k6, k7, k8, k9⟩ := h x hx
  rw [show i = j by omega, show p = q by omega]
  exact ⟨k7, k8⟩
end Go.Sas
