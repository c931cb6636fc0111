/-
Probe: marks and looks of later hours say nothing.
Conditions: none.
-/
import Derived.Test.YtajegdbljldakaaQRM13
import Derived.Test.YtajegdbljldakaaPM
set_option linter.unusedVariables false
set_option linter.unusedSimpArgs false
namespace Go.Sas
theorem why_zero {R : List Rch} {a b c : Int} {l : List Lk} {m : List Mrk} {need h : Int} {p : Nat} (hw : whyS R a b c l m need h p = 0) : need ≤ (knowS R l p h).1 ∧ verdS m h (iLen R.length) p = 2 ∧ staleS R a b c l h p = false := by
  unfold whyS at hw
  split at hw
  · omega
  · split at hw
    · omega
    · split at hw
      · omega
      · rename_i h1 h2 h3
        exact ⟨by omega, by simpa using h2, by simpa using h3⟩
end Go.Sas
