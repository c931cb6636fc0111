/-
Freight: what a plan costs at least and at most: contracts.
Freight: checks of winters; Spread: contracts.
Freight: what a plan promises: contract.
Conditions: none.
-/
import Derived.Test.YthpjckoklnhbcaaHF
import Derived.Test.YthpjckoklnhbcaaQG20
set_option linter.unusedVariables false
set_option linter.unusedSimpArgs false
namespace Go.Sas
open Go.Proofs
set_option maxRecDepth 100000
def planN (l : List Int) : List Nat := l.map Int.toNat
theorem PlanP.nat {n : Nat} {l : List Int} (h : PlanP n l) : l.map I = (planN l).map natI ∧ ∀ k ∈ planN l, k < n := by
  refine ⟨?_, fun k hk => ?_⟩
  · rw [planN, List.map_map]
    apply List.map_congr_left
    intro x hx
    have := h.2.1 x hx
    show I x = I (iLen x.toNat)
    rw [show iLen x.toNat = x from by unfold iLen; omega]
  · obtain ⟨x, hx, rfl⟩ := List.mem_map.1 hk
    have := h.2.1 x hx; omega
theorem planN_len {l : List Int} : (planN l).length = l.length := by simp [planN]
end Go.Sas
namespace Go.Sas
open Go.Proofs
set_option maxRecDepth 100000
end Go.Sas
namespace Go.Sas
open Go.Proofs
set_option maxRecDepth 100000
end Go.Sas
