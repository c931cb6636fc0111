/-
Other loads: one more, one that is far, another order.
A load at all metres of places: verdicts.
Small helps for loops and branches.
Conditions: none.
-/
import Derived.Test.YtndnjmpebpampaaGreatDoorJA
set_option linter.unusedVariables false
set_option linter.unusedSimpArgs false
namespace Go.Sas
theorem sum_app : ∀ (a b : List Int), (a ++ b).sum = a.sum + b.sum
  | [], b => by simp
  | x :: a, b => by simp only [List.cons_append, List.sum_cons]; rw [sum_app a b]; omega
end Go.Sas
namespace Go.Sas
end Go.Sas
namespace Go.Sas
def ltGB (n : Nat) : List (Nat × AV) → Bool
  | [] => true
  | x :: r => x.2.ltB n && ltGB n r
theorem ltGB_spec {n : Nat} : ∀ {S : List (Nat × AV)}, ltGB n S = true → ltG n S
  | [], _ => trivial
  | x :: r, h => by simp only [ltGB, Bool.and_eq_true] at h; exact ⟨AV.ltB_spec h.1, ltGB_spec h.2⟩
/-- what stands behind is dropped -/
theorem hf_drop {m : Nat} {S : List (Nat × AV)} {H0 H : AHeap} (T : AHeap) (hH : H = H0 ++ T) (hm : m ≤ H0.length) (h : (ltGB H0.length S && ltHB H0.length H0) = true) : HFits m S H0 H := by
  subst hH
  simp only [Bool.and_eq_true] at h
  exact .inr ⟨⟨T, rfl⟩, hm, ltGB_spec h.1, ltHB_spec h.2⟩
end Go.Sas
