/-
Freight: freights, plans, winters made of numbers: contracts.
Freight: plans and winters made of numbers: contracts.
Freight: winters made of numbers: contract.
Freight: lists that are plans: contracts.
Conditions: none.
-/
import Derived.Test.YthpjckoklnhbcaaHE
import Derived.Test.YthpjckoklnhbcaaQG8
set_option linter.unusedVariables false
set_option linter.unusedSimpArgs false
namespace Go.Sas
open Go.Proofs
set_option maxRecDepth 100000
end Go.Sas
namespace Go.Sas
open Go.Proofs
set_option maxRecDepth 100000
theorem Elems_nat (l : List Nat) : Elems 1 (l.map natI) (l.map natI) := by
  have := Elems_I (l.map iLen)
  rw [List.map_map] at this; exact this
theorem updS_map {p : List Nat} {i x : Nat} (h : i < p.length) : updS 1 (p.map natI) i [natI x] ((p.set i x).map natI) := by
  refine ⟨rfl, by simp; omega, ?_⟩
  rw [List.set_eq_take_append_cons_drop, if_pos h]
  simp [List.map_append, List.map_take, List.map_drop]
theorem getS_map {p : List Nat} {i x : Nat} (h : p[i]? = some x) : getS none (p.map natI) i (natI x) := by
  simp [getS, getN, h]
end Go.Sas
namespace Go.Sas
open Go.Proofs
set_option maxRecDepth 100000
/-- a winter lies within a freight -/
structure WinV (f : Frt) (w : Win) : Prop where
  fi : f.fi.1 ≤ w.fi ∧ w.fi ≤ f.fi.2
  la : f.la.1 ≤ w.la ∧ w.la ≤ f.la.2
  len : w.caps.length = f.caps.length
  cap : ∀ (i : Nat) (x : Int) (c : Int × Int), w.caps[i]? = some x → f.caps[i]? = some c → c.1 ≤ x ∧ x ≤ c.2
end Go.Sas
namespace Go.Sas
open Go.Proofs
set_option maxRecDepth 100000
/-- a plan of so many orders -/
def PlanP (n : Nat) (l : List Int) : Prop := l.length = n ∧ (∀ k ∈ l, 0 ≤ k ∧ k ≤ (n : Int) - 1) ∧ l.Nodup
instance (n : Nat) (l : List Int) : Decidable (PlanP n l) := inferInstanceAs (Decidable (_ ∧ _ ∧ _))
end Go.Sas
