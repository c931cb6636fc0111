/-
Probe: spans put together; stale places; where to look: contracts.
Probe: Stale, Plan: contracts.
Probe: runs of places; the fewest looks.
Conditions: none.
-/
import Derived.Test.YtafplipkiaolmaaPK
import Derived.Test.YtafplipkiaolmaaQRFg
import Derived.Test.YtafplipkiaolmaaPO
set_option linter.unusedVariables false
set_option linter.unusedSimpArgs false
namespace Go.Sas
open Go.Proofs
set_option maxRecDepth 100000
end Go.Sas
namespace Go.Sas
open Go.Proofs
set_option maxRecDepth 100000
end Go.Sas
namespace Go.Sas
section
variable {α : Type} [DecidableEq α]
/-- what a run says -/
theorem runsN_mem {V : Nat → α} : ∀ {n : Nat} {x : Nat × Nat × α}, x ∈ runsN V n → x.1 ≤ x.2.1 ∧ x.2.1 < n ∧ ∀ q, x.1 ≤ q → q ≤ x.2.1 → V q = x.2.2
  | 0, x, h => by simp [runsN] at h
  | n + 1, x, h => by
    rw [runsN] at h
    split at h
    · rename_i f t v hl
      have hm : (f, t, v) ∈ runsN V n := List.mem_of_getLast? hl
      have ht : t + 1 = n := by
        cases n with
        | zero => simp [runsN] at hl
        | succ k =>
          obtain ⟨l, g, h5, _⟩ := runsN_last (V := V) (n := k)
          rw [h5] at hl
          simp only [List.getLast?_append, List.getLast?_singleton, Option.some_or, Option.some.injEq, Prod.mk.injEq] at hl
          omega
      have ih := runsN_mem hm
      dsimp only at ih
      split at h
      · rename_i hv
        rcases List.mem_append.1 h with h | h
        · have := runsN_mem (List.dropLast_subset _ h); exact ⟨this.1, by omega, this.2.2⟩
        · simp only [List.mem_singleton] at h; subst h
          refine ⟨by dsimp only; omega, by dsimp only; omega, fun q h1 h2 => ?_⟩
          dsimp only at h1 h2 ⊢
          by_cases hq : q = n
          · rw [hq, hv]
          · exact ih.2.2 q h1 (by omega)
      · rcases List.mem_append.1 h with h | h
        · have := runsN_mem h; exact ⟨this.1, by omega, this.2.2⟩
        · simp only [List.mem_singleton] at h; subst h
          refine ⟨by dsimp only; omega, by dsimp only; omega, fun q h1 h2 => ?_⟩
          dsimp only at h1 h2 ⊢
          rw [show q = n by omega]
    · rename_i hl
      simp only [List.mem_singleton] at h; subst h
      have hn : n = 0 := by
        cases n with
        | zero => rfl
        | succ k =>
          obtain ⟨l, g, h5, _⟩ := runsN_last (V := V) (n := k)
          rw [h5] at hl; simp at hl
      subst hn
      exact ⟨Nat.le_refl _, by dsimp only; omega, fun q h1 h2 => by dsimp only at h2 ⊢; rw [show q = 0 by omega]⟩
/-- each place is in a run -/
theorem runsN_cov {V : Nat → α} : ∀ {n p : Nat}, p < n → ∃ x ∈ runsN V n, x.1 ≤ p ∧ p ≤ x.2.1
  | 0, p, h => by omega
  | n + 1, p, h => by
    by_cases hp : p = n
    · obtain ⟨l, f, h1, h2⟩ := runsN_last (V := V) (n := n)
      exact ⟨(f, n, V n), by rw [h1]; simp, by dsimp only; omega, by dsimp only; omega⟩
    · obtain ⟨x, hx, h1, h2⟩ := runsN_cov (V := V) (n := n) (p := p) (by omega)
      have hxm := runsN_mem hx
      rw [runsN]
      split
      · rename_i f t v hl
        split
        · by_cases hxl : x = (f, t, v)
          · subst hxl; exact ⟨(f, n, v), by simp, h1, by dsimp only; omega⟩
          · refine ⟨x, List.mem_append.2 (.inl ?_), h1, h2⟩
            have hne : runsN V n ≠ [] := fun h0 => by rw [h0] at hx; simp at hx
            rw [← List.dropLast_concat_getLast hne] at hx
            rcases List.mem_append.1 hx with hx | hx
            · exact hx
            · exfalso; apply hxl
              simp only [List.mem_singleton] at hx
              rw [List.getLast?_eq_some_getLast hne] at hl
              simp only [Option.some.injEq] at hl
              rw [hx, hl]
        · exact ⟨x, by simp [hx], h1, h2⟩
      · rename_i hl
        rw [List.getLast?_eq_none_iff] at hl
        rw [hl] at hx; simp at hx
end
/-- what a plan of looks says -/
structure PlanV (V : Nat → Bool) (s n : Int) (j : Nat) (u : Int × List Int × List Int) : Prop where
  len : u.2.2.length = u.2.1.length
  prf : ∀ (i : Nat) q, u.2.2[i]? = some q → ∃ p : Nat, q = iLen p ∧ p < j ∧ V p = true ∧ u.2.1[i]? = some (min (q + s) (n - 1)) ∧ q + 2 * s ≤ u.1
  nxt : ∀ (i : Nat) q q', u.2.2[i]? = some q → u.2.2[i + 1]? = some q' → q + 2 * s < q'
  cov : ∀ p : Nat, p < j → V p = true → ∃ x ∈ u.2.1, x - s ≤ p ∧ (p : Int) ≤ x + s
  see : u.1 = -1 ∨ ∃ q : Nat, q < j ∧ u.1 = iLen q + 2 * s ∧ min (iLen q + s) (n - 1) ∈ u.2.1
end Go.Sas
