/-
Freight: rows that are as long as there are days: contracts.
Freight: ways that may be: contract.
Freight: what a plan delivers up to each day: plain laws.
Conditions: none.
-/
import Derived.Test.YthpjckoklnhbcaaHH
set_option linter.unusedVariables false
set_option linter.unusedSimpArgs false
namespace Go.Sas
open Go.Proofs
set_option maxRecDepth 100000
def idxP {α : Type} (p : α → Bool) : List α → Int → Int
  | [], _ => -1
  | x :: r, i => if p x then i else idxP p r (i + 1)
theorem idxP_any {α : Type} {p : α → Bool} : ∀ {l : List α} {i : Int}, 0 ≤ i → decide (0 ≤ idxP p l i) = l.any p
  | [], _, _ => by simp [idxP]
  | x :: r, i, h => by
    rw [List.any_cons]
    by_cases h1 : p x = true
    · have e : idxP p (x :: r) i = i := if_pos h1
      rw [e, h1]; simp [h]
    · have e : idxP p (x :: r) i = idxP p r (i + 1) := if_neg h1
      rw [e, idxP_any (by omega)]; simp [h1]
end Go.Sas
namespace Go.Sas
open Go.Proofs
set_option maxRecDepth 100000
/-- how many units go on a day -/
def colS (way : List (List Int)) (d : Nat) : Int := sumI (way.map fun r => r.getD d 0)
end Go.Sas
namespace Go.Sas
/-- how many units may go before a day -/
def sumR (R : Nat → Int) : Nat → Int
  | 0 => 0
  | d + 1 => sumR R d + R d
theorem PlanP.nodup {n : Nat} {l : List Int} (h : PlanP n l) : (planN l).Nodup := by
  unfold planN
  have h1 := h.2.1
  have h2 := h.2.2
  clear h
  induction l with
  | nil => simp
  | cons x l ih =>
    obtain ⟨hx, hnd⟩ := List.nodup_cons.1 h2
    rw [List.map_cons, List.nodup_cons]
    refine ⟨fun hm => ?_, ih (fun k hk => h1 k (by simp [hk])) hnd⟩
    obtain ⟨y, hy, he⟩ := List.mem_map.1 hm
    have e1 := h1 x (by simp)
    have e2 := h1 y (by simp [hy])
    have : y = x := by omega
    exact hx (this ▸ hy)
/-- a list without doubles, as long as there are numbers below n, has them all -/
theorem nodup_all : ∀ (n : Nat) (p : List Nat), p.Nodup → (∀ k ∈ p, k < n) → p.length = n → ∀ k, k < n → k ∈ p := by
  intro n
  induction n with
  | zero => intro p _ _ _ k hk; omega
  | succ n ih =>
    intro p hnd hb hl k hk
    by_cases hn : n ∈ p
    · by_cases hkn : k = n
      · rw [hkn]; exact hn
      · have h2 := ih (p.erase n) (hnd.erase n) (fun x hx => by
          have h3 := List.mem_of_mem_erase hx
          have h4 := hb x h3
          have h5 : x ≠ n := fun e => by subst e; exact (List.Nodup.not_mem_erase hnd) hx
          omega) (by rw [List.length_erase_of_mem hn]; omega) k (by omega)
        exact List.mem_of_mem_erase h2
    · exfalso
      have hb2 : ∀ x ∈ p, x < n := fun x hx => by
        have h4 := hb x hx
        have : x ≠ n := fun e => hn (e ▸ hx)
        omega
      cases p with
      | nil => simp at hl
      | cons y q =>
        obtain ⟨hy, hq⟩ := List.nodup_cons.1 hnd
        have h6 := ih q hq (fun x hx => hb2 x (by simp [hx])) (by simpa using hl) y (hb2 y (by simp))
        exact hy h6
theorem PlanP.all {n : Nat} {l : List Int} (h : PlanP n l) : ∀ k, k < n → k ∈ planN l := nodup_all n _ h.nodup h.nat.2 (by rw [planN_len, h.1])
end Go.Sas
