/-
Freight: ways of delivering made of numbers: contract.
Conditions: none.
-/
import Derived.Test.YtndnjmpebpampaaDoorQG37
import Derived.Test.YtndnjmpebpampaaDoorHRf
import Derived.Test.YtndnjmpebpampaaDoorP8f
set_option linter.unusedVariables false
set_option linter.unusedSimpArgs false
namespace Go.Sas
open Go.Proofs
set_option maxRecDepth 100000
theorem iEq_dec (x y : Int) : iEq x y = decide (x = y) := by
  simp only [iEq]; rw [Bool.eq_iff_iff]; simp
theorem sum_upd {g : Nat → Int} {k : Nat} {v : Int} : ∀ {N : Nat}, sumI ((List.range N).map (updF g k v)) = sumI ((List.range N).map g) + (if k < N then v - g k else 0)
  | 0 => by simp [sumI]
  | N + 1 => by
    rw [List.range_succ, List.map_append, List.map_append, sumI_append, sumI_append, sum_upd (N := N)]
    simp only [List.map_cons, List.map_nil, sumI, updF]
    by_cases h1 : N = k
    · subst h1; rw [if_pos rfl, if_neg (Nat.lt_irrefl _), if_pos (Nat.lt_succ_self _)]; omega
    · rw [if_neg h1]
      by_cases h2 : k < N
      · rw [if_pos h2, if_pos (by omega)]; omega
      · rw [if_neg h2, if_neg (by omega)]; omega
theorem sum_range {g : Nat → Int} : ∀ {D : Nat}, sumI ((List.range D).map g) = sumR g D
  | 0 => rfl
  | D + 1 => by rw [List.range_succ, List.map_append, sumI_append, sum_range (D := D)]; simp [sumI, sumR]
theorem sumR_upd {g : Nat → Int} {q : Nat} {v : Int} : ∀ {D : Nat}, D ≤ q → sumR (updF g q v) D = sumR g D
  | 0, _ => rfl
  | D + 1, h => by simp only [sumR]; rw [sumR_upd (by omega)]; unfold updF; rw [if_neg (by omega)]
/-- what has been delivered before a day, and what is left -/
structure WIn (R : Nat → Int) (u : Nat → Int) (N q : Nat) (lf : Nat → Int) (wy : Nat → Nat → Int) : Prop where
  a : ∀ k, 0 ≤ lf k ∧ lf k ≤ 1000000
  b : ∀ k e, 0 ≤ wy k e ∧ wy k e ≤ 1000000
  c : ∀ k, k < N → lf k + sumR (wy k) q ≤ u k
  d : ∀ e, e < q → sumI ((List.range N).map fun k => wy k e) ≤ R e
  e : ∀ k e, q ≤ e → wy k e = 0
/-- the same in the middle of a day -/
structure WMid (R : Nat → Int) (u : Nat → Int) (N q : Nat) (had : List Nat) (room : Int) (lf : Nat → Int) (wy : Nat → Nat → Int) : Prop where
  a : ∀ k, 0 ≤ lf k ∧ lf k ≤ 1000000
  b : ∀ k e, 0 ≤ wy k e ∧ wy k e ≤ 1000000
  c : ∀ k, k < N → lf k + sumR (wy k) (q + 1) ≤ u k
  d : ∀ e, e < q → sumI ((List.range N).map fun k => wy k e) ≤ R e
  r : 0 ≤ room ∧ room ≤ 1000000
  s : room + sumI ((List.range N).map fun k => wy k q) ≤ R q
  e : ∀ k e, q + 1 ≤ e → wy k e = 0
  f : ∀ k, k ∉ had → wy k q = 0
theorem sumI_zero {N : Nat} : sumI ((List.range N).map fun _ => (0 : Int)) = 0 := by rw [sum_range]; exact sumR_zero N
theorem WIn.mid {R u : Nat → Int} {N q : Nat} {lf : Nat → Int} {wy : Nat → Nat → Int} (h : WIn R u N q lf wy) (hR : 0 ≤ R q ∧ R q ≤ 1000000) : WMid R u N q [] (R q) lf wy := by
  have h0 : ∀ k, wy k q = 0 := fun k => h.e k q (Nat.le_refl _)
  refine ⟨h.a, h.b, fun k hk => ?_, h.d, hR, ?_, fun k e he => h.e k e (by omega), fun k _ => h0 k⟩
  · have := h.c k hk; simp only [sumR]; rw [h0 k]; omega
  · have : sumI ((List.range N).map fun k => wy k q) = 0 := by
      rw [show (fun k => wy k q) = fun _ => 0 from funext h0]; exact sumI_zero
    omega
theorem WMid.done {R u : Nat → Int} {N q : Nat} {had : List Nat} {room : Int} {lf : Nat → Int} {wy : Nat → Nat → Int} (h : WMid R u N q had room lf wy) : WIn R u N (q + 1) lf wy := by
  refine ⟨h.a, h.b, h.c, fun e he => ?_, h.e⟩
  by_cases h1 : e = q
  · subst h1; have := h.s; have := h.r; omega
  · exact h.d e (by omega)
theorem WMid.give {R u : Nat → Int} {N q : Nat} {had : List Nat} {room : Int} {lf : Nat → Int} {wy : Nat → Nat → Int} (h : WMid R u N q had room lf wy) {k : Nat} {n : Int} (hk : k ∉ had) (hkN : k < N) (h0 : 0 ≤ n) (h1 : n ≤ room) (h2 : n ≤ lf k) :
    WMid R u N q (had ++ [k]) (room - n) (updF lf k (lf k - n)) (updF wy k (updF (wy k) q n)) := by
  have hz := h.f k hk
  have hr := h.r
  have hlk := h.a k
  refine ⟨fun i => ?_, fun i e => ?_, fun i hi => ?_, fun e he => ?_, by omega, ?_, fun i e he => ?_, fun i hi => ?_⟩
  · simp only [updF]; split
    · omega
    · exact h.a i
  · simp only [updF]; split
    · simp only [updF]; split
      · omega
      · exact h.b k e
    · exact h.b i e
  · have hc := h.c i hi
    by_cases hik : i = k
    · subst hik
      simp only [updF, if_true]
      show lf i - n + sumR (updF (wy i) q n) (q + 1) ≤ u i
      simp only [sumR] at hc ⊢
      rw [sumR_upd (Nat.le_refl _)]
      unfold updF; rw [if_pos rfl]; rw [hz] at hc; omega
    · unfold updF; rw [if_neg hik, if_neg hik]; exact hc
  · have e1 : (fun i => updF wy k (updF (wy k) q n) i e) = fun i => wy i e := by
      funext i; simp only [updF]; split
      · rename_i hi; simp only [updF]; rw [hi, if_neg (by omega)]
      · rfl
    rw [e1]; exact h.d e he
  · have e1 : (fun i => updF wy k (updF (wy k) q n) i q) = updF (fun i => wy i q) k n := by
      funext i; simp only [updF]; split
      · simp only [updF]; simp
      · rfl
    rw [e1, sum_upd, if_pos hkN, hz]; have := h.s; omega
  · simp only [updF]; split
    · simp only [updF]; rw [if_neg (by omega)]; exact h.e k e he
    · exact h.e i e he
  · rw [List.mem_append, not_or] at hi
    unfold updF
    rw [if_neg (fun h9 => hi.2 (by simp [h9]))]
    exact h.f i hi.1
theorem WIn.way {f : Frt} {w : Win} {lf : Nat → Int} {wy : Nat → Nat → Int} (h : WIn (roomW w) (unitS f.ords) f.ords.length f.caps.length lf wy) : WayV f w (rowsF f.ords.length f.caps.length wy) := by
  obtain ⟨N, hN⟩ : ∃ N, N = f.ords.length := ⟨_, rfl⟩
  obtain ⟨D, hD⟩ : ∃ D, D = f.caps.length := ⟨_, rfl⟩
  rw [← hN, ← hD] at h
  refine ⟨by simp [rowsF], fun r hr => ?_, fun r hr x hx => ?_, fun d hd => ?_, fun p hp => ?_⟩
  · obtain ⟨k, _, rfl⟩ := List.mem_map.1 hr; simp
  · obtain ⟨k, _, rfl⟩ := List.mem_map.1 hr
    obtain ⟨d, _, rfl⟩ := List.mem_map.1 hx
    exact h.b k d
  · have e1 : colS (rowsF f.ords.length f.caps.length wy) d = sumI ((List.range N).map fun k => wy k d) := by
      unfold colS rowsF
      rw [List.map_map, hN]
      congr 1
      apply List.map_congr_left
      intro k _
      simp [List.getD_eq_getElem?_getD, hd]
    rw [e1]; exact h.d d (by omega)
  · obtain ⟨i, hi⟩ := List.mem_iff_getElem?.1 hp
    obtain ⟨h1, h2⟩ := List.getElem?_zip_eq_some.1 hi
    have hiN : i < N := by have := (List.getElem?_eq_some_iff.1 h2).1; omega
    have h3 : p.1 = (List.range D).map (wy i) := by simp [rowsF, ← hN, hiN] at h1; rw [← h1, hD]
    rw [h3, sum_range]
    have h4 := h.c i hiN
    have h5 := h.a i
    rw [unitS_get h2] at h4
    omega
end Go.Sas
