/-
What the functions that draw numbers yield, part 2: spans.
Conditions: none.
-/
import Derived.Test.YtelmlpjkpebcgaaB14
set_option linter.unusedVariables false
set_option linter.unusedSimpArgs false
namespace Go.Sas
open Go.Proofs
set_option maxRecDepth 100000
theorem d38 (a b : Int) (h0 : -1000000000 ≤ a ∧ a ≤ b ∧ b ≤ 1000000000) : Draws Try.prog 38 [I a, I b] (Spn a b) := by
  refine .of rfl (by rintro r ⟨n, m, rfl, _⟩; rfl) fun w Kk h => ?_
  obtain ⟨A, hA⟩ : ∃ A, A = std := ⟨_, rfl⟩
  refine go38 rfl (SGo_run hA ⟨[], [], [], ed2⟩ .nil ed2_ok 200 fun T TD hT hTD => ?_)
  clear hT hTD
  cbv
  refine Exists.intro () (And.intro (by omega) ?_)
  rintro w1 _ ⟨k, rfl, hk1, hk2⟩
  cbv
  refine Exists.intro () (And.intro (by omega) ?_)
  rintro w2 _ ⟨q, rfl, hq1, hq2⟩
  cbv
  have hmn : A.min b (A.add .i64 (A.add .i64 k 1) (A.quo .i64 (A.sub .i64 b a) 10)) = min b (k + 1 + (b - a) / 10) := by
    subst hA; simp only [std, iMin_eq]; simp (disch := omega) only [iAdd_id, iSub_id, iQuo_id]
  split <;> cbv
  · refine Exists.intro () (And.intro (by refine ⟨by omega, ?_⟩; show _ ≤ A.min b (A.add .i64 (A.add .i64 k 1) (A.quo .i64 (A.sub .i64 b a) 10)) ∧ A.min b (A.add .i64 (A.add .i64 k 1) (A.quo .i64 (A.sub .i64 b a) 10)) ≤ _; rw [hmn]; omega) ?_)
    rintro w3 _ ⟨t, rfl, ht1, ht2⟩
    cbv
    have ht2 : t ≤ A.min b (A.add .i64 (A.add .i64 k 1) (A.quo .i64 (A.sub .i64 b a) 10)) ∨ t = k := ht2
    rw [hmn] at ht2
    exact h _ _ ⟨_, _, rfl, by omega, by omega, by omega⟩
  split <;> cbv
  · refine Exists.intro () (And.intro (by omega) ?_)
    rintro w3 _ ⟨t, rfl, ht1, ht2⟩
    cbv
    exact h _ _ ⟨_, _, rfl, by omega, by omega, by omega⟩
  · exact h _ _ ⟨_, _, rfl, by omega, by omega, by omega⟩
theorem sSpan_ok : ∀ rest pre Q, sSpan rest = some (pre, Q) → pre () → Draws Try.prog 38 rest Q := by
  intro rest pre Q h hp
  unfold sSpan at h
  split at h
  · cases h; exact d38 _ _ hp
  · cases h
theorem AllI_lits {l : List Int} : AllI (l.map I) := by
  intro x hx
  obtain ⟨n, _, rfl⟩ := List.mem_map.1 hx
  exact ⟨n, rfl⟩
theorem d29 (a b : Int) (h0 : -1000000000 ≤ a ∧ a ≤ b ∧ b ≤ 1000000000) : Draws Try.prog 29 [.agg [I a, I b]] (Num a b) := by
  refine .of rfl (by rintro r ⟨n, rfl, _⟩; rfl) fun w Kk h => ?_
  obtain ⟨A, hA⟩ : ∃ A, A = std := ⟨_, rfl⟩
  refine go29 rfl (SGo_run hA ⟨[], [0], [], ed2⟩ .nil ed2_ok 200 fun T TD hT hTD => ?_)
  clear hT hTD
  cbv
  refine Exists.intro () (And.intro (by omega) ?_)
  rintro w1 _ ⟨k, rfl, hk1, hk2⟩
  cbv
  try refine And.intro (by subst hA; simp [std, Keep, SubH, ResK]) ?_
  refine Exists.intro () (And.intro (by omega) ?_)
  rintro w2 _ ⟨q, rfl, hq1, hq2⟩
  cbv
  try refine And.intro (by subst hA; simp [std, Keep, SubH, ResK]) ?_
  refine Exists.intro () (And.intro ⟨by simp, by simp, by exact AllI_lits (l := [a, b, k, q])⟩ ?_)
  rintro w3 _ ⟨t, rfl, ht⟩
  simp at ht
  cbv
  try refine And.intro (by subst hA; simp [std, Keep, SubH, ResK]) ?_
  exact h _ _ ⟨_, rfl, by omega⟩
theorem sInside_ok : ∀ rest pre Q, sInside rest = some (pre, Q) → pre () → Draws Try.prog 29 rest Q := by
  intro rest pre Q h hp
  unfold sInside at h
  split at h
  · cases h; exact d29 _ _ hp
  · cases h
theorem d35 (a b : Int) (h0 : -1000000000 ≤ a ∧ a ≤ b ∧ b ≤ 1000000000) : Draws Try.prog 35 [.agg [I a, I b]] (Spn a b) := by
  refine .of rfl (by rintro r ⟨n, m, rfl, _⟩; rfl) fun w Kk h => ?_
  obtain ⟨A, hA⟩ : ∃ A, A = std := ⟨_, rfl⟩
  refine go35 rfl (SGo_run hA ⟨[], [0], [], [(29, eDraw sInside)]⟩ .nil (.cons (eDraw_ok sInside_ok) .nil) 200 fun T TD hT hTD => ?_)
  clear hT hTD
  cbv
  refine Exists.intro () (And.intro h0 ?_)
  rintro w1 _ ⟨k, rfl, hk1, hk2⟩
  cbv
  try refine And.intro (by subst hA; simp [std, Keep, SubH, ResK]) ?_
  refine Exists.intro () (And.intro h0 ?_)
  rintro w2 _ ⟨q, rfl, hq1, hq2⟩
  cbv
  try refine And.intro (by subst hA; simp [std, Keep, SubH, ResK]) ?_
  refine h _ _ ⟨_, _, rfl, ?_⟩
  subst hA
  simp only [std, iMin_eq, iMax_eq]
  omega
theorem sPart_ok : ∀ rest pre Q, sPart rest = some (pre, Q) → pre () → Draws Try.prog 35 rest Q := by
  intro rest pre Q h hp
  unfold sPart at h
  split at h
  · cases h; exact d35 _ _ hp
  · cases h
def ed3 : ETab := (38, eDraw sSpan) :: (29, eDraw sInside) :: (35, eDraw sPart) :: ed2
theorem ed3_ok : ETabOk Try.prog ed3 := .cons (eDraw_ok sSpan_ok) (.cons (eDraw_ok sInside_ok) (.cons (eDraw_ok sPart_ok) ed2_ok))
end Go.Sas
