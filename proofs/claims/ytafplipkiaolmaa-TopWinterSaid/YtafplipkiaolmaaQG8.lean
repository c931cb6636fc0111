/-
Freight: functions that draw numbers, comparisons of lists.
Conditions: none.
-/
import Derived.Test.YtafplipkiaolmaaP7
import Derived.Test.YtafplipkiaolmaaPL
import Derived.Test.YtafplipkiaolmaaHC
import Derived.Test.YtafplipkiaolmaaXC
set_option linter.unusedVariables false
set_option linter.unusedSimpArgs false
namespace Go.Sas
open Go.Proofs
set_option maxRecDepth 100000
theorem d22 (a b : Int) (h0 : -1000000000 ≤ a ∧ a ≤ b ∧ b ≤ 1000000000) : Draws Try.prog 22 [I a, I b] (Spn a b) := by
  refine .of rfl (by rintro r ⟨n, m, rfl, _⟩; rfl) fun w Kk h => ?_
  obtain ⟨A, hA⟩ : ∃ A, A = std := ⟨_, rfl⟩
  refine go22 rfl (SGo_run hA ⟨[], [], [], ed2⟩ .nil ed2_ok 200 fun T TD hT hTD => ?_)
  clear hT hTD
  cbv
  refine Exists.intro () (And.intro (by omega) ?_)
  rintro w1 _ ⟨k, rfl, hk1, hk2⟩
  cbv
  refine Exists.intro () (And.intro (by omega) ?_)
  rintro w2 _ ⟨q, rfl, hq1, hq2⟩
  cbv
  have hmn : A.min b (A.add .i64 (A.add .i64 k 1) (A.quo .i64 (A.sub .i64 b a) 10)) = min b (k + 1 + (b - a) / 10) := by
    subst hA; simp only [std, iMin_eq]; simp (disch := omega) only [iAdd_id, iSub_id, iQuo_id]
  split <;> cbv
  · refine Exists.intro () (And.intro (by refine ⟨by omega, ?_⟩; show _ ≤ A.min b (A.add .i64 (A.add .i64 k 1) (A.quo .i64 (A.sub .i64 b a) 10)) ∧ A.min b (A.add .i64 (A.add .i64 k 1) (A.quo .i64 (A.sub .i64 b a) 10)) ≤ _; rw [hmn]; omega) ?_)
    rintro w3 _ ⟨t, rfl, ht1, ht2⟩
    cbv
    have ht2 : t ≤ A.min b (A.add .i64 (A.add .i64 k 1) (A.quo .i64 (A.sub .i64 b a) 10)) ∨ t = k := ht2
    rw [hmn] at ht2
    exact h _ _ ⟨_, _, rfl, by omega, by omega, by omega⟩
  split <;> cbv
  · refine Exists.intro () (And.intro (by omega) ?_)
    rintro w3 _ ⟨t, rfl, ht1, ht2⟩
    cbv
    exact h _ _ ⟨_, _, rfl, by omega, by omega, by omega⟩
  · exact h _ _ ⟨_, _, rfl, by omega, by omega, by omega⟩
theorem sSpan_ok : ∀ rest pre Q, sSpan rest = some (pre, Q) → pre () → Draws Try.prog 22 rest Q := by
  intro rest pre Q h hp
  unfold sSpan at h
  split at h
  · cases h; exact d22 _ _ hp
  · cases h
def ed3F : ETab := (22, eDraw sSpan) :: ed2
theorem ed3_okF : ETabOk Try.prog ed3F := .cons (eDraw_ok sSpan_ok) ed2_ok
end Go.Sas
