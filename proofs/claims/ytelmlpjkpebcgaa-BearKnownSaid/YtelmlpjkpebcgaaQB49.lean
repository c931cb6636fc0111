/-
BearKnown: the run by reckoning: gaps, speeds.
Conditions: none.
-/
import Derived.Test.YtelmlpjkpebcgaaQB46
import Derived.Test.YtelmlpjkpebcgaaQB47
import Derived.Test.YtelmlpjkpebcgaaQB48
set_option linter.unusedVariables false
set_option linter.unusedSimpArgs false
namespace Go.Sas
open Go.Proofs
set_option maxRecDepth 100000
def a63 : List (List AV × AV) := [([plC, I 500, row63 [8000, 8000]], .tup [I 100, I 0]), ([plC, I 500, row63 [10001]], .tup [I (-1), I 0]), ([plC, I 700, row63 [8000, 8000, 8000]], .tup [I 20, I 0])]
theorem a63_ok : ∀ p ∈ a63, ∀ (H : AHeap) (Kk : AV → AHeap → Prop), Kk p.2 H → ACalls Try.prog 63 p.1 H Kk := by
  intro p hp H Kk hk
  unfold a63 at hp
  simp only [List.mem_cons, List.not_mem_nil, or_false] at hp
  rcases hp with rfl | rfl | rfl
  · exact run_at ctV_ok .nil r63a (by rfl) (by rfl) H Kk hk
  · exact run_at ctV_ok .nil r63b (by rfl) (by rfl) H Kk hk
  · exact run_at ctV_ok .nil r63c (by rfl) (by rfl) H Kk hk
theorem r81 : runK ctV [(63, asc a63)] 1000 81 [] = some (.lit (.bool true)) := by kernel_rfl
def a48 : List (List AV × AV) := [([plC, spv 50 50, I 100], .tup [.vs 2 [spv 0 55, spv 85 1000], I 0]), ([plC, spv 40 50, I 100], .tup [.vs 2 [spv 0 50, spv 85 1000], I 0]), ([plC, spv 50 50, I 49], .tup [.vs 2 [spv 0 48, spv 94 1000], I 0])]
theorem sp48a : speedsS plP 50 50 100 = ([(0, 55), (85, 1000)], 0) := by decide +kernel
theorem sp48b : speedsS plP 40 50 100 = ([(0, 50), (85, 1000)], 0) := by decide +kernel
theorem sp48c : speedsS plP 50 50 49 = ([(0, 48), (94, 1000)], 0) := by decide +kernel
theorem bigP : Big plP.shares ∧ Big plP.creep := by decide
theorem a48_ok : ∀ p ∈ a48, ∀ (H : AHeap) (Kk : AV → AHeap → Prop), Kk p.2 H → ACalls Try.prog 48 p.1 H Kk := by
  intro p hp H Kk hk
  unfold a48 at hp
  simp only [List.mem_cons, List.not_mem_nil, or_false] at hp
  rcases hp with rfl | rfl | rfl
  · exact p48 plP plP_is bigP.1 bigP.2 50 50 100 H (by rw [sp48a]; exact hk)
  · exact p48 plP plP_is bigP.1 bigP.2 40 50 100 H (by rw [sp48b]; exact hk)
  · exact p48 plP plP_is bigP.1 bigP.2 50 50 49 H (by rw [sp48c]; exact hk)
theorem r82 : runK ctV [(48, asc a48)] 2000 82 [] = some (.lit (.bool true)) := by kernel_rfl
end Go.Sas
