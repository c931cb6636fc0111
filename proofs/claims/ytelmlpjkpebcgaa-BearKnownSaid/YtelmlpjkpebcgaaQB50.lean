/-
BearKnown: the law's core: the run by reckoning.
Conditions: none.
-/
import Derived.Test.YtelmlpjkpebcgaaQB49
set_option linter.unusedVariables false
set_option linter.unusedSimpArgs false
namespace Go.Sas
open Go.Proofs
set_option maxRecDepth 100000
def tT : List (List AV × AV) := [([], .lit (.bool true))]
theorem tT_ok {f : Nat} {ft : FTab} (hft : FTabOk Try.prog ft) {n : Nat} (h : runK ctV ft n f [] = some (.lit (.bool true))) : ∀ p ∈ tT, ∀ (H : AHeap) (Kk : AV → AHeap → Prop), Kk p.2 H → ACalls Try.prog f p.1 H Kk := by
  intro p hp H Kk hk
  simp only [tT, List.mem_cons, List.not_mem_nil, or_false] at hp
  subst hp
  exact run_at ctV_ok hft h (by rfl) (by rfl) H Kk hk
def ft17 : FTab := [(19, asc tT), (80, asc tT), (81, asc tT), (82, asc tT)]
theorem ft17_ok : FTabOk Try.prog ft17 :=
  .cons (asc_ok (tT_ok .nil r19)) (.cons (asc_ok (tT_ok ft87_ok r80)) (.cons (asc_ok (tT_ok (.cons (asc_ok a63_ok) .nil) r81)) (.cons (asc_ok (tT_ok (.cons (asc_ok a48_ok) .nil) r82)) .nil)))
theorem r17 : runK ct17 ft17 1000 17 [] = some (.lit (.bool true)) := by kernel_rfl
theorem core17 : ACalls Try.prog 17 [] [] fun r _ => r = .lit (.bool true) :=
  (runK_calls ct17_ok ft17_ok r17).mono fun r H h => h.1
end Go.Sas
