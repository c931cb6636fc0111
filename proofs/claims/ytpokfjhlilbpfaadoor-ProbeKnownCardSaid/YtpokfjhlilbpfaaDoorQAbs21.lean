/-
An abstract machine over values, part 21: a run by reckoning. A function is run on the abstract machine by a plain function of Lean with fuel, and what it yields is what the function yields.
Conditions: none.
-/
import Derived.Test.YtpokfjhlilbpfaaDoorP6d
set_option linter.unusedVariables false
set_option linter.unusedSimpArgs false
namespace Go.Sas

/-! ### Equal values -/
def vEq : Value → Value → Bool
  | .int k n, .int k' n' => decide (k = k') && decide (n = n')
  | .bool b, .bool b' => b == b'
  | .slice none 0 0, .slice none 0 0 => true
  | _, _ => false
theorem vEq_spec {a b : Value} (h : vEq a b = true) : a = b := by
  unfold vEq at h
  split at h
  · simp only [Bool.and_eq_true, decide_eq_true_eq] at h; rw [h.1, h.2]
  · simp only [beq_iff_eq] at h; rw [h]
  · rfl
  · cases h

mutual
def avEq (a b : AV) : Bool := match a, b with
  | .bad, .bad => true
  | .lit u, .lit v => vEq u v
  | .agg as, .agg bs => avEqL as bs
  | .tup as, .tup bs => avEqL as bs
  | .vs sz as, .vs sz' bs => Nat.beq sz sz' && avEqL as bs
  | .vp as, .vp bs => avEqL as bs
  | .mp id g o, .mp id' g' o' => Nat.beq id id' && Nat.beq g g' && Nat.beq o o'
  | .ms sz id g o n, .ms sz' id' g' o' n' => Nat.beq sz sz' && Nat.beq id id' && Nat.beq g g' && Nat.beq o o' && Nat.beq n n'
  | .es, .es => true
  | .nni, .nni => true
  | .fn f as, .fn f' bs => Nat.beq f f' && avEqL as bs
  | .yl id g, .yl id' g' => Nat.beq id id' && Nat.beq g g'
  | _, _ => false
def avEqL (as bs : List AV) : Bool := match as, bs with
  | [], [] => true
  | a :: as, b :: bs => avEq a b && avEqL as bs
  | _, _ => false
end
mutual
theorem avEq_spec : ∀ {a b : AV}, avEq a b = true → a = b
  | .bad, b, h => by cases b <;> first | rfl | (simp [avEq] at h)
  | .lit u, b, h => by
    cases b <;> simp only [avEq] at h
    all_goals first | (rw [vEq_spec h]) | cases h
  | .agg as, b, h => by
    cases b <;> simp only [avEq] at h
    all_goals first | (rw [avEqL_spec h]) | cases h
  | .tup as, b, h => by
    cases b <;> simp only [avEq] at h
    all_goals first | (rw [avEqL_spec h]) | cases h
  | .vs sz as, b, h => by
    cases b <;> simp only [avEq, Bool.and_eq_true] at h
    all_goals first | (rw [Nat.eq_of_beq_eq_true h.1, avEqL_spec h.2]) | cases h
  | .vp as, b, h => by
    cases b <;> simp only [avEq] at h
    all_goals first | (rw [avEqL_spec h]) | cases h
  | .mp id g o, b, h => by
    cases b <;> simp only [avEq, Bool.and_eq_true] at h
    all_goals first | (rw [Nat.eq_of_beq_eq_true h.1.1, Nat.eq_of_beq_eq_true h.1.2, Nat.eq_of_beq_eq_true h.2]) | cases h
  | .ms sz id g o n, b, h => by
    cases b <;> simp only [avEq, Bool.and_eq_true] at h
    all_goals first | (rw [Nat.eq_of_beq_eq_true h.1.1.1.1, Nat.eq_of_beq_eq_true h.1.1.1.2, Nat.eq_of_beq_eq_true h.1.1.2, Nat.eq_of_beq_eq_true h.1.2, Nat.eq_of_beq_eq_true h.2]) | cases h
  | .es, b, h => by cases b <;> first | rfl | (simp [avEq] at h)
  | .nni, b, h => by cases b <;> first | rfl | (simp [avEq] at h)
  | .fn f as, b, h => by
    cases b <;> simp only [avEq, Bool.and_eq_true] at h
    all_goals first | (rw [Nat.eq_of_beq_eq_true h.1, avEqL_spec h.2]) | cases h
  | .yl id g, b, h => by
    cases b <;> simp only [avEq, Bool.and_eq_true] at h
    all_goals first | (rw [Nat.eq_of_beq_eq_true h.1, Nat.eq_of_beq_eq_true h.2]) | cases h
theorem avEqL_spec : ∀ {as bs : List AV}, avEqL as bs = true → as = bs
  | [], bs, h => by cases bs <;> first | rfl | (simp [avEqL] at h)
  | a :: as, bs, h => by
    cases bs with
    | nil => simp [avEqL] at h
    | cons b bs => simp only [avEqL, Bool.and_eq_true] at h; rw [avEq_spec h.1, avEqL_spec h.2]
end

/-- of the second heap nothing else holds than what the first one says -/
def subHB : AHeap → AHeap → Bool
  | [], _ => true
  | .gone :: M, _ :: H => subHB M H
  | .own g cs :: M, .own g' cs' :: H => Nat.beq g g' && (cs.isEmpty || avEqL cs cs') && subHB M H
  | _, _ => false
/-! ### Values made plain: for the kernel, so that nothing is put off -/
section
variable {β : Type}
end
end Go.Sas
