/-
The code of some functions with its types resolved, printed by a program; that it is the code is checked by the kernel.
Conditions: none.
-/
import Derived.Test.YthpjckoklnhbcaaYB
import Derived.Test.YthpjckoklnhbcaaProg
set_option linter.unusedVariables false
set_option linter.unusedSimpArgs false
namespace Go.Sas
open Go.Proofs
set_option maxRecDepth 100000
/-- slices.Min[[]int,int] -/
def c80 : ACode :=
  (.seq
(.reg [
.g 2 (.mv (.i 0))])
(.seq
(.seq
(.reg [
.l 5 (.mv (.g 0)),
.l 6 (.len (.l 5)),
.g 7 (.bin .lss (.l 6) (.i 1))])
(.cond (.g 7)
(.other .skip)
.skip))
(.seq
(.reg [
.l 9 (.mv (.g 0)),
.l 10 (.ia 1 (.l 9) (.i 0)),
.l 11 (.ld none (.l 10)),
.g 3 (.mv (.l 11))])
(.seq
(.seq
(.reg [
.g 4 (.mv (.i 1))])
(.block 0
(.loop
(.seq
(.seq
(.reg [
.l 12 (.mv (.g 4)),
.l 13 (.mv (.g 0)),
.l 14 (.len (.l 13)),
.g 15 (.bin .lss (.l 12) (.l 14))])
(.cond (.g 15)
.skip
(.exit 0)))
(.seq
(.block 1
(.reg [
.l 18 (.mv (.g 3)),
.l 19 (.mv (.g 0)),
.l 20 (.mv (.g 4)),
.l 21 (.ia 1 (.l 19) (.l 20)),
.l 22 (.ld none (.l 21)),
.l 23 (.mn [.l 18, .l 22]),
.g 3 (.mv (.l 23))]))
(.reg [
.l 16 (.mv (.g 4)),
.l 17 (.bin .add (.l 16) (.i 1)),
.g 4 (.mv (.l 17))]))))))
(.seq
(.reg [
.l 24 (.mv (.g 3)),
.g 2 (.mv (.l 24))])
.ret)))))
def K80 : List Nat := [0, 7, 15, 2, 3, 4]
noncomputable def b80 : Code := match Try.f80.body with | some c => c | none => .skip
theorem t80 : trCode ⟨Try.prog, K80, [], 25, none⟩ b80 = some c80 := by kernel_rfl
theorem go80 : GoS Try.prog 80 1 K80 [] 25 c80 [.t (.g 2)] := .mk Try.func80 (c := b80) rfl (by kernel_rfl) t80 rfl (by kernel_rfl) rfl rfl

end Go.Sas
