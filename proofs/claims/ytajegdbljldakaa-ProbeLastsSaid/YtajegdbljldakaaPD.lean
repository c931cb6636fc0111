/-
The code of some functions with its types resolved, printed by a program; that it is the code is checked by the kernel.
Conditions: none.
-/
import Derived.Test.YtajegdbljldakaaP4
import Derived.Test.YtajegdbljldakaaProg
set_option linter.unusedVariables false
set_option linter.unusedSimpArgs false
namespace Go.Sas
open Go.Proofs
set_option maxRecDepth 100000
/-- sastrugi/sastrugiref02.stale -/
def c95 : ACode :=
  (.seq
(.reg [
.g 4 (.box (.g 0)),
.g 8 (.mv (.b false))])
(.seq
(.reg [
.l 12 (.ld (some 4) (.g 4)),
.l 13 (.mv (.g 2)),
.l 14 (.call (.c (.fn 112 [])) [.l 12, .l 13]),
.l 15 (.fd none (.l 14) 4),
.g 9 (.mv (.l 15))])
(.seq
(.seq
(.reg [
.g 10 (.mv (.i 0))])
(.block 0
(.loop
(.seq
(.seq
(.reg [
.l 16 (.mv (.g 10)),
.l 17 (.mv (.g 1)),
.l 18 (.len (.l 17)),
.g 19 (.bin .lss (.l 16) (.l 18))])
(.cond (.g 19)
.skip
(.exit 0)))
(.seq
(.block 1
(.seq
(.reg [
.l 22 (.mv (.g 1)),
.l 23 (.mv (.g 10)),
.l 24 (.ia 5 (.l 22) (.l 23)),
.l 25 (.fa (.l 24) 0),
.l 26 (.ld none (.l 25)),
.l 27 (.bin .sub (.l 26) (.i 1)),
.l 28 (.fa (.g 4) 1),
.l 29 (.iaa 3 1 (.l 28) (.l 27)),
.l 30 (.ld none (.l 29)),
.g 11 (.mv (.l 30))])
(.seq
(.draw [
.l 31 (.mv (.g 1)) 0,
.l 32 (.mv (.g 10)) 1,
.l 33 (.ia 5 (.l 31) (.l 32)) 2,
.l 34 (.fa (.l 33) 2) 3,
.l 35 (.ld none (.l 34)) 4,
.l 36 (.mv (.g 3)) 5,
.l 37 (.mv (.g 9)) 6,
.l 38 (.bin .sub (.l 36) (.l 37)) 7,
.l 39 (.mv (.g 3)) 8,
.lf 40 (.call (.c (.fn 80 [])) [.l 35, .l 38, .l 39]) 9,
.l 41 (.mv (.l 40)) 10,
.lw 42 (.mv (.g 2)) (.l 41) true 11,
.lw 43 (.mv (.g 1)) (.l 41) true 12,
.lw 44 (.mv (.g 10)) (.l 41) true 13,
.lw 45 (.ia 5 (.l 43) (.l 44)) (.l 41) true 14,
.lw 46 (.fa (.l 45) 1) (.l 41) true 15,
.lw 47 (.ld none (.l 46)) (.l 41) true 16,
.lw 48 (.mv (.g 11)) (.l 41) true 17,
.lw 49 (.bin .sub (.l 47) (.l 48)) (.l 41) true 18,
.lw 50 (.mv (.g 1)) (.l 41) true 19,
.lw 51 (.mv (.g 10)) (.l 41) true 20,
.lw 52 (.ia 5 (.l 50) (.l 51)) (.l 41) true 21,
.lw 53 (.fa (.l 52) 1) (.l 41) true 22,
.lw 54 (.ld none (.l 53)) (.l 41) true 23,
.lw 55 (.mv (.g 11)) (.l 41) true 24,
.lw 56 (.bin .add (.l 54) (.l 55)) (.l 41) true 25,
.lwf 57 (.call (.c (.fn 80 [])) [.l 42, .l 49, .l 56]) (.l 41) true 26,
.g 58 (.pick (.l 41) (.l 57) (.b false)) 27])
(.cond (.g 58)
(.seq
(.reg [
.g 8 (.mv (.b false))])
.ret)
.skip))))
(.reg [
.l 20 (.mv (.g 10)),
.l 21 (.bin .add (.l 20) (.i 1)),
.g 10 (.mv (.l 21))]))))))
(.seq
(.reg [
.g 8 (.mv (.b true))])
.ret))))
def K95 : List Nat := [0, 1, 2, 3, 19, 58, 8, 4, 9, 10, 11]
noncomputable def b95 : Code := match Try.f95.body with | some c => c | none => .skip
theorem t95 : trCode ⟨Try.prog, K95, [], 59, none⟩ b95 = some c95 := by kernel_rfl
theorem go95 : GoS Try.prog 95 4 K95 [] 59 c95 [.t (.g 8)] := .mk Try.func95 (c := b95) rfl (by kernel_rfl) t95 rfl (by kernel_rfl) rfl rfl
end Go.Sas
