/-
The code of some functions with its types resolved, printed by a program; that it is the code is checked by the kernel.
Conditions: none.
-/
import Derived.Test.YtajegdbljldakaaP4
import Derived.Test.YtajegdbljldakaaProg
set_option linter.unusedVariables false
set_option linter.unusedSimpArgs false
namespace Go.Sas
open Go.Proofs
set_option maxRecDepth 100000
/-- sastrugi/sastrugikit.CourseOf -/
def c31m : ACode :=
  (.seq
(.reg [
.g 5 (.box (.g 1)),
.g 8 (.mv (.c (.lit (.slice none 0 0))))])
(.seq
(.reg [
.l 18 (.ld (some 4) (.g 5)),
.l 19 (.call (.c (.fn 46 [])) [.l 18]),
.g 9 (.mv (.l 19))])
(.seq
(.reg [
.g 10 (.mv (.c (.lit (.slice none 0 0))))])
(.seq
(.seq
(.reg [
.l 20 (.mv (.g 0)),
.l 21 (.call (.c (.fn 22 [])) [.l 20, .i 1, .i 4]),
.g 11 (.mv (.l 21))])
(.block 0
(.loop
(.seq
(.seq
(.reg [
.l 22 (.mv (.g 11)),
.g 23 (.bin .gtr (.l 22) (.i 0))])
(.cond (.g 23)
.skip
(.exit 0)))
(.seq
(.block 1
(.reg [
.l 26 (.mv (.g 10)),
.l 27 (.mv (.g 0)),
.l 28 (.mv (.g 9)),
.l 29 (.call (.c (.fn 23 [])) [.l 27, .l 28]),
.l 30 (.mv (.g 2)),
.l 31 (.mv (.g 0)),
.l 32 (.mv (.g 3)),
.l 33 (.call (.c (.fn 23 [])) [.l 31, .l 32]),
.l 34 (.bin .add (.l 30) (.l 33)),
.l 35 (.mv (.g 0)),
.l 36 (.mv (.g 0)),
.l 37 (.call (.c (.fn 23 [])) [.l 36, .i 2000]),
.l 38 (.mks false 1 [.i 0, .l 37, .i 3000]),
.l 39 (.call (.c (.fn 56 [])) [.l 35, .l 38]),
.l 40 (.mk [.int .i64 0, .int .i64 0] [(0, 1, .l 39)]),
.l 41 (.mk [.int .i64 0, .int .i64 0, .int .i64 0, .int .i64 0, .int .i64 0] [(1, 1, .l 29), (2, 1, .l 34), (3, 2, .l 40)]),
.l 42 (.mks false 5 [.l 41]),
.l 43 (.app 5 40 (.l 26) (.l 42)),
.g 10 (.mv (.l 43))]))
(.reg [
.l 24 (.mv (.g 11)),
.l 25 (.bin .sub (.l 24) (.i 1)),
.g 11 (.mv (.l 25))]))))))
(.seq
(.reg [
.g 12 (.mv (.c (.lit (.slice none 0 0))))])
(.seq
(.seq
(.reg [
.l 44 (.mv (.g 2)),
.g 13 (.mv (.l 44))])
(.block 2
(.loop
(.seq
(.seq
(.reg [
.l 45 (.mv (.g 13)),
.l 46 (.mv (.g 2)),
.l 47 (.mv (.g 3)),
.l 48 (.bin .add (.l 46) (.l 47)),
.g 49 (.bin .lss (.l 45) (.l 48))])
(.cond (.g 49)
.skip
(.exit 2)))
(.seq
(.block 3
(.seq
(.reg [
.g 14 (.mv (.c (.lit (.slice none 0 0))))])
(.seq
(.seq
(.reg [
.g 15 (.mv (.i 0))])
(.block 4
(.loop
(.seq
(.seq
(.reg [
.l 52 (.mv (.g 15)),
.l 53 (.mv (.g 9)),
.g 54 (.bin .lss (.l 52) (.l 53))])
(.cond (.g 54)
.skip
(.exit 4)))
(.seq
(.block 5
(.seq
(.reg [
.g 16 (.mv (.i 3000))])
(.seq
(.seq
(.reg [
.g 17 (.mv (.i 0))])
(.block 6
(.loop
(.seq
(.seq
(.reg [
.l 57 (.mv (.g 17)),
.l 58 (.mv (.g 10)),
.l 59 (.len (.l 58)),
.g 60 (.bin .lss (.l 57) (.l 59))])
(.cond (.g 60)
.skip
(.exit 6)))
(.seq
(.block 7
(.draw [
.l 63 (.mv (.g 16)) 0,
.l 64 (.mv (.g 10)) 1,
.l 65 (.mv (.g 17)) 2,
.l 66 (.ia 5 (.l 64) (.l 65)) 3,
.l 67 (.fa (.l 66) 3) 4,
.l 68 (.fa (.l 67) 0) 5,
.l 69 (.ld none (.l 68)) 6,
.l 70 (.ld (some 4) (.g 5)) 7,
.l 71 (.mv (.g 15)) 8,
.l 72 (.mv (.g 13)) 9,
.l 73 (.mv (.g 10)) 10,
.l 74 (.mv (.g 17)) 11,
.l 75 (.ia 5 (.l 73) (.l 74)) 12,
.l 76 (.fa (.l 75) 1) 13,
.l 77 (.ld none (.l 76)) 14,
.l 78 (.mv (.g 10)) 15,
.l 79 (.mv (.g 17)) 16,
.l 80 (.ia 5 (.l 78) (.l 79)) 17,
.l 81 (.fa (.l 80) 2) 18,
.l 82 (.ld none (.l 81)) 19,
.lf 83 (.call (.c (.fn 68 [])) [.l 70, .l 71, .l 72, .l 77, .l 82]) 20,
.l 84 (.bin .add (.l 69) (.l 83)) 21,
.l 85 (.mn [.l 63, .l 84]) 22,
.g 16 (.mv (.l 85)) 23]))
(.reg [
.l 61 (.mv (.g 17)),
.l 62 (.bin .add (.l 61) (.i 1)),
.g 17 (.mv (.l 62))]))))))
(.reg [
.l 86 (.mv (.g 14)),
.l 87 (.mv (.g 16)),
.l 88 (.mks false 1 [.l 87]),
.l 89 (.app 1 8 (.l 86) (.l 88)),
.g 14 (.mv (.l 89))]))))
(.reg [
.l 55 (.mv (.g 15)),
.l 56 (.bin .add (.l 55) (.i 1)),
.g 15 (.mv (.l 56))]))))))
(.reg [
.l 90 (.mv (.g 12)),
.l 91 (.mv (.g 14)),
.l 92 (.mks true 1 [.l 91]),
.l 93 (.app 1 24 (.l 90) (.l 92)),
.g 12 (.mv (.l 93))]))))
(.reg [
.l 50 (.mv (.g 13)),
.l 51 (.bin .add (.l 50) (.i 1)),
.g 13 (.mv (.l 51))]))))))
(.seq
(.reg [
.l 94 (.mv (.g 12)),
.g 8 (.mv (.l 94))])
.ret)))))))
def K31m : List Nat := [0, 1, 2, 3, 23, 49, 54, 60, 8, 5, 9, 10, 11, 12, 13, 14, 15, 16, 17]
noncomputable def b31m : Code := match Try.f31.body with | some c => c | none => .skip
theorem t31m : trCode ⟨Try.prog, K31m, [92], 95, none⟩ b31m = some c31m := by kernel_rfl
theorem go31m : GoS Try.prog 31 4 K31m [92] 95 c31m [.t (.g 8)] := .mk Try.func31 (c := b31m) rfl (by kernel_rfl) t31m rfl (by kernel_rfl) rfl rfl
end Go.Sas
