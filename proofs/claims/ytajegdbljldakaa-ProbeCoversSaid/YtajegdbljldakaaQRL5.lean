/-
The code of some functions with its types resolved, printed by a program; that it is the code is checked by the kernel.
Conditions: none.
-/
import Derived.Test.YtajegdbljldakaaP4
import Derived.Test.YtajegdbljldakaaProg
set_option linter.unusedVariables false
set_option linter.unusedSimpArgs false
namespace Go.Sas
open Go.Proofs
set_option maxRecDepth 100000
/-- sastrugi/sastrugilaw02.ProbeCovers -/
def c5 : ACode :=
  (.seq
(.reg [
.g 4 (.box (.g 0)),
.g 8 (.mv (.b false))])
(.seq
(.seq
(.reg [
.l 20 (.ld (some 4) (.g 4)),
.l 21 (.mv (.g 1)),
.l 22 (.call (.c (.fn 29 [])) [.l 20, .c (.lit (.slice none 0 0)), .l 21]),
.l 23 (.mv (.l 22)),
.lw 24 (.mv (.g 2)) (.l 23) false,
.lw 25 (.bin .gtr (.l 24) (.i 60)) (.l 23) false,
.lw 26 (.mv (.l 25)) (.l 23) false,
.lw 27 (.mv (.g 2)) (.l 26) true,
.lw 28 (.bin .leq (.l 27) (.i 10000)) (.l 26) true,
.lw 29 (.pick (.l 26) (.l 28) (.b false)) (.l 23) false,
.g 30 (.pick (.l 23) (.b true) (.l 29))])
(.cond (.g 30)
(.seq
(.reg [
.l 31 (.call (.c (.fn 28 [])) []),
.g 8 (.mv (.l 31))])
.ret)
.skip))
(.seq
(.reg [
.l 32 (.mv (.g 3)),
.l 33 (.call (.c (.fn 17 [])) [.l 32]),
.g 9 (.mv (.l 33))])
(.seq
(.reg [
.l 34 (.mv (.g 9)),
.l 35 (.call (.c (.fn 30 [])) [.l 34, .i 16]),
.g 10 (.new [.slice none 0 0, .int .i64 0, .int .i64 0, .int .i64 0]),
.n (.st 4 (.g 10) (.l 35))])
(.seq
(.reg [
.l 36 (.mv (.g 9)),
.l 37 (.ld (some 4) (.g 10)),
.l 38 (.call (.c (.fn 19 [])) [.l 36, .l 37, .i 6, .i 10]),
.g 11 (.mv (.l 38))])
(.seq
(.draw [
.l 39 (.ld (some 4) (.g 4)) 0,
.l 40 (.ld (some 4) (.g 10)) 1,
.l 41 (.ld (some 4) (.g 10)) 2,
.l 42 (.mks false 4 [.l 39, .l 40, .l 41]) 3,
.l 43 (.mv (.g 1)) 4,
.l 44 (.mv (.g 11)) 5,
.l 45 (.mv (.g 11)) 6,
.l 46 (.mks false 1 [.l 43, .l 44, .l 45]) 7,
.l 47 (.mv (.g 2)) 8,
.l 48 (.mv (.g 9)) 9,
.l 50 (.mv (.g 2)) 11,
.lf 49 (.call (.c (.fn 23 [])) [.l 48, .i 14]) 10,
.l 51 (.mks false 1 [.l 47, .l 49, .l 50]) 12,
.g 12 (.mv (.l 42)) 13,
.g 13 (.mv (.l 46)) 14,
.g 14 (.mv (.l 51)) 15])
(.seq
(.seq
(.reg [
.g 15 (.mv (.i 0))])
(.block 0
(.loop
(.seq
(.seq
(.reg [
.l 52 (.mv (.g 15)),
.l 53 (.mv (.g 12)),
.l 54 (.len (.l 53)),
.g 55 (.bin .lss (.l 52) (.l 54))])
(.cond (.g 55)
.skip
(.exit 0)))
(.seq
(.block 1
(.seq
(.draw [
.l 59 (.mv (.g 12)) 0,
.l 60 (.mv (.g 15)) 1,
.l 61 (.ia 4 (.l 59) (.l 60)) 2,
.l 62 (.ld (some 4) (.l 61)) 3,
.l 63 (.mv (.g 13)) 4,
.l 64 (.mv (.g 15)) 5,
.l 65 (.ia 1 (.l 63) (.l 64)) 6,
.l 66 (.ld none (.l 65)) 7,
.l 67 (.mv (.g 14)) 8,
.l 68 (.mv (.g 15)) 9,
.l 69 (.ia 1 (.l 67) (.l 68)) 10,
.l 70 (.ld none (.l 69)) 11,
.lf 71 (.call (.c (.fn 41 [])) [.l 62, .l 66, .l 70]) 12,
.l 58 (.mv (.l 71)) 13,
.l 72 (.ex (.l 58) 0) 14,
.l 73 (.ex (.l 58) 1) 15,
.g 16 (.mv (.l 72)) 16,
.g 17 (.mv (.l 73)) 17])
(.seq
(.draw [
.l 75 (.mv (.g 12)) 0,
.l 76 (.mv (.g 15)) 1,
.l 77 (.ia 4 (.l 75) (.l 76)) 2,
.l 78 (.ld (some 4) (.l 77)) 3,
.l 79 (.mv (.g 13)) 4,
.l 80 (.mv (.g 15)) 5,
.l 81 (.ia 1 (.l 79) (.l 80)) 6,
.l 82 (.ld none (.l 81)) 7,
.l 83 (.mv (.g 14)) 8,
.l 84 (.mv (.g 15)) 9,
.l 85 (.ia 1 (.l 83) (.l 84)) 10,
.l 86 (.ld none (.l 85)) 11,
.lf 87 (.call (.c (.fn 42 [])) [.l 78, .l 82, .l 86]) 12,
.l 74 (.mv (.l 87)) 13,
.l 88 (.ex (.l 74) 0) 14,
.l 89 (.ex (.l 74) 1) 15,
.g 18 (.mv (.l 88)) 16,
.g 19 (.mv (.l 89)) 17])
(.seq
(.reg [
.l 90 (.mv (.g 17)),
.l 91 (.mv (.g 19)),
.l 92 (.bin .neq (.l 90) (.l 91)),
.l 93 (.mv (.l 92)),
.lw 94 (.mv (.g 16)) (.l 93) false,
.lw 95 (.mv (.g 18)) (.l 93) false,
.lw 96 (.call (.c (.fn 43 [])) [.l 94, .l 95]) (.l 93) false,
.lw 97 (.un .not (.l 96)) (.l 93) false,
.g 98 (.pick (.l 93) (.b true) (.l 97))])
(.cond (.g 98)
(.seq
(.reg [
.g 8 (.mv (.b false))])
.ret)
.skip)))))
(.reg [
.l 56 (.mv (.g 15)),
.l 57 (.bin .add (.l 56) (.i 1)),
.g 15 (.mv (.l 57))]))))))
(.seq
(.reg [
.l 99 (.call (.c (.fn 28 [])) []),
.g 8 (.mv (.l 99))])
.ret))))))))
def K5 : List Nat := [0, 1, 2, 3, 30, 55, 98, 8, 4, 9, 10, 11, 12, 13, 14, 15, 16, 17, 18, 19]
noncomputable def b5 : Code := match Try.f5.body with | some c => c | none => .skip
theorem t5 : trCode ⟨Try.prog, K5, [], 100, none⟩ b5 = some c5 := by kernel_rfl
theorem go5 : GoS Try.prog 5 4 K5 [] 100 c5 [.t (.g 8)] := .mk Try.func5 (c := b5) rfl (by kernel_rfl) t5 rfl (by kernel_rfl) rfl rfl
end Go.Sas
