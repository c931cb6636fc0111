/-
The code of some functions with its types resolved, printed by a program; that it is the code is checked by the kernel.
Conditions: none.
-/
import Derived.Test.YtajegdbljldakaaP4
import Derived.Test.YtajegdbljldakaaProg
set_option linter.unusedVariables false
set_option linter.unusedSimpArgs false
namespace Go.Sas
open Go.Proofs
set_option maxRecDepth 100000
/-- sastrugi/sastrugilaw02.ProbeLasts -/
def c10 : ACode :=
  (.seq
(.reg [
.g 2 (.mv (.b false))])
(.seq
(.reg [
.l 20 (.mv (.g 0)),
.l 21 (.call (.c (.fn 17 [])) [.l 20]),
.g 3 (.mv (.l 21))])
(.seq
(.reg [
.l 23 (.mv (.g 3)),
.l 24 (.call (.c (.fn 18 [])) [.l 23, .i 8, .i 5]),
.l 22 (.mv (.l 24)),
.l 25 (.ex (.l 22) 0),
.l 26 (.ex (.l 22) 1),
.l 27 (.ex (.l 22) 2),
.g 4 (.new [.slice none 0 0, .int .i64 0, .int .i64 0, .int .i64 0]),
.n (.st 4 (.g 4) (.l 25)),
.g 5 (.mv (.l 26)),
.g 6 (.mv (.l 27))])
(.seq
(.draw [
.l 28 (.mv (.g 3)) 0,
.l 31 (.mv (.g 3)) 3,
.l 32 (.mv (.g 5)) 4,
.l 33 (.ia 1 (.l 32) (.i 0)) 5,
.l 34 (.ld none (.l 33)) 6,
.l 35 (.len (.l 34)) 7,
.lf 29 (.call (.c (.fn 23 [])) [.l 28, .i 8]) 1,
.l 30 (.bin .add (.i 3) (.l 29)) 2,
.lf 36 (.call (.c (.fn 23 [])) [.l 31, .l 35]) 8,
.g 7 (.mv (.l 30)) 9,
.g 8 (.mv (.l 36)) 10])
(.seq
(.draw [
.l 37 (.mv (.g 5)) 0,
.l 38 (.ia 1 (.l 37) (.i 0)) 1,
.l 39 (.ld none (.l 38)) 2,
.l 40 (.mv (.g 8)) 3,
.l 41 (.ia 1 (.l 39) (.l 40)) 4,
.l 42 (.ld none (.l 41)) 5,
.l 43 (.mv (.g 3)) 6,
.lf 44 (.call (.c (.fn 23 [])) [.l 43, .i 100]) 7,
.l 45 (.bin .sub (.l 42) (.l 44)) 8,
.l 46 (.mx [.i 0, .l 45]) 9,
.g 9 (.mv (.l 46)) 10])
(.seq
(.reg [
.g 10 (.mv (.c (.lit (.slice none 0 0))))])
(.seq
(.seq
(.reg [
.g 11 (.mv (.i 0))])
(.block 0
(.loop
(.seq
(.seq
(.reg [
.l 47 (.mv (.g 11)),
.l 48 (.mv (.g 6)),
.l 49 (.len (.l 48)),
.g 50 (.bin .lss (.l 47) (.l 49))])
(.cond (.g 50)
.skip
(.exit 0)))
(.seq
(.block 1
(.seq
(.reg [
.l 53 (.mv (.g 6)),
.l 54 (.mv (.g 11)),
.l 55 (.ia 5 (.l 53) (.l 54)),
.l 56 (.fa (.l 55) 2),
.l 57 (.ld none (.l 56)),
.l 58 (.mv (.g 7)),
.g 59 (.bin .leq (.l 57) (.l 58))])
(.cond (.g 59)
(.reg [
.l 60 (.mv (.g 10)),
.l 61 (.mv (.g 6)),
.l 62 (.mv (.g 11)),
.l 63 (.ia 5 (.l 61) (.l 62)),
.l 64 (.ld (some 5) (.l 63)),
.l 65 (.mks false 5 [.l 64]),
.l 66 (.app 5 40 (.l 60) (.l 65)),
.g 10 (.mv (.l 66))])
.skip)))
(.reg [
.l 51 (.mv (.g 11)),
.l 52 (.bin .add (.l 51) (.i 1)),
.g 11 (.mv (.l 52))]))))))
(.seq
(.reg [
.g 12 (.mv (.c (.lit (.slice none 0 0))))])
(.seq
(.reg [
.l 67 (.mv (.g 3)),
.l 68 (.ld (some 4) (.g 4)),
.l 69 (.call (.c (.fn 19 [])) [.l 67, .l 68, .i 2, .i 12]),
.g 13 (.mv (.l 69))])
(.seq
(.seq
(.reg [
.g 14 (.mv (.i 0))])
(.block 2
(.loop
(.seq
(.seq
(.reg [
.l 70 (.mv (.g 14)),
.l 71 (.mv (.g 13)),
.l 72 (.len (.l 71)),
.g 73 (.bin .lss (.l 70) (.l 72))])
(.cond (.g 73)
.skip
(.exit 2)))
(.seq
(.block 3
(.seq
(.reg [
.l 76 (.mv (.g 13)),
.l 77 (.mv (.g 14)),
.l 78 (.ia 5 (.l 76) (.l 77)),
.l 79 (.fa (.l 78) 3),
.l 80 (.ld none (.l 79)),
.l 81 (.mv (.g 7)),
.g 82 (.bin .leq (.l 80) (.l 81))])
(.cond (.g 82)
(.reg [
.l 83 (.mv (.g 12)),
.l 84 (.mv (.g 13)),
.l 85 (.mv (.g 14)),
.l 86 (.ia 5 (.l 84) (.l 85)),
.l 87 (.ld (some 5) (.l 86)),
.l 88 (.mks false 5 [.l 87]),
.l 89 (.app 5 40 (.l 83) (.l 88)),
.g 12 (.mv (.l 89))])
.skip)))
(.reg [
.l 74 (.mv (.g 14)),
.l 75 (.bin .add (.l 74) (.i 1)),
.g 14 (.mv (.l 75))]))))))
(.seq
(.reg [
.l 91 (.ld (some 4) (.g 4)),
.l 92 (.mv (.g 6)),
.l 93 (.mv (.g 13)),
.l 94 (.mv (.g 9)),
.l 95 (.mv (.g 7)),
.l 96 (.mv (.g 8)),
.l 97 (.call (.c (.fn 54 [])) [.l 91, .l 92, .l 93, .l 94, .l 95, .l 96]),
.l 90 (.mv (.l 97)),
.l 98 (.ex (.l 90) 0),
.l 99 (.ex (.l 90) 1),
.g 15 (.mv (.l 98)),
.g 16 (.mv (.l 99))])
(.seq
(.seq
(.reg [
.l 100 (.mv (.g 16)),
.l 101 (.bin .neq (.l 100) (.i 0)),
.l 102 (.mv (.l 101)),
.lw 103 (.mv (.g 15)) (.l 102) false,
.lw 104 (.bin .neq (.l 103) (.i (-1))) (.l 102) false,
.lw 105 (.mv (.l 104)) (.l 102) false,
.lw 106 (.mv (.g 15)) (.l 105) true,
.lw 107 (.mv (.g 7)) (.l 105) true,
.lw 108 (.bin .lss (.l 106) (.l 107)) (.l 105) true,
.lw 109 (.mv (.l 108)) (.l 105) true,
.lw 110 (.mv (.g 15)) (.l 109) false,
.lw 111 (.mv (.g 7)) (.l 109) false,
.lw 112 (.bin .add (.l 111) (.i 20)) (.l 109) false,
.lw 113 (.bin .gtr (.l 110) (.l 112)) (.l 109) false,
.lw 114 (.pick (.l 109) (.b true) (.l 113)) (.l 105) true,
.lw 115 (.pick (.l 105) (.l 114) (.b false)) (.l 102) false,
.g 116 (.pick (.l 102) (.b true) (.l 115))])
(.cond (.g 116)
(.seq
(.reg [
.g 2 (.mv (.b false))])
.ret)
.skip))
(.seq
(.seq
(.reg [
.l 117 (.mv (.g 15)),
.g 118 (.bin .eql (.l 117) (.i (-1)))])
(.cond (.g 118)
(.reg [
.l 119 (.mv (.g 7)),
.l 120 (.bin .sub (.l 119) (.i 1)),
.g 15 (.mv (.l 120))])
.skip))
(.seq
(.seq
(.reg [
.l 121 (.mv (.g 7)),
.g 17 (.mv (.l 121))])
(.block 4
(.loop
(.seq
(.seq
(.reg [
.l 122 (.mv (.g 17)),
.l 123 (.mv (.g 15)),
.l 124 (.bin .add (.l 123) (.i 1)),
.g 125 (.bin .leq (.l 122) (.l 124))])
(.cond (.g 125)
.skip
(.exit 4)))
(.seq
(.block 5
(.seq
(.reg [
.l 129 (.ld (some 4) (.g 4)),
.l 130 (.mv (.g 10)),
.l 131 (.mv (.g 12)),
.l 132 (.mv (.g 9)),
.l 133 (.mv (.g 17)),
.l 134 (.call (.c (.fn 24 [])) [.l 129, .l 130, .l 131, .l 132, .l 133]),
.l 128 (.mv (.l 134)),
.l 135 (.ex (.l 128) 0),
.l 136 (.ex (.l 128) 1),
.g 18 (.mv (.l 135)),
.g 19 (.mv (.l 136))])
(.seq
(.reg [
.l 137 (.mv (.g 19)),
.l 138 (.bin .neq (.l 137) (.i 0)),
.l 139 (.mv (.l 138)),
.lw 140 (.mv (.g 18)) (.l 139) false,
.lw 141 (.mv (.g 8)) (.l 139) false,
.lw 142 (.call (.c (.fn 27 [])) [.l 140, .l 141]) (.l 139) false,
.lw 143 (.bin .eql (.l 142) (.i 0)) (.l 139) false,
.lw 144 (.mv (.g 17)) (.l 139) false,
.lw 145 (.mv (.g 15)) (.l 139) false,
.lw 146 (.bin .leq (.l 144) (.l 145)) (.l 139) false,
.lw 147 (.binb true (.l 143) (.l 146)) (.l 139) false,
.g 148 (.pick (.l 139) (.b true) (.l 147))])
(.cond (.g 148)
(.seq
(.reg [
.g 2 (.mv (.b false))])
.ret)
.skip))))
(.reg [
.l 126 (.mv (.g 17)),
.l 127 (.bin .add (.l 126) (.i 1)),
.g 17 (.mv (.l 127))]))))))
(.seq
(.reg [
.l 149 (.call (.c (.fn 28 [])) []),
.g 2 (.mv (.l 149))])
.ret)))))))))))))))
def K10 : List Nat := [0, 50, 59, 73, 82, 116, 118, 125, 148, 2, 3, 4, 5, 6, 7, 8, 9, 10, 11, 12, 13, 14, 15, 16, 17, 18, 19]
noncomputable def b10 : Code := match Try.f10.body with | some c => c | none => .skip
theorem t10 : trCode ⟨Try.prog, K10, [], 150, none⟩ b10 = some c10 := by kernel_rfl
theorem go10 : GoS Try.prog 10 1 K10 [] 150 c10 [.t (.g 2)] := .mk Try.func10 (c := b10) rfl (by kernel_rfl) t10 rfl (by kernel_rfl) rfl rfl
end Go.Sas
