/-
The code of some functions with its types resolved, printed by a program; that it is the code is checked by the kernel.
Conditions: none.
-/
import Derived.Test.YtajegdbljldakaaP4
import Derived.Test.YtajegdbljldakaaProg
set_option linter.unusedVariables false
set_option linter.unusedSimpArgs false
namespace Go.Sas
open Go.Proofs
set_option maxRecDepth 100000
/-- sastrugi/sastrugilaw02.ProbeKnows -/
def c7 : ACode :=
  (.seq
(.reg [
.g 6 (.box (.g 0)),
.g 12 (.mv (.b false))])
(.seq
(.seq
(.reg [
.l 33 (.ld (some 4) (.g 6)),
.l 34 (.mv (.g 1)),
.g 35 (.call (.c (.fn 29 [])) [.l 33, .l 34, .c (.lit (.slice none 0 0))])])
(.cond (.g 35)
(.seq
(.reg [
.l 36 (.call (.c (.fn 28 [])) []),
.g 12 (.mv (.l 36))])
.ret)
.skip))
(.seq
(.reg [
.l 37 (.mv (.g 5)),
.l 38 (.call (.c (.fn 17 [])) [.l 37]),
.g 13 (.mv (.l 38))])
(.seq
(.reg [
.l 39 (.mv (.g 13)),
.l 40 (.call (.c (.fn 30 [])) [.l 39, .i 10]),
.g 14 (.new [.slice none 0 0, .int .i64 0, .int .i64 0, .int .i64 0]),
.n (.st 4 (.g 14) (.l 40))])
(.seq
(.reg [
.l 41 (.mv (.g 13)),
.l 42 (.mv (.g 13)),
.l 43 (.ld (some 4) (.g 14)),
.l 44 (.call (.c (.fn 31 [])) [.l 42, .l 43, .i 3, .i 6]),
.l 45 (.call (.c (.fn 20 [])) [.l 41, .i 3, .l 44, .i 5]),
.g 15 (.mv (.l 45))])
(.seq
(.reg [
.l 46 (.ld (some 4) (.g 14)),
.l 47 (.call (.c (.fn 46 [])) [.l 46]),
.g 16 (.mv (.l 47))])
(.seq
(.reg [
.l 48 (.mv (.g 13)),
.l 49 (.mv (.g 16)),
.l 50 (.call (.c (.fn 23 [])) [.l 48, .l 49]),
.l 51 (.mv (.g 13)),
.l 52 (.mv (.g 16)),
.l 53 (.call (.c (.fn 23 [])) [.l 51, .l 52]),
.g 17 (.mv (.l 50)),
.g 18 (.mv (.l 53))])
(.seq
(.draw [
.l 54 (.ld (some 4) (.g 6)) 0,
.l 55 (.ld (some 4) (.g 14)) 1,
.l 56 (.ld (some 4) (.g 14)) 2,
.l 57 (.mks false 4 [.l 54, .l 55, .l 56]) 3,
.l 58 (.mv (.g 1)) 4,
.l 59 (.mv (.g 15)) 5,
.l 60 (.mv (.g 15)) 6,
.l 61 (.mks false 1 [.l 58, .l 59, .l 60]) 7,
.l 62 (.mv (.g 2)) 8,
.l 63 (.mv (.g 17)) 9,
.l 64 (.mv (.g 18)) 10,
.l 65 (.mn [.l 63, .l 64]) 11,
.l 66 (.mv (.g 2)) 12,
.l 67 (.mks false 1 [.l 62, .l 65, .l 66]) 13,
.l 68 (.mv (.g 3)) 14,
.l 69 (.mv (.g 17)) 15,
.l 70 (.mv (.g 18)) 16,
.l 71 (.mx [.l 69, .l 70]) 17,
.l 72 (.mv (.g 3)) 18,
.l 73 (.mks false 1 [.l 68, .l 71, .l 72]) 19,
.l 74 (.mv (.g 4)) 20,
.l 75 (.mv (.g 13)) 21,
.l 77 (.mv (.g 4)) 23,
.lf 76 (.call (.c (.fn 23 [])) [.l 75, .i 14]) 22,
.l 78 (.mks false 1 [.l 74, .l 76, .l 77]) 24,
.g 19 (.mv (.l 57)) 25,
.g 20 (.mv (.l 61)) 26,
.g 21 (.mv (.l 67)) 27,
.g 22 (.mv (.l 73)) 28,
.g 23 (.mv (.l 78)) 29])
(.seq
(.seq
(.reg [
.g 24 (.mv (.i 0))])
(.block 0
(.loop
(.seq
(.seq
(.reg [
.l 79 (.mv (.g 24)),
.l 80 (.mv (.g 19)),
.l 81 (.len (.l 80)),
.g 82 (.bin .lss (.l 79) (.l 81))])
(.cond (.g 82)
.skip
(.exit 0)))
(.seq
(.block 1
(.seq
(.draw [
.l 86 (.mv (.g 19)) 0,
.l 87 (.mv (.g 24)) 1,
.l 88 (.ia 4 (.l 86) (.l 87)) 2,
.l 89 (.ld (some 4) (.l 88)) 3,
.l 90 (.mv (.g 20)) 4,
.l 91 (.mv (.g 24)) 5,
.l 92 (.ia 1 (.l 90) (.l 91)) 6,
.l 93 (.ld none (.l 92)) 7,
.l 94 (.mv (.g 21)) 8,
.l 95 (.mv (.g 24)) 9,
.l 96 (.ia 1 (.l 94) (.l 95)) 10,
.l 97 (.ld none (.l 96)) 11,
.l 98 (.mv (.g 23)) 12,
.l 99 (.mv (.g 24)) 13,
.l 100 (.ia 1 (.l 98) (.l 99)) 14,
.l 101 (.ld none (.l 100)) 15,
.g 25 (.new [.int .i64 0, .int .i64 0]) 20,
.lf 102 (.call (.c (.fn 25 [])) [.l 89, .l 93, .l 97, .l 101]) 16,
.l 85 (.mv (.l 102)) 17,
.l 103 (.ex (.l 85) 0) 18,
.lf 104 (.ex (.l 85) 1) 19,
.nx (.st 2 (.g 25) (.l 103)) 21 false [20],
.gx 26 (.mv (.l 104)) 22 false [20]])
(.seq
(.draw [
.l 106 (.mv (.g 19)) 0,
.l 107 (.mv (.g 24)) 1,
.l 108 (.ia 4 (.l 106) (.l 107)) 2,
.l 109 (.ld (some 4) (.l 108)) 3,
.l 110 (.mv (.g 20)) 4,
.l 111 (.mv (.g 24)) 5,
.l 112 (.ia 1 (.l 110) (.l 111)) 6,
.l 113 (.ld none (.l 112)) 7,
.l 114 (.mv (.g 21)) 8,
.l 115 (.mv (.g 24)) 9,
.l 116 (.ia 1 (.l 114) (.l 115)) 10,
.l 117 (.ld none (.l 116)) 11,
.l 118 (.mv (.g 23)) 12,
.l 119 (.mv (.g 24)) 13,
.l 120 (.ia 1 (.l 118) (.l 119)) 14,
.l 121 (.ld none (.l 120)) 15,
.g 27 (.new [.int .i64 0, .int .i64 0]) 20,
.lf 122 (.call (.c (.fn 47 [])) [.l 109, .l 113, .l 117, .l 121]) 16,
.l 105 (.mv (.l 122)) 17,
.l 123 (.ex (.l 105) 0) 18,
.lf 124 (.ex (.l 105) 1) 19,
.nx (.st 2 (.g 27) (.l 123)) 21 false [20],
.gx 28 (.mv (.l 124)) 22 false [20]])
(.seq
(.draw [
.l 126 (.mv (.g 19)) 0,
.l 127 (.mv (.g 24)) 1,
.l 128 (.ia 4 (.l 126) (.l 127)) 2,
.l 129 (.ld (some 4) (.l 128)) 3,
.l 130 (.mv (.g 20)) 4,
.l 131 (.mv (.g 24)) 5,
.l 132 (.ia 1 (.l 130) (.l 131)) 6,
.l 133 (.ld none (.l 132)) 7,
.l 134 (.mv (.g 21)) 8,
.l 135 (.mv (.g 24)) 9,
.l 136 (.ia 1 (.l 134) (.l 135)) 10,
.l 137 (.ld none (.l 136)) 11,
.l 138 (.mv (.g 22)) 12,
.l 139 (.mv (.g 24)) 13,
.l 140 (.ia 1 (.l 138) (.l 139)) 14,
.l 141 (.ld none (.l 140)) 15,
.l 142 (.mv (.g 23)) 16,
.l 143 (.mv (.g 24)) 17,
.l 144 (.ia 1 (.l 142) (.l 143)) 18,
.l 145 (.ld none (.l 144)) 19,
.g 29 (.new [.int .i64 0, .int .i64 0]) 24,
.lf 146 (.call (.c (.fn 48 [])) [.l 129, .l 133, .l 137, .l 141, .l 145]) 20,
.l 125 (.mv (.l 146)) 21,
.l 147 (.ex (.l 125) 0) 22,
.lf 148 (.ex (.l 125) 1) 23,
.nx (.st 2 (.g 29) (.l 147)) 25 false [24],
.gx 30 (.mv (.l 148)) 26 false [24]])
(.seq
(.draw [
.l 150 (.mv (.g 19)) 0,
.l 151 (.mv (.g 24)) 1,
.l 152 (.ia 4 (.l 150) (.l 151)) 2,
.l 153 (.ld (some 4) (.l 152)) 3,
.l 154 (.mv (.g 20)) 4,
.l 155 (.mv (.g 24)) 5,
.l 156 (.ia 1 (.l 154) (.l 155)) 6,
.l 157 (.ld none (.l 156)) 7,
.l 158 (.mv (.g 21)) 8,
.l 159 (.mv (.g 24)) 9,
.l 160 (.ia 1 (.l 158) (.l 159)) 10,
.l 161 (.ld none (.l 160)) 11,
.l 162 (.mv (.g 22)) 12,
.l 163 (.mv (.g 24)) 13,
.l 164 (.ia 1 (.l 162) (.l 163)) 14,
.l 165 (.ld none (.l 164)) 15,
.l 166 (.mv (.g 23)) 16,
.l 167 (.mv (.g 24)) 17,
.l 168 (.ia 1 (.l 166) (.l 167)) 18,
.l 169 (.ld none (.l 168)) 19,
.g 31 (.new [.int .i64 0, .int .i64 0]) 24,
.lf 170 (.call (.c (.fn 49 [])) [.l 153, .l 157, .l 161, .l 165, .l 169]) 20,
.l 149 (.mv (.l 170)) 21,
.l 171 (.ex (.l 149) 0) 22,
.lf 172 (.ex (.l 149) 1) 23,
.nx (.st 2 (.g 31) (.l 171)) 25 false [24],
.gx 32 (.mv (.l 172)) 26 false [24]])
(.seq
(.reg [
.l 173 (.ld (some 2) (.g 25)),
.l 174 (.ld (some 2) (.g 27)),
.l 175 (.eqs true (.fld 0 none .i (.fld 1 none .i .nil)) (.l 173) (.l 174)),
.l 176 (.mv (.l 175)),
.lw 177 (.mv (.g 26)) (.l 176) false,
.lw 178 (.mv (.g 28)) (.l 176) false,
.lw 179 (.bin .neq (.l 177) (.l 178)) (.l 176) false,
.l 180 (.pick (.l 176) (.b true) (.l 179)),
.l 181 (.mv (.l 180)),
.lw 182 (.ld (some 2) (.g 29)) (.l 181) false,
.lw 183 (.ld (some 2) (.g 31)) (.l 181) false,
.lw 184 (.eqs true (.fld 0 none .i (.fld 1 none .i .nil)) (.l 182) (.l 183)) (.l 181) false,
.l 185 (.pick (.l 181) (.b true) (.l 184)),
.l 186 (.mv (.l 185)),
.lw 187 (.mv (.g 30)) (.l 186) false,
.lw 188 (.mv (.g 32)) (.l 186) false,
.lw 189 (.bin .neq (.l 187) (.l 188)) (.l 186) false,
.g 190 (.pick (.l 186) (.b true) (.l 189))])
(.cond (.g 190)
(.seq
(.reg [
.g 12 (.mv (.b false))])
.ret)
.skip)))))))
(.reg [
.l 83 (.mv (.g 24)),
.l 84 (.bin .add (.l 83) (.i 1)),
.g 24 (.mv (.l 84))]))))))
(.seq
(.reg [
.l 191 (.call (.c (.fn 28 [])) []),
.g 12 (.mv (.l 191))])
.ret))))))))))
def K7 : List Nat := [0, 1, 2, 3, 4, 5, 35, 82, 190, 12, 6, 13, 14, 15, 16, 17, 18, 19, 20, 21, 22, 23, 24, 25, 26, 27, 28, 29, 30, 31, 32]
noncomputable def b7 : Code := match Try.f7.body with | some c => c | none => .skip
theorem t7 : trCode ⟨Try.prog, K7, [], 192, none⟩ b7 = some c7 := by kernel_rfl
theorem go7 : GoS Try.prog 7 6 K7 [] 192 c7 [.t (.g 12)] := .mk Try.func7 (c := b7) rfl (by kernel_rfl) t7 rfl (by kernel_rfl) rfl rfl
end Go.Sas
