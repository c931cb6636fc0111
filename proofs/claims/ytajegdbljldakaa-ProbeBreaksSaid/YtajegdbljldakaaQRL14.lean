/-
The code of some functions with its types resolved, printed by a program; that it is the code is checked by the kernel.
Conditions: none.
-/
import Derived.Test.YtajegdbljldakaaP4
import Derived.Test.YtajegdbljldakaaProg
set_option linter.unusedVariables false
set_option linter.unusedSimpArgs false
namespace Go.Sas
open Go.Proofs
set_option maxRecDepth 100000
/-- sastrugi/sastrugilaw02.ProbeBreaks -/
def c14 : ACode :=
  (.seq
(.reg [
.g 5 (.box (.g 0)),
.g 10 (.mv (.b false))])
(.seq
(.seq
(.reg [
.l 31 (.ld (some 4) (.g 5)),
.l 32 (.mv (.g 1)),
.l 33 (.call (.c (.fn 29 [])) [.l 31, .l 32, .c (.lit (.slice none 0 0))]),
.l 34 (.mv (.l 33)),
.lw 35 (.mv (.g 3)) (.l 34) false,
.lw 36 (.len (.l 35)) (.l 34) false,
.lw 37 (.bin .gtr (.l 36) (.i 20)) (.l 34) false,
.g 38 (.pick (.l 34) (.b true) (.l 37))])
(.cond (.g 38)
(.seq
(.reg [
.l 39 (.call (.c (.fn 28 [])) []),
.g 10 (.mv (.l 39))])
.ret)
.skip))
(.seq
(.seq
(.reg [
.g 11 (.mv (.i 0))])
(.block 0
(.loop
(.seq
(.seq
(.reg [
.l 40 (.mv (.g 11)),
.l 41 (.mv (.g 3)),
.l 42 (.len (.l 41)),
.g 43 (.bin .lss (.l 40) (.l 42))])
(.cond (.g 43)
.skip
(.exit 0)))
(.seq
(.block 1
(.seq
(.reg [
.l 46 (.mv (.g 3)),
.l 47 (.mv (.g 11)),
.l 48 (.ia 1 (.l 46) (.l 47)),
.l 49 (.ld none (.l 48)),
.l 50 (.len (.l 49)),
.g 51 (.bin .gtr (.l 50) (.i 40))])
(.cond (.g 51)
(.seq
(.reg [
.l 52 (.call (.c (.fn 28 [])) []),
.g 10 (.mv (.l 52))])
.ret)
.skip)))
(.reg [
.l 44 (.mv (.g 11)),
.l 45 (.bin .add (.l 44) (.i 1)),
.g 11 (.mv (.l 45))]))))))
(.seq
(.reg [
.l 53 (.mv (.g 4)),
.l 54 (.call (.c (.fn 17 [])) [.l 53]),
.g 12 (.mv (.l 54))])
(.seq
(.reg [
.l 55 (.mv (.g 12)),
.l 56 (.call (.c (.fn 30 [])) [.l 55, .i 8]),
.g 13 (.new [.slice none 0 0, .int .i64 0, .int .i64 0, .int .i64 0]),
.n (.st 4 (.g 13) (.l 56))])
(.seq
(.reg [
.l 57 (.mv (.g 12)),
.l 58 (.ld (some 4) (.g 13)),
.l 59 (.call (.c (.fn 31 [])) [.l 57, .l 58, .i 3, .i 4]),
.g 14 (.mv (.l 59))])
(.seq
(.reg [
.l 60 (.mv (.g 12)),
.l 61 (.mv (.g 14)),
.l 62 (.call (.c (.fn 20 [])) [.l 60, .i 3, .l 61, .i 4]),
.g 15 (.mv (.l 62))])
(.seq
(.seq
(.reg [
.l 63 (.mv (.g 12)),
.g 64 (.call (.c (.fn 63 [])) [.l 63, .i 2])])
(.cond (.g 64)
(.seq
(.reg [
.l 65 (.mv (.g 12)),
.l 66 (.mv (.g 14)),
.l 67 (.len (.l 66)),
.l 68 (.call (.c (.fn 23 [])) [.l 65, .l 67]),
.g 16 (.mv (.l 68))])
(.seq
(.reg [
.l 69 (.mv (.g 12)),
.l 70 (.mv (.g 14)),
.l 71 (.mv (.g 16)),
.l 72 (.ia 1 (.l 70) (.l 71)),
.l 73 (.ld none (.l 72)),
.l 74 (.len (.l 73)),
.l 75 (.call (.c (.fn 23 [])) [.l 69, .l 74]),
.g 17 (.mv (.l 75))])
(.draw [
.l 76 (.mv (.g 14)) 0,
.l 77 (.mv (.g 16)) 1,
.l 78 (.ia 1 (.l 76) (.l 77)) 2,
.l 79 (.ld none (.l 78)) 3,
.l 80 (.mv (.g 17)) 4,
.l 81 (.mv (.g 14)) 5,
.l 82 (.mv (.g 16)) 6,
.l 83 (.ia 1 (.l 81) (.l 82)) 7,
.l 84 (.ld none (.l 83)) 8,
.l 85 (.mv (.g 17)) 9,
.l 86 (.ia 1 (.l 84) (.l 85)) 10,
.l 87 (.ld none (.l 86)) 11,
.l 88 (.mv (.g 12)) 12,
.l 89 (.mv (.g 12)) 13,
.lf 90 (.call (.c (.fn 22 [])) [.l 89, .i (-30), .i 30]) 14,
.l 91 (.mks false 1 [.i 1, .i (-1), .l 90]) 15,
.lf 92 (.call (.c (.fn 56 [])) [.l 88, .l 91]) 16,
.l 93 (.bin .add (.l 87) (.l 92)) 17,
.l 94 (.ia 1 (.l 79) (.l 80)) 18,
.n (.st 1 (.l 94) (.l 93)) 19])))
.skip))
(.seq
(.reg [
.l 95 (.ld (some 4) (.g 5)),
.l 96 (.ld (some 4) (.g 13)),
.l 97 (.ld (some 4) (.g 13)),
.l 98 (.mks false 4 [.l 95, .l 96, .l 97]),
.l 99 (.mv (.g 1)),
.l 100 (.mv (.g 15)),
.l 101 (.mv (.g 15)),
.l 102 (.mks false 1 [.l 99, .l 100, .l 101]),
.l 103 (.mv (.g 2)),
.l 104 (.mv (.g 2)),
.l 105 (.mks false 1 [.l 103, .i 3, .l 104]),
.l 106 (.mv (.g 3)),
.l 107 (.mv (.g 14)),
.l 108 (.mv (.g 14)),
.l 109 (.mks false 1 [.l 106, .l 107, .l 108]),
.g 18 (.mv (.l 98)),
.g 19 (.mv (.l 102)),
.g 20 (.mv (.l 105)),
.g 21 (.mv (.l 109))])
(.seq
(.seq
(.reg [
.g 22 (.mv (.i 0))])
(.block 2
(.loop
(.seq
(.seq
(.reg [
.l 110 (.mv (.g 22)),
.l 111 (.mv (.g 18)),
.l 112 (.len (.l 111)),
.g 113 (.bin .lss (.l 110) (.l 112))])
(.cond (.g 113)
.skip
(.exit 2)))
(.seq
(.block 3
(.seq
(.reg [
.l 116 (.mv (.g 21)),
.l 117 (.mv (.g 22)),
.l 118 (.ia 1 (.l 116) (.l 117)),
.l 119 (.ld none (.l 118)),
.l 120 (.call (.c (.fn 64 [])) [.l 119]),
.g 23 (.mv (.l 120))])
(.seq
(.draw [
.l 122 (.mv (.g 18)) 0,
.l 123 (.mv (.g 22)) 1,
.l 124 (.ia 4 (.l 122) (.l 123)) 2,
.l 125 (.ld (some 4) (.l 124)) 3,
.l 126 (.mv (.g 19)) 4,
.l 127 (.mv (.g 22)) 5,
.l 128 (.ia 1 (.l 126) (.l 127)) 6,
.l 129 (.ld none (.l 128)) 7,
.l 130 (.mv (.g 20)) 8,
.l 131 (.mv (.g 22)) 9,
.l 132 (.ia 1 (.l 130) (.l 131)) 10,
.l 133 (.ld none (.l 132)) 11,
.l 134 (.mv (.g 23)) 12,
.lf 135 (.call (.c (.fn 65 [])) [.l 125, .l 129, .l 133, .l 134]) 13,
.l 121 (.mv (.l 135)) 14,
.l 136 (.ex (.l 121) 0) 15,
.l 137 (.ex (.l 121) 1) 16,
.l 138 (.ex (.l 121) 2) 17,
.g 24 (.mv (.l 136)) 18,
.g 25 (.mv (.l 137)) 19,
.g 26 (.mv (.l 138)) 20])
(.seq
(.draw [
.l 140 (.mv (.g 18)) 0,
.l 141 (.mv (.g 22)) 1,
.l 142 (.ia 4 (.l 140) (.l 141)) 2,
.l 143 (.ld (some 4) (.l 142)) 3,
.l 144 (.mv (.g 19)) 4,
.l 145 (.mv (.g 22)) 5,
.l 146 (.ia 1 (.l 144) (.l 145)) 6,
.l 147 (.ld none (.l 146)) 7,
.l 148 (.mv (.g 20)) 8,
.l 149 (.mv (.g 22)) 9,
.l 150 (.ia 1 (.l 148) (.l 149)) 10,
.l 151 (.ld none (.l 150)) 11,
.l 152 (.mv (.g 21)) 12,
.l 153 (.mv (.g 22)) 13,
.l 154 (.ia 1 (.l 152) (.l 153)) 14,
.l 155 (.ld none (.l 154)) 15,
.lf 156 (.call (.c (.fn 66 [])) [.l 143, .l 147, .l 151, .l 155]) 16,
.l 139 (.mv (.l 156)) 17,
.l 157 (.ex (.l 139) 0) 18,
.l 158 (.ex (.l 139) 1) 19,
.l 159 (.ex (.l 139) 2) 20,
.g 27 (.mv (.l 157)) 21,
.g 28 (.mv (.l 158)) 22,
.g 29 (.mv (.l 159)) 23])
(.seq
(.seq
(.reg [
.l 160 (.mv (.g 24)),
.l 161 (.mv (.g 27)),
.l 162 (.bin .neq (.l 160) (.l 161)),
.l 163 (.mv (.l 162)),
.lw 164 (.mv (.g 25)) (.l 163) false,
.lw 165 (.mv (.g 28)) (.l 163) false,
.lw 166 (.bin .neq (.l 164) (.l 165)) (.l 163) false,
.l 167 (.pick (.l 163) (.b true) (.l 166)),
.l 168 (.mv (.l 167)),
.lw 169 (.mv (.g 26)) (.l 168) false,
.lw 170 (.mv (.g 29)) (.l 168) false,
.lw 171 (.bin .neq (.l 169) (.l 170)) (.l 168) false,
.g 172 (.pick (.l 168) (.b true) (.l 171))])
(.cond (.g 172)
(.seq
(.reg [
.g 10 (.mv (.b false))])
.ret)
.skip))
(.seq
(.reg [
.g 30 (.mv (.i 0))])
(.block 4
(.loop
(.seq
(.seq
(.reg [
.l 173 (.mv (.g 30)),
.l 174 (.mv (.g 23)),
.l 175 (.len (.l 174)),
.g 176 (.bin .lss (.l 173) (.l 175))])
(.cond (.g 176)
.skip
(.exit 4)))
(.seq
(.block 5
(.seq
(.draw [
.l 179 (.mv (.g 23)) 0,
.l 180 (.mv (.g 30)) 1,
.l 181 (.ia 1 (.l 179) (.l 180)) 2,
.l 182 (.ld none (.l 181)) 3,
.l 183 (.mv (.g 21)) 4,
.l 184 (.mv (.g 22)) 5,
.l 185 (.ia 1 (.l 183) (.l 184)) 6,
.l 186 (.ld none (.l 185)) 7,
.l 187 (.mv (.g 30)) 8,
.l 188 (.ia 1 (.l 186) (.l 187)) 9,
.l 189 (.ld none (.l 188)) 10,
.lf 190 (.call (.c (.fn 62 [])) [.l 182, .l 189]) 11,
.g 191 (.un .not (.l 190)) 12])
(.cond (.g 191)
(.seq
(.reg [
.g 10 (.mv (.b false))])
.ret)
.skip)))
(.reg [
.l 177 (.mv (.g 30)),
.l 178 (.bin .add (.l 177) (.i 1)),
.g 30 (.mv (.l 178))])))))))))))
(.reg [
.l 114 (.mv (.g 22)),
.l 115 (.bin .add (.l 114) (.i 1)),
.g 22 (.mv (.l 115))]))))))
(.seq
(.reg [
.l 192 (.call (.c (.fn 28 [])) []),
.g 10 (.mv (.l 192))])
.ret)))))))))))
def K14 : List Nat := [0, 1, 2, 3, 4, 38, 43, 51, 64, 113, 172, 176, 191, 10, 5, 11, 12, 13, 14, 15, 16, 17, 18, 19, 20, 21, 22, 23, 24, 25, 26, 27, 28, 29, 30]
noncomputable def b14 : Code := match Try.f14.body with | some c => c | none => .skip
theorem t14 : trCode ⟨Try.prog, K14, [], 193, none⟩ b14 = some c14 := by kernel_rfl
theorem go14 : GoS Try.prog 14 5 K14 [] 193 c14 [.t (.g 10)] := .mk Try.func14 (c := b14) rfl (by kernel_rfl) t14 rfl (by kernel_rfl) rfl rfl
end Go.Sas
