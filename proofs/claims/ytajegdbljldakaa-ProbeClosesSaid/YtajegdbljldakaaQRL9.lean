/-
The code of some functions with its types resolved, printed by a program; that it is the code is checked by the kernel.
Conditions: none.
-/
import Derived.Test.YtajegdbljldakaaP4
import Derived.Test.YtajegdbljldakaaProg
set_option linter.unusedVariables false
set_option linter.unusedSimpArgs false
namespace Go.Sas
open Go.Proofs
set_option maxRecDepth 100000
/-- sastrugi/sastrugilaw02.ProbeCloses -/
def c9 : ACode :=
  (.seq
(.reg [
.g 7 (.box (.g 0)),
.g 14 (.mv (.b false))])
(.seq
(.seq
(.reg [
.l 36 (.ld (some 4) (.g 7)),
.l 37 (.mv (.g 1)),
.l 38 (.mv (.g 2)),
.l 39 (.call (.c (.fn 29 [])) [.l 36, .l 37, .l 38]),
.l 40 (.mv (.l 39)),
.lw 41 (.mv (.g 4)) (.l 40) false,
.lw 42 (.bin .gtr (.l 41) (.i 60)) (.l 40) false,
.lw 43 (.mv (.l 42)) (.l 40) false,
.lw 44 (.mv (.g 4)) (.l 43) true,
.lw 45 (.bin .leq (.l 44) (.i 10000)) (.l 43) true,
.lw 46 (.pick (.l 43) (.l 45) (.b false)) (.l 40) false,
.g 47 (.pick (.l 40) (.b true) (.l 46))])
(.cond (.g 47)
(.seq
(.reg [
.l 48 (.call (.c (.fn 28 [])) []),
.g 14 (.mv (.l 48))])
.ret)
.skip))
(.seq
(.reg [
.l 49 (.mv (.g 6)),
.l 50 (.call (.c (.fn 17 [])) [.l 49]),
.g 15 (.mv (.l 50))])
(.seq
(.reg [
.l 51 (.mv (.g 15)),
.l 52 (.call (.c (.fn 30 [])) [.l 51, .i 10]),
.g 16 (.new [.slice none 0 0, .int .i64 0, .int .i64 0, .int .i64 0]),
.n (.st 4 (.g 16) (.l 52))])
(.seq
(.reg [
.l 53 (.mv (.g 15)),
.l 54 (.ld (some 4) (.g 16)),
.l 55 (.call (.c (.fn 31 [])) [.l 53, .l 54, .i 3, .i 5]),
.g 17 (.mv (.l 55))])
(.seq
(.draw [
.l 56 (.mv (.g 15)) 0,
.l 57 (.mv (.g 17)) 1,
.l 59 (.mv (.g 15)) 3,
.l 60 (.ld (some 4) (.g 16)) 4,
.lf 58 (.call (.c (.fn 20 [])) [.l 56, .i 3, .l 57, .i 5]) 2,
.lf 61 (.call (.c (.fn 19 [])) [.l 59, .l 60, .i 3, .i 10]) 5,
.g 18 (.mv (.l 58)) 6,
.g 19 (.mv (.l 61)) 7])
(.seq
(.reg [
.l 62 (.mv (.g 15)),
.l 63 (.mv (.g 17)),
.l 64 (.ia 1 (.l 63) (.i 0)),
.l 65 (.ld none (.l 64)),
.l 66 (.len (.l 65)),
.l 67 (.call (.c (.fn 23 [])) [.l 62, .l 66]),
.g 20 (.mv (.l 67))])
(.seq
(.draw [
.l 68 (.ld (some 4) (.g 7)) 0,
.l 69 (.ld (some 4) (.g 16)) 1,
.l 70 (.ld (some 4) (.g 16)) 2,
.l 71 (.mks false 4 [.l 68, .l 69, .l 70]) 3,
.l 72 (.mv (.g 1)) 4,
.l 73 (.mv (.g 18)) 5,
.l 74 (.mv (.g 18)) 6,
.l 75 (.mks false 1 [.l 72, .l 73, .l 74]) 7,
.l 76 (.mv (.g 2)) 8,
.l 77 (.mv (.g 19)) 9,
.l 78 (.mv (.g 19)) 10,
.l 79 (.mks false 1 [.l 76, .l 77, .l 78]) 11,
.l 80 (.mv (.g 3)) 12,
.l 81 (.mv (.g 17)) 13,
.l 82 (.ia 1 (.l 81) (.i 2)) 14,
.l 83 (.ld none (.l 82)) 15,
.l 84 (.mv (.g 20)) 16,
.l 85 (.ia 1 (.l 83) (.l 84)) 17,
.l 86 (.ld none (.l 85)) 18,
.l 87 (.mv (.g 15)) 19,
.l 92 (.mv (.g 3)) 24,
.l 94 (.mv (.g 4)) 26,
.l 95 (.mv (.g 15)) 27,
.l 98 (.mv (.g 4)) 30,
.l 100 (.mv (.g 5)) 32,
.l 101 (.mv (.g 20)) 33,
.l 102 (.mv (.g 5)) 34,
.l 103 (.mks false 1 [.l 100, .l 101, .l 102]) 35,
.lf 88 (.call (.c (.fn 23 [])) [.l 87, .i 200]) 20,
.l 89 (.bin .sub (.l 86) (.l 88)) 21,
.l 90 (.mn [.i 3000, .l 89]) 22,
.l 91 (.mx [.i 0, .l 90]) 23,
.l 93 (.mks false 1 [.l 80, .l 91, .l 92]) 25,
.lf 96 (.call (.c (.fn 23 [])) [.l 95, .i 9]) 28,
.l 97 (.bin .add (.i 3) (.l 96)) 29,
.l 99 (.mks false 1 [.l 94, .l 97, .l 98]) 31,
.g 21 (.mv (.l 71)) 36,
.g 22 (.mv (.l 75)) 37,
.g 23 (.mv (.l 79)) 38,
.g 24 (.mv (.l 93)) 39,
.g 25 (.mv (.l 99)) 40,
.g 26 (.mv (.l 103)) 41])
(.seq
(.seq
(.reg [
.g 27 (.mv (.i 0))])
(.block 0
(.loop
(.seq
(.seq
(.reg [
.l 104 (.mv (.g 27)),
.l 105 (.mv (.g 21)),
.l 106 (.len (.l 105)),
.g 107 (.bin .lss (.l 104) (.l 106))])
(.cond (.g 107)
.skip
(.exit 0)))
(.seq
(.block 1
(.seq
(.draw [
.l 111 (.mv (.g 21)) 0,
.l 112 (.mv (.g 27)) 1,
.l 113 (.ia 4 (.l 111) (.l 112)) 2,
.l 114 (.ld (some 4) (.l 113)) 3,
.l 115 (.mv (.g 22)) 4,
.l 116 (.mv (.g 27)) 5,
.l 117 (.ia 1 (.l 115) (.l 116)) 6,
.l 118 (.ld none (.l 117)) 7,
.l 119 (.mv (.g 23)) 8,
.l 120 (.mv (.g 27)) 9,
.l 121 (.ia 1 (.l 119) (.l 120)) 10,
.l 122 (.ld none (.l 121)) 11,
.l 123 (.mv (.g 24)) 12,
.l 124 (.mv (.g 27)) 13,
.l 125 (.ia 1 (.l 123) (.l 124)) 14,
.l 126 (.ld none (.l 125)) 15,
.l 127 (.mv (.g 25)) 16,
.l 128 (.mv (.g 27)) 17,
.l 129 (.ia 1 (.l 127) (.l 128)) 18,
.l 130 (.ld none (.l 129)) 19,
.lf 131 (.call (.c (.fn 24 [])) [.l 114, .l 118, .l 122, .l 126, .l 130]) 20,
.l 110 (.mv (.l 131)) 21,
.l 132 (.ex (.l 110) 0) 22,
.l 133 (.ex (.l 110) 1) 23,
.g 28 (.mv (.l 132)) 24,
.g 29 (.mv (.l 133)) 25])
(.seq
(.draw [
.l 135 (.mv (.g 21)) 0,
.l 136 (.mv (.g 27)) 1,
.l 137 (.ia 4 (.l 135) (.l 136)) 2,
.l 138 (.ld (some 4) (.l 137)) 3,
.l 139 (.mv (.g 22)) 4,
.l 140 (.mv (.g 27)) 5,
.l 141 (.ia 1 (.l 139) (.l 140)) 6,
.l 142 (.ld none (.l 141)) 7,
.l 143 (.mv (.g 23)) 8,
.l 144 (.mv (.g 27)) 9,
.l 145 (.ia 1 (.l 143) (.l 144)) 10,
.l 146 (.ld none (.l 145)) 11,
.l 147 (.mv (.g 24)) 12,
.l 148 (.mv (.g 27)) 13,
.l 149 (.ia 1 (.l 147) (.l 148)) 14,
.l 150 (.ld none (.l 149)) 15,
.l 151 (.mv (.g 25)) 16,
.l 152 (.mv (.g 27)) 17,
.l 153 (.ia 1 (.l 151) (.l 152)) 18,
.l 154 (.ld none (.l 153)) 19,
.lf 155 (.call (.c (.fn 51 [])) [.l 138, .l 142, .l 146, .l 150, .l 154]) 20,
.l 134 (.mv (.l 155)) 21,
.l 156 (.ex (.l 134) 0) 22,
.l 157 (.ex (.l 134) 1) 23,
.g 30 (.mv (.l 156)) 24,
.g 31 (.mv (.l 157)) 25])
(.seq
(.seq
(.reg [
.l 158 (.mv (.g 29)),
.l 159 (.mv (.g 31)),
.l 160 (.bin .neq (.l 158) (.l 159)),
.l 161 (.mv (.l 160)),
.lw 162 (.mv (.g 28)) (.l 161) false,
.lw 163 (.mv (.g 30)) (.l 161) false,
.lw 164 (.call (.c (.fn 52 [])) [.l 162, .l 163]) (.l 161) false,
.lw 165 (.un .not (.l 164)) (.l 161) false,
.g 166 (.pick (.l 161) (.b true) (.l 165))])
(.cond (.g 166)
(.seq
(.reg [
.g 14 (.mv (.b false))])
.ret)
.skip))
(.seq
(.seq
(.reg [
.l 167 (.mv (.g 21)),
.l 168 (.mv (.g 27)),
.l 169 (.ia 4 (.l 167) (.l 168)),
.l 170 (.ld (some 4) (.l 169)),
.l 171 (.call (.c (.fn 53 [])) [.l 170]),
.g 172 (.un .not (.l 171))])
(.cond (.g 172)
(.exit 1)
.skip))
(.seq
(.draw [
.l 174 (.mv (.g 21)) 0,
.l 175 (.mv (.g 27)) 1,
.l 176 (.ia 4 (.l 174) (.l 175)) 2,
.l 177 (.ld (some 4) (.l 176)) 3,
.l 178 (.mv (.g 22)) 4,
.l 179 (.mv (.g 27)) 5,
.l 180 (.ia 1 (.l 178) (.l 179)) 6,
.l 181 (.ld none (.l 180)) 7,
.l 182 (.mv (.g 23)) 8,
.l 183 (.mv (.g 27)) 9,
.l 184 (.ia 1 (.l 182) (.l 183)) 10,
.l 185 (.ld none (.l 184)) 11,
.l 186 (.mv (.g 24)) 12,
.l 187 (.mv (.g 27)) 13,
.l 188 (.ia 1 (.l 186) (.l 187)) 14,
.l 189 (.ld none (.l 188)) 15,
.l 190 (.mv (.g 25)) 16,
.l 191 (.mv (.g 27)) 17,
.l 192 (.ia 1 (.l 190) (.l 191)) 18,
.l 193 (.ld none (.l 192)) 19,
.l 194 (.mv (.g 26)) 20,
.l 195 (.mv (.g 27)) 21,
.l 196 (.ia 1 (.l 194) (.l 195)) 22,
.l 197 (.ld none (.l 196)) 23,
.lf 198 (.call (.c (.fn 54 [])) [.l 177, .l 181, .l 185, .l 189, .l 193, .l 197]) 24,
.l 173 (.mv (.l 198)) 25,
.l 199 (.ex (.l 173) 0) 26,
.l 200 (.ex (.l 173) 1) 27,
.g 32 (.mv (.l 199)) 28,
.g 33 (.mv (.l 200)) 29])
(.seq
(.draw [
.l 202 (.mv (.g 21)) 0,
.l 203 (.mv (.g 27)) 1,
.l 204 (.ia 4 (.l 202) (.l 203)) 2,
.l 205 (.ld (some 4) (.l 204)) 3,
.l 206 (.mv (.g 22)) 4,
.l 207 (.mv (.g 27)) 5,
.l 208 (.ia 1 (.l 206) (.l 207)) 6,
.l 209 (.ld none (.l 208)) 7,
.l 210 (.mv (.g 23)) 8,
.l 211 (.mv (.g 27)) 9,
.l 212 (.ia 1 (.l 210) (.l 211)) 10,
.l 213 (.ld none (.l 212)) 11,
.l 214 (.mv (.g 24)) 12,
.l 215 (.mv (.g 27)) 13,
.l 216 (.ia 1 (.l 214) (.l 215)) 14,
.l 217 (.ld none (.l 216)) 15,
.l 218 (.mv (.g 25)) 16,
.l 219 (.mv (.g 27)) 17,
.l 220 (.ia 1 (.l 218) (.l 219)) 18,
.l 221 (.ld none (.l 220)) 19,
.l 222 (.mv (.g 26)) 20,
.l 223 (.mv (.g 27)) 21,
.l 224 (.ia 1 (.l 222) (.l 223)) 22,
.l 225 (.ld none (.l 224)) 23,
.lf 226 (.call (.c (.fn 55 [])) [.l 205, .l 209, .l 213, .l 217, .l 221, .l 225]) 24,
.l 201 (.mv (.l 226)) 25,
.l 227 (.ex (.l 201) 0) 26,
.l 228 (.ex (.l 201) 1) 27,
.g 34 (.mv (.l 227)) 28,
.g 35 (.mv (.l 228)) 29])
(.seq
(.reg [
.l 229 (.mv (.g 32)),
.l 230 (.mv (.g 34)),
.l 231 (.bin .neq (.l 229) (.l 230)),
.l 232 (.mv (.l 231)),
.lw 233 (.mv (.g 33)) (.l 232) false,
.lw 234 (.mv (.g 35)) (.l 232) false,
.lw 235 (.bin .neq (.l 233) (.l 234)) (.l 232) false,
.g 236 (.pick (.l 232) (.b true) (.l 235))])
(.cond (.g 236)
(.seq
(.reg [
.g 14 (.mv (.b false))])
.ret)
.skip)))))))))
(.reg [
.l 108 (.mv (.g 27)),
.l 109 (.bin .add (.l 108) (.i 1)),
.g 27 (.mv (.l 109))]))))))
(.seq
(.reg [
.l 237 (.call (.c (.fn 28 [])) []),
.g 14 (.mv (.l 237))])
.ret))))))))))
def K9 : List Nat := [0, 1, 2, 3, 4, 5, 6, 47, 107, 166, 172, 236, 14, 7, 15, 16, 17, 18, 19, 20, 21, 22, 23, 24, 25, 26, 27, 28, 29, 30, 31, 32, 33, 34, 35]
noncomputable def b9 : Code := match Try.f9.body with | some c => c | none => .skip
theorem t9 : trCode ⟨Try.prog, K9, [], 238, none⟩ b9 = some c9 := by kernel_rfl
theorem go9 : GoS Try.prog 9 7 K9 [] 238 c9 [.t (.g 14)] := .mk Try.func9 (c := b9) rfl (by kernel_rfl) t9 rfl (by kernel_rfl) rfl rfl
end Go.Sas
