/-
The code of some functions with its types resolved, printed by a program; that it is the code is checked by the kernel.
The code of some functions with its types resolved, printed by a program; that it is the code is checked by the kernel.
The code of some functions with its types resolved, printed by a program; that it is the code is checked by the kernel.
The code of some functions with its types resolved, printed by a program; that it is the code is checked by the kernel.
The code of some functions with its types resolved, printed by a program; that it is the code is checked by the kernel.
Conditions: none.
-/
import Derived.Test.YtafplipkiaolmaaP4
import Derived.Test.YtafplipkiaolmaaP4
import Derived.Test.YtafplipkiaolmaaProg
import Derived.Test.YtafplipkiaolmaaPA
import Derived.Test.YtafplipkiaolmaaPC
set_option linter.unusedVariables false
set_option linter.unusedSimpArgs false
namespace Go.Sas
open Go.Proofs
set_option maxRecDepth 100000
/-- sastrugi/sastrugitop.TopWinter -/
def c3 : ACode :=
  (.seq
(.reg [
.g 2 (.mv (.b false))])
(.seq
(.reg [
.l 31 (.mv (.g 0)),
.l 32 (.call (.c (.fn 4 [])) [.l 31]),
.g 3 (.mv (.l 32))])
(.seq
(.reg [
.l 33 (.mv (.g 3)),
.l 34 (.call (.c (.fn 5 [])) [.l 33, .i 5]),
.g 4 (.new [.slice none 0 0, .int .i64 0, .int .i64 0, .int .i64 0]),
.n (.st 4 (.g 4) (.l 34))])
(.seq
(.reg [
.l 35 (.mv (.g 3)),
.l 36 (.ld (some 4) (.g 4)),
.l 37 (.call (.c (.fn 6 [])) [.l 35, .l 36, .i 0, .i 12]),
.g 5 (.mv (.l 37))])
(.seq
(.reg [
.l 38 (.mv (.g 3)),
.l 39 (.mv (.g 5)),
.l 40 (.call (.c (.fn 7 [])) [.l 38, .i 0, .l 39, .i 6]),
.g 6 (.mv (.l 40))])
(.seq
(.reg [
.l 41 (.mks false 5 []),
.l 42 (.mv (.g 6)),
.l 43 (.app 5 40 (.l 41) (.l 42)),
.l 44 (.mv (.g 3)),
.l 45 (.mv (.g 5)),
.l 46 (.call (.c (.fn 7 [])) [.l 44, .i 0, .l 45, .i 8]),
.l 47 (.app 5 40 (.l 43) (.l 46)),
.g 7 (.mv (.l 47))])
(.seq
(.reg [
.l 48 (.mv (.g 3)),
.l 49 (.ld (some 4) (.g 4)),
.l 50 (.call (.c (.fn 8 [])) [.l 48, .l 49, .i 1, .i 14]),
.g 8 (.mv (.l 50))])
(.seq
(.reg [
.l 51 (.mv (.g 3)),
.l 52 (.call (.c (.fn 9 [])) [.l 51, .i 12, .i 4]),
.g 9 (.new [.int .i64 0, .int .i64 0, .int .i64 0, .int .i64 0, .slice none 0 0, .slice none 0 0]),
.n (.st 6 (.g 9) (.l 52))])
(.seq
(.draw [
.l 53 (.fa (.g 9) 4) 0,
.l 54 (.ld none (.l 53)) 1,
.l 55 (.len (.l 54)) 2,
.l 56 (.mv (.g 3)) 3,
.l 58 (.mv (.g 5)) 5,
.l 59 (.ia 1 (.l 58) (.i 0)) 6,
.l 60 (.ld none (.l 59)) 7,
.l 61 (.ia 1 (.l 60) (.i 0)) 8,
.l 62 (.ld none (.l 61)) 9,
.l 63 (.mv (.g 3)) 10,
.lf 57 (.call (.c (.fn 10 [])) [.l 56, .i 1, .i 6]) 4,
.lf 64 (.call (.c (.fn 11 [])) [.l 63, .i 300]) 11,
.l 65 (.bin .sub (.l 62) (.l 64)) 12,
.l 66 (.mx [.i 0, .l 65]) 13,
.g 10 (.mv (.l 55)) 14,
.g 11 (.mv (.l 57)) 15,
.g 12 (.mv (.l 66)) 16])
(.seq
(.reg [
.l 67 (.mv (.g 10)),
.l 68 (.bin .sub (.l 67) (.i 1)),
.l 69 (.mk [.int .i64 0, .int .i64 0] [(1, 1, .l 68)]),
.l 70 (.mv (.g 10)),
.l 71 (.bin .sub (.l 70) (.i 1)),
.l 72 (.mk [.int .i64 0, .int .i64 0] [(1, 1, .l 71)]),
.l 73 (.fa (.g 9) 0),
.n (.st 2 (.l 73) (.l 69)),
.l 74 (.fa (.g 9) 2),
.n (.st 2 (.l 74) (.l 72))])
(.seq
(.seq
(.reg [
.g 13 (.mv (.i 0))])
(.block 0
(.loop
(.seq
(.seq
(.reg [
.l 75 (.mv (.g 13)),
.l 76 (.mv (.g 10)),
.g 77 (.bin .lss (.l 75) (.l 76))])
(.cond (.g 77)
.skip
(.exit 0)))
(.seq
(.block 1
(.reg [
.l 80 (.fa (.g 9) 4),
.l 81 (.ld none (.l 80)),
.l 82 (.mv (.g 13)),
.l 83 (.mv (.g 11)),
.l 84 (.mk [.int .i64 0, .int .i64 0] [(1, 1, .l 83)]),
.l 85 (.ia 2 (.l 81) (.l 82)),
.n (.st 2 (.l 85) (.l 84))]))
(.reg [
.l 78 (.mv (.g 13)),
.l 79 (.bin .add (.l 78) (.i 1)),
.g 13 (.mv (.l 79))]))))))
(.seq
(.reg [
.l 86 (.mv (.g 3)),
.l 87 (.fa (.g 9) 5),
.l 88 (.ld none (.l 87)),
.l 89 (.len (.l 88)),
.l 90 (.call (.c (.fn 12 [])) [.l 86, .l 89]),
.g 14 (.mv (.l 90))])
(.seq
(.reg [
.l 92 (.ld (some 4) (.g 4)),
.l 93 (.mv (.g 6)),
.l 94 (.mv (.g 8)),
.l 95 (.mv (.g 12)),
.l 96 (.mv (.g 10)),
.l 97 (.call (.c (.fn 13 [])) [.l 92, .l 93, .l 94, .l 95, .l 96]),
.l 91 (.mv (.l 97)),
.l 98 (.ex (.l 91) 0),
.l 99 (.ex (.l 91) 1),
.g 15 (.mv (.l 98)),
.g 16 (.mv (.l 99))])
(.seq
(.reg [
.l 101 (.ld (some 4) (.g 4)),
.l 102 (.mv (.g 7)),
.l 103 (.mv (.g 8)),
.l 104 (.mv (.g 12)),
.l 105 (.mv (.g 10)),
.l 106 (.call (.c (.fn 13 [])) [.l 101, .l 102, .l 103, .l 104, .l 105]),
.l 100 (.mv (.l 106)),
.l 107 (.ex (.l 100) 0),
.l 108 (.ex (.l 100) 1),
.g 17 (.mv (.l 107)),
.g 18 (.mv (.l 108))])
(.seq
(.seq
(.reg [
.l 109 (.mv (.g 16)),
.l 110 (.un .not (.l 109)),
.l 111 (.mv (.l 110)),
.lw 112 (.mv (.g 18)) (.l 111) false,
.lw 113 (.un .not (.l 112)) (.l 111) false,
.g 114 (.pick (.l 111) (.b true) (.l 113))])
(.cond (.g 114)
(.seq
(.reg [
.g 2 (.mv (.b false))])
.ret)
.skip))
(.seq
(.draw [
.l 116 (.ld (some 6) (.g 9)) 0,
.l 117 (.mv (.g 15)) 1,
.l 118 (.mv (.g 11)) 2,
.l 120 (.mv (.g 14)) 4,
.lf 119 (.call (.c (.fn 15 [])) [.l 117, .l 118]) 3,
.lf 121 (.call (.c (.fn 14 [])) [.l 116, .l 119, .l 120]) 5,
.l 115 (.mv (.l 121)) 6,
.l 122 (.ex (.l 115) 0) 7,
.l 123 (.ex (.l 115) 1) 8,
.g 19 (.mv (.l 122)) 9,
.g 20 (.mv (.l 123)) 10])
(.seq
(.draw [
.l 125 (.ld (some 6) (.g 9)) 0,
.l 126 (.mv (.g 15)) 1,
.l 127 (.mv (.g 11)) 2,
.l 129 (.mv (.g 19)) 4,
.lf 128 (.call (.c (.fn 15 [])) [.l 126, .l 127]) 3,
.lf 130 (.call (.c (.fn 16 [])) [.l 125, .l 128, .l 129]) 5,
.l 124 (.mv (.l 130)) 6,
.l 131 (.ex (.l 124) 0) 7,
.l 132 (.ex (.l 124) 1) 8,
.l 133 (.ex (.l 124) 2) 9,
.l 21 (.mv (.l 131)) 10,
.g 22 (.mv (.l 132)) 11,
.g 23 (.mv (.l 133)) 12])
(.seq
(.draw [
.l 135 (.ld (some 6) (.g 9)) 0,
.l 136 (.mv (.g 17)) 1,
.l 137 (.mv (.g 11)) 2,
.l 139 (.mv (.g 14)) 4,
.lf 138 (.call (.c (.fn 15 [])) [.l 136, .l 137]) 3,
.lf 140 (.call (.c (.fn 14 [])) [.l 135, .l 138, .l 139]) 5,
.l 134 (.mv (.l 140)) 6,
.l 141 (.ex (.l 134) 0) 7,
.l 142 (.ex (.l 134) 1) 8,
.g 24 (.mv (.l 141)) 9,
.g 25 (.mv (.l 142)) 10])
(.seq
(.draw [
.l 144 (.ld (some 6) (.g 9)) 0,
.l 145 (.mv (.g 17)) 1,
.l 146 (.mv (.g 11)) 2,
.l 148 (.mv (.g 24)) 4,
.lf 147 (.call (.c (.fn 15 [])) [.l 145, .l 146]) 3,
.lf 149 (.call (.c (.fn 16 [])) [.l 144, .l 147, .l 148]) 5,
.l 143 (.mv (.l 149)) 6,
.l 150 (.ex (.l 143) 0) 7,
.l 151 (.ex (.l 143) 1) 8,
.l 152 (.ex (.l 143) 2) 9,
.l 26 (.mv (.l 150)) 10,
.g 27 (.mv (.l 151)) 11,
.g 28 (.mv (.l 152)) 12])
(.seq
(.seq
(.reg [
.l 153 (.mv (.g 20)),
.l 154 (.bin .neq (.l 153) (.i 0)),
.l 155 (.mv (.l 154)),
.lw 156 (.mv (.g 23)) (.l 155) false,
.lw 157 (.bin .neq (.l 156) (.i 0)) (.l 155) false,
.l 158 (.pick (.l 155) (.b true) (.l 157)),
.l 159 (.mv (.l 158)),
.lw 160 (.mv (.g 25)) (.l 159) false,
.lw 161 (.bin .neq (.l 160) (.i 0)) (.l 159) false,
.l 162 (.pick (.l 159) (.b true) (.l 161)),
.l 163 (.mv (.l 162)),
.lw 164 (.mv (.g 28)) (.l 163) false,
.lw 165 (.bin .neq (.l 164) (.i 0)) (.l 163) false,
.l 166 (.pick (.l 163) (.b true) (.l 165)),
.l 167 (.mv (.l 166)),
.lw 168 (.mv (.g 27)) (.l 167) false,
.lw 169 (.mv (.g 22)) (.l 167) false,
.lw 170 (.bin .gtr (.l 168) (.l 169)) (.l 167) false,
.g 171 (.pick (.l 167) (.b true) (.l 170))])
(.cond (.g 171)
(.seq
(.reg [
.g 2 (.mv (.b false))])
.ret)
.skip))
(.seq
(.seq
(.reg [
.g 29 (.mv (.i 0))])
(.block 2
(.loop
(.seq
(.seq
(.reg [
.l 172 (.mv (.g 29)),
.l 173 (.mv (.g 19)),
.l 174 (.len (.l 173)),
.g 175 (.bin .lss (.l 172) (.l 174))])
(.cond (.g 175)
.skip
(.exit 2)))
(.seq
(.block 3
(.seq
(.reg [
.g 30 (.mv (.i 0))])
(.block 4
(.loop
(.seq
(.seq
(.reg [
.l 178 (.mv (.g 30)),
.l 179 (.mv (.g 19)),
.l 180 (.mv (.g 29)),
.l 181 (.ia 1 (.l 179) (.l 180)),
.l 182 (.ld none (.l 181)),
.l 183 (.len (.l 182)),
.l 184 (.bin .lss (.l 178) (.l 183)),
.l 185 (.mv (.l 184)),
.lw 186 (.mv (.g 30)) (.l 185) true,
.lw 187 (.mv (.g 10)) (.l 185) true,
.lw 188 (.bin .lss (.l 186) (.l 187)) (.l 185) true,
.g 189 (.pick (.l 185) (.l 188) (.b false))])
(.cond (.g 189)
.skip
(.exit 4)))
(.seq
(.block 5
(.seq
(.reg [
.l 192 (.mv (.g 19)),
.l 193 (.mv (.g 29)),
.l 194 (.ia 1 (.l 192) (.l 193)),
.l 195 (.ld none (.l 194)),
.l 196 (.mv (.g 30)),
.l 197 (.ia 1 (.l 195) (.l 196)),
.l 198 (.ld none (.l 197)),
.l 199 (.bin .gtr (.l 198) (.i 0)),
.l 200 (.mv (.l 199)),
.lw 201 (.mv (.g 15)) (.l 200) true,
.lw 202 (.mv (.g 30)) (.l 200) true,
.lw 203 (.ia 1 (.l 201) (.l 202)) (.l 200) true,
.lw 204 (.ld none (.l 203)) (.l 200) true,
.lw 205 (.un .not (.l 204)) (.l 200) true,
.g 206 (.pick (.l 200) (.l 205) (.b false))])
(.cond (.g 206)
(.seq
(.reg [
.g 2 (.mv (.b false))])
.ret)
.skip)))
(.reg [
.l 190 (.mv (.g 30)),
.l 191 (.bin .add (.l 190) (.i 1)),
.g 30 (.mv (.l 191))])))))))
(.reg [
.l 176 (.mv (.g 29)),
.l 177 (.bin .add (.l 176) (.i 1)),
.g 29 (.mv (.l 177))]))))))
(.seq
(.reg [
.l 207 (.call (.c (.fn 17 [])) []),
.g 2 (.mv (.l 207))])
.ret))))))))))))))))))))))
def K3 : List Nat := [0, 77, 114, 171, 175, 189, 206, 2, 3, 4, 5, 6, 7, 8, 9, 10, 11, 12, 13, 14, 15, 16, 17, 18, 19, 20, 22, 23, 24, 25, 27, 28, 29, 30]
noncomputable def b3 : Code := match Try.f3.body with | some c => c | none => .skip
theorem t3 : trCode ⟨Try.prog, K3, [], 208, none⟩ b3 = some c3 := by kernel_rfl
theorem go3 : GoS Try.prog 3 1 K3 [] 208 c3 [.t (.g 2)] := .mk Try.func3 (c := b3) rfl (by kernel_rfl) t3 rfl (by kernel_rfl) rfl rfl

/-- sastrugi/sastrugitop.openDays -/
def c13 : ACode :=
  (.seq
(.reg [
.g 5 (.box (.g 0)),
.g 10 (.mv (.c (.lit (.slice none 0 0)))),
.g 11 (.mv (.b false))])
(.seq
(.reg [
.g 12 (.mv (.c (.lit (.slice none 0 0))))])
(.seq
(.seq
(.reg [
.g 13 (.mv (.i 0))])
(.block 0
(.loop
(.seq
(.seq
(.reg [
.l 16 (.mv (.g 13)),
.l 17 (.mv (.g 4)),
.g 18 (.bin .lss (.l 16) (.l 17))])
(.cond (.g 18)
.skip
(.exit 0)))
(.seq
(.block 1
(.seq
(.reg [
.l 22 (.ld (some 4) (.g 5)),
.l 23 (.mv (.g 1)),
.l 24 (.mv (.g 2)),
.l 25 (.mv (.g 3)),
.l 26 (.mv (.g 13)),
.l 27 (.call (.c (.fn 24 [])) [.l 22, .l 23, .l 24, .l 25, .l 26]),
.l 21 (.mv (.l 27)),
.l 28 (.ex (.l 21) 0),
.l 29 (.ex (.l 21) 1),
.g 14 (.mv (.l 28)),
.g 15 (.mv (.l 29))])
(.seq
(.seq
(.reg [
.l 30 (.mv (.g 15)),
.g 31 (.bin .neq (.l 30) (.i 0))])
(.cond (.g 31)
(.seq
(.reg [
.g 10 (.mv (.c (.lit (.slice none 0 0)))),
.g 11 (.mv (.b false))])
.ret)
.skip))
(.reg [
.l 32 (.mv (.g 12)),
.l 33 (.mv (.g 14)),
.l 34 (.len (.l 33)),
.l 35 (.bin .eql (.l 34) (.i 0)),
.l 36 (.mks false 1 [.l 35]),
.l 37 (.app 1 1 (.l 32) (.l 36)),
.g 12 (.mv (.l 37))]))))
(.reg [
.l 19 (.mv (.g 13)),
.l 20 (.bin .add (.l 19) (.i 1)),
.g 13 (.mv (.l 20))]))))))
(.seq
(.reg [
.l 38 (.mv (.g 12)),
.g 10 (.mv (.l 38)),
.g 11 (.mv (.b true))])
.ret))))
def K13 : List Nat := [0, 1, 2, 3, 4, 18, 31, 10, 11, 5, 12, 13, 14, 15]
noncomputable def b13 : Code := match Try.f13.body with | some c => c | none => .skip
theorem t13 : trCode ⟨Try.prog, K13, [], 39, none⟩ b13 = some c13 := by kernel_rfl
theorem go13 : GoS Try.prog 13 5 K13 [] 39 c13 [.t (.g 10), .t (.g 11)] := .mk Try.func13 (c := b13) rfl (by kernel_rfl) t13 rfl (by kernel_rfl) rfl rfl

/-- sastrugi/sastrugitop.winter -/
def c15 : ACode :=
  (.seq
(.reg [
.g 4 (.new [.int .i64 0, .int .i64 0, .slice none 0 0])])
(.seq
(.reg [
.l 8 (.mv (.g 0)),
.l 9 (.len (.l 8)),
.l 10 (.bin .sub (.l 9) (.i 1)),
.l 11 (.mk [.int .i64 0, .int .i64 0, .slice none 0 0] [(1, 1, .l 10)]),
.g 5 (.new [.int .i64 0, .int .i64 0, .slice none 0 0]),
.n (.st 3 (.g 5) (.l 11))])
(.seq
(.seq
(.reg [
.g 6 (.mv (.i 0))])
(.block 0
(.loop
(.seq
(.seq
(.reg [
.l 12 (.mv (.g 6)),
.l 13 (.mv (.g 0)),
.l 14 (.len (.l 13)),
.g 15 (.bin .lss (.l 12) (.l 14))])
(.cond (.g 15)
.skip
(.exit 0)))
(.seq
(.block 1
(.seq
(.reg [
.g 7 (.mv (.i 0))])
(.seq
(.seq
(.reg [
.l 18 (.mv (.g 0)),
.l 19 (.mv (.g 6)),
.l 20 (.ia 1 (.l 18) (.l 19)),
.g 21 (.ld none (.l 20))])
(.cond (.g 21)
(.reg [
.l 22 (.mv (.g 1)),
.g 7 (.mv (.l 22))])
.skip))
(.reg [
.l 23 (.fa (.g 5) 2),
.l 24 (.ld none (.l 23)),
.l 25 (.mv (.g 7)),
.l 26 (.mks false 1 [.l 25]),
.l 27 (.app 1 8 (.l 24) (.l 26)),
.l 28 (.fa (.g 5) 2),
.n (.st 1 (.l 28) (.l 27))]))))
(.reg [
.l 16 (.mv (.g 6)),
.l 17 (.bin .add (.l 16) (.i 1)),
.g 6 (.mv (.l 17))]))))))
(.seq
(.reg [
.l 29 (.ld (some 3) (.g 5)),
.n (.st 3 (.g 4) (.l 29))])
.ret))))
def K15 : List Nat := [0, 1, 15, 21, 4, 5, 6, 7]
noncomputable def b15 : Code := match Try.f15.body with | some c => c | none => .skip
theorem t15 : trCode ⟨Try.prog, K15, [], 30, none⟩ b15 = some c15 := by kernel_rfl
theorem go15 : GoS Try.prog 15 2 K15 [] 30 c15 [.cell (.g 4) (some 3)] := .mk Try.func15 (c := b15) rfl (by kernel_rfl) t15 rfl (by kernel_rfl) rfl rfl

/-- sastrugi/sastrugitop.awake8 -/
def c17 : ACode :=
  (.seq
(.reg [
.g 0 (.mv (.b false))])
(.seq
(.reg [
.l 6 (.mk [.int .i64 0, .int .i64 0, .int .i64 0, .int .i64 0, .int .i64 0] [(0, 1, .i 2), (1, 1, .i 10), (4, 1, .i 5)]),
.l 7 (.mks false 5 [.l 6]),
.l 8 (.mk [.slice none 0 0, .int .i64 0, .int .i64 0, .int .i64 0] [(0, 1, .l 7)]),
.g 1 (.new [.slice none 0 0, .int .i64 0, .int .i64 0, .int .i64 0]),
.n (.st 4 (.g 1) (.l 8))])
(.seq
(.draw [
.l 10 (.ld (some 4) (.g 1)) 0,
.g 2 (.new [.int .i64 0, .int .i64 0]) 8,
.lf 11 (.call (.c (.fn 31 [])) [.i 500]) 1,
.l 12 (.mk [.int .i64 0, .int .i64 0, .int .i64 0, .int .i64 0, .int .i64 0] [(0, 1, .i 1), (3, 2, .l 11)]) 2,
.l 13 (.mks false 5 [.l 12]) 3,
.lf 14 (.call (.c (.fn 30 [])) [.l 10, .l 13, .i 1, .i 3]) 4,
.l 9 (.mv (.l 14)) 5,
.l 15 (.ex (.l 9) 0) 6,
.lf 16 (.ex (.l 9) 1) 7,
.nx (.st 2 (.g 2) (.l 15)) 9 false [8],
.gx 3 (.mv (.l 16)) 10 false [8]])
(.seq
(.reg [
.l 18 (.mks false 1 [.i 1, .i 2]),
.l 19 (.call (.c (.fn 32 [])) [.i 10, .l 18]),
.l 17 (.mv (.l 19)),
.l 20 (.ex (.l 17) 0),
.l 21 (.ex (.l 17) 1),
.g 4 (.mv (.l 20)),
.g 5 (.mv (.l 21))])
(.seq
(.reg [
.l 22 (.mv (.g 3)),
.l 23 (.bin .eql (.l 22) (.i 0)),
.l 24 (.mv (.l 23)),
.lw 25 (.mv (.g 5)) (.l 24) true,
.lw 26 (.bin .eql (.l 25) (.i 0)) (.l 24) true,
.l 27 (.pick (.l 24) (.l 26) (.b false)),
.l 28 (.mv (.l 27)),
.lw 29 (.ld (some 2) (.g 2)) (.l 28) true,
.lw 30 (.mk [.int .i64 0, .int .i64 0] [(0, 1, .i 490), (1, 1, .i 510)]) (.l 28) true,
.lw 31 (.eqs false (.fld 0 none .i (.fld 1 none .i .nil)) (.l 29) (.l 30)) (.l 28) true,
.l 32 (.pick (.l 28) (.l 31) (.b false)),
.l 33 (.mv (.l 32)),
.lw 34 (.mv (.g 4)) (.l 33) true,
.lw 35 (.mks false 1 [.i 3, .i 7]) (.l 33) true,
.lw 36 (.call (.c (.fn 33 [])) [.l 34, .l 35]) (.l 33) true,
.l 37 (.pick (.l 33) (.l 36) (.b false)),
.g 0 (.mv (.l 37))])
.ret)))))
def K17 : List Nat := [0, 1, 2, 3, 4, 5]
noncomputable def b17 : Code := match Try.f17.body with | some c => c | none => .skip
theorem t17 : trCode ⟨Try.prog, K17, [], 38, none⟩ b17 = some c17 := by kernel_rfl
theorem go17 : GoS Try.prog 17 0 K17 [] 38 c17 [.t (.g 0)] := .mk Try.func17 (c := b17) rfl (by kernel_rfl) t17 rfl (by kernel_rfl) rfl rfl

/-- sastrugi/sastrugitop.one -/
def c31 : ACode :=
  (.seq
(.reg [
.g 2 (.new [.int .i64 0, .int .i64 0])])
(.seq
(.reg [
.l 3 (.mv (.g 0)),
.l 4 (.mv (.g 0)),
.l 5 (.mk [.int .i64 0, .int .i64 0] [(0, 1, .l 3), (1, 1, .l 4)]),
.n (.st 2 (.g 2) (.l 5))])
.ret))
def K31 : List Nat := [0, 2]
noncomputable def b31 : Code := match Try.f31.body with | some c => c | none => .skip
theorem t31 : trCode ⟨Try.prog, K31, [], 6, none⟩ b31 = some c31 := by kernel_rfl
theorem go31 : GoS Try.prog 31 1 K31 [] 6 c31 [.cell (.g 2) (some 2)] := .mk Try.func31 (c := b31) rfl (by kernel_rfl) t31 rfl (by kernel_rfl) rfl rfl

end Go.Sas
namespace Go.Sas
open Go.Proofs
set_option maxRecDepth 100000
/-- sastrugi/freight.Check -/
def c39 : ACode :=
  (.seq
(.reg [
.g 1 (.box (.g 0)),
.g 2 (.mv (.i 0))])
(.seq
(.block 0
(.seq
(.reg [
.l 12 (.fa (.g 1) 4),
.l 13 (.ld none (.l 12)),
.l 14 (.len (.l 13)),
.l 15 (.bin .eql (.l 14) (.i 0)),
.g 11 (.mv (.l 15))])
(.cond (.g 11)
(.seq
(.reg [
.g 2 (.mv (.i 6))])
.ret)
(.seq
(.reg [
.l 17 (.fa (.g 1) 4),
.l 18 (.ld none (.l 17)),
.l 19 (.len (.l 18)),
.l 20 (.bin .gtr (.l 19) (.i 200)),
.g 16 (.mv (.l 20))])
(.cond (.g 16)
(.seq
(.reg [
.g 2 (.mv (.i 8))])
.ret)
.skip)))))
(.seq
(.seq
(.reg [
.l 21 (.fa (.g 1) 4),
.g 22 (.ld none (.l 21)),
.g 23 (.len (.g 22)),
.g 24 (.mv (.i 0))])
(.block 1
(.loop
(.seq
(.reg [
.g 25 (.bin .lss (.g 24) (.g 23))])
(.seq
(.cond (.g 25)
.skip
(.exit 1))
(.seq
(.block 2
(.seq
(.reg [
.l 26 (.ia 2 (.g 22) (.g 24)),
.l 27 (.ld (some 2) (.l 26)),
.g 4 (.new [.int .i64 0, .int .i64 0]),
.n (.st 2 (.g 4) (.l 27))])
(.seq
(.reg [
.l 28 (.ld (some 2) (.g 4)),
.l 29 (.call (.c (.fn 56 [])) [.l 28, .i 0, .i 1000000]),
.g 5 (.mv (.l 29))])
(.seq
(.reg [
.l 30 (.mv (.g 5)),
.g 31 (.bin .neq (.l 30) (.i 0))])
(.cond (.g 31)
(.seq
(.reg [
.l 32 (.mv (.g 5)),
.g 2 (.mv (.l 32))])
.ret)
.skip)))))
(.reg [
.l 33 (.bin .add (.g 24) (.i 1)),
.g 24 (.mv (.l 33))])))))))
(.seq
(.seq
(.reg [
.l 34 (.fa (.g 1) 0),
.l 35 (.ld (some 2) (.l 34)),
.l 36 (.fa (.g 1) 2),
.l 37 (.ld (some 2) (.l 36)),
.g 38 (.mk [.int .i64 0, .int .i64 0, .int .i64 0, .int .i64 0] [(0, 2, .l 35), (2, 2, .l 37)]),
.g 39 (.mv (.i 0))])
(.block 3
(.loop
(.seq
(.reg [
.g 40 (.bin .lss (.g 39) (.i 2))])
(.seq
(.cond (.g 40)
.skip
(.exit 3))
(.seq
(.block 4
(.seq
(.reg [
.l 41 (.ix 2 2 (some 2) (.g 38) (.g 39)),
.g 7 (.new [.int .i64 0, .int .i64 0]),
.n (.st 2 (.g 7) (.l 41))])
(.seq
(.reg [
.l 42 (.ld (some 2) (.g 7)),
.l 43 (.fa (.g 1) 4),
.l 44 (.ld none (.l 43)),
.l 45 (.len (.l 44)),
.l 46 (.bin .sub (.l 45) (.i 1)),
.l 47 (.call (.c (.fn 56 [])) [.l 42, .i 0, .l 46]),
.g 8 (.mv (.l 47))])
(.seq
(.reg [
.l 48 (.mv (.g 8)),
.g 49 (.bin .neq (.l 48) (.i 0))])
(.cond (.g 49)
(.seq
(.reg [
.l 50 (.mv (.g 8)),
.g 2 (.mv (.l 50))])
.ret)
.skip)))))
(.reg [
.l 51 (.bin .add (.g 39) (.i 1)),
.g 39 (.mv (.l 51))])))))))
(.seq
(.block 5
(.seq
(.reg [
.l 53 (.fa (.g 1) 5),
.l 54 (.ld none (.l 53)),
.l 55 (.len (.l 54)),
.l 56 (.bin .eql (.l 55) (.i 0)),
.g 52 (.mv (.l 56))])
(.cond (.g 52)
(.seq
(.reg [
.g 2 (.mv (.i 6))])
.ret)
(.seq
(.reg [
.l 58 (.fa (.g 1) 5),
.l 59 (.ld none (.l 58)),
.l 60 (.len (.l 59)),
.l 61 (.bin .gtr (.l 60) (.i 6)),
.g 57 (.mv (.l 61))])
(.cond (.g 57)
(.seq
(.reg [
.g 2 (.mv (.i 8))])
.ret)
.skip)))))
(.seq
(.seq
(.reg [
.l 62 (.fa (.g 1) 5),
.g 63 (.ld none (.l 62)),
.g 64 (.len (.g 63)),
.g 65 (.mv (.i 0))])
(.block 6
(.loop
(.seq
(.reg [
.g 66 (.bin .lss (.g 65) (.g 64))])
(.seq
(.cond (.g 66)
.skip
(.exit 6))
(.seq
(.block 7
(.seq
(.reg [
.l 67 (.ia 4 (.g 63) (.g 65)),
.l 68 (.ld (some 4) (.l 67)),
.g 10 (.new [.int .i64 0, .int .i64 0, .int .i64 0, .int .i64 0]),
.n (.st 4 (.g 10) (.l 68))])
(.block 8
(.seq
(.reg [
.l 70 (.fa (.g 10) 0),
.l 71 (.ld none (.l 70)),
.l 72 (.call (.c (.fn 40 [])) [.l 71, .i 1, .i 1000000]),
.l 73 (.un .not (.l 72)),
.l 74 (.mv (.l 73)),
.lw 75 (.fa (.g 10) 1) (.l 74) false,
.lw 76 (.ld none (.l 75)) (.l 74) false,
.lw 77 (.call (.c (.fn 40 [])) [.l 76, .i 0, .i 200]) (.l 74) false,
.lw 78 (.un .not (.l 77)) (.l 74) false,
.l 79 (.pick (.l 74) (.b true) (.l 78)),
.l 80 (.mv (.l 79)),
.lw 81 (.fa (.g 10) 2) (.l 80) false,
.lw 82 (.ld none (.l 81)) (.l 80) false,
.lw 83 (.call (.c (.fn 40 [])) [.l 82, .i 0, .i 1000000]) (.l 80) false,
.lw 84 (.un .not (.l 83)) (.l 80) false,
.l 85 (.pick (.l 80) (.b true) (.l 84)),
.l 86 (.mv (.l 85)),
.lw 87 (.fa (.g 10) 3) (.l 86) false,
.lw 88 (.ld none (.l 87)) (.l 86) false,
.lw 89 (.call (.c (.fn 40 [])) [.l 88, .i 0, .i 1000000]) (.l 86) false,
.lw 90 (.un .not (.l 89)) (.l 86) false,
.l 91 (.pick (.l 86) (.b true) (.l 90)),
.g 69 (.mv (.l 91))])
(.cond (.g 69)
(.seq
(.reg [
.g 2 (.mv (.i 2))])
.ret)
(.seq
(.reg [
.l 93 (.fa (.g 10) 2),
.l 94 (.ld none (.l 93)),
.l 95 (.fa (.g 10) 3),
.l 96 (.ld none (.l 95)),
.l 97 (.bin .gtr (.l 94) (.l 96)),
.g 92 (.mv (.l 97))])
(.cond (.g 92)
(.seq
(.reg [
.g 2 (.mv (.i 11))])
.ret)
.skip)))))))
(.reg [
.l 98 (.bin .add (.g 65) (.i 1)),
.g 65 (.mv (.l 98))])))))))
(.seq
(.reg [
.g 2 (.mv (.i 0))])
.ret)))))))
def K39 : List Nat := [0, 11, 16, 25, 31, 40, 49, 52, 57, 66, 69, 92, 2, 1, 22, 23, 24, 4, 5, 38, 39, 7, 8, 63, 64, 65, 10]
noncomputable def b39 : Code := match Try.f39.body with | some c => c | none => .skip
theorem t39 : trCode ⟨Try.prog, K39, [], 99, none⟩ b39 = some c39 := by kernel_rfl
theorem go39 : GoS Try.prog 39 1 K39 [] 99 c39 [.t (.g 2)] := .mk Try.func39 (c := b39) rfl (by kernel_rfl) t39 rfl (by kernel_rfl) rfl rfl

/-- sastrugi/freight.checkSpan -/
def c56 : ACode :=
  (.seq
(.reg [
.g 3 (.box (.g 0)),
.g 6 (.mv (.i 0))])
(.seq
(.block 0
(.seq
(.reg [
.l 8 (.fa (.g 3) 0),
.l 9 (.ld none (.l 8)),
.l 10 (.mv (.g 1)),
.l 11 (.mv (.g 2)),
.l 12 (.call (.c (.fn 40 [])) [.l 9, .l 10, .l 11]),
.l 13 (.un .not (.l 12)),
.l 14 (.mv (.l 13)),
.lw 15 (.fa (.g 3) 1) (.l 14) false,
.lw 16 (.ld none (.l 15)) (.l 14) false,
.lw 17 (.mv (.g 1)) (.l 14) false,
.lw 18 (.mv (.g 2)) (.l 14) false,
.lw 19 (.call (.c (.fn 40 [])) [.l 16, .l 17, .l 18]) (.l 14) false,
.lw 20 (.un .not (.l 19)) (.l 14) false,
.l 21 (.pick (.l 14) (.b true) (.l 20)),
.g 7 (.mv (.l 21))])
(.cond (.g 7)
(.seq
(.reg [
.g 6 (.mv (.i 2))])
.ret)
(.seq
(.reg [
.l 23 (.fa (.g 3) 0),
.l 24 (.ld none (.l 23)),
.l 25 (.fa (.g 3) 1),
.l 26 (.ld none (.l 25)),
.l 27 (.bin .gtr (.l 24) (.l 26)),
.g 22 (.mv (.l 27))])
(.cond (.g 22)
(.seq
(.reg [
.g 6 (.mv (.i 11))])
.ret)
.skip)))))
(.seq
(.reg [
.g 6 (.mv (.i 0))])
.ret)))
def K56 : List Nat := [0, 1, 2, 7, 22, 6, 3]
noncomputable def b56 : Code := match Try.f56.body with | some c => c | none => .skip
theorem t56 : trCode ⟨Try.prog, K56, [], 28, none⟩ b56 = some c56 := by kernel_rfl
theorem go56 : GoS Try.prog 56 3 K56 [] 28 c56 [.t (.g 6)] := .mk Try.func56 (c := b56) rfl (by kernel_rfl) t56 rfl (by kernel_rfl) rfl rfl

/-- sastrugi/freight.in -/
def c40 : ACode :=
  (.seq
(.reg [
.g 6 (.mv (.b false))])
(.seq
(.reg [
.l 7 (.mv (.g 1)),
.l 8 (.mv (.g 0)),
.l 9 (.bin .leq (.l 7) (.l 8)),
.l 10 (.mv (.l 9)),
.lw 11 (.mv (.g 0)) (.l 10) true,
.lw 12 (.mv (.g 2)) (.l 10) true,
.lw 13 (.bin .leq (.l 11) (.l 12)) (.l 10) true,
.l 14 (.pick (.l 10) (.l 13) (.b false)),
.g 6 (.mv (.l 14))])
.ret))
def K40 : List Nat := [0, 1, 2, 6]
noncomputable def b40 : Code := match Try.f40.body with | some c => c | none => .skip
theorem t40 : trCode ⟨Try.prog, K40, [], 15, none⟩ b40 = some c40 := by kernel_rfl
theorem go40 : GoS Try.prog 40 3 K40 [] 15 c40 [.t (.g 6)] := .mk Try.func40 (c := b40) rfl (by kernel_rfl) t40 rfl (by kernel_rfl) rfl rfl

/-- (sastrugi/freight.season).room -/
def c41 : ACode :=
  (.seq
(.reg [
.g 2 (.box (.g 0)),
.g 4 (.mv (.i 0))])
(.seq
(.seq
(.reg [
.l 5 (.mv (.g 1)),
.l 6 (.fa (.g 2) 6),
.l 7 (.fa (.l 6) 0),
.l 8 (.ld none (.l 7)),
.l 9 (.fa (.g 2) 6),
.l 10 (.fa (.l 9) 1),
.l 11 (.ld none (.l 10)),
.l 12 (.call (.c (.fn 40 [])) [.l 5, .l 8, .l 11]),
.g 13 (.un .not (.l 12))])
(.cond (.g 13)
(.seq
(.reg [
.g 4 (.mv (.i 0))])
.ret)
.skip))
(.seq
(.reg [
.l 14 (.fa (.g 2) 6),
.l 15 (.fa (.l 14) 2),
.l 16 (.ld none (.l 15)),
.l 17 (.mv (.g 1)),
.l 18 (.ia 1 (.l 16) (.l 17)),
.l 19 (.ld none (.l 18)),
.g 4 (.mv (.l 19))])
.ret)))
def K41 : List Nat := [0, 1, 13, 4, 2]
noncomputable def b41 : Code := match Try.f41.body with | some c => c | none => .skip
theorem t41 : trCode ⟨Try.prog, K41, [], 20, none⟩ b41 = some c41 := by kernel_rfl
theorem go41 : GoS Try.prog 41 2 K41 [] 20 c41 [.t (.g 4)] := .mk Try.func41 (c := b41) rfl (by kernel_rfl) t41 rfl (by kernel_rfl) rfl rfl

end Go.Sas
namespace Go.Sas
open Go.Proofs
set_option maxRecDepth 100000
/-- sastrugi/sastrugikit.FreightOf -/
def c9 : ACode :=
  (.seq
(.reg [
.g 6 (.new [.int .i64 0, .int .i64 0, .int .i64 0, .int .i64 0, .slice none 0 0, .slice none 0 0])])
(.seq
(.reg [
.g 7 (.new [.int .i64 0, .int .i64 0, .int .i64 0, .int .i64 0, .slice none 0 0, .slice none 0 0])])
(.seq
(.reg [
.l 12 (.mv (.g 0)),
.l 13 (.mv (.g 1)),
.l 14 (.call (.c (.fn 10 [])) [.l 12, .i 1, .l 13]),
.g 8 (.mv (.l 14))])
(.seq
(.seq
(.reg [
.g 9 (.mv (.i 0))])
(.block 0
(.loop
(.seq
(.seq
(.reg [
.l 15 (.mv (.g 9)),
.l 16 (.mv (.g 8)),
.g 17 (.bin .lss (.l 15) (.l 16))])
(.cond (.g 17)
.skip
(.exit 0)))
(.seq
(.block 1
(.draw [
.l 20 (.fa (.g 7) 4) 0,
.l 21 (.ld none (.l 20)) 1,
.l 22 (.mv (.g 0)) 2,
.l 23 (.mv (.g 0)) 3,
.l 24 (.mks false 1 [.i 3, .i 9]) 4,
.lf 25 (.call (.c (.fn 19 [])) [.l 23, .l 24]) 5,
.lf 26 (.call (.c (.fn 22 [])) [.l 22, .i 0, .l 25]) 6,
.l 27 (.mks false 2 [.l 26]) 7,
.lf 28 (.app 2 16 (.l 21) (.l 27)) 8,
.l 29 (.fa (.g 7) 4) 9,
.n (.st 1 (.l 29) (.l 28)) 10]))
(.reg [
.l 18 (.mv (.g 9)),
.l 19 (.bin .add (.l 18) (.i 1)),
.g 9 (.mv (.l 19))]))))))
(.seq
(.reg [
.l 30 (.mv (.g 0)),
.l 31 (.mv (.g 8)),
.l 32 (.bin .sub (.l 31) (.i 1)),
.l 33 (.bin .quo (.l 32) (.i 2)),
.l 34 (.call (.c (.fn 22 [])) [.l 30, .i 0, .l 33]),
.l 35 (.mv (.g 0)),
.l 36 (.mv (.g 8)),
.l 37 (.bin .sub (.l 36) (.i 1)),
.l 38 (.bin .quo (.l 37) (.i 2)),
.l 39 (.mv (.g 8)),
.l 40 (.bin .sub (.l 39) (.i 1)),
.l 41 (.call (.c (.fn 22 [])) [.l 35, .l 38, .l 40]),
.l 42 (.fa (.g 7) 0),
.n (.st 2 (.l 42) (.l 34)),
.l 43 (.fa (.g 7) 2),
.n (.st 2 (.l 43) (.l 41))])
(.seq
(.seq
(.reg [
.l 44 (.mv (.g 0)),
.g 45 (.call (.c (.fn 23 [])) [.l 44, .i 8])])
(.cond (.g 45)
(.reg [
.l 46 (.mv (.g 0)),
.l 47 (.mv (.g 8)),
.l 48 (.bin .sub (.l 47) (.i 1)),
.l 49 (.call (.c (.fn 22 [])) [.l 46, .i 0, .l 48]),
.l 50 (.mv (.g 0)),
.l 51 (.mv (.g 8)),
.l 52 (.bin .sub (.l 51) (.i 1)),
.l 53 (.call (.c (.fn 22 [])) [.l 50, .i 0, .l 52]),
.l 54 (.fa (.g 7) 0),
.n (.st 2 (.l 54) (.l 49)),
.l 55 (.fa (.g 7) 2),
.n (.st 2 (.l 55) (.l 53))])
.skip))
(.seq
(.seq
(.reg [
.l 56 (.mv (.g 0)),
.l 57 (.mv (.g 2)),
.l 58 (.call (.c (.fn 10 [])) [.l 56, .i 1, .l 57]),
.g 10 (.mv (.l 58))])
(.block 2
(.loop
(.seq
(.seq
(.reg [
.l 59 (.mv (.g 10)),
.g 60 (.bin .gtr (.l 59) (.i 0))])
(.cond (.g 60)
.skip
(.exit 2)))
(.seq
(.block 3
(.seq
(.reg [
.l 63 (.mv (.g 0)),
.l 64 (.mv (.g 0)),
.l 65 (.mks false 1 [.i 4, .i 20]),
.l 66 (.call (.c (.fn 19 [])) [.l 64, .l 65]),
.l 67 (.call (.c (.fn 10 [])) [.l 63, .i 1, .l 66]),
.l 68 (.mv (.g 0)),
.l 69 (.mv (.g 8)),
.l 70 (.bin .add (.l 69) (.i 1)),
.l 71 (.call (.c (.fn 11 [])) [.l 68, .l 70]),
.l 72 (.mv (.g 0)),
.l 73 (.call (.c (.fn 11 [])) [.l 72, .i 10]),
.l 74 (.mk [.int .i64 0, .int .i64 0, .int .i64 0, .int .i64 0] [(0, 1, .l 67), (1, 1, .l 71), (2, 1, .l 73)]),
.g 11 (.new [.int .i64 0, .int .i64 0, .int .i64 0, .int .i64 0]),
.n (.st 4 (.g 11) (.l 74))])
(.seq
(.draw [
.l 75 (.fa (.g 11) 2) 0,
.l 76 (.ld none (.l 75)) 1,
.l 77 (.mv (.g 0)) 2,
.l 78 (.mv (.g 0)) 3,
.lf 79 (.call (.c (.fn 11 [])) [.l 78, .i 20]) 4,
.l 80 (.mks false 1 [.i 0, .l 79]) 5,
.lf 81 (.call (.c (.fn 19 [])) [.l 77, .l 80]) 6,
.l 82 (.bin .add (.l 76) (.l 81)) 7,
.l 83 (.fa (.g 11) 3) 8,
.n (.st 1 (.l 83) (.l 82)) 9])
(.reg [
.l 84 (.fa (.g 7) 5),
.l 85 (.ld none (.l 84)),
.l 86 (.ld (some 4) (.g 11)),
.l 87 (.mks false 4 [.l 86]),
.l 88 (.app 4 32 (.l 85) (.l 87)),
.l 89 (.fa (.g 7) 5),
.n (.st 1 (.l 89) (.l 88))]))))
(.reg [
.l 61 (.mv (.g 10)),
.l 62 (.bin .sub (.l 61) (.i 1)),
.g 10 (.mv (.l 62))]))))))
(.seq
(.reg [
.l 90 (.ld (some 6) (.g 7)),
.n (.st 6 (.g 6) (.l 90))])
.ret))))))))
def K9 : List Nat := [0, 1, 2, 17, 45, 60, 6, 7, 8, 9, 10, 11]
noncomputable def b9 : Code := match Try.f9.body with | some c => c | none => .skip
theorem t9 : trCode ⟨Try.prog, K9, [], 91, none⟩ b9 = some c9 := by kernel_rfl
theorem go9 : GoS Try.prog 9 3 K9 [] 91 c9 [.cell (.g 6) (some 6)] := .mk Try.func9 (c := b9) rfl (by kernel_rfl) t9 rfl (by kernel_rfl) rfl rfl

/-- sastrugi/sastrugikit.PlanOf -/
def c12 : ACode :=
  (.seq
(.reg [
.g 4 (.mv (.c (.lit (.slice none 0 0))))])
(.seq
(.reg [
.g 5 (.mv (.c (.lit (.slice none 0 0))))])
(.seq
(.seq
(.reg [
.g 6 (.mv (.i 0))])
(.block 0
(.loop
(.seq
(.seq
(.reg [
.l 9 (.mv (.g 6)),
.l 10 (.mv (.g 1)),
.g 11 (.bin .lss (.l 9) (.l 10))])
(.cond (.g 11)
.skip
(.exit 0)))
(.seq
(.block 1
(.reg [
.l 14 (.mv (.g 5)),
.l 15 (.mv (.g 6)),
.l 16 (.mks false 1 [.l 15]),
.l 17 (.app 1 8 (.l 14) (.l 16)),
.g 5 (.mv (.l 17))]))
(.reg [
.l 12 (.mv (.g 6)),
.l 13 (.bin .add (.l 12) (.i 1)),
.g 6 (.mv (.l 13))]))))))
(.seq
(.seq
(.reg [
.l 18 (.mv (.g 1)),
.l 19 (.bin .sub (.l 18) (.i 1)),
.g 7 (.mv (.l 19))])
(.block 2
(.loop
(.seq
(.seq
(.reg [
.l 20 (.mv (.g 7)),
.g 21 (.bin .gtr (.l 20) (.i 0))])
(.cond (.g 21)
.skip
(.exit 2)))
(.seq
(.block 3
(.seq
(.reg [
.l 24 (.mv (.g 0)),
.l 25 (.mv (.g 7)),
.l 26 (.bin .add (.l 25) (.i 1)),
.l 27 (.call (.c (.fn 11 [])) [.l 24, .l 26]),
.g 8 (.mv (.l 27))])
(.draw [
.l 28 (.mv (.g 5)) 0,
.l 29 (.mv (.g 7)) 1,
.lf 30 (.mv (.g 5)) 2,
.lf 31 (.mv (.g 8)) 3,
.l 32 (.mv (.g 5)) 4,
.l 33 (.mv (.g 8)) 5,
.l 34 (.ia 1 (.l 32) (.l 33)) 6,
.l 35 (.ld none (.l 34)) 7,
.lf 36 (.mv (.g 5)) 8,
.lf 37 (.mv (.g 7)) 9,
.l 38 (.ia 1 (.l 36) (.l 37)) 10,
.l 39 (.ld none (.l 38)) 11,
.l 40 (.ia 1 (.l 28) (.l 29)) 12,
.nf (.st 1 (.l 40) (.l 35)) 13,
.lf 41 (.ia 1 (.l 30) (.l 31)) 14,
.n (.st 1 (.l 41) (.l 39)) 15])))
(.reg [
.l 22 (.mv (.g 7)),
.l 23 (.bin .sub (.l 22) (.i 1)),
.g 7 (.mv (.l 23))]))))))
(.seq
(.reg [
.l 42 (.mv (.g 5)),
.g 4 (.mv (.l 42))])
.ret)))))
def K12 : List Nat := [0, 1, 11, 21, 4, 5, 6, 7, 8]
noncomputable def b12 : Code := match Try.f12.body with | some c => c | none => .skip
theorem t12 : trCode ⟨Try.prog, K12, [], 43, none⟩ b12 = some c12 := by kernel_rfl
theorem go12 : GoS Try.prog 12 2 K12 [] 43 c12 [.t (.g 4)] := .mk Try.func12 (c := b12) rfl (by kernel_rfl) t12 rfl (by kernel_rfl) rfl rfl

/-- (*sastrugi/sastrugikit.Seed).Span -/
def c22 : ACode :=
  (.seq
(.reg [
.g 6 (.new [.int .i64 0, .int .i64 0])])
(.seq
(.reg [
.l 8 (.mv (.g 0)),
.l 9 (.mv (.g 1)),
.l 10 (.mv (.g 2)),
.l 11 (.call (.c (.fn 10 [])) [.l 8, .l 9, .l 10]),
.l 12 (.mk [.int .i64 0, .int .i64 0] [(0, 1, .l 11)]),
.g 7 (.new [.int .i64 0, .int .i64 0]),
.n (.st 2 (.g 7) (.l 12))])
(.seq
(.reg [
.l 13 (.fa (.g 7) 0),
.l 14 (.ld none (.l 13)),
.l 15 (.fa (.g 7) 1),
.n (.st 1 (.l 15) (.l 14))])
(.seq
(.seq
(.reg [
.l 16 (.mv (.g 0)),
.g 17 (.call (.c (.fn 11 [])) [.l 16, .i 3])])
(.block 0
(.seq
(.reg [
.l 19 (.bin .eql (.g 17) (.i 0)),
.g 18 (.mv (.l 19))])
(.cond (.g 18)
(.reg [
.l 20 (.mv (.g 0)),
.l 21 (.fa (.g 7) 0),
.l 22 (.ld none (.l 21)),
.l 23 (.mv (.g 2)),
.l 24 (.fa (.g 7) 0),
.l 25 (.ld none (.l 24)),
.l 26 (.bin .add (.l 25) (.i 1)),
.l 27 (.mv (.g 2)),
.l 28 (.mv (.g 1)),
.l 29 (.bin .sub (.l 27) (.l 28)),
.l 30 (.bin .quo (.l 29) (.i 10)),
.l 31 (.bin .add (.l 26) (.l 30)),
.l 32 (.mn [.l 23, .l 31]),
.l 33 (.call (.c (.fn 10 [])) [.l 20, .l 22, .l 32]),
.l 34 (.fa (.g 7) 1),
.n (.st 1 (.l 34) (.l 33))])
(.seq
(.reg [
.l 36 (.bin .eql (.g 17) (.i 1)),
.g 35 (.mv (.l 36))])
(.cond (.g 35)
(.reg [
.l 37 (.mv (.g 0)),
.l 38 (.fa (.g 7) 0),
.l 39 (.ld none (.l 38)),
.l 40 (.mv (.g 2)),
.l 41 (.call (.c (.fn 10 [])) [.l 37, .l 39, .l 40]),
.l 42 (.fa (.g 7) 1),
.n (.st 1 (.l 42) (.l 41))])
.skip))))))
(.seq
(.reg [
.l 43 (.ld (some 2) (.g 7)),
.n (.st 2 (.g 6) (.l 43))])
.ret)))))
def K22 : List Nat := [0, 1, 2, 18, 35, 6, 7, 17]
noncomputable def b22 : Code := match Try.f22.body with | some c => c | none => .skip
theorem t22 : trCode ⟨Try.prog, K22, [], 44, none⟩ b22 = some c22 := by kernel_rfl
theorem go22 : GoS Try.prog 22 3 K22 [] 44 c22 [.cell (.g 6) (some 2)] := .mk Try.func22 (c := b22) rfl (by kernel_rfl) t22 rfl (by kernel_rfl) rfl rfl

end Go.Sas
namespace Go.Sas
open Go.Proofs
set_option maxRecDepth 100000
/-- sastrugi/freight.Spread -/
def c14 : ACode :=
  (.seq
(.reg [
.g 3 (.box (.g 0)),
.g 4 (.box (.g 1)),
.g 6 (.mv (.c (.lit (.slice none 0 0)))),
.g 7 (.mv (.i 0))])
(.seq
(.seq
(.reg [
.l 9 (.ld (some 6) (.g 3)),
.l 10 (.ld (some 3) (.g 4)),
.l 11 (.call (.c (.fn 25 [])) [.l 9, .l 10]),
.g 8 (.mv (.l 11))])
(.seq
(.reg [
.l 12 (.mv (.g 8)),
.g 13 (.bin .neq (.l 12) (.i 0))])
(.cond (.g 13)
(.seq
(.reg [
.l 14 (.mv (.g 8)),
.g 6 (.mv (.c (.lit (.slice none 0 0)))),
.g 7 (.mv (.l 14))])
.ret)
.skip)))
(.seq
(.seq
(.reg [
.l 15 (.ld (some 6) (.g 3)),
.l 16 (.mv (.g 2)),
.l 17 (.call (.c (.fn 26 [])) [.l 15, .l 16]),
.g 18 (.un .not (.l 17))])
(.cond (.g 18)
(.seq
(.reg [
.g 6 (.mv (.c (.lit (.slice none 0 0)))),
.g 7 (.mv (.i 3))])
.ret)
.skip))
(.seq
(.reg [
.l 19 (.ld (some 6) (.g 3)),
.l 20 (.ld (some 3) (.g 4)),
.l 21 (.mk [.int .i64 0, .int .i64 0, .int .i64 0, .int .i64 0, .slice none 0 0, .slice none 0 0, .int .i64 0, .int .i64 0, .slice none 0 0] [(0, 6, .l 19), (6, 3, .l 20)]),
.l 22 (.mv (.g 2)),
.l 23 (.call (.c (.fn 27 [])) [.l 21, .l 22]),
.g 6 (.mv (.l 23)),
.g 7 (.mv (.i 0))])
.ret))))
def K14 : List Nat := [0, 1, 2, 13, 18, 6, 7, 3, 4, 8]
noncomputable def b14 : Code := match Try.f14.body with | some c => c | none => .skip
theorem t14 : trCode ⟨Try.prog, K14, [], 24, none⟩ b14 = some c14 := by kernel_rfl
theorem go14 : GoS Try.prog 14 3 K14 [] 24 c14 [.t (.g 6), .t (.g 7)] := .mk Try.func14 (c := b14) rfl (by kernel_rfl) t14 rfl (by kernel_rfl) rfl rfl

/-- sastrugi/freight.Tell -/
def c16 : ACode :=
  (.seq
(.reg [
.g 3 (.box (.g 0)),
.g 4 (.box (.g 1)),
.g 6 (.mv (.c (.lit (.slice none 0 0)))),
.g 7 (.mv (.i 0)),
.g 8 (.mv (.i 0))])
(.seq
(.seq
(.reg [
.l 10 (.ld (some 6) (.g 3)),
.l 11 (.ld (some 3) (.g 4)),
.l 12 (.mv (.g 2)),
.l 13 (.call (.c (.fn 28 [])) [.l 10, .l 11, .l 12]),
.g 9 (.mv (.l 13))])
(.seq
(.reg [
.l 14 (.mv (.g 9)),
.g 15 (.bin .neq (.l 14) (.i 0))])
(.cond (.g 15)
(.seq
(.reg [
.l 16 (.mv (.g 9)),
.g 6 (.mv (.c (.lit (.slice none 0 0)))),
.g 7 (.mv (.i 0)),
.g 8 (.mv (.l 16))])
.ret)
.skip)))
(.seq
(.reg [
.l 18 (.ld (some 6) (.g 3)),
.l 19 (.ld (some 3) (.g 4)),
.l 20 (.mk [.int .i64 0, .int .i64 0, .int .i64 0, .int .i64 0, .slice none 0 0, .slice none 0 0, .int .i64 0, .int .i64 0, .slice none 0 0] [(0, 6, .l 18), (6, 3, .l 19)]),
.l 21 (.mv (.g 2)),
.l 22 (.call (.c (.fn 29 [])) [.l 20, .l 21]),
.l 17 (.mv (.l 22)),
.l 23 (.ex (.l 17) 0),
.l 24 (.ex (.l 17) 1),
.g 6 (.mv (.l 23)),
.g 7 (.mv (.l 24))])
(.seq
(.reg [
.l 25 (.mv (.g 6)),
.l 26 (.mv (.g 7)),
.g 6 (.mv (.l 25)),
.g 7 (.mv (.l 26)),
.g 8 (.mv (.i 0))])
.ret))))
def K16 : List Nat := [0, 1, 2, 15, 6, 7, 8, 3, 4, 9]
noncomputable def b16 : Code := match Try.f16.body with | some c => c | none => .skip
theorem t16 : trCode ⟨Try.prog, K16, [], 27, none⟩ b16 = some c16 := by kernel_rfl
theorem go16 : GoS Try.prog 16 3 K16 [] 27 c16 [.t (.g 6), .t (.g 7), .t (.g 8)] := .mk Try.func16 (c := b16) rfl (by kernel_rfl) t16 rfl (by kernel_rfl) rfl rfl

/-- (sastrugi/freight.season).tell -/
def c29 : ACode :=
  (.seq
(.reg [
.g 2 (.box (.g 0)),
.g 4 (.mv (.c (.lit (.slice none 0 0)))),
.g 5 (.mv (.i 0))])
(.seq
(.seq
(.reg [
.l 13 (.fa (.g 2) 0),
.l 14 (.fa (.l 13) 5),
.g 15 (.ld none (.l 14)),
.g 16 (.len (.g 15)),
.g 17 (.mv (.i 0))])
(.block 0
(.loop
(.seq
(.reg [
.g 18 (.bin .lss (.g 17) (.g 16))])
(.seq
(.cond (.g 18)
.skip
(.exit 0))
(.seq
(.block 1
(.seq
(.reg [
.l 19 (.mv (.g 17)),
.l 20 (.ia 4 (.g 15) (.g 17)),
.l 21 (.ld (some 4) (.l 20)),
.g 7 (.new [.int .i64 0, .int .i64 0, .int .i64 0, .int .i64 0]),
.g 6 (.mv (.l 19)),
.n (.st 4 (.g 7) (.l 21))])
(.seq
(.draw [
.l 22 (.mv (.g 1)) 0,
.l 23 (.mv (.g 6)) 1,
.l 24 (.ia 1 (.l 22) (.l 23)) 2,
.l 25 (.ld none (.l 24)) 3,
.l 26 (.fa (.g 7) 1) 4,
.l 27 (.ld none (.l 26)) 5,
.l 28 (.bin .add (.l 27) (.i 1)) 6,
.l 29 (.fa (.g 2) 0) 7,
.l 30 (.fa (.l 29) 4) 8,
.l 31 (.ld none (.l 30)) 9,
.l 32 (.len (.l 31)) 10,
.l 33 (.mn [.l 28, .l 32]) 11,
.l 34 (.sl 1 (.l 25) none (some (.l 33)) none) 12,
.lf 35 (.call (.c (.fn 44 [])) [.l 34]) 13,
.g 8 (.mv (.l 35)) 14])
(.seq
(.reg [
.l 36 (.mv (.g 1)),
.l 37 (.mv (.g 6)),
.l 38 (.ia 1 (.l 36) (.l 37)),
.l 39 (.ld none (.l 38)),
.l 40 (.call (.c (.fn 44 [])) [.l 39]),
.g 9 (.mv (.l 40))])
(.seq
(.reg [
.l 41 (.mv (.g 8)),
.l 42 (.mv (.g 9)),
.l 43 (.mv (.g 8)),
.l 44 (.bin .sub (.l 42) (.l 43)),
.l 45 (.fa (.g 7) 0),
.l 46 (.ld none (.l 45)),
.l 47 (.mv (.g 9)),
.l 48 (.bin .sub (.l 46) (.l 47)),
.l 49 (.mk [.int .i64 0, .int .i64 0, .int .i64 0, .int .i64 0] [(0, 1, .l 41), (1, 1, .l 44), (2, 1, .l 48), (3, 1, .i (-1))]),
.g 10 (.new [.int .i64 0, .int .i64 0, .int .i64 0, .int .i64 0]),
.n (.st 4 (.g 10) (.l 49))])
(.seq
(.seq
(.reg [
.l 50 (.fa (.g 10) 2),
.l 51 (.ld none (.l 50)),
.g 52 (.bin .eql (.l 51) (.i 0))])
(.cond (.g 52)
(.seq
(.reg [
.l 53 (.mv (.g 1)),
.l 54 (.mv (.g 6)),
.l 55 (.ia 1 (.l 53) (.l 54)),
.g 56 (.ld none (.l 55)),
.g 57 (.len (.g 56)),
.g 58 (.mv (.i 0))])
(.block 2
(.loop
(.seq
(.reg [
.g 59 (.bin .lss (.g 58) (.g 57))])
(.seq
(.cond (.g 59)
.skip
(.exit 2))
(.seq
(.block 3
(.seq
(.reg [
.l 60 (.mv (.g 58)),
.l 61 (.ia 1 (.g 56) (.g 58)),
.l 62 (.ld none (.l 61)),
.g 11 (.mv (.l 60)),
.g 12 (.mv (.l 62))])
(.seq
(.reg [
.l 63 (.mv (.g 12)),
.g 64 (.bin .gtr (.l 63) (.i 0))])
(.cond (.g 64)
(.reg [
.l 65 (.mv (.g 11)),
.l 66 (.fa (.g 10) 3),
.n (.st 1 (.l 66) (.l 65))])
.skip))))
(.reg [
.l 67 (.bin .add (.g 58) (.i 1)),
.g 58 (.mv (.l 67))])))))))
.skip))
(.seq
(.reg [
.l 68 (.mv (.g 4)),
.l 69 (.ld (some 4) (.g 10)),
.l 70 (.mks false 4 [.l 69]),
.l 71 (.app 4 32 (.l 68) (.l 70)),
.g 4 (.mv (.l 71))])
(.reg [
.l 72 (.mv (.g 5)),
.l 73 (.fa (.g 10) 1),
.l 74 (.ld none (.l 73)),
.l 75 (.fa (.g 7) 2),
.l 76 (.ld none (.l 75)),
.l 77 (.bin .mul (.l 74) (.l 76)),
.l 78 (.fa (.g 10) 2),
.l 79 (.ld none (.l 78)),
.l 80 (.fa (.g 7) 3),
.l 81 (.ld none (.l 80)),
.l 82 (.bin .mul (.l 79) (.l 81)),
.l 83 (.bin .add (.l 77) (.l 82)),
.l 84 (.bin .add (.l 72) (.l 83)),
.g 5 (.mv (.l 84))]))))))))
(.reg [
.l 85 (.bin .add (.g 17) (.i 1)),
.g 17 (.mv (.l 85))])))))))
(.seq
(.reg [
.l 86 (.mv (.g 4)),
.l 87 (.mv (.g 5)),
.g 4 (.mv (.l 86)),
.g 5 (.mv (.l 87))])
.ret)))
def K29 : List Nat := [0, 1, 18, 52, 59, 64, 4, 5, 2, 15, 16, 17, 7, 6, 8, 9, 10, 56, 57, 58, 11, 12]
noncomputable def b29 : Code := match Try.f29.body with | some c => c | none => .skip
theorem t29 : trCode ⟨Try.prog, K29, [], 88, none⟩ b29 = some c29 := by kernel_rfl
theorem go29 : GoS Try.prog 29 2 K29 [] 88 c29 [.t (.g 4), .t (.g 5)] := .mk Try.func29 (c := b29) rfl (by kernel_rfl) t29 rfl (by kernel_rfl) rfl rfl

/-- (sastrugi/freight.season).spread -/
def c27 : ACode :=
  (.seq
(.reg [
.g 2 (.box (.g 0)),
.g 4 (.mv (.c (.lit (.slice none 0 0))))])
(.seq
(.reg [
.g 5 (.new [.int .i64 0, .int .i64 0, .int .i64 0, .int .i64 0, .int .i64 0, .int .i64 0])])
(.seq
(.reg [
.l 14 (.fa (.g 2) 0),
.l 15 (.fa (.l 14) 5),
.l 16 (.ld none (.l 15)),
.l 17 (.len (.l 16)),
.l 18 (.mksl 1 24 [.slice none 0 0] (.l 17) (.l 17)),
.g 6 (.mv (.l 18))])
(.seq
(.seq
(.reg [
.l 19 (.fa (.g 2) 0),
.l 20 (.fa (.l 19) 5),
.g 21 (.ld none (.l 20)),
.g 22 (.len (.g 21)),
.g 23 (.mv (.i 0))])
(.block 0
(.loop
(.seq
(.reg [
.g 24 (.bin .lss (.g 23) (.g 22))])
(.seq
(.cond (.g 24)
.skip
(.exit 0))
(.seq
(.block 1
(.seq
(.reg [
.l 25 (.mv (.g 23)),
.l 26 (.ia 4 (.g 21) (.g 23)),
.l 27 (.ld (some 4) (.l 26)),
.g 8 (.new [.int .i64 0, .int .i64 0, .int .i64 0, .int .i64 0]),
.g 7 (.mv (.l 25)),
.n (.st 4 (.g 8) (.l 27))])
(.seq
(.reg [
.l 28 (.mv (.g 7)),
.l 29 (.fa (.g 8) 0),
.l 30 (.ld none (.l 29)),
.l 31 (.iaa 6 1 (.g 5) (.l 28)),
.n (.st 1 (.l 31) (.l 30))])
(.reg [
.l 32 (.mv (.g 6)),
.l 33 (.mv (.g 7)),
.l 34 (.fa (.g 2) 0),
.l 35 (.fa (.l 34) 4),
.l 36 (.ld none (.l 35)),
.l 37 (.len (.l 36)),
.l 38 (.mksl 1 8 [.int .i64 0] (.l 37) (.l 37)),
.l 39 (.ia 1 (.l 32) (.l 33)),
.n (.st 1 (.l 39) (.l 38))]))))
(.reg [
.l 40 (.bin .add (.g 23) (.i 1)),
.g 23 (.mv (.l 40))])))))))
(.seq
(.seq
(.reg [
.l 41 (.fa (.g 2) 0),
.l 42 (.fa (.l 41) 4),
.l 43 (.ld none (.l 42)),
.g 44 (.len (.l 43)),
.g 45 (.mv (.i 0))])
(.block 2
(.loop
(.seq
(.reg [
.g 46 (.bin .lss (.g 45) (.g 44))])
(.seq
(.cond (.g 46)
.skip
(.exit 2))
(.seq
(.block 3
(.seq
(.reg [
.l 47 (.mv (.g 45)),
.g 9 (.mv (.l 47))])
(.seq
(.reg [
.l 48 (.ld (some 9) (.g 2)),
.l 49 (.mv (.g 9)),
.l 50 (.call (.c (.fn 41 [])) [.l 48, .l 49]),
.g 10 (.mv (.l 50))])
(.seq
(.reg [
.g 51 (.mv (.g 1)),
.g 52 (.len (.g 51)),
.g 53 (.mv (.i 0))])
(.block 4
(.loop
(.seq
(.reg [
.g 54 (.bin .lss (.g 53) (.g 52))])
(.seq
(.cond (.g 54)
.skip
(.exit 4))
(.seq
(.block 5
(.seq
(.reg [
.l 55 (.ia 1 (.g 51) (.g 53)),
.l 56 (.ld none (.l 55)),
.g 12 (.mv (.l 56))])
(.seq
(.reg [
.l 57 (.mv (.g 10)),
.l 58 (.mv (.g 12)),
.l 59 (.iaa 6 1 (.g 5) (.l 58)),
.l 60 (.ld none (.l 59)),
.l 61 (.mn [.l 57, .l 60]),
.g 13 (.mv (.l 61))])
(.seq
(.reg [
.l 62 (.mv (.g 6)),
.l 63 (.mv (.g 12)),
.l 64 (.ia 1 (.l 62) (.l 63)),
.l 65 (.ld none (.l 64)),
.l 66 (.mv (.g 9)),
.l 67 (.mv (.g 13)),
.l 68 (.ia 1 (.l 65) (.l 66)),
.n (.st 1 (.l 68) (.l 67))])
(.seq
(.reg [
.l 69 (.mv (.g 10)),
.l 70 (.mv (.g 13)),
.l 71 (.bin .sub (.l 69) (.l 70)),
.g 10 (.mv (.l 71))])
(.reg [
.l 72 (.mv (.g 12)),
.l 73 (.iaa 6 1 (.g 5) (.l 72)),
.l 74 (.ld none (.l 73)),
.l 75 (.mv (.g 13)),
.l 76 (.bin .sub (.l 74) (.l 75)),
.l 77 (.iaa 6 1 (.g 5) (.l 72)),
.n (.st 1 (.l 77) (.l 76))]))))))
(.reg [
.l 78 (.bin .add (.g 53) (.i 1)),
.g 53 (.mv (.l 78))]))))))))))
(.reg [
.l 79 (.bin .add (.g 45) (.i 1)),
.g 45 (.mv (.l 79))])))))))
(.seq
(.reg [
.l 80 (.mv (.g 6)),
.g 4 (.mv (.l 80))])
.ret))))))
def K27 : List Nat := [0, 1, 24, 46, 54, 4, 2, 5, 6, 21, 22, 23, 8, 7, 44, 45, 9, 10, 51, 52, 53, 12, 13]
noncomputable def b27 : Code := match Try.f27.body with | some c => c | none => .skip
theorem t27 : trCode ⟨Try.prog, K27, [], 81, none⟩ b27 = some c27 := by kernel_rfl
theorem go27 : GoS Try.prog 27 2 K27 [] 81 c27 [.t (.g 4)] := .mk Try.func27 (c := b27) rfl (by kernel_rfl) t27 rfl (by kernel_rfl) rfl rfl

/-- sastrugi/freight.checkWinter -/
def c25 : ACode :=
  (.seq
(.reg [
.g 2 (.box (.g 0)),
.g 3 (.box (.g 1)),
.g 4 (.mv (.i 0))])
(.seq
(.seq
(.reg [
.l 9 (.ld (some 6) (.g 2)),
.l 10 (.call (.c (.fn 39 [])) [.l 9]),
.g 5 (.mv (.l 10))])
(.seq
(.reg [
.l 11 (.mv (.g 5)),
.g 12 (.bin .neq (.l 11) (.i 0))])
(.cond (.g 12)
(.seq
(.reg [
.l 13 (.mv (.g 5)),
.g 4 (.mv (.l 13))])
.ret)
.skip)))
(.seq
(.seq
(.reg [
.l 14 (.fa (.g 3) 2),
.l 15 (.ld none (.l 14)),
.l 16 (.len (.l 15)),
.l 17 (.fa (.g 2) 4),
.l 18 (.ld none (.l 17)),
.l 19 (.len (.l 18)),
.g 20 (.bin .neq (.l 16) (.l 19))])
(.cond (.g 20)
(.seq
(.reg [
.g 4 (.mv (.i 3))])
.ret)
.skip))
(.seq
(.reg [
.l 21 (.fa (.g 3) 0),
.l 22 (.ld none (.l 21)),
.l 23 (.fa (.g 2) 0),
.l 24 (.fa (.l 23) 0),
.l 25 (.ld none (.l 24)),
.l 26 (.fa (.g 2) 0),
.l 27 (.fa (.l 26) 1),
.l 28 (.ld none (.l 27)),
.l 29 (.call (.c (.fn 40 [])) [.l 22, .l 25, .l 28]),
.l 30 (.mv (.l 29)),
.lw 31 (.fa (.g 3) 1) (.l 30) true,
.lw 32 (.ld none (.l 31)) (.l 30) true,
.lw 33 (.fa (.g 2) 2) (.l 30) true,
.lw 34 (.fa (.l 33) 0) (.l 30) true,
.lw 35 (.ld none (.l 34)) (.l 30) true,
.lw 36 (.fa (.g 2) 2) (.l 30) true,
.lw 37 (.fa (.l 36) 1) (.l 30) true,
.lw 38 (.ld none (.l 37)) (.l 30) true,
.lw 39 (.call (.c (.fn 40 [])) [.l 32, .l 35, .l 38]) (.l 30) true,
.l 40 (.pick (.l 30) (.l 39) (.b false)),
.g 6 (.mv (.l 40))])
(.seq
(.seq
(.reg [
.l 41 (.fa (.g 3) 2),
.g 42 (.ld none (.l 41)),
.g 43 (.len (.g 42)),
.g 44 (.mv (.i 0))])
(.block 0
(.loop
(.seq
(.reg [
.g 45 (.bin .lss (.g 44) (.g 43))])
(.seq
(.cond (.g 45)
.skip
(.exit 0))
(.seq
(.block 1
(.seq
(.reg [
.l 46 (.mv (.g 44)),
.l 47 (.ia 1 (.g 42) (.g 44)),
.l 48 (.ld none (.l 47)),
.g 7 (.mv (.l 46)),
.g 8 (.mv (.l 48))])
(.draw [
.l 49 (.mv (.g 6)) 0,
.l 50 (.mv (.l 49)) 1,
.lw 51 (.mv (.g 8)) (.l 50) true 2,
.lw 52 (.fa (.g 2) 4) (.l 50) true 3,
.lw 53 (.ld none (.l 52)) (.l 50) true 4,
.lw 54 (.mv (.g 7)) (.l 50) true 5,
.lw 55 (.ia 2 (.l 53) (.l 54)) (.l 50) true 6,
.lw 56 (.fa (.l 55) 0) (.l 50) true 7,
.lw 57 (.ld none (.l 56)) (.l 50) true 8,
.lw 58 (.fa (.g 2) 4) (.l 50) true 9,
.lw 59 (.ld none (.l 58)) (.l 50) true 10,
.lw 60 (.mv (.g 7)) (.l 50) true 11,
.lw 61 (.ia 2 (.l 59) (.l 60)) (.l 50) true 12,
.lw 62 (.fa (.l 61) 1) (.l 50) true 13,
.lw 63 (.ld none (.l 62)) (.l 50) true 14,
.lwf 64 (.call (.c (.fn 40 [])) [.l 51, .l 57, .l 63]) (.l 50) true 15,
.l 65 (.pick (.l 50) (.l 64) (.b false)) 16,
.g 6 (.mv (.l 65)) 17])))
(.reg [
.l 66 (.bin .add (.g 44) (.i 1)),
.g 44 (.mv (.l 66))])))))))
(.seq
(.seq
(.reg [
.l 67 (.mv (.g 6)),
.g 68 (.un .not (.l 67))])
(.cond (.g 68)
(.seq
(.reg [
.g 4 (.mv (.i 2))])
.ret)
.skip))
(.seq
(.reg [
.g 4 (.mv (.i 0))])
.ret)))))))
def K25 : List Nat := [0, 1, 12, 20, 45, 68, 4, 2, 3, 5, 6, 42, 43, 44, 7, 8]
noncomputable def b25 : Code := match Try.f25.body with | some c => c | none => .skip
theorem t25 : trCode ⟨Try.prog, K25, [], 69, none⟩ b25 = some c25 := by kernel_rfl
theorem go25 : GoS Try.prog 25 2 K25 [] 69 c25 [.t (.g 4)] := .mk Try.func25 (c := b25) rfl (by kernel_rfl) t25 rfl (by kernel_rfl) rfl rfl

/-- sastrugi/freight.isPlan -/
def c26 : ACode :=
  (.seq
(.reg [
.g 2 (.box (.g 0)),
.g 4 (.mv (.b false))])
(.seq
(.reg [
.g 5 (.new [.bool false, .bool false, .bool false, .bool false, .bool false, .bool false])])
(.seq
(.seq
(.reg [
.g 8 (.mv (.g 1)),
.g 9 (.len (.g 8)),
.g 10 (.mv (.i 0))])
(.block 0
(.loop
(.seq
(.reg [
.g 11 (.bin .lss (.g 10) (.g 9))])
(.seq
(.cond (.g 11)
.skip
(.exit 0))
(.seq
(.block 1
(.seq
(.reg [
.l 12 (.ia 1 (.g 8) (.g 10)),
.l 13 (.ld none (.l 12)),
.g 7 (.mv (.l 13))])
(.seq
(.seq
(.reg [
.l 14 (.mv (.g 7)),
.l 15 (.fa (.g 2) 5),
.l 16 (.ld none (.l 15)),
.l 17 (.len (.l 16)),
.l 18 (.bin .sub (.l 17) (.i 1)),
.l 19 (.call (.c (.fn 40 [])) [.l 14, .i 0, .l 18]),
.l 20 (.un .not (.l 19)),
.l 21 (.mv (.l 20)),
.lw 22 (.mv (.g 7)) (.l 21) false,
.lw 23 (.iaa 6 1 (.g 5) (.l 22)) (.l 21) false,
.lw 24 (.ld none (.l 23)) (.l 21) false,
.g 25 (.pick (.l 21) (.b true) (.l 24))])
(.cond (.g 25)
(.seq
(.reg [
.g 4 (.mv (.b false))])
.ret)
.skip))
(.reg [
.l 26 (.mv (.g 7)),
.l 27 (.iaa 6 1 (.g 5) (.l 26)),
.n (.st 1 (.l 27) (.b true))]))))
(.reg [
.l 28 (.bin .add (.g 10) (.i 1)),
.g 10 (.mv (.l 28))])))))))
(.seq
(.reg [
.l 29 (.mv (.g 1)),
.l 30 (.len (.l 29)),
.l 31 (.fa (.g 2) 5),
.l 32 (.ld none (.l 31)),
.l 33 (.len (.l 32)),
.l 34 (.bin .eql (.l 30) (.l 33)),
.g 4 (.mv (.l 34))])
.ret))))
def K26 : List Nat := [0, 1, 11, 25, 4, 2, 5, 8, 9, 10, 7]
noncomputable def b26 : Code := match Try.f26.body with | some c => c | none => .skip
theorem t26 : trCode ⟨Try.prog, K26, [], 35, none⟩ b26 = some c26 := by kernel_rfl
theorem go26 : GoS Try.prog 26 2 K26 [] 35 c26 [.t (.g 4)] := .mk Try.func26 (c := b26) rfl (by kernel_rfl) t26 rfl (by kernel_rfl) rfl rfl

/-- sastrugi/freight.checkWay -/
def c28 : ACode :=
  (.seq
(.reg [
.g 3 (.box (.g 0)),
.g 4 (.box (.g 1)),
.g 6 (.mv (.i 0))])
(.seq
(.seq
(.reg [
.l 18 (.ld (some 6) (.g 3)),
.l 19 (.ld (some 3) (.g 4)),
.l 20 (.call (.c (.fn 25 [])) [.l 18, .l 19]),
.g 7 (.mv (.l 20))])
(.seq
(.reg [
.l 21 (.mv (.g 7)),
.g 22 (.bin .neq (.l 21) (.i 0))])
(.cond (.g 22)
(.seq
(.reg [
.l 23 (.mv (.g 7)),
.g 6 (.mv (.l 23))])
.ret)
.skip)))
(.seq
(.seq
(.reg [
.l 24 (.mv (.g 2)),
.l 25 (.len (.l 24)),
.l 26 (.fa (.g 3) 5),
.l 27 (.ld none (.l 26)),
.l 28 (.len (.l 27)),
.l 29 (.bin .neq (.l 25) (.l 28)),
.l 30 (.mv (.l 29)),
.lw 31 (.mv (.g 2)) (.l 30) false,
.lw 32 (.mkf 43 [.g 3]) (.l 30) false,
.lw 33 (.call (.c (.fn 42 [])) [.l 31, .l 32]) (.l 30) false,
.g 34 (.pick (.l 30) (.b true) (.l 33))])
(.cond (.g 34)
(.seq
(.reg [
.g 6 (.mv (.i 3))])
.ret)
.skip))
(.seq
(.reg [
.l 35 (.fa (.g 3) 4),
.l 36 (.ld none (.l 35)),
.l 37 (.len (.l 36)),
.l 38 (.mksl 1 8 [.int .i64 0] (.l 37) (.l 37)),
.g 8 (.mv (.l 38))])
(.seq
(.seq
(.reg [
.g 39 (.mv (.g 2)),
.g 40 (.len (.g 39)),
.g 41 (.mv (.i 0))])
(.block 0
(.loop
(.seq
(.reg [
.g 42 (.bin .lss (.g 41) (.g 40))])
(.seq
(.cond (.g 42)
.skip
(.exit 0))
(.seq
(.block 1
(.seq
(.reg [
.l 43 (.ia 1 (.g 39) (.g 41)),
.l 44 (.ld none (.l 43)),
.g 10 (.mv (.l 44))])
(.seq
(.reg [
.g 45 (.mv (.g 10)),
.g 46 (.len (.g 45)),
.g 47 (.mv (.i 0))])
(.block 2
(.loop
(.seq
(.reg [
.g 48 (.bin .lss (.g 47) (.g 46))])
(.seq
(.cond (.g 48)
.skip
(.exit 2))
(.seq
(.block 3
(.seq
(.reg [
.l 49 (.mv (.g 47)),
.l 50 (.ia 1 (.g 45) (.g 47)),
.l 51 (.ld none (.l 50)),
.g 11 (.mv (.l 49)),
.g 12 (.mv (.l 51))])
(.seq
(.seq
(.reg [
.l 52 (.mv (.g 12)),
.l 53 (.call (.c (.fn 40 [])) [.l 52, .i 0, .i 1000000]),
.g 54 (.un .not (.l 53))])
(.cond (.g 54)
(.seq
(.reg [
.g 6 (.mv (.i 2))])
.ret)
.skip))
(.reg [
.l 55 (.mv (.g 8)),
.l 56 (.mv (.g 11)),
.l 57 (.ia 1 (.l 55) (.l 56)),
.l 58 (.ld none (.l 57)),
.l 59 (.mv (.g 12)),
.l 60 (.bin .add (.l 58) (.l 59)),
.l 61 (.ia 1 (.l 55) (.l 56)),
.n (.st 1 (.l 61) (.l 60))]))))
(.reg [
.l 62 (.bin .add (.g 47) (.i 1)),
.g 47 (.mv (.l 62))])))))))))
(.reg [
.l 63 (.bin .add (.g 41) (.i 1)),
.g 41 (.mv (.l 63))])))))))
(.seq
(.reg [
.l 64 (.ld (some 6) (.g 3)),
.l 65 (.ld (some 3) (.g 4)),
.l 66 (.mk [.int .i64 0, .int .i64 0, .int .i64 0, .int .i64 0, .slice none 0 0, .slice none 0 0, .int .i64 0, .int .i64 0, .slice none 0 0] [(0, 6, .l 64), (6, 3, .l 65)]),
.g 13 (.new [.int .i64 0, .int .i64 0, .int .i64 0, .int .i64 0, .slice none 0 0, .slice none 0 0, .int .i64 0, .int .i64 0, .slice none 0 0]),
.n (.st 9 (.g 13) (.l 66))])
(.seq
(.seq
(.reg [
.g 67 (.mv (.g 8)),
.g 68 (.len (.g 67)),
.g 69 (.mv (.i 0))])
(.block 4
(.loop
(.seq
(.reg [
.g 70 (.bin .lss (.g 69) (.g 68))])
(.seq
(.cond (.g 70)
.skip
(.exit 4))
(.seq
(.block 5
(.seq
(.reg [
.l 71 (.mv (.g 69)),
.l 72 (.ia 1 (.g 67) (.g 69)),
.l 73 (.ld none (.l 72)),
.g 14 (.mv (.l 71)),
.g 15 (.mv (.l 73))])
(.seq
(.reg [
.l 74 (.mv (.g 15)),
.l 75 (.ld (some 9) (.g 13)),
.l 76 (.mv (.g 14)),
.l 77 (.call (.c (.fn 41 [])) [.l 75, .l 76]),
.g 78 (.bin .gtr (.l 74) (.l 77))])
(.cond (.g 78)
(.seq
(.reg [
.g 6 (.mv (.i 12))])
.ret)
.skip))))
(.reg [
.l 79 (.bin .add (.g 69) (.i 1)),
.g 69 (.mv (.l 79))])))))))
(.seq
(.seq
(.reg [
.g 80 (.mv (.g 2)),
.g 81 (.len (.g 80)),
.g 82 (.mv (.i 0))])
(.block 6
(.loop
(.seq
(.reg [
.g 83 (.bin .lss (.g 82) (.g 81))])
(.seq
(.cond (.g 83)
.skip
(.exit 6))
(.seq
(.block 7
(.seq
(.reg [
.l 84 (.mv (.g 82)),
.l 85 (.ia 1 (.g 80) (.g 82)),
.l 86 (.ld none (.l 85)),
.g 16 (.mv (.l 84)),
.g 17 (.mv (.l 86))])
(.seq
(.draw [
.l 87 (.mv (.g 17)) 0,
.l 89 (.fa (.g 3) 5) 2,
.l 90 (.ld none (.l 89)) 3,
.l 91 (.mv (.g 16)) 4,
.l 92 (.ia 4 (.l 90) (.l 91)) 5,
.l 93 (.fa (.l 92) 0) 6,
.l 94 (.ld none (.l 93)) 7,
.lf 88 (.call (.c (.fn 44 [])) [.l 87]) 1,
.g 95 (.bin .gtr (.l 88) (.l 94)) 8])
(.cond (.g 95)
(.seq
(.reg [
.g 6 (.mv (.i 14))])
.ret)
.skip))))
(.reg [
.l 96 (.bin .add (.g 82) (.i 1)),
.g 82 (.mv (.l 96))])))))))
(.seq
(.reg [
.g 6 (.mv (.i 0))])
.ret)))))))))
def K28 : List Nat := [0, 1, 2, 22, 34, 42, 48, 54, 70, 78, 83, 95, 6, 3, 4, 7, 8, 39, 40, 41, 10, 45, 46, 47, 11, 12, 13, 67, 68, 69, 14, 15, 80, 81, 82, 16, 17]
noncomputable def b28 : Code := match Try.f28.body with | some c => c | none => .skip
theorem t28 : trCode ⟨Try.prog, K28, [], 97, none⟩ b28 = some c28 := by kernel_rfl
theorem go28 : GoS Try.prog 28 3 K28 [] 97 c28 [.t (.g 6)] := .mk Try.func28 (c := b28) rfl (by kernel_rfl) t28 rfl (by kernel_rfl) rfl rfl

/-- sastrugi/freight.total -/
def c44 : ACode :=
  (.seq
(.reg [
.g 2 (.mv (.i 0))])
(.seq
(.reg [
.g 3 (.mv (.i 0))])
(.seq
(.seq
(.reg [
.g 6 (.mv (.g 0)),
.g 7 (.len (.g 6)),
.g 8 (.mv (.i 0))])
(.block 0
(.loop
(.seq
(.reg [
.g 9 (.bin .lss (.g 8) (.g 7))])
(.seq
(.cond (.g 9)
.skip
(.exit 0))
(.seq
(.block 1
(.seq
(.reg [
.l 10 (.ia 1 (.g 6) (.g 8)),
.l 11 (.ld none (.l 10)),
.g 5 (.mv (.l 11))])
(.reg [
.l 12 (.mv (.g 3)),
.l 13 (.mv (.g 5)),
.l 14 (.bin .add (.l 12) (.l 13)),
.g 3 (.mv (.l 14))])))
(.reg [
.l 15 (.bin .add (.g 8) (.i 1)),
.g 8 (.mv (.l 15))])))))))
(.seq
(.reg [
.l 16 (.mv (.g 3)),
.g 2 (.mv (.l 16))])
.ret))))
def K44 : List Nat := [0, 9, 2, 3, 6, 7, 8, 5]
noncomputable def b44 : Code := match Try.f44.body with | some c => c | none => .skip
theorem t44 : trCode ⟨Try.prog, K44, [], 17, none⟩ b44 = some c44 := by kernel_rfl
theorem go44 : GoS Try.prog 44 1 K44 [] 17 c44 [.t (.g 2)] := .mk Try.func44 (c := b44) rfl (by kernel_rfl) t44 rfl (by kernel_rfl) rfl rfl

/-- slices.ContainsFunc[[][]int,[]int] -/
def c42 : ACode :=
  (.seq
(.reg [
.g 4 (.mv (.b false))])
(.seq
(.reg [
.l 5 (.mv (.g 0)),
.l 6 (.mv (.g 1)),
.l 7 (.call (.c (.fn 57 [])) [.l 5, .l 6]),
.l 8 (.bin .geq (.l 7) (.i 0)),
.g 4 (.mv (.l 8))])
.ret))
def K42 : List Nat := [0, 1, 4]
noncomputable def b42 : Code := match Try.f42.body with | some c => c | none => .skip
theorem t42 : trCode ⟨Try.prog, K42, [], 9, none⟩ b42 = some c42 := by kernel_rfl
theorem go42 : GoS Try.prog 42 2 K42 [] 9 c42 [.t (.g 4)] := .mk Try.func42 (c := b42) rfl (by kernel_rfl) t42 rfl (by kernel_rfl) rfl rfl

/-- sastrugi/freight.checkWay$1 -/
def c43 : ACode :=
  (.seq
(.reg [
.g 3 (.mv (.b false))])
(.seq
(.reg [
.l 4 (.mv (.g 0)),
.l 5 (.len (.l 4)),
.l 6 (.fa (.g 1) 4),
.l 7 (.ld none (.l 6)),
.l 8 (.len (.l 7)),
.l 9 (.bin .neq (.l 5) (.l 8)),
.g 3 (.mv (.l 9))])
.ret))
def K43 : List Nat := [0, 1, 3]
noncomputable def b43 : Code := match Try.f43.body with | some c => c | none => .skip
theorem t43 : trCode ⟨Try.prog, K43, [], 10, none⟩ b43 = some c43 := by kernel_rfl
theorem go43 : GoS Try.prog 43 2 K43 [] 10 c43 [.t (.g 3)] := .mk Try.func43 (c := b43) rfl (by kernel_rfl) t43 rfl (by kernel_rfl) rfl rfl

/-- slices.IndexFunc[[][]int,[]int] -/
def c57 : ACode :=
  (.seq
(.reg [
.g 4 (.mv (.i 0))])
(.seq
(.seq
(.reg [
.l 6 (.mv (.g 0)),
.g 7 (.len (.l 6)),
.g 8 (.mv (.i 0))])
(.block 0
(.loop
(.seq
(.reg [
.g 9 (.bin .lss (.g 8) (.g 7))])
(.seq
(.cond (.g 9)
.skip
(.exit 0))
(.seq
(.block 1
(.seq
(.reg [
.l 10 (.mv (.g 8)),
.g 5 (.mv (.l 10))])
(.seq
(.reg [
.l 11 (.mv (.g 1)),
.l 12 (.mv (.g 0)),
.l 13 (.mv (.g 5)),
.l 14 (.ia 1 (.l 12) (.l 13)),
.l 15 (.ld none (.l 14)),
.g 16 (.call (.l 11) [.l 15])])
(.cond (.g 16)
(.seq
(.reg [
.l 17 (.mv (.g 5)),
.g 4 (.mv (.l 17))])
.ret)
.skip))))
(.reg [
.l 18 (.bin .add (.g 8) (.i 1)),
.g 8 (.mv (.l 18))])))))))
(.seq
(.reg [
.g 4 (.mv (.i (-1)))])
.ret)))
def K57 : List Nat := [0, 1, 9, 16, 4, 7, 8, 5]
noncomputable def b57 : Code := match Try.f57.body with | some c => c | none => .skip
theorem t57 : trCode ⟨Try.prog, K57, [], 19, none⟩ b57 = some c57 := by kernel_rfl
theorem go57 : GoS Try.prog 57 2 K57 [] 19 c57 [.t (.g 4)] := .mk Try.func57 (c := b57) rfl (by kernel_rfl) t57 rfl (by kernel_rfl) rfl rfl

end Go.Sas
namespace Go.Sas
open Go.Proofs
set_option maxRecDepth 100000
/-- sastrugi/freight.Share -/
def c32 : ACode :=
  (.seq
(.reg [
.g 4 (.mv (.c (.lit (.slice none 0 0)))),
.g 5 (.mv (.i 0))])
(.seq
(.block 0
(.seq
(.reg [
.l 7 (.mv (.g 0)),
.l 8 (.call (.c (.fn 40 [])) [.l 7, .i 0, .i 1000000000000]),
.l 9 (.un .not (.l 8)),
.g 6 (.mv (.l 9))])
(.cond (.g 6)
(.seq
(.reg [
.g 4 (.mv (.c (.lit (.slice none 0 0)))),
.g 5 (.mv (.i 2))])
.ret)
(.seq
(.reg [
.l 11 (.mv (.g 1)),
.l 12 (.len (.l 11)),
.l 13 (.bin .eql (.l 12) (.i 0)),
.g 10 (.mv (.l 13))])
(.cond (.g 10)
(.seq
(.reg [
.g 4 (.mv (.c (.lit (.slice none 0 0)))),
.g 5 (.mv (.i 6))])
.ret)
(.seq
(.reg [
.l 15 (.mv (.g 1)),
.l 16 (.len (.l 15)),
.l 17 (.bin .gtr (.l 16) (.i 40)),
.g 14 (.mv (.l 17))])
(.cond (.g 14)
(.seq
(.reg [
.g 4 (.mv (.c (.lit (.slice none 0 0)))),
.g 5 (.mv (.i 8))])
.ret)
(.seq
(.reg [
.l 19 (.mv (.g 1)),
.l 20 (.call (.c (.fn 48 [])) [.l 19, .c (.fn 49 [])]),
.g 18 (.mv (.l 20))])
(.cond (.g 18)
(.seq
(.reg [
.g 4 (.mv (.c (.lit (.slice none 0 0)))),
.g 5 (.mv (.i 2))])
.ret)
.skip)))))))))
(.seq
(.reg [
.l 21 (.mv (.g 0)),
.l 22 (.mv (.g 1)),
.l 23 (.call (.c (.fn 50 [])) [.l 21, .l 22]),
.g 4 (.mv (.l 23)),
.g 5 (.mv (.i 0))])
.ret)))
def K32 : List Nat := [0, 1, 6, 10, 14, 18, 4, 5]
noncomputable def b32 : Code := match Try.f32.body with | some c => c | none => .skip
theorem t32 : trCode ⟨Try.prog, K32, [], 24, none⟩ b32 = some c32 := by kernel_rfl
theorem go32 : GoS Try.prog 32 2 K32 [] 24 c32 [.t (.g 4), .t (.g 5)] := .mk Try.func32 (c := b32) rfl (by kernel_rfl) t32 rfl (by kernel_rfl) rfl rfl

/-- slices.ContainsFunc[[]int,int] -/
def c48 : ACode :=
  (.seq
(.reg [
.g 4 (.mv (.b false))])
(.seq
(.reg [
.l 5 (.mv (.g 0)),
.l 6 (.mv (.g 1)),
.l 7 (.call (.c (.fn 63 [])) [.l 5, .l 6]),
.l 8 (.bin .geq (.l 7) (.i 0)),
.g 4 (.mv (.l 8))])
.ret))
def K48 : List Nat := [0, 1, 4]
noncomputable def b48 : Code := match Try.f48.body with | some c => c | none => .skip
theorem t48 : trCode ⟨Try.prog, K48, [], 9, none⟩ b48 = some c48 := by kernel_rfl
theorem go48 : GoS Try.prog 48 2 K48 [] 9 c48 [.t (.g 4)] := .mk Try.func48 (c := b48) rfl (by kernel_rfl) t48 rfl (by kernel_rfl) rfl rfl

/-- sastrugi/freight.Share$1 -/
def c49 : ACode :=
  (.seq
(.reg [
.g 2 (.mv (.b false))])
(.seq
(.reg [
.l 3 (.mv (.g 0)),
.l 4 (.call (.c (.fn 40 [])) [.l 3, .i 0, .i 1000000]),
.l 5 (.un .not (.l 4)),
.g 2 (.mv (.l 5))])
.ret))
def K49 : List Nat := [0, 2]
noncomputable def b49 : Code := match Try.f49.body with | some c => c | none => .skip
theorem t49 : trCode ⟨Try.prog, K49, [], 6, none⟩ b49 = some c49 := by kernel_rfl
theorem go49 : GoS Try.prog 49 1 K49 [] 6 c49 [.t (.g 2)] := .mk Try.func49 (c := b49) rfl (by kernel_rfl) t49 rfl (by kernel_rfl) rfl rfl

/-- sastrugi/freight.share -/
def c50 : ACode :=
  (.seq
(.reg [
.g 4 (.mv (.c (.lit (.slice none 0 0))))])
(.seq
(.reg [
.l 13 (.mv (.g 1)),
.l 14 (.call (.c (.fn 44 [])) [.l 13]),
.g 5 (.mv (.l 14))])
(.seq
(.seq
(.reg [
.l 15 (.mv (.g 5)),
.g 16 (.bin .eql (.l 15) (.i 0))])
(.cond (.g 16)
(.seq
(.reg [
.l 17 (.mks false 1 [.i 1]),
.l 18 (.mv (.g 1)),
.l 19 (.len (.l 18)),
.l 20 (.call (.c (.fn 64 [])) [.l 17, .l 19]),
.g 1 (.mv (.l 20))])
(.reg [
.l 21 (.mv (.g 1)),
.l 22 (.len (.l 21)),
.g 5 (.mv (.l 22))]))
.skip))
(.seq
(.reg [
.g 6 (.mv (.c (.lit (.slice none 0 0)))),
.g 7 (.mv (.c (.lit (.slice none 0 0)))),
.g 8 (.new [.slice none 0 0])])
(.seq
(.seq
(.reg [
.g 23 (.mv (.g 1)),
.g 24 (.len (.g 23)),
.g 25 (.mv (.i 0))])
(.block 0
(.loop
(.seq
(.reg [
.g 26 (.bin .lss (.g 25) (.g 24))])
(.seq
(.cond (.g 26)
.skip
(.exit 0))
(.seq
(.block 1
(.seq
(.reg [
.l 27 (.mv (.g 25)),
.l 28 (.ia 1 (.g 23) (.g 25)),
.l 29 (.ld none (.l 28)),
.g 9 (.mv (.l 27)),
.g 10 (.mv (.l 29))])
(.draw [
.l 30 (.mv (.g 6)) 0,
.l 31 (.mv (.g 0)) 1,
.l 32 (.mv (.g 10)) 2,
.l 33 (.bin .mul (.l 31) (.l 32)) 3,
.l 34 (.mv (.g 5)) 4,
.l 35 (.bin .quo (.l 33) (.l 34)) 5,
.l 36 (.mks false 1 [.l 35]) 6,
.l 38 (.mv (.g 7)) 8,
.l 39 (.mv (.g 9)) 9,
.l 40 (.mks false 1 [.l 39]) 10,
.l 42 (.ld none (.g 8)) 12,
.l 43 (.mv (.g 0)) 13,
.l 44 (.mv (.g 10)) 14,
.l 45 (.bin .mul (.l 43) (.l 44)) 15,
.l 46 (.mv (.g 5)) 16,
.l 47 (.bin .rem (.l 45) (.l 46)) 17,
.l 48 (.mks false 1 [.l 47]) 18,
.lf 37 (.app 1 8 (.l 30) (.l 36)) 7,
.lf 41 (.app 1 8 (.l 38) (.l 40)) 11,
.lf 49 (.app 1 8 (.l 42) (.l 48)) 19,
.g 6 (.mv (.l 37)) 20,
.g 7 (.mv (.l 41)) 21,
.n (.st 1 (.g 8) (.l 49)) 22])))
(.reg [
.l 50 (.bin .add (.g 25) (.i 1)),
.g 25 (.mv (.l 50))])))))))
(.seq
(.reg [
.l 51 (.mv (.g 7)),
.l 52 (.mkf 66 [.g 8]),
.l 53 (.call (.c (.fn 65 [])) [.l 51, .l 52])])
(.seq
(.seq
(.reg [
.l 54 (.mv (.g 7)),
.l 55 (.mv (.g 0)),
.l 56 (.mv (.g 6)),
.l 57 (.call (.c (.fn 44 [])) [.l 56]),
.l 58 (.bin .sub (.l 55) (.l 57)),
.g 59 (.sl 1 (.l 54) none (some (.l 58)) none),
.g 60 (.len (.g 59)),
.g 61 (.mv (.i 0))])
(.block 2
(.loop
(.seq
(.reg [
.g 62 (.bin .lss (.g 61) (.g 60))])
(.seq
(.cond (.g 62)
.skip
(.exit 2))
(.seq
(.block 3
(.seq
(.reg [
.l 63 (.ia 1 (.g 59) (.g 61)),
.l 64 (.ld none (.l 63)),
.g 12 (.mv (.l 64))])
(.reg [
.l 65 (.mv (.g 6)),
.l 66 (.mv (.g 12)),
.l 67 (.ia 1 (.l 65) (.l 66)),
.l 68 (.ld none (.l 67)),
.l 69 (.bin .add (.l 68) (.i 1)),
.l 70 (.ia 1 (.l 65) (.l 66)),
.n (.st 1 (.l 70) (.l 69))])))
(.reg [
.l 71 (.bin .add (.g 61) (.i 1)),
.g 61 (.mv (.l 71))])))))))
(.seq
(.reg [
.l 72 (.mv (.g 6)),
.g 4 (.mv (.l 72))])
.ret))))))))
def K50 : List Nat := [0, 1, 16, 26, 62, 4, 5, 6, 7, 8, 23, 24, 25, 9, 10, 59, 60, 61, 12]
noncomputable def b50 : Code := match Try.f50.body with | some c => c | none => .skip
theorem t50 : trCode ⟨Try.prog, K50, [], 73, none⟩ b50 = some c50 := by kernel_rfl
theorem go50 : GoS Try.prog 50 2 K50 [] 73 c50 [.t (.g 4)] := .mk Try.func50 (c := b50) rfl (by kernel_rfl) t50 rfl (by kernel_rfl) rfl rfl

/-- slices.IndexFunc[[]int,int] -/
def c63 : ACode :=
  (.seq
(.reg [
.g 4 (.mv (.i 0))])
(.seq
(.seq
(.reg [
.l 6 (.mv (.g 0)),
.g 7 (.len (.l 6)),
.g 8 (.mv (.i 0))])
(.block 0
(.loop
(.seq
(.reg [
.g 9 (.bin .lss (.g 8) (.g 7))])
(.seq
(.cond (.g 9)
.skip
(.exit 0))
(.seq
(.block 1
(.seq
(.reg [
.l 10 (.mv (.g 8)),
.g 5 (.mv (.l 10))])
(.seq
(.reg [
.l 11 (.mv (.g 1)),
.l 12 (.mv (.g 0)),
.l 13 (.mv (.g 5)),
.l 14 (.ia 1 (.l 12) (.l 13)),
.l 15 (.ld none (.l 14)),
.g 16 (.call (.l 11) [.l 15])])
(.cond (.g 16)
(.seq
(.reg [
.l 17 (.mv (.g 5)),
.g 4 (.mv (.l 17))])
.ret)
.skip))))
(.reg [
.l 18 (.bin .add (.g 8) (.i 1)),
.g 8 (.mv (.l 18))])))))))
(.seq
(.reg [
.g 4 (.mv (.i (-1)))])
.ret)))
def K63 : List Nat := [0, 1, 9, 16, 4, 7, 8, 5]
noncomputable def b63 : Code := match Try.f63.body with | some c => c | none => .skip
theorem t63 : trCode ⟨Try.prog, K63, [], 19, none⟩ b63 = some c63 := by kernel_rfl
theorem go63 : GoS Try.prog 63 2 K63 [] 19 c63 [.t (.g 4)] := .mk Try.func63 (c := b63) rfl (by kernel_rfl) t63 rfl (by kernel_rfl) rfl rfl

/-- slices.SortStableFunc[[]int,int] -/
def c65 : ACode :=
  (.reg [
.l 4 (.mv (.g 0)),
.l 5 (.mv (.g 0)),
.l 6 (.len (.l 5)),
.l 7 (.mv (.g 1)),
.l 8 (.call (.c (.fn 76 [])) [.l 4, .l 6, .l 7])])
def K65 : List Nat := [0, 1]
noncomputable def b65 : Code := match Try.f65.body with | some c => c | none => .skip
theorem t65 : trCode ⟨Try.prog, K65, [], 9, none⟩ b65 = some c65 := by kernel_rfl
theorem go65 : GoS Try.prog 65 2 K65 [] 9 c65 [] := .mk Try.func65 (c := b65) rfl (by kernel_rfl) t65 rfl (by kernel_rfl) rfl rfl

/-- sastrugi/freight.share$1 -/
def c66 : ACode :=
  (.seq
(.reg [
.g 5 (.mv (.i 0))])
(.seq
(.draw [
.l 6 (.ld none (.g 2)) 0,
.l 7 (.mv (.g 1)) 1,
.l 8 (.ia 1 (.l 6) (.l 7)) 2,
.l 9 (.ld none (.l 8)) 3,
.l 10 (.ld none (.g 2)) 4,
.l 11 (.mv (.g 0)) 5,
.l 12 (.ia 1 (.l 10) (.l 11)) 6,
.l 13 (.ld none (.l 12)) 7,
.lf 14 (.call (.c (.fn 67 [])) [.l 9, .l 13]) 8,
.g 5 (.mv (.l 14)) 9])
.ret))
def K66 : List Nat := [0, 1, 2, 5]
noncomputable def b66 : Code := match Try.f66.body with | some c => c | none => .skip
theorem t66 : trCode ⟨Try.prog, K66, [], 15, none⟩ b66 = some c66 := by kernel_rfl
theorem go66 : GoS Try.prog 66 3 K66 [] 15 c66 [.t (.g 5)] := .mk Try.func66 (c := b66) rfl (by kernel_rfl) t66 rfl (by kernel_rfl) rfl rfl

/-- slices.stableCmpFunc[int] -/
def c76 : ACode :=
  (.seq
(.reg [
.g 6 (.mv (.i 20))])
(.seq
(.reg [
.l 10 (.mv (.g 6)),
.g 7 (.mv (.i 0)),
.g 8 (.mv (.l 10))])
(.seq
(.block 0
(.loop
(.seq
(.seq
(.reg [
.l 11 (.mv (.g 8)),
.l 12 (.mv (.g 1)),
.g 13 (.bin .leq (.l 11) (.l 12))])
(.cond (.g 13)
.skip
(.exit 0)))
(.block 1
(.seq
(.reg [
.l 14 (.mv (.g 0)),
.l 15 (.mv (.g 7)),
.l 16 (.mv (.g 8)),
.l 17 (.mv (.g 2)),
.l 18 (.call (.c (.fn 86 [])) [.l 14, .l 15, .l 16, .l 17])])
(.seq
(.reg [
.l 19 (.mv (.g 8)),
.g 7 (.mv (.l 19))])
(.reg [
.l 20 (.mv (.g 8)),
.l 21 (.mv (.g 6)),
.l 22 (.bin .add (.l 20) (.l 21)),
.g 8 (.mv (.l 22))])))))))
(.seq
(.reg [
.l 23 (.mv (.g 0)),
.l 24 (.mv (.g 7)),
.l 25 (.mv (.g 1)),
.l 26 (.mv (.g 2)),
.l 27 (.call (.c (.fn 86 [])) [.l 23, .l 24, .l 25, .l 26])])
(.block 2
(.loop
(.seq
(.seq
(.reg [
.l 28 (.mv (.g 6)),
.l 29 (.mv (.g 1)),
.g 30 (.bin .lss (.l 28) (.l 29))])
(.cond (.g 30)
.skip
(.exit 2)))
(.block 3
(.seq
(.reg [
.l 31 (.mv (.g 6)),
.l 32 (.bin .mul (.i 2) (.l 31)),
.g 7 (.mv (.i 0)),
.g 8 (.mv (.l 32))])
(.seq
(.block 4
(.loop
(.seq
(.seq
(.reg [
.l 33 (.mv (.g 8)),
.l 34 (.mv (.g 1)),
.g 35 (.bin .leq (.l 33) (.l 34))])
(.cond (.g 35)
.skip
(.exit 4)))
(.block 5
(.seq
(.reg [
.l 36 (.mv (.g 0)),
.l 37 (.mv (.g 7)),
.l 38 (.mv (.g 7)),
.l 39 (.mv (.g 6)),
.l 40 (.bin .add (.l 38) (.l 39)),
.l 41 (.mv (.g 8)),
.l 42 (.mv (.g 2)),
.l 43 (.call (.c (.fn 87 [])) [.l 36, .l 37, .l 40, .l 41, .l 42])])
(.seq
(.reg [
.l 44 (.mv (.g 8)),
.g 7 (.mv (.l 44))])
(.reg [
.l 45 (.mv (.g 8)),
.l 46 (.mv (.g 6)),
.l 47 (.bin .mul (.i 2) (.l 46)),
.l 48 (.bin .add (.l 45) (.l 47)),
.g 8 (.mv (.l 48))])))))))
(.seq
(.seq
(.reg [
.l 49 (.mv (.g 7)),
.l 50 (.mv (.g 6)),
.l 51 (.bin .add (.l 49) (.l 50)),
.g 9 (.mv (.l 51))])
(.seq
(.reg [
.l 52 (.mv (.g 9)),
.l 53 (.mv (.g 1)),
.g 54 (.bin .lss (.l 52) (.l 53))])
(.cond (.g 54)
(.reg [
.l 55 (.mv (.g 0)),
.l 56 (.mv (.g 7)),
.l 57 (.mv (.g 9)),
.l 58 (.mv (.g 1)),
.l 59 (.mv (.g 2)),
.l 60 (.call (.c (.fn 87 [])) [.l 55, .l 56, .l 57, .l 58, .l 59])])
.skip)))
(.reg [
.l 61 (.mv (.g 6)),
.l 62 (.bin .mul (.l 61) (.i 2)),
.g 6 (.mv (.l 62))]))))))))))))
def K76 : List Nat := [0, 1, 2, 13, 30, 35, 54, 6, 7, 8, 9]
noncomputable def b76 : Code := match Try.f76.body with | some c => c | none => .skip
theorem t76 : trCode ⟨Try.prog, K76, [], 63, none⟩ b76 = some c76 := by kernel_rfl
theorem go76 : GoS Try.prog 76 3 K76 [] 63 c76 [] := .mk Try.func76 (c := b76) rfl (by kernel_rfl) t76 rfl (by kernel_rfl) rfl rfl

/-- slices.insertionSortCmpFunc[int] -/
def c86 : ACode :=
  (.seq
(.reg [
.l 10 (.mv (.g 1)),
.l 11 (.bin .add (.l 10) (.i 1)),
.g 8 (.mv (.l 11))])
(.block 0
(.loop
(.seq
(.seq
(.reg [
.l 12 (.mv (.g 8)),
.l 13 (.mv (.g 2)),
.g 14 (.bin .lss (.l 12) (.l 13))])
(.cond (.g 14)
.skip
(.exit 0)))
(.seq
(.block 1
(.seq
(.reg [
.l 17 (.mv (.g 8)),
.g 9 (.mv (.l 17))])
(.block 2
(.loop
(.seq
(.seq
(.draw [
.l 18 (.mv (.g 9)) 0,
.l 19 (.mv (.g 1)) 1,
.l 20 (.bin .gtr (.l 18) (.l 19)) 2,
.l 21 (.mv (.l 20)) 3,
.lw 22 (.mv (.g 3)) (.l 21) true 4,
.lw 23 (.mv (.g 0)) (.l 21) true 5,
.lw 24 (.mv (.g 9)) (.l 21) true 6,
.lw 25 (.ia 1 (.l 23) (.l 24)) (.l 21) true 7,
.lw 26 (.ld none (.l 25)) (.l 21) true 8,
.lw 27 (.mv (.g 0)) (.l 21) true 9,
.lw 28 (.mv (.g 9)) (.l 21) true 10,
.lw 29 (.bin .sub (.l 28) (.i 1)) (.l 21) true 11,
.lw 30 (.ia 1 (.l 27) (.l 29)) (.l 21) true 12,
.lw 31 (.ld none (.l 30)) (.l 21) true 13,
.lwf 32 (.call (.l 22) [.l 26, .l 31]) (.l 21) true 14,
.lw 33 (.bin .lss (.l 32) (.i 0)) (.l 21) true 15,
.g 34 (.pick (.l 21) (.l 33) (.b false)) 16])
(.cond (.g 34)
.skip
(.exit 2)))
(.seq
(.block 3
(.draw [
.l 37 (.mv (.g 0)) 0,
.l 38 (.mv (.g 9)) 1,
.lf 39 (.mv (.g 0)) 2,
.lf 40 (.mv (.g 9)) 3,
.lf 41 (.bin .sub (.l 40) (.i 1)) 4,
.l 42 (.mv (.g 0)) 5,
.l 43 (.mv (.g 9)) 6,
.l 44 (.bin .sub (.l 43) (.i 1)) 7,
.l 45 (.ia 1 (.l 42) (.l 44)) 8,
.l 46 (.ld none (.l 45)) 9,
.lf 47 (.mv (.g 0)) 10,
.lf 48 (.mv (.g 9)) 11,
.l 49 (.ia 1 (.l 47) (.l 48)) 12,
.l 50 (.ld none (.l 49)) 13,
.l 51 (.ia 1 (.l 37) (.l 38)) 14,
.nf (.st 1 (.l 51) (.l 46)) 15,
.lf 52 (.ia 1 (.l 39) (.l 41)) 16,
.n (.st 1 (.l 52) (.l 50)) 17]))
(.reg [
.l 35 (.mv (.g 9)),
.l 36 (.bin .sub (.l 35) (.i 1)),
.g 9 (.mv (.l 36))])))))))
(.reg [
.l 15 (.mv (.g 8)),
.l 16 (.bin .add (.l 15) (.i 1)),
.g 8 (.mv (.l 16))]))))))
def K86 : List Nat := [0, 1, 2, 3, 14, 34, 8, 9]
noncomputable def b86 : Code := match Try.f86.body with | some c => c | none => .skip
theorem t86 : trCode ⟨Try.prog, K86, [], 53, none⟩ b86 = some c86 := by kernel_rfl
theorem go86 : GoS Try.prog 86 4 K86 [] 53 c86 [] := .mk Try.func86 (c := b86) rfl (by kernel_rfl) t86 rfl (by kernel_rfl) rfl rfl

end Go.Sas
