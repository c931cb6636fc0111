/-
The code of some functions with its types resolved, printed by a program; that it is the code is checked by the kernel.
Conditions: none.
-/
import Derived.Test.YtajegdbljldakaaP4
import Derived.Test.YtajegdbljldakaaProg
set_option linter.unusedVariables false
set_option linter.unusedSimpArgs false
namespace Go.Sas
open Go.Proofs
set_option maxRecDepth 100000
/-- sastrugi/sastrugilaw02.ProbeNarrows -/
def c3 : ACode :=
  (.seq
(.reg [
.g 2 (.mv (.b false))])
(.seq
(.reg [
.l 22 (.mv (.g 0)),
.l 23 (.call (.c (.fn 17 [])) [.l 22]),
.g 3 (.mv (.l 23))])
(.seq
(.reg [
.l 25 (.mv (.g 3)),
.l 26 (.call (.c (.fn 18 [])) [.l 25, .i 8, .i 4]),
.l 24 (.mv (.l 26)),
.l 27 (.ex (.l 24) 0),
.l 28 (.ex (.l 24) 1),
.l 29 (.ex (.l 24) 2),
.g 4 (.new [.slice none 0 0, .int .i64 0, .int .i64 0, .int .i64 0]),
.n (.st 4 (.g 4) (.l 27)),
.g 5 (.mv (.l 28)),
.g 6 (.mv (.l 29))])
(.seq
(.reg [
.l 30 (.mv (.g 3)),
.l 31 (.ld (some 4) (.g 4)),
.l 32 (.call (.c (.fn 19 [])) [.l 30, .l 31, .i 2, .i 9]),
.g 7 (.mv (.l 32))])
(.seq
(.reg [
.l 33 (.mks false 5 []),
.l 34 (.mv (.g 6)),
.l 35 (.app 5 40 (.l 33) (.l 34)),
.l 36 (.mv (.g 3)),
.l 37 (.mv (.g 5)),
.l 38 (.call (.c (.fn 20 [])) [.l 36, .i 3, .l 37, .i 3]),
.l 39 (.app 5 40 (.l 35) (.l 38)),
.g 8 (.mv (.l 39))])
(.seq
(.seq
(.reg [
.g 9 (.mv (.i 0))])
(.block 0
(.loop
(.seq
(.seq
(.reg [
.l 40 (.mv (.g 9)),
.l 41 (.mv (.g 6)),
.l 42 (.len (.l 41)),
.g 43 (.bin .lss (.l 40) (.l 42))])
(.cond (.g 43)
.skip
(.exit 0)))
(.seq
(.block 1
(.seq
(.draw [
.l 46 (.mv (.g 5)) 0,
.l 47 (.mv (.g 8)) 1,
.l 48 (.mv (.g 9)) 2,
.l 49 (.ia 5 (.l 47) (.l 48)) 3,
.l 50 (.fa (.l 49) 2) 4,
.l 51 (.ld none (.l 50)) 5,
.l 52 (.bin .sub (.l 51) (.i 3)) 6,
.l 53 (.ia 1 (.l 46) (.l 52)) 7,
.l 54 (.ld none (.l 53)) 8,
.l 55 (.mv (.g 8)) 9,
.l 56 (.mv (.g 9)) 10,
.l 57 (.ia 5 (.l 55) (.l 56)) 11,
.l 58 (.fa (.l 57) 1) 12,
.l 59 (.ld none (.l 58)) 13,
.l 60 (.ia 1 (.l 54) (.l 59)) 14,
.l 61 (.ld none (.l 60)) 15,
.g 10 (.mv (.l 61)) 16])
(.draw [
.l 62 (.mv (.g 8)) 0,
.l 63 (.mv (.g 9)) 1,
.l 64 (.mv (.g 3)) 2,
.l 65 (.mv (.g 8)) 3,
.l 66 (.mv (.g 9)) 4,
.l 67 (.ia 5 (.l 65) (.l 66)) 5,
.l 68 (.fa (.l 67) 3) 6,
.l 69 (.fa (.l 68) 0) 7,
.l 70 (.ld none (.l 69)) 8,
.l 71 (.mv (.g 10)) 9,
.l 73 (.mv (.g 3)) 11,
.l 74 (.mv (.g 10)) 12,
.l 75 (.mv (.g 8)) 13,
.l 76 (.mv (.g 9)) 14,
.l 77 (.ia 5 (.l 75) (.l 76)) 15,
.l 78 (.fa (.l 77) 3) 16,
.l 79 (.fa (.l 78) 1) 17,
.l 80 (.ld none (.l 79)) 18,
.lf 72 (.call (.c (.fn 22 [])) [.l 64, .l 70, .l 71]) 10,
.lf 81 (.call (.c (.fn 22 [])) [.l 73, .l 74, .l 80]) 19,
.lf 82 (.call (.c (.fn 21 [])) [.l 72, .l 81]) 20,
.l 83 (.ia 5 (.l 62) (.l 63)) 21,
.l 84 (.fa (.l 83) 3) 22,
.n (.st 2 (.l 84) (.l 82)) 23])))
(.reg [
.l 44 (.mv (.g 9)),
.l 45 (.bin .add (.l 44) (.i 1)),
.g 9 (.mv (.l 45))]))))))
(.seq
(.reg [
.l 85 (.mv (.g 3)),
.l 86 (.call (.c (.fn 23 [])) [.l 85, .i 9]),
.l 87 (.bin .add (.i 3) (.l 86)),
.g 11 (.mv (.l 87))])
(.seq
(.draw [
.l 88 (.mv (.g 5)) 0,
.l 89 (.ia 1 (.l 88) (.i 0)) 1,
.l 90 (.ld none (.l 89)) 2,
.l 91 (.ia 1 (.l 90) (.i 0)) 3,
.l 92 (.ld none (.l 91)) 4,
.l 93 (.mv (.g 3)) 5,
.lf 94 (.call (.c (.fn 23 [])) [.l 93, .i 100]) 6,
.l 95 (.bin .sub (.l 92) (.l 94)) 7,
.l 96 (.mn [.i 3000, .l 95]) 8,
.l 97 (.mx [.i 0, .l 96]) 9,
.g 12 (.mv (.l 97)) 10])
(.seq
(.reg [
.l 99 (.ld (some 4) (.g 4)),
.l 100 (.mv (.g 6)),
.l 101 (.mv (.g 7)),
.l 102 (.mv (.g 12)),
.l 103 (.mv (.g 11)),
.l 104 (.call (.c (.fn 24 [])) [.l 99, .l 100, .l 101, .l 102, .l 103]),
.l 98 (.mv (.l 104)),
.l 105 (.ex (.l 98) 0),
.l 106 (.ex (.l 98) 1),
.g 13 (.mv (.l 105)),
.g 14 (.mv (.l 106))])
(.seq
(.reg [
.l 108 (.ld (some 4) (.g 4)),
.l 109 (.mv (.g 8)),
.l 110 (.mv (.g 7)),
.l 111 (.mv (.g 12)),
.l 112 (.mv (.g 11)),
.l 113 (.call (.c (.fn 24 [])) [.l 108, .l 109, .l 110, .l 111, .l 112]),
.l 107 (.mv (.l 113)),
.l 114 (.ex (.l 107) 0),
.l 115 (.ex (.l 107) 1),
.g 15 (.mv (.l 114)),
.g 16 (.mv (.l 115))])
(.seq
(.seq
(.reg [
.l 116 (.mv (.g 14)),
.l 117 (.bin .neq (.l 116) (.i 0)),
.l 118 (.mv (.l 117)),
.lw 119 (.mv (.g 16)) (.l 118) false,
.lw 120 (.bin .neq (.l 119) (.i 0)) (.l 118) false,
.g 121 (.pick (.l 118) (.b true) (.l 120))])
(.cond (.g 121)
(.seq
(.reg [
.g 2 (.mv (.b false))])
.ret)
.skip))
(.seq
(.seq
(.reg [
.g 17 (.mv (.i 0))])
(.block 2
(.loop
(.seq
(.seq
(.reg [
.l 122 (.mv (.g 17)),
.l 123 (.mv (.g 5)),
.l 124 (.ia 1 (.l 123) (.i 0)),
.l 125 (.ld none (.l 124)),
.l 126 (.len (.l 125)),
.g 127 (.bin .lss (.l 122) (.l 126))])
(.cond (.g 127)
.skip
(.exit 2)))
(.seq
(.block 3
(.seq
(.reg [
.l 131 (.ld (some 4) (.g 4)),
.l 132 (.mv (.g 6)),
.l 133 (.mv (.g 17)),
.l 134 (.mv (.g 11)),
.l 135 (.call (.c (.fn 25 [])) [.l 131, .l 132, .l 133, .l 134]),
.l 130 (.mv (.l 135)),
.l 136 (.ex (.l 130) 0),
.l 137 (.ex (.l 130) 1),
.g 18 (.new [.int .i64 0, .int .i64 0]),
.n (.st 2 (.g 18) (.l 136)),
.g 19 (.mv (.l 137))])
(.seq
(.reg [
.l 139 (.ld (some 4) (.g 4)),
.l 140 (.mv (.g 8)),
.l 141 (.mv (.g 17)),
.l 142 (.mv (.g 11)),
.l 143 (.call (.c (.fn 25 [])) [.l 139, .l 140, .l 141, .l 142]),
.l 138 (.mv (.l 143)),
.l 144 (.ex (.l 138) 0),
.l 145 (.ex (.l 138) 1),
.g 20 (.new [.int .i64 0, .int .i64 0]),
.n (.st 2 (.g 20) (.l 144)),
.g 21 (.mv (.l 145))])
(.seq
(.reg [
.l 146 (.mv (.g 19)),
.l 147 (.bin .neq (.l 146) (.i 0)),
.l 148 (.mv (.l 147)),
.lw 149 (.mv (.g 21)) (.l 148) false,
.lw 150 (.bin .neq (.l 149) (.i 0)) (.l 148) false,
.l 151 (.pick (.l 148) (.b true) (.l 150)),
.l 152 (.mv (.l 151)),
.lw 153 (.ld (some 2) (.g 20)) (.l 152) false,
.lw 154 (.ld (some 2) (.g 18)) (.l 152) false,
.lw 155 (.call (.c (.fn 26 [])) [.l 153, .l 154]) (.l 152) false,
.lw 156 (.un .not (.l 155)) (.l 152) false,
.l 157 (.pick (.l 152) (.b true) (.l 156)),
.l 158 (.mv (.l 157)),
.lw 159 (.mv (.g 13)) (.l 158) false,
.lw 160 (.mv (.g 17)) (.l 158) false,
.lw 161 (.call (.c (.fn 27 [])) [.l 159, .l 160]) (.l 158) false,
.lw 162 (.bin .eql (.l 161) (.i 0)) (.l 158) false,
.lw 163 (.mv (.l 162)) (.l 158) false,
.lw 164 (.mv (.g 15)) (.l 163) true,
.lw 165 (.mv (.g 17)) (.l 163) true,
.lw 166 (.call (.c (.fn 27 [])) [.l 164, .l 165]) (.l 163) true,
.lw 167 (.bin .neq (.l 166) (.i 0)) (.l 163) true,
.lw 168 (.pick (.l 163) (.l 167) (.b false)) (.l 158) false,
.g 169 (.pick (.l 158) (.b true) (.l 168))])
(.cond (.g 169)
(.seq
(.reg [
.g 2 (.mv (.b false))])
.ret)
.skip)))))
(.reg [
.l 128 (.mv (.g 17)),
.l 129 (.bin .add (.l 128) (.i 1)),
.g 17 (.mv (.l 129))]))))))
(.seq
(.reg [
.l 170 (.call (.c (.fn 28 [])) []),
.g 2 (.mv (.l 170))])
.ret)))))))))))))
def K3 : List Nat := [0, 43, 121, 127, 169, 2, 3, 4, 5, 6, 7, 8, 9, 10, 11, 12, 13, 14, 15, 16, 17, 18, 19, 20, 21]
noncomputable def b3 : Code := match Try.f3.body with | some c => c | none => .skip
theorem t3 : trCode ⟨Try.prog, K3, [], 171, none⟩ b3 = some c3 := by kernel_rfl
theorem go3 : GoS Try.prog 3 1 K3 [] 171 c3 [.t (.g 2)] := .mk Try.func3 (c := b3) rfl (by kernel_rfl) t3 rfl (by kernel_rfl) rfl rfl
end Go.Sas
