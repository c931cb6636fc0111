/-
The code of some functions with its types resolved, printed by a program; that it is the code is checked by the kernel.
Conditions: none.
-/
import Derived.Test.YtajegdbljldakaaP4
import Derived.Test.YtajegdbljldakaaProg
set_option linter.unusedVariables false
set_option linter.unusedSimpArgs false
namespace Go.Sas
open Go.Proofs
set_option maxRecDepth 100000
/-- sastrugi/sastrugilaw02.ProbeFewest -/
def c13 : ACode :=
  (.seq
(.reg [
.g 2 (.mv (.b false))])
(.seq
(.reg [
.l 20 (.mv (.g 0)),
.l 21 (.call (.c (.fn 17 [])) [.l 20]),
.g 3 (.mv (.l 21))])
(.seq
(.reg [
.l 23 (.mv (.g 3)),
.l 24 (.call (.c (.fn 18 [])) [.l 23, .i 20, .i 4]),
.l 22 (.mv (.l 24)),
.l 25 (.ex (.l 22) 0),
.l 26 (.ex (.l 22) 1),
.l 27 (.ex (.l 22) 2),
.g 4 (.new [.slice none 0 0, .int .i64 0, .int .i64 0, .int .i64 0]),
.n (.st 4 (.g 4) (.l 25)),
.l 5 (.mv (.l 26)),
.g 6 (.mv (.l 27))])
(.seq
(.reg [
.l 28 (.mv (.g 3)),
.l 29 (.call (.c (.fn 23 [])) [.l 28, .i 20]),
.l 30 (.mv (.g 3)),
.l 31 (.call (.c (.fn 22 [])) [.l 30, .i 1, .i 3]),
.g 7 (.mv (.l 29)),
.g 8 (.mv (.l 31))])
(.seq
(.reg [
.l 33 (.ld (some 4) (.g 4)),
.l 34 (.mv (.g 6)),
.l 35 (.mv (.g 7)),
.l 36 (.call (.c (.fn 57 [])) [.l 33, .l 34, .l 35]),
.l 32 (.mv (.l 36)),
.l 37 (.ex (.l 32) 0),
.l 38 (.ex (.l 32) 1),
.g 9 (.mv (.l 37)),
.g 10 (.mv (.l 38))])
(.seq
(.reg [
.l 40 (.ld (some 4) (.g 4)),
.l 41 (.mv (.g 6)),
.l 42 (.mv (.g 7)),
.l 43 (.mv (.g 8)),
.l 44 (.call (.c (.fn 59 [])) [.l 40, .l 41, .l 42, .l 43]),
.l 39 (.mv (.l 44)),
.l 45 (.ex (.l 39) 0),
.l 46 (.ex (.l 39) 1),
.l 47 (.ex (.l 39) 2),
.g 11 (.mv (.l 45)),
.g 12 (.mv (.l 46)),
.g 13 (.mv (.l 47))])
(.seq
(.seq
(.reg [
.l 48 (.mv (.g 10)),
.l 49 (.bin .neq (.l 48) (.i 0)),
.l 50 (.mv (.l 49)),
.lw 51 (.mv (.g 13)) (.l 50) false,
.lw 52 (.bin .neq (.l 51) (.i 0)) (.l 50) false,
.l 53 (.pick (.l 50) (.b true) (.l 52)),
.l 54 (.mv (.l 53)),
.lw 55 (.mv (.g 11)) (.l 54) false,
.lw 56 (.len (.l 55)) (.l 54) false,
.lw 57 (.mv (.g 12)) (.l 54) false,
.lw 58 (.len (.l 57)) (.l 54) false,
.lw 59 (.bin .neq (.l 56) (.l 58)) (.l 54) false,
.g 60 (.pick (.l 54) (.b true) (.l 59))])
(.cond (.g 60)
(.seq
(.reg [
.g 2 (.mv (.b false))])
.ret)
.skip))
(.seq
(.reg [
.l 61 (.mks false 5 []),
.l 62 (.mv (.g 6)),
.l 63 (.app 5 40 (.l 61) (.l 62)),
.g 14 (.mv (.l 63))])
(.seq
(.seq
(.reg [
.g 15 (.mv (.i 0))])
(.block 0
(.loop
(.seq
(.seq
(.reg [
.l 64 (.mv (.g 15)),
.l 65 (.mv (.g 11)),
.l 66 (.len (.l 65)),
.g 67 (.bin .lss (.l 64) (.l 66))])
(.cond (.g 67)
.skip
(.exit 0)))
(.seq
(.block 1
(.seq
(.draw [
.l 70 (.mv (.g 14)) 0,
.l 71 (.mv (.g 8)) 1,
.l 72 (.mv (.g 11)) 2,
.l 73 (.mv (.g 15)) 3,
.l 74 (.ia 1 (.l 72) (.l 73)) 4,
.l 75 (.ld none (.l 74)) 5,
.l 76 (.mv (.g 7)) 6,
.lf 77 (.call (.c (.fn 21 [])) [.i 0, .i 3000]) 7,
.l 78 (.mk [.int .i64 0, .int .i64 0, .int .i64 0, .int .i64 0, .int .i64 0] [(0, 1, .l 71), (1, 1, .l 75), (2, 1, .l 76), (3, 2, .l 77)]) 8,
.l 79 (.mks false 5 [.l 78]) 9,
.lf 80 (.app 5 40 (.l 70) (.l 79)) 10,
.g 14 (.mv (.l 80)) 11])
(.seq
(.reg [
.g 16 (.mv (.b false))])
(.seq
(.seq
(.reg [
.g 17 (.mv (.i 0))])
(.block 2
(.loop
(.seq
(.seq
(.reg [
.l 81 (.mv (.g 17)),
.l 82 (.mv (.g 9)),
.l 83 (.len (.l 82)),
.g 84 (.bin .lss (.l 81) (.l 83))])
(.cond (.g 84)
.skip
(.exit 2)))
(.seq
(.block 3
(.draw [
.l 87 (.mv (.g 16)) 0,
.l 88 (.mv (.l 87)) 1,
.lw 89 (.mv (.g 9)) (.l 88) false 2,
.lw 90 (.mv (.g 17)) (.l 88) false 3,
.lw 91 (.ia 2 (.l 89) (.l 90)) (.l 88) false 4,
.lw 92 (.ld (some 2) (.l 91)) (.l 88) false 5,
.lw 93 (.mv (.g 12)) (.l 88) false 6,
.lw 94 (.mv (.g 15)) (.l 88) false 7,
.lw 95 (.ia 1 (.l 93) (.l 94)) (.l 88) false 8,
.lw 96 (.ld none (.l 95)) (.l 88) false 9,
.lwf 97 (.call (.c (.fn 50 [])) [.l 92, .l 96]) (.l 88) false 10,
.l 98 (.pick (.l 88) (.b true) (.l 97)) 11,
.g 16 (.mv (.l 98)) 12]))
(.reg [
.l 85 (.mv (.g 17)),
.l 86 (.bin .add (.l 85) (.i 1)),
.g 17 (.mv (.l 86))]))))))
(.seq
(.draw [
.l 99 (.mv (.g 16)) 0,
.l 100 (.un .not (.l 99)) 1,
.l 101 (.mv (.l 100)) 2,
.lw 102 (.mv (.g 15)) (.l 101) false 3,
.lw 103 (.bin .gtr (.l 102) (.i 0)) (.l 101) false 4,
.lw 104 (.mv (.l 103)) (.l 101) false 5,
.lw 105 (.mv (.g 12)) (.l 104) true 6,
.lw 106 (.mv (.g 15)) (.l 104) true 7,
.lw 107 (.ia 1 (.l 105) (.l 106)) (.l 104) true 8,
.lw 108 (.ld none (.l 107)) (.l 104) true 9,
.lw 109 (.mv (.g 12)) (.l 104) true 10,
.lw 110 (.mv (.g 15)) (.l 104) true 11,
.lw 111 (.bin .sub (.l 110) (.i 1)) (.l 104) true 12,
.lw 112 (.ia 1 (.l 109) (.l 111)) (.l 104) true 13,
.lw 113 (.ld none (.l 112)) (.l 104) true 14,
.lw 114 (.bin .sub (.l 108) (.l 113)) (.l 104) true 15,
.lw 115 (.mv (.g 8)) (.l 104) true 16,
.lw 116 (.bin .sub (.l 115) (.i 1)) (.l 104) true 17,
.lw 117 (.fa (.g 4) 1) (.l 104) true 18,
.lw 118 (.iaa 3 1 (.l 117) (.l 116)) (.l 104) true 19,
.lw 119 (.ld none (.l 118)) (.l 104) true 20,
.lw 120 (.bin .mul (.i 2) (.l 119)) (.l 104) true 21,
.lw 121 (.bin .leq (.l 114) (.l 120)) (.l 104) true 22,
.lw 122 (.mv (.l 121)) (.l 104) true 23,
.lw 123 (.mv (.g 11)) (.l 122) false 24,
.lw 124 (.mv (.g 15)) (.l 122) false 25,
.lw 125 (.ia 1 (.l 123) (.l 124)) (.l 122) false 26,
.lw 126 (.ld none (.l 125)) (.l 122) false 27,
.lw 127 (.mv (.g 11)) (.l 122) false 28,
.lw 128 (.mv (.g 15)) (.l 122) false 29,
.lw 129 (.bin .sub (.l 128) (.i 1)) (.l 122) false 30,
.lw 130 (.ia 1 (.l 127) (.l 129)) (.l 122) false 31,
.lw 131 (.ld none (.l 130)) (.l 122) false 32,
.lw 132 (.bin .leq (.l 126) (.l 131)) (.l 122) false 33,
.lw 133 (.pick (.l 122) (.b true) (.l 132)) (.l 104) true 34,
.lw 134 (.pick (.l 104) (.l 133) (.b false)) (.l 101) false 35,
.g 135 (.pick (.l 101) (.b true) (.l 134)) 36])
(.cond (.g 135)
(.seq
(.reg [
.g 2 (.mv (.b false))])
.ret)
.skip))))))
(.reg [
.l 68 (.mv (.g 15)),
.l 69 (.bin .add (.l 68) (.i 1)),
.g 15 (.mv (.l 69))]))))))
(.seq
(.reg [
.l 137 (.ld (some 4) (.g 4)),
.l 138 (.mv (.g 14)),
.l 139 (.mv (.g 7)),
.l 140 (.call (.c (.fn 57 [])) [.l 137, .l 138, .l 139]),
.l 136 (.mv (.l 140)),
.l 141 (.ex (.l 136) 0),
.l 142 (.ex (.l 136) 1),
.g 18 (.mv (.l 141)),
.g 19 (.mv (.l 142))])
(.seq
(.reg [
.l 143 (.mv (.g 19)),
.l 144 (.bin .eql (.l 143) (.i 0)),
.l 145 (.mv (.l 144)),
.lw 146 (.mv (.g 18)) (.l 145) true,
.lw 147 (.len (.l 146)) (.l 145) true,
.lw 148 (.bin .eql (.l 147) (.i 0)) (.l 145) true,
.l 149 (.pick (.l 145) (.l 148) (.b false)),
.l 150 (.mv (.l 149)),
.lw 151 (.call (.c (.fn 28 [])) []) (.l 150) true,
.l 152 (.pick (.l 150) (.l 151) (.b false)),
.g 2 (.mv (.l 152))])
.ret)))))))))))
def K13 : List Nat := [0, 60, 67, 84, 135, 2, 3, 4, 6, 7, 8, 9, 10, 11, 12, 13, 14, 15, 16, 17, 18, 19]
noncomputable def b13 : Code := match Try.f13.body with | some c => c | none => .skip
theorem t13 : trCode ⟨Try.prog, K13, [], 153, none⟩ b13 = some c13 := by kernel_rfl
theorem go13 : GoS Try.prog 13 1 K13 [] 153 c13 [.t (.g 2)] := .mk Try.func13 (c := b13) rfl (by kernel_rfl) t13 rfl (by kernel_rfl) rfl rfl
end Go.Sas
