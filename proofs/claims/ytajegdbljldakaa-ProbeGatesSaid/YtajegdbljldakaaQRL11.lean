/-
The code of some functions with its types resolved, printed by a program; that it is the code is checked by the kernel.
Conditions: none.
-/
import Derived.Test.YtajegdbljldakaaP4
import Derived.Test.YtajegdbljldakaaProg
set_option linter.unusedVariables false
set_option linter.unusedSimpArgs false
namespace Go.Sas
open Go.Proofs
set_option maxRecDepth 100000
/-- sastrugi/sastrugilaw02.ProbeGates -/
def c11 : ACode :=
  (.seq
(.reg [
.g 2 (.mv (.b false))])
(.seq
(.reg [
.l 19 (.mv (.g 0)),
.l 20 (.call (.c (.fn 17 [])) [.l 19]),
.g 3 (.mv (.l 20))])
(.seq
(.reg [
.l 22 (.mv (.g 3)),
.l 23 (.call (.c (.fn 18 [])) [.l 22, .i 10, .i 6]),
.l 21 (.mv (.l 23)),
.l 24 (.ex (.l 21) 0),
.l 25 (.ex (.l 21) 1),
.l 26 (.ex (.l 21) 2),
.g 4 (.new [.slice none 0 0, .int .i64 0, .int .i64 0, .int .i64 0]),
.n (.st 4 (.g 4) (.l 24)),
.g 5 (.mv (.l 25)),
.g 6 (.mv (.l 26))])
(.seq
(.reg [
.l 27 (.mv (.g 3)),
.l 28 (.ld (some 4) (.g 4)),
.l 29 (.call (.c (.fn 19 [])) [.l 27, .l 28, .i 2, .i 9]),
.g 7 (.mv (.l 29))])
(.seq
(.reg [
.l 30 (.mv (.g 3)),
.l 31 (.mv (.g 5)),
.l 32 (.len (.l 31)),
.l 33 (.call (.c (.fn 23 [])) [.l 30, .l 32]),
.g 8 (.mv (.l 33))])
(.seq
(.draw [
.l 34 (.mv (.g 5)) 0,
.l 35 (.mv (.g 8)) 1,
.l 36 (.ia 1 (.l 34) (.l 35)) 2,
.l 37 (.ld none (.l 36)) 3,
.l 38 (.mv (.g 3)) 4,
.l 39 (.mv (.g 5)) 5,
.l 40 (.mv (.g 8)) 6,
.l 41 (.ia 1 (.l 39) (.l 40)) 7,
.l 42 (.ld none (.l 41)) 8,
.l 43 (.len (.l 42)) 9,
.l 47 (.mv (.g 3)) 13,
.l 48 (.mv (.g 3)) 14,
.lf 44 (.call (.c (.fn 23 [])) [.l 38, .l 43]) 10,
.l 45 (.ia 1 (.l 37) (.l 44)) 11,
.l 46 (.ld none (.l 45)) 12,
.lf 49 (.call (.c (.fn 23 [])) [.l 48, .i 200]) 15,
.l 50 (.mks false 1 [.i 0, .l 49]) 16,
.lf 51 (.call (.c (.fn 56 [])) [.l 47, .l 50]) 17,
.l 52 (.bin .sub (.l 46) (.l 51)) 18,
.l 53 (.mx [.i 0, .l 52]) 19,
.g 9 (.mv (.l 53)) 20])
(.seq
(.reg [
.l 55 (.ld (some 4) (.g 4)),
.l 56 (.mv (.g 6)),
.l 57 (.mv (.g 7)),
.l 58 (.mv (.g 9)),
.l 59 (.mv (.g 8)),
.l 60 (.bin .add (.i 3) (.l 59)),
.l 61 (.call (.c (.fn 24 [])) [.l 55, .l 56, .l 57, .l 58, .l 60]),
.l 54 (.mv (.l 61)),
.l 62 (.ex (.l 54) 0),
.l 63 (.ex (.l 54) 1),
.g 10 (.mv (.l 62)),
.g 11 (.mv (.l 63))])
(.seq
(.reg [
.l 65 (.ld (some 4) (.g 4)),
.l 66 (.mv (.g 6)),
.l 67 (.mv (.g 8)),
.l 68 (.bin .add (.i 3) (.l 67)),
.l 69 (.call (.c (.fn 57 [])) [.l 65, .l 66, .l 68]),
.l 64 (.mv (.l 69)),
.l 70 (.ex (.l 64) 0),
.l 71 (.ex (.l 64) 1),
.g 12 (.mv (.l 70)),
.g 13 (.mv (.l 71))])
(.seq
(.reg [
.l 73 (.ld (some 4) (.g 4)),
.l 74 (.mv (.g 7)),
.l 75 (.mv (.g 8)),
.l 76 (.bin .add (.i 3) (.l 75)),
.l 77 (.call (.c (.fn 41 [])) [.l 73, .l 74, .l 76]),
.l 72 (.mv (.l 77)),
.l 78 (.ex (.l 72) 0),
.l 79 (.ex (.l 72) 1),
.g 14 (.mv (.l 78)),
.g 15 (.mv (.l 79))])
(.seq
(.seq
(.reg [
.l 80 (.mv (.g 11)),
.l 81 (.bin .neq (.l 80) (.i 0)),
.l 82 (.mv (.l 81)),
.lw 83 (.mv (.g 13)) (.l 82) false,
.lw 84 (.bin .neq (.l 83) (.i 0)) (.l 82) false,
.l 85 (.pick (.l 82) (.b true) (.l 84)),
.l 86 (.mv (.l 85)),
.lw 87 (.mv (.g 15)) (.l 86) false,
.lw 88 (.bin .neq (.l 87) (.i 0)) (.l 86) false,
.g 89 (.pick (.l 86) (.b true) (.l 88))])
(.cond (.g 89)
(.seq
(.reg [
.g 2 (.mv (.b false))])
.ret)
.skip))
(.seq
(.seq
(.reg [
.g 16 (.mv (.i 0))])
(.block 0
(.loop
(.seq
(.seq
(.reg [
.l 90 (.mv (.g 16)),
.l 91 (.mv (.g 5)),
.l 92 (.mv (.g 8)),
.l 93 (.ia 1 (.l 91) (.l 92)),
.l 94 (.ld none (.l 93)),
.l 95 (.len (.l 94)),
.g 96 (.bin .lss (.l 90) (.l 95))])
(.cond (.g 96)
.skip
(.exit 0)))
(.seq
(.block 1
(.seq
(.reg [
.l 99 (.mv (.g 10)),
.l 100 (.mv (.g 16)),
.l 101 (.call (.c (.fn 27 [])) [.l 99, .l 100]),
.g 17 (.mv (.l 101))])
(.seq
(.seq
(.reg [
.l 102 (.mv (.g 17)),
.l 103 (.bin .lss (.l 102) (.i 0)),
.l 104 (.mv (.l 103)),
.lw 105 (.mv (.g 17)) (.l 104) false,
.lw 106 (.bin .gtr (.l 105) (.i 3)) (.l 104) false,
.g 107 (.pick (.l 104) (.b true) (.l 106))])
(.cond (.g 107)
(.seq
(.reg [
.g 2 (.mv (.b false))])
.ret)
.skip))
(.seq
(.seq
(.reg [
.l 108 (.mv (.g 17)),
.g 109 (.bin .neq (.l 108) (.i 0))])
(.cond (.g 109)
(.exit 1)
.skip))
(.seq
(.seq
(.reg [
.l 110 (.mv (.g 5)),
.l 111 (.mv (.g 8)),
.l 112 (.ia 1 (.l 110) (.l 111)),
.l 113 (.ld none (.l 112)),
.l 114 (.mv (.g 16)),
.l 115 (.ia 1 (.l 113) (.l 114)),
.l 116 (.ld none (.l 115)),
.l 117 (.mv (.g 9)),
.l 118 (.bin .lss (.l 116) (.l 117)),
.l 119 (.mv (.l 118)),
.lw 120 (.mv (.g 14)) (.l 119) false,
.lw 121 (.mv (.g 16)) (.l 119) false,
.lw 122 (.call (.c (.fn 45 [])) [.l 120, .l 121]) (.l 119) false,
.lw 123 (.bin .neq (.l 122) (.i 2)) (.l 119) false,
.g 124 (.pick (.l 119) (.b true) (.l 123))])
(.cond (.g 124)
(.seq
(.reg [
.g 2 (.mv (.b false))])
.ret)
.skip))
(.seq
(.reg [
.g 18 (.mv (.i 0))])
(.block 2
(.loop
(.seq
(.seq
(.reg [
.l 125 (.mv (.g 18)),
.l 126 (.mv (.g 12)),
.l 127 (.len (.l 126)),
.g 128 (.bin .lss (.l 125) (.l 127))])
(.cond (.g 128)
.skip
(.exit 2)))
(.seq
(.block 3
(.seq
(.reg [
.l 131 (.mv (.g 12)),
.l 132 (.mv (.g 18)),
.l 133 (.ia 2 (.l 131) (.l 132)),
.l 134 (.ld (some 2) (.l 133)),
.l 135 (.mv (.g 16)),
.g 136 (.call (.c (.fn 50 [])) [.l 134, .l 135])])
(.cond (.g 136)
(.seq
(.reg [
.g 2 (.mv (.b false))])
.ret)
.skip)))
(.reg [
.l 129 (.mv (.g 18)),
.l 130 (.bin .add (.l 129) (.i 1)),
.g 18 (.mv (.l 130))])))))))))))
(.reg [
.l 97 (.mv (.g 16)),
.l 98 (.bin .add (.l 97) (.i 1)),
.g 16 (.mv (.l 98))]))))))
(.seq
(.reg [
.l 137 (.call (.c (.fn 28 [])) []),
.g 2 (.mv (.l 137))])
.ret))))))))))))
def K11 : List Nat := [0, 89, 96, 107, 109, 124, 128, 136, 2, 3, 4, 5, 6, 7, 8, 9, 10, 11, 12, 13, 14, 15, 16, 17, 18]
noncomputable def b11 : Code := match Try.f11.body with | some c => c | none => .skip
theorem t11 : trCode ⟨Try.prog, K11, [], 138, none⟩ b11 = some c11 := by kernel_rfl
theorem go11 : GoS Try.prog 11 1 K11 [] 138 c11 [.t (.g 2)] := .mk Try.func11 (c := b11) rfl (by kernel_rfl) t11 rfl (by kernel_rfl) rfl rfl
end Go.Sas
