/-
The code of some functions with its types resolved, printed by a program; that it is the code is checked by the kernel.
Conditions: none.
-/
import Derived.Test.YtajegdbljldakaaP4
import Derived.Test.YtajegdbljldakaaProg
set_option linter.unusedVariables false
set_option linter.unusedSimpArgs false
namespace Go.Sas
open Go.Proofs
set_option maxRecDepth 100000
/-- sastrugi/sastrugilaw02.ProbeSpreads -/
def c6 : ACode :=
  (.seq
(.reg [
.g 2 (.mv (.b false))])
(.seq
(.reg [
.l 20 (.mv (.g 0)),
.l 21 (.call (.c (.fn 17 [])) [.l 20]),
.g 3 (.mv (.l 21))])
(.seq
(.reg [
.l 22 (.mv (.g 3)),
.l 23 (.call (.c (.fn 30 [])) [.l 22, .i 16]),
.g 4 (.new [.slice none 0 0, .int .i64 0, .int .i64 0, .int .i64 0]),
.n (.st 4 (.g 4) (.l 23))])
(.seq
(.reg [
.l 24 (.mv (.g 3)),
.l 25 (.ld (some 4) (.g 4)),
.l 26 (.call (.c (.fn 19 [])) [.l 24, .l 25, .i 5, .i 8]),
.g 5 (.mv (.l 26))])
(.seq
(.reg [
.l 27 (.mv (.g 3)),
.l 28 (.call (.c (.fn 23 [])) [.l 27, .i 12]),
.g 6 (.mv (.l 28))])
(.seq
(.reg [
.l 30 (.ld (some 4) (.g 4)),
.l 31 (.mv (.g 5)),
.l 32 (.mv (.g 6)),
.l 33 (.call (.c (.fn 41 [])) [.l 30, .l 31, .l 32]),
.l 29 (.mv (.l 33)),
.l 34 (.ex (.l 29) 0),
.l 35 (.ex (.l 29) 1),
.g 7 (.mv (.l 34)),
.g 8 (.mv (.l 35))])
(.seq
(.reg [
.l 37 (.ld (some 4) (.g 4)),
.l 38 (.mv (.g 5)),
.l 39 (.mv (.g 6)),
.l 40 (.bin .add (.l 39) (.i 1)),
.l 41 (.call (.c (.fn 41 [])) [.l 37, .l 38, .l 40]),
.l 36 (.mv (.l 41)),
.l 42 (.ex (.l 36) 0),
.l 43 (.ex (.l 36) 1),
.g 9 (.mv (.l 42)),
.g 10 (.mv (.l 43))])
(.seq
(.seq
(.reg [
.l 44 (.mv (.g 8)),
.l 45 (.bin .neq (.l 44) (.i 0)),
.l 46 (.mv (.l 45)),
.lw 47 (.mv (.g 10)) (.l 46) false,
.lw 48 (.bin .neq (.l 47) (.i 0)) (.l 46) false,
.l 49 (.pick (.l 46) (.b true) (.l 48)),
.l 50 (.mv (.l 49)),
.lw 51 (.ld (some 4) (.g 4)) (.l 50) false,
.lw 52 (.mv (.g 7)) (.l 50) false,
.lw 53 (.call (.c (.fn 44 [])) [.l 51, .l 52]) (.l 50) false,
.lw 54 (.un .not (.l 53)) (.l 50) false,
.l 55 (.pick (.l 50) (.b true) (.l 54)),
.l 56 (.mv (.l 55)),
.lw 57 (.ld (some 4) (.g 4)) (.l 56) false,
.lw 58 (.mv (.g 9)) (.l 56) false,
.lw 59 (.call (.c (.fn 44 [])) [.l 57, .l 58]) (.l 56) false,
.lw 60 (.un .not (.l 59)) (.l 56) false,
.g 61 (.pick (.l 56) (.b true) (.l 60))])
(.cond (.g 61)
(.seq
(.reg [
.g 2 (.mv (.b false))])
.ret)
.skip))
(.seq
(.reg [
.g 11 (.mv (.b false))])
(.seq
(.seq
(.reg [
.g 12 (.mv (.i 0))])
(.block 0
(.loop
(.seq
(.seq
(.reg [
.l 62 (.mv (.g 12)),
.l 63 (.mv (.g 5)),
.l 64 (.len (.l 63)),
.g 65 (.bin .lss (.l 62) (.l 64))])
(.cond (.g 65)
.skip
(.exit 0)))
(.seq
(.block 1
(.seq
(.reg [
.l 68 (.mv (.g 5)),
.l 69 (.mv (.g 12)),
.l 70 (.ia 5 (.l 68) (.l 69)),
.l 71 (.ld (some 5) (.l 70)),
.g 13 (.new [.int .i64 0, .int .i64 0, .int .i64 0, .int .i64 0, .int .i64 0]),
.n (.st 5 (.g 13) (.l 71))])
(.seq
(.seq
(.reg [
.l 72 (.fa (.g 13) 0),
.l 73 (.ld none (.l 72)),
.g 74 (.bin .neq (.l 73) (.i 4))])
(.cond (.g 74)
(.exit 1)
.skip))
(.seq
(.reg [
.l 75 (.mv (.g 11)),
.l 76 (.mv (.l 75)),
.lw 77 (.fa (.g 13) 3) (.l 76) false,
.lw 78 (.ld none (.l 77)) (.l 76) false,
.lw 79 (.mv (.g 6)) (.l 76) false,
.lw 80 (.bin .add (.l 79) (.i 1)) (.l 76) false,
.lw 81 (.bin .eql (.l 78) (.l 80)) (.l 76) false,
.l 82 (.pick (.l 76) (.b true) (.l 81)),
.g 11 (.mv (.l 82))])
(.seq
(.reg [
.g 14 (.mv (.b false))])
(.seq
(.seq
(.reg [
.l 83 (.mv (.g 12)),
.l 84 (.bin .add (.l 83) (.i 1)),
.g 15 (.mv (.l 84))])
(.block 2
(.loop
(.seq
(.seq
(.reg [
.l 85 (.mv (.g 15)),
.l 86 (.mv (.g 5)),
.l 87 (.len (.l 86)),
.g 88 (.bin .lss (.l 85) (.l 87))])
(.cond (.g 88)
.skip
(.exit 2)))
(.seq
(.block 3
(.reg [
.l 91 (.mv (.g 14)),
.l 92 (.mv (.l 91)),
.lw 93 (.mv (.g 5)) (.l 92) false,
.lw 94 (.mv (.g 15)) (.l 92) false,
.lw 95 (.ia 5 (.l 93) (.l 94)) (.l 92) false,
.lw 96 (.fa (.l 95) 0) (.l 92) false,
.lw 97 (.ld none (.l 96)) (.l 92) false,
.lw 98 (.bin .neq (.l 97) (.i 4)) (.l 92) false,
.lw 99 (.mv (.l 98)) (.l 92) false,
.lw 100 (.mv (.g 5)) (.l 99) true,
.lw 101 (.mv (.g 15)) (.l 99) true,
.lw 102 (.ia 5 (.l 100) (.l 101)) (.l 99) true,
.lw 103 (.fa (.l 102) 3) (.l 99) true,
.lw 104 (.ld none (.l 103)) (.l 99) true,
.lw 105 (.mv (.g 6)) (.l 99) true,
.lw 106 (.bin .eql (.l 104) (.l 105)) (.l 99) true,
.lw 107 (.pick (.l 99) (.l 106) (.b false)) (.l 92) false,
.l 108 (.pick (.l 92) (.b true) (.l 107)),
.g 14 (.mv (.l 108))]))
(.reg [
.l 89 (.mv (.g 15)),
.l 90 (.bin .add (.l 89) (.i 1)),
.g 15 (.mv (.l 90))]))))))
(.seq
(.reg [
.l 109 (.fa (.g 13) 1),
.l 110 (.ld none (.l 109)),
.g 16 (.mv (.l 110))])
(.block 4
(.loop
(.seq
(.seq
(.reg [
.l 111 (.fa (.g 13) 3),
.l 112 (.ld none (.l 111)),
.l 113 (.mv (.g 6)),
.l 114 (.bin .eql (.l 112) (.l 113)),
.l 115 (.mv (.l 114)),
.lw 116 (.mv (.g 14)) (.l 115) true,
.lw 117 (.un .not (.l 116)) (.l 115) true,
.l 118 (.pick (.l 115) (.l 117) (.b false)),
.l 119 (.mv (.l 118)),
.lw 120 (.mv (.g 16)) (.l 119) true,
.lw 121 (.fa (.g 13) 2) (.l 119) true,
.lw 122 (.ld none (.l 121)) (.l 119) true,
.lw 123 (.bin .leq (.l 120) (.l 122)) (.l 119) true,
.g 124 (.pick (.l 119) (.l 123) (.b false))])
(.cond (.g 124)
.skip
(.exit 4)))
(.seq
(.block 5
(.seq
(.reg [
.l 127 (.mv (.g 7)),
.l 128 (.mv (.g 16)),
.l 129 (.call (.c (.fn 45 [])) [.l 127, .l 128]),
.g 130 (.bin .neq (.l 129) (.i 2))])
(.cond (.g 130)
(.seq
(.reg [
.g 2 (.mv (.b false))])
.ret)
.skip)))
(.reg [
.l 125 (.mv (.g 16)),
.l 126 (.bin .add (.l 125) (.i 1)),
.g 16 (.mv (.l 126))]))))))))))))
(.reg [
.l 66 (.mv (.g 12)),
.l 67 (.bin .add (.l 66) (.i 1)),
.g 12 (.mv (.l 67))]))))))
(.seq
(.seq
(.reg [
.g 17 (.mv (.i 0))])
(.block 6
(.loop
(.seq
(.seq
(.reg [
.l 131 (.mv (.g 17)),
.l 132 (.ld (some 4) (.g 4)),
.l 133 (.call (.c (.fn 46 [])) [.l 132]),
.l 134 (.bin .lss (.l 131) (.l 133)),
.l 135 (.mv (.l 134)),
.lw 136 (.mv (.g 11)) (.l 135) true,
.lw 137 (.un .not (.l 136)) (.l 135) true,
.g 138 (.pick (.l 135) (.l 137) (.b false))])
(.cond (.g 138)
.skip
(.exit 6)))
(.seq
(.block 7
(.seq
(.reg [
.l 141 (.mv (.g 7)),
.l 142 (.mv (.g 17)),
.l 143 (.call (.c (.fn 45 [])) [.l 141, .l 142]),
.l 144 (.mv (.g 9)),
.l 145 (.mv (.g 17)),
.l 146 (.call (.c (.fn 45 [])) [.l 144, .l 145]),
.g 18 (.mv (.l 143)),
.g 19 (.mv (.l 146))])
(.seq
(.reg [
.l 147 (.mv (.g 18)),
.l 148 (.bin .eql (.l 147) (.i 1)),
.l 149 (.mv (.l 148)),
.lw 150 (.mv (.g 19)) (.l 149) true,
.lw 151 (.bin .neq (.l 150) (.i 1)) (.l 149) true,
.l 152 (.pick (.l 149) (.l 151) (.b false)),
.l 153 (.mv (.l 152)),
.lw 154 (.mv (.g 18)) (.l 153) false,
.lw 155 (.bin .eql (.l 154) (.i 3)) (.l 153) false,
.lw 156 (.mv (.l 155)) (.l 153) false,
.lw 157 (.mv (.g 19)) (.l 156) true,
.lw 158 (.bin .eql (.l 157) (.i 2)) (.l 156) true,
.lw 159 (.pick (.l 156) (.l 158) (.b false)) (.l 153) false,
.g 160 (.pick (.l 153) (.b true) (.l 159))])
(.cond (.g 160)
(.seq
(.reg [
.g 2 (.mv (.b false))])
.ret)
.skip))))
(.reg [
.l 139 (.mv (.g 17)),
.l 140 (.bin .add (.l 139) (.i 1)),
.g 17 (.mv (.l 140))]))))))
(.seq
(.reg [
.l 161 (.call (.c (.fn 28 [])) []),
.g 2 (.mv (.l 161))])
.ret))))))))))))
def K6 : List Nat := [0, 61, 65, 74, 88, 124, 130, 138, 160, 2, 3, 4, 5, 6, 7, 8, 9, 10, 11, 12, 13, 14, 15, 16, 17, 18, 19]
noncomputable def b6 : Code := match Try.f6.body with | some c => c | none => .skip
theorem t6 : trCode ⟨Try.prog, K6, [], 162, none⟩ b6 = some c6 := by kernel_rfl
theorem go6 : GoS Try.prog 6 1 K6 [] 162 c6 [.t (.g 2)] := .mk Try.func6 (c := b6) rfl (by kernel_rfl) t6 rfl (by kernel_rfl) rfl rfl
end Go.Sas
