/-
The code of some functions with its types resolved, printed by a program; that it is the code is checked by the kernel.
Conditions: none.
-/
import Derived.Test.YtajegdbljldakaaP4
import Derived.Test.YtajegdbljldakaaProg
set_option linter.unusedVariables false
set_option linter.unusedSimpArgs false
namespace Go.Sas
open Go.Proofs
set_option maxRecDepth 100000
/-- sastrugi/sastrugilaw02.ProbeStales -/
def c12 : ACode :=
  (.seq
(.reg [
.g 5 (.box (.g 0)),
.g 10 (.mv (.b false))])
(.seq
(.seq
(.reg [
.l 29 (.ld (some 4) (.g 5)),
.l 30 (.mv (.g 1)),
.g 31 (.call (.c (.fn 29 [])) [.l 29, .l 30, .c (.lit (.slice none 0 0))])])
(.cond (.g 31)
(.seq
(.reg [
.l 32 (.call (.c (.fn 28 [])) []),
.g 10 (.mv (.l 32))])
.ret)
.skip))
(.seq
(.reg [
.l 33 (.mv (.g 4)),
.l 34 (.call (.c (.fn 17 [])) [.l 33]),
.g 11 (.mv (.l 34))])
(.seq
(.reg [
.l 35 (.mv (.g 11)),
.l 36 (.call (.c (.fn 30 [])) [.l 35, .i 20]),
.g 12 (.new [.slice none 0 0, .int .i64 0, .int .i64 0, .int .i64 0]),
.n (.st 4 (.g 12) (.l 36))])
(.seq
(.reg [
.l 37 (.mv (.g 11)),
.l 38 (.mv (.g 11)),
.l 39 (.ld (some 4) (.g 12)),
.l 40 (.call (.c (.fn 31 [])) [.l 38, .l 39, .i 3, .i 3]),
.l 41 (.call (.c (.fn 20 [])) [.l 37, .i 3, .l 40, .i 5]),
.g 13 (.mv (.l 41))])
(.seq
(.draw [
.l 42 (.ld (some 4) (.g 5)) 0,
.l 43 (.ld (some 4) (.g 12)) 1,
.l 44 (.ld (some 4) (.g 12)) 2,
.l 45 (.mks false 4 [.l 42, .l 43, .l 44]) 3,
.l 46 (.mv (.g 1)) 4,
.l 47 (.mv (.g 13)) 5,
.l 48 (.mv (.g 13)) 6,
.l 49 (.mks false 1 [.l 46, .l 47, .l 48]) 7,
.l 50 (.mv (.g 2)) 8,
.l 51 (.mv (.g 11)) 9,
.l 53 (.mv (.g 2)) 11,
.l 55 (.mv (.g 3)) 13,
.l 56 (.mv (.g 11)) 14,
.l 58 (.mv (.g 3)) 16,
.lf 52 (.call (.c (.fn 23 [])) [.l 51, .i 20]) 10,
.l 54 (.mks false 1 [.l 50, .l 52, .l 53]) 12,
.lf 57 (.call (.c (.fn 22 [])) [.l 56, .i 1, .i 3]) 15,
.l 59 (.mks false 1 [.l 55, .l 57, .l 58]) 17,
.g 14 (.mv (.l 45)) 18,
.g 15 (.mv (.l 49)) 19,
.g 16 (.mv (.l 54)) 20,
.g 17 (.mv (.l 59)) 21])
(.seq
(.seq
(.reg [
.g 18 (.mv (.i 0))])
(.block 0
(.loop
(.seq
(.seq
(.reg [
.l 60 (.mv (.g 18)),
.l 61 (.mv (.g 14)),
.l 62 (.len (.l 61)),
.g 63 (.bin .lss (.l 60) (.l 62))])
(.cond (.g 63)
.skip
(.exit 0)))
(.seq
(.block 1
(.seq
(.draw [
.l 67 (.mv (.g 14)) 0,
.l 68 (.mv (.g 18)) 1,
.l 69 (.ia 4 (.l 67) (.l 68)) 2,
.l 70 (.ld (some 4) (.l 69)) 3,
.l 71 (.mv (.g 15)) 4,
.l 72 (.mv (.g 18)) 5,
.l 73 (.ia 1 (.l 71) (.l 72)) 6,
.l 74 (.ld none (.l 73)) 7,
.l 75 (.mv (.g 16)) 8,
.l 76 (.mv (.g 18)) 9,
.l 77 (.ia 1 (.l 75) (.l 76)) 10,
.l 78 (.ld none (.l 77)) 11,
.lf 79 (.call (.c (.fn 57 [])) [.l 70, .l 74, .l 78]) 12,
.l 66 (.mv (.l 79)) 13,
.l 80 (.ex (.l 66) 0) 14,
.l 81 (.ex (.l 66) 1) 15,
.g 19 (.mv (.l 80)) 16,
.g 20 (.mv (.l 81)) 17])
(.seq
(.draw [
.l 83 (.mv (.g 14)) 0,
.l 84 (.mv (.g 18)) 1,
.l 85 (.ia 4 (.l 83) (.l 84)) 2,
.l 86 (.ld (some 4) (.l 85)) 3,
.l 87 (.mv (.g 15)) 4,
.l 88 (.mv (.g 18)) 5,
.l 89 (.ia 1 (.l 87) (.l 88)) 6,
.l 90 (.ld none (.l 89)) 7,
.l 91 (.mv (.g 16)) 8,
.l 92 (.mv (.g 18)) 9,
.l 93 (.ia 1 (.l 91) (.l 92)) 10,
.l 94 (.ld none (.l 93)) 11,
.lf 95 (.call (.c (.fn 58 [])) [.l 86, .l 90, .l 94]) 12,
.l 82 (.mv (.l 95)) 13,
.l 96 (.ex (.l 82) 0) 14,
.l 97 (.ex (.l 82) 1) 15,
.g 21 (.mv (.l 96)) 16,
.g 22 (.mv (.l 97)) 17])
(.seq
(.draw [
.l 99 (.mv (.g 14)) 0,
.l 100 (.mv (.g 18)) 1,
.l 101 (.ia 4 (.l 99) (.l 100)) 2,
.l 102 (.ld (some 4) (.l 101)) 3,
.l 103 (.mv (.g 15)) 4,
.l 104 (.mv (.g 18)) 5,
.l 105 (.ia 1 (.l 103) (.l 104)) 6,
.l 106 (.ld none (.l 105)) 7,
.l 107 (.mv (.g 16)) 8,
.l 108 (.mv (.g 18)) 9,
.l 109 (.ia 1 (.l 107) (.l 108)) 10,
.l 110 (.ld none (.l 109)) 11,
.l 111 (.mv (.g 17)) 12,
.l 112 (.mv (.g 18)) 13,
.l 113 (.ia 1 (.l 111) (.l 112)) 14,
.l 114 (.ld none (.l 113)) 15,
.lf 115 (.call (.c (.fn 59 [])) [.l 102, .l 106, .l 110, .l 114]) 16,
.l 98 (.mv (.l 115)) 17,
.l 116 (.ex (.l 98) 0) 18,
.l 117 (.ex (.l 98) 1) 19,
.l 118 (.ex (.l 98) 2) 20,
.g 23 (.mv (.l 116)) 21,
.g 24 (.mv (.l 117)) 22,
.g 25 (.mv (.l 118)) 23])
(.seq
(.draw [
.l 120 (.mv (.g 14)) 0,
.l 121 (.mv (.g 18)) 1,
.l 122 (.ia 4 (.l 120) (.l 121)) 2,
.l 123 (.ld (some 4) (.l 122)) 3,
.l 124 (.mv (.g 15)) 4,
.l 125 (.mv (.g 18)) 5,
.l 126 (.ia 1 (.l 124) (.l 125)) 6,
.l 127 (.ld none (.l 126)) 7,
.l 128 (.mv (.g 16)) 8,
.l 129 (.mv (.g 18)) 9,
.l 130 (.ia 1 (.l 128) (.l 129)) 10,
.l 131 (.ld none (.l 130)) 11,
.l 132 (.mv (.g 17)) 12,
.l 133 (.mv (.g 18)) 13,
.l 134 (.ia 1 (.l 132) (.l 133)) 14,
.l 135 (.ld none (.l 134)) 15,
.lf 136 (.call (.c (.fn 60 [])) [.l 123, .l 127, .l 131, .l 135]) 16,
.l 119 (.mv (.l 136)) 17,
.l 137 (.ex (.l 119) 0) 18,
.l 138 (.ex (.l 119) 1) 19,
.l 139 (.ex (.l 119) 2) 20,
.g 26 (.mv (.l 137)) 21,
.g 27 (.mv (.l 138)) 22,
.g 28 (.mv (.l 139)) 23])
(.seq
(.reg [
.l 140 (.mv (.g 20)),
.l 141 (.mv (.g 22)),
.l 142 (.bin .neq (.l 140) (.l 141)),
.l 143 (.mv (.l 142)),
.lw 144 (.mv (.g 25)) (.l 143) false,
.lw 145 (.mv (.g 28)) (.l 143) false,
.lw 146 (.bin .neq (.l 144) (.l 145)) (.l 143) false,
.l 147 (.pick (.l 143) (.b true) (.l 146)),
.l 148 (.mv (.l 147)),
.lw 149 (.mv (.g 19)) (.l 148) false,
.lw 150 (.mv (.g 21)) (.l 148) false,
.lw 151 (.call (.c (.fn 61 [])) [.l 149, .l 150]) (.l 148) false,
.lw 152 (.un .not (.l 151)) (.l 148) false,
.l 153 (.pick (.l 148) (.b true) (.l 152)),
.l 154 (.mv (.l 153)),
.lw 155 (.mv (.g 23)) (.l 154) false,
.lw 156 (.mv (.g 26)) (.l 154) false,
.lw 157 (.call (.c (.fn 62 [])) [.l 155, .l 156]) (.l 154) false,
.lw 158 (.un .not (.l 157)) (.l 154) false,
.l 159 (.pick (.l 154) (.b true) (.l 158)),
.l 160 (.mv (.l 159)),
.lw 161 (.mv (.g 24)) (.l 160) false,
.lw 162 (.mv (.g 27)) (.l 160) false,
.lw 163 (.call (.c (.fn 62 [])) [.l 161, .l 162]) (.l 160) false,
.lw 164 (.un .not (.l 163)) (.l 160) false,
.g 165 (.pick (.l 160) (.b true) (.l 164))])
(.cond (.g 165)
(.seq
(.reg [
.g 10 (.mv (.b false))])
.ret)
.skip)))))))
(.reg [
.l 64 (.mv (.g 18)),
.l 65 (.bin .add (.l 64) (.i 1)),
.g 18 (.mv (.l 65))]))))))
(.seq
(.reg [
.l 166 (.call (.c (.fn 28 [])) []),
.g 10 (.mv (.l 166))])
.ret))))))))
def K12 : List Nat := [0, 1, 2, 3, 4, 31, 63, 165, 10, 5, 11, 12, 13, 14, 15, 16, 17, 18, 19, 20, 21, 22, 23, 24, 25, 26, 27, 28]
noncomputable def b12 : Code := match Try.f12.body with | some c => c | none => .skip
theorem t12 : trCode ⟨Try.prog, K12, [], 167, none⟩ b12 = some c12 := by kernel_rfl
theorem go12 : GoS Try.prog 12 5 K12 [] 167 c12 [.t (.g 10)] := .mk Try.func12 (c := b12) rfl (by kernel_rfl) t12 rfl (by kernel_rfl) rfl rfl
end Go.Sas
