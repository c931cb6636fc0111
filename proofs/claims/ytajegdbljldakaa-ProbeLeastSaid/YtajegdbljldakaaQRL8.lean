/-
The code of some functions with its types resolved, printed by a program; that it is the code is checked by the kernel.
Conditions: none.
-/
import Derived.Test.YtajegdbljldakaaP4
import Derived.Test.YtajegdbljldakaaProg
set_option linter.unusedVariables false
set_option linter.unusedSimpArgs false
namespace Go.Sas
open Go.Proofs
set_option maxRecDepth 100000
/-- sastrugi/sastrugilaw02.ProbeLeast -/
def c8 : ACode :=
  (.seq
(.reg [
.g 2 (.mv (.b false))])
(.seq
(.reg [
.l 24 (.mv (.g 0)),
.l 25 (.call (.c (.fn 17 [])) [.l 24]),
.g 3 (.mv (.l 25))])
(.seq
(.reg [
.l 27 (.mv (.g 3)),
.l 28 (.call (.c (.fn 18 [])) [.l 27, .i 10, .i 5]),
.l 26 (.mv (.l 28)),
.l 29 (.ex (.l 26) 0),
.l 30 (.ex (.l 26) 1),
.l 31 (.ex (.l 26) 2),
.g 4 (.new [.slice none 0 0, .int .i64 0, .int .i64 0, .int .i64 0]),
.n (.st 4 (.g 4) (.l 29)),
.g 5 (.mv (.l 30)),
.g 6 (.mv (.l 31))])
(.seq
(.draw [
.l 32 (.mv (.g 5)) 0,
.l 33 (.ia 1 (.l 32) (.i 0)) 1,
.l 34 (.ld none (.l 33)) 2,
.l 35 (.len (.l 34)) 3,
.l 36 (.mv (.g 3)) 4,
.l 37 (.mv (.g 5)) 5,
.l 38 (.len (.l 37)) 6,
.lf 39 (.call (.c (.fn 23 [])) [.l 36, .l 38]) 7,
.g 7 (.mv (.l 35)) 8,
.g 8 (.mv (.l 39)) 9])
(.seq
(.reg [
.l 40 (.mv (.g 3)),
.l 41 (.mv (.g 7)),
.l 42 (.call (.c (.fn 23 [])) [.l 40, .l 41]),
.g 9 (.mv (.l 42))])
(.seq
(.reg [
.l 43 (.mv (.g 3)),
.l 44 (.mv (.g 9)),
.l 45 (.mv (.g 7)),
.l 46 (.bin .sub (.l 45) (.i 1)),
.l 47 (.call (.c (.fn 22 [])) [.l 43, .l 44, .l 46]),
.g 10 (.mv (.l 47))])
(.seq
(.reg [
.l 48 (.mv (.g 3)),
.l 49 (.mv (.g 9)),
.l 50 (.mv (.g 10)),
.l 51 (.call (.c (.fn 22 [])) [.l 48, .l 49, .l 50]),
.g 11 (.mv (.l 51))])
(.seq
(.reg [
.l 53 (.ld (some 4) (.g 4)),
.l 54 (.mv (.g 6)),
.l 55 (.mv (.g 9)),
.l 56 (.mv (.g 10)),
.l 57 (.mv (.g 8)),
.l 58 (.bin .add (.i 3) (.l 57)),
.l 59 (.call (.c (.fn 48 [])) [.l 53, .l 54, .l 55, .l 56, .l 58]),
.l 52 (.mv (.l 59)),
.l 60 (.ex (.l 52) 0),
.l 61 (.ex (.l 52) 1),
.g 12 (.new [.int .i64 0, .int .i64 0]),
.n (.st 2 (.g 12) (.l 60)),
.g 13 (.mv (.l 61))])
(.seq
(.reg [
.l 63 (.ld (some 4) (.g 4)),
.l 64 (.mv (.g 6)),
.l 65 (.mv (.g 9)),
.l 66 (.mv (.g 11)),
.l 67 (.mv (.g 8)),
.l 68 (.bin .add (.i 3) (.l 67)),
.l 69 (.call (.c (.fn 48 [])) [.l 63, .l 64, .l 65, .l 66, .l 68]),
.l 62 (.mv (.l 69)),
.l 70 (.ex (.l 62) 0),
.l 71 (.ex (.l 62) 1),
.g 14 (.new [.int .i64 0, .int .i64 0]),
.n (.st 2 (.g 14) (.l 70)),
.g 15 (.mv (.l 71))])
(.seq
(.reg [
.l 73 (.ld (some 4) (.g 4)),
.l 74 (.mv (.g 6)),
.l 75 (.mv (.g 11)),
.l 76 (.mv (.g 10)),
.l 77 (.mv (.g 8)),
.l 78 (.bin .add (.i 3) (.l 77)),
.l 79 (.call (.c (.fn 48 [])) [.l 73, .l 74, .l 75, .l 76, .l 78]),
.l 72 (.mv (.l 79)),
.l 80 (.ex (.l 72) 0),
.l 81 (.ex (.l 72) 1),
.g 16 (.new [.int .i64 0, .int .i64 0]),
.n (.st 2 (.g 16) (.l 80)),
.g 17 (.mv (.l 81))])
(.seq
(.seq
(.reg [
.l 82 (.mv (.g 13)),
.l 83 (.bin .neq (.l 82) (.i 0)),
.l 84 (.mv (.l 83)),
.lw 85 (.mv (.g 15)) (.l 84) false,
.lw 86 (.bin .neq (.l 85) (.i 0)) (.l 84) false,
.l 87 (.pick (.l 84) (.b true) (.l 86)),
.l 88 (.mv (.l 87)),
.lw 89 (.mv (.g 17)) (.l 88) false,
.lw 90 (.bin .neq (.l 89) (.i 0)) (.l 88) false,
.g 91 (.pick (.l 88) (.b true) (.l 90))])
(.cond (.g 91)
(.seq
(.reg [
.g 2 (.mv (.b false))])
.ret)
.skip))
(.seq
(.reg [
.g 18 (.mv (.i 3000)),
.g 19 (.mv (.i 3000)),
.g 20 (.mv (.i 3000))])
(.seq
(.seq
(.reg [
.l 92 (.mv (.g 9)),
.g 21 (.mv (.l 92))])
(.block 0
(.loop
(.seq
(.seq
(.reg [
.l 93 (.mv (.g 21)),
.l 94 (.mv (.g 10)),
.g 95 (.bin .leq (.l 93) (.l 94))])
(.cond (.g 95)
.skip
(.exit 0)))
(.seq
(.block 1
(.seq
(.reg [
.l 99 (.ld (some 4) (.g 4)),
.l 100 (.mv (.g 6)),
.l 101 (.mv (.g 21)),
.l 102 (.mv (.g 8)),
.l 103 (.bin .add (.i 3) (.l 102)),
.l 104 (.call (.c (.fn 25 [])) [.l 99, .l 100, .l 101, .l 103]),
.l 98 (.mv (.l 104)),
.l 105 (.ex (.l 98) 0),
.l 106 (.ex (.l 98) 1),
.g 22 (.new [.int .i64 0, .int .i64 0]),
.n (.st 2 (.g 22) (.l 105)),
.g 23 (.mv (.l 106))])
(.seq
(.seq
(.reg [
.l 107 (.mv (.g 23)),
.g 108 (.bin .neq (.l 107) (.i 0))])
(.cond (.g 108)
(.seq
(.reg [
.g 2 (.mv (.b false))])
.ret)
.skip))
(.draw [
.l 109 (.mv (.g 18)) 0,
.l 110 (.mv (.g 5)) 1,
.l 111 (.mv (.g 8)) 2,
.l 112 (.ia 1 (.l 110) (.l 111)) 3,
.l 113 (.ld none (.l 112)) 4,
.l 114 (.mv (.g 21)) 5,
.l 115 (.ia 1 (.l 113) (.l 114)) 6,
.l 116 (.ld none (.l 115)) 7,
.l 117 (.mn [.l 109, .l 116]) 8,
.l 118 (.mv (.g 19)) 9,
.l 119 (.fa (.g 22) 0) 10,
.l 120 (.ld none (.l 119)) 11,
.l 121 (.mn [.l 118, .l 120]) 12,
.l 122 (.mv (.g 20)) 13,
.l 123 (.fa (.g 22) 1) 14,
.l 124 (.ld none (.l 123)) 15,
.l 125 (.mn [.l 122, .l 124]) 16,
.g 18 (.mv (.l 117)) 17,
.g 19 (.mv (.l 121)) 18,
.g 20 (.mv (.l 125)) 19]))))
(.reg [
.l 96 (.mv (.g 21)),
.l 97 (.bin .add (.l 96) (.i 1)),
.g 21 (.mv (.l 97))]))))))
(.seq
(.draw [
.l 126 (.ld (some 2) (.g 12)) 0,
.l 127 (.mv (.g 19)) 1,
.l 128 (.mv (.g 20)) 2,
.lf 129 (.call (.c (.fn 21 [])) [.l 127, .l 128]) 3,
.l 130 (.eqs false (.fld 0 none .i (.fld 1 none .i .nil)) (.l 126) (.l 129)) 4,
.l 131 (.mv (.l 130)) 5,
.lw 132 (.ld (some 2) (.g 12)) (.l 131) true 6,
.lw 133 (.mv (.g 18)) (.l 131) true 7,
.lwf 134 (.call (.c (.fn 50 [])) [.l 132, .l 133]) (.l 131) true 8,
.l 135 (.pick (.l 131) (.l 134) (.b false)) 9,
.l 136 (.mv (.l 135)) 10,
.lw 137 (.ld (some 2) (.g 12)) (.l 136) true 11,
.lw 138 (.fa (.g 14) 0) (.l 136) true 12,
.lw 139 (.ld none (.l 138)) (.l 136) true 13,
.lw 140 (.fa (.g 16) 0) (.l 136) true 14,
.lw 141 (.ld none (.l 140)) (.l 136) true 15,
.lw 142 (.mn [.l 139, .l 141]) (.l 136) true 16,
.lw 143 (.fa (.g 14) 1) (.l 136) true 17,
.lw 144 (.ld none (.l 143)) (.l 136) true 18,
.lw 145 (.fa (.g 16) 1) (.l 136) true 19,
.lw 146 (.ld none (.l 145)) (.l 136) true 20,
.lw 147 (.mn [.l 144, .l 146]) (.l 136) true 21,
.lwf 148 (.call (.c (.fn 21 [])) [.l 142, .l 147]) (.l 136) true 22,
.lw 149 (.eqs false (.fld 0 none .i (.fld 1 none .i .nil)) (.l 137) (.l 148)) (.l 136) true 23,
.l 150 (.pick (.l 136) (.l 149) (.b false)) 24,
.l 151 (.mv (.l 150)) 25,
.lwf 152 (.call (.c (.fn 28 [])) []) (.l 151) true 26,
.l 153 (.pick (.l 151) (.l 152) (.b false)) 27,
.g 2 (.mv (.l 153)) 28])
.ret))))))))))))))
def K8 : List Nat := [0, 91, 95, 108, 2, 3, 4, 5, 6, 7, 8, 9, 10, 11, 12, 13, 14, 15, 16, 17, 18, 19, 20, 21, 22, 23]
noncomputable def b8 : Code := match Try.f8.body with | some c => c | none => .skip
theorem t8 : trCode ⟨Try.prog, K8, [], 154, none⟩ b8 = some c8 := by kernel_rfl
theorem go8 : GoS Try.prog 8 1 K8 [] 154 c8 [.t (.g 2)] := .mk Try.func8 (c := b8) rfl (by kernel_rfl) t8 rfl (by kernel_rfl) rfl rfl
end Go.Sas
