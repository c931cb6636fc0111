/-
The code of some functions with its types resolved, printed by a program; that it is the code is checked by the kernel.
Conditions: none.
-/
import Derived.Test.YtajegdbljldakaaP4
import Derived.Test.YtajegdbljldakaaProg
set_option linter.unusedVariables false
set_option linter.unusedSimpArgs false
namespace Go.Sas
open Go.Proofs
set_option maxRecDepth 100000
/-- sastrugi/sastrugilaw02.ProbeExact -/
def c16 : ACode :=
  (.seq
(.reg [
.g 2 (.mv (.b false))])
(.seq
(.reg [
.l 21 (.mv (.g 0)),
.l 22 (.call (.c (.fn 17 [])) [.l 21]),
.g 3 (.mv (.l 22))])
(.seq
(.reg [
.l 24 (.mv (.g 3)),
.l 25 (.call (.c (.fn 18 [])) [.l 24, .i 7, .i 5]),
.l 23 (.mv (.l 25)),
.l 26 (.ex (.l 23) 0),
.l 27 (.ex (.l 23) 1),
.l 28 (.ex (.l 23) 2),
.g 4 (.new [.slice none 0 0, .int .i64 0, .int .i64 0, .int .i64 0]),
.n (.st 4 (.g 4) (.l 26)),
.g 5 (.mv (.l 27)),
.g 6 (.mv (.l 28))])
(.seq
(.draw [
.l 29 (.mv (.g 3)) 0,
.l 30 (.mv (.g 5)) 1,
.l 31 (.len (.l 30)) 2,
.l 33 (.mv (.g 3)) 4,
.l 34 (.mv (.g 5)) 5,
.l 35 (.ia 1 (.l 34) (.i 0)) 6,
.l 36 (.ld none (.l 35)) 7,
.l 37 (.len (.l 36)) 8,
.lf 32 (.call (.c (.fn 23 [])) [.l 29, .l 31]) 3,
.lf 38 (.call (.c (.fn 23 [])) [.l 33, .l 37]) 9,
.g 7 (.mv (.l 32)) 10,
.g 8 (.mv (.l 38)) 11])
(.seq
(.reg [
.l 40 (.ld (some 4) (.g 4)),
.l 41 (.mv (.g 6)),
.l 42 (.mv (.g 8)),
.l 43 (.mv (.g 7)),
.l 44 (.bin .add (.i 3) (.l 43)),
.l 45 (.call (.c (.fn 25 [])) [.l 40, .l 41, .l 42, .l 44]),
.l 39 (.mv (.l 45)),
.l 46 (.ex (.l 39) 0),
.l 47 (.ex (.l 39) 1),
.g 9 (.new [.int .i64 0, .int .i64 0]),
.n (.st 2 (.g 9) (.l 46)),
.g 10 (.mv (.l 47))])
(.seq
(.seq
(.reg [
.l 48 (.mv (.g 10)),
.g 49 (.bin .neq (.l 48) (.i 0))])
(.cond (.g 49)
(.seq
(.reg [
.g 2 (.mv (.b false))])
.ret)
.skip))
(.seq
(.reg [
.l 50 (.mv (.g 3)),
.l 51 (.ld (some 2) (.g 9)),
.l 52 (.call (.c (.fn 67 [])) [.l 50, .l 51]),
.g 11 (.mv (.l 52))])
(.seq
(.reg [
.g 12 (.mv (.c (.lit (.slice none 0 0))))])
(.seq
(.seq
(.reg [
.g 13 (.mv (.i 0))])
(.block 0
(.loop
(.seq
(.seq
(.reg [
.l 53 (.mv (.g 13)),
.l 54 (.mv (.g 5)),
.l 55 (.len (.l 54)),
.g 56 (.bin .lss (.l 53) (.l 55))])
(.cond (.g 56)
.skip
(.exit 0)))
(.seq
(.block 1
(.seq
(.reg [
.g 14 (.mv (.c (.lit (.slice none 0 0))))])
(.seq
(.seq
(.reg [
.g 15 (.mv (.i 0))])
(.block 2
(.loop
(.seq
(.seq
(.reg [
.l 59 (.mv (.g 15)),
.l 60 (.mv (.g 5)),
.l 61 (.mv (.g 13)),
.l 62 (.ia 1 (.l 60) (.l 61)),
.l 63 (.ld none (.l 62)),
.l 64 (.len (.l 63)),
.g 65 (.bin .lss (.l 59) (.l 64))])
(.cond (.g 65)
.skip
(.exit 2)))
(.seq
(.block 3
(.seq
(.reg [
.l 69 (.ld (some 4) (.g 4)),
.l 70 (.mv (.g 6)),
.l 71 (.mv (.g 15)),
.l 72 (.mv (.g 13)),
.l 73 (.bin .add (.i 3) (.l 72)),
.l 74 (.call (.c (.fn 25 [])) [.l 69, .l 70, .l 71, .l 73]),
.l 68 (.mv (.l 74)),
.l 75 (.ex (.l 68) 0),
.l 76 (.ex (.l 68) 1),
.g 16 (.new [.int .i64 0, .int .i64 0]),
.n (.st 2 (.g 16) (.l 75)),
.g 17 (.mv (.l 76))])
(.seq
(.seq
(.reg [
.l 77 (.mv (.g 17)),
.g 78 (.bin .neq (.l 77) (.i 0))])
(.cond (.g 78)
(.seq
(.reg [
.g 2 (.mv (.b false))])
.ret)
.skip))
(.draw [
.l 79 (.mv (.g 14)) 0,
.l 80 (.fa (.g 16) 1) 1,
.l 81 (.ld none (.l 80)) 2,
.l 82 (.mv (.g 11)) 3,
.l 83 (.ld (some 4) (.g 4)) 4,
.l 84 (.mv (.g 15)) 5,
.l 85 (.mv (.g 13)) 6,
.l 86 (.bin .add (.i 3) (.l 85)) 7,
.l 87 (.mv (.g 8)) 8,
.l 88 (.mv (.g 7)) 9,
.l 89 (.bin .add (.i 3) (.l 88)) 10,
.lf 90 (.call (.c (.fn 68 [])) [.l 83, .l 84, .l 86, .l 87, .l 89]) 11,
.l 91 (.bin .add (.l 82) (.l 90)) 12,
.l 92 (.mn [.l 81, .l 91]) 13,
.l 93 (.mks false 1 [.l 92]) 14,
.lf 94 (.app 1 8 (.l 79) (.l 93)) 15,
.g 14 (.mv (.l 94)) 16]))))
(.reg [
.l 66 (.mv (.g 15)),
.l 67 (.bin .add (.l 66) (.i 1)),
.g 15 (.mv (.l 67))]))))))
(.reg [
.l 95 (.mv (.g 12)),
.l 96 (.mv (.g 14)),
.l 97 (.mks false 1 [.l 96]),
.l 98 (.app 1 24 (.l 95) (.l 97)),
.g 12 (.mv (.l 98))]))))
(.reg [
.l 57 (.mv (.g 13)),
.l 58 (.bin .add (.l 57) (.i 1)),
.g 13 (.mv (.l 58))]))))))
(.seq
(.reg [
.l 100 (.ld (some 4) (.g 4)),
.l 101 (.mv (.g 6)),
.l 102 (.mv (.g 12)),
.l 103 (.call (.c (.fn 65 [])) [.l 100, .l 101, .i 3, .l 102]),
.l 99 (.mv (.l 103)),
.l 104 (.ex (.l 99) 0),
.l 105 (.ex (.l 99) 1),
.l 106 (.ex (.l 99) 2),
.g 18 (.mv (.l 104)),
.g 19 (.mv (.l 105)),
.g 20 (.mv (.l 106))])
(.seq
(.reg [
.l 107 (.mv (.g 20)),
.l 108 (.bin .eql (.l 107) (.i 0)),
.l 109 (.mv (.l 108)),
.lw 110 (.mv (.g 18)) (.l 109) true,
.lw 111 (.bin .eql (.l 110) (.i (-1))) (.l 109) true,
.l 112 (.pick (.l 109) (.l 111) (.b false)),
.l 113 (.mv (.l 112)),
.lw 114 (.mv (.g 19)) (.l 113) true,
.lw 115 (.bin .eql (.l 114) (.i (-1))) (.l 113) true,
.l 116 (.pick (.l 113) (.l 115) (.b false)),
.l 117 (.mv (.l 116)),
.lw 118 (.mv (.g 12)) (.l 117) true,
.lw 119 (.mv (.g 7)) (.l 117) true,
.lw 120 (.ia 1 (.l 118) (.l 119)) (.l 117) true,
.lw 121 (.ld none (.l 120)) (.l 117) true,
.lw 122 (.mv (.g 8)) (.l 117) true,
.lw 123 (.ia 1 (.l 121) (.l 122)) (.l 117) true,
.lw 124 (.ld none (.l 123)) (.l 117) true,
.lw 125 (.mv (.g 11)) (.l 117) true,
.lw 126 (.bin .eql (.l 124) (.l 125)) (.l 117) true,
.l 127 (.pick (.l 117) (.l 126) (.b false)),
.l 128 (.mv (.l 127)),
.lw 129 (.call (.c (.fn 28 [])) []) (.l 128) true,
.l 130 (.pick (.l 128) (.l 129) (.b false)),
.g 2 (.mv (.l 130))])
.ret)))))))))))
def K16 : List Nat := [0, 49, 56, 65, 78, 2, 3, 4, 5, 6, 7, 8, 9, 10, 11, 12, 13, 14, 15, 16, 17, 18, 19, 20]
noncomputable def b16 : Code := match Try.f16.body with | some c => c | none => .skip
theorem t16 : trCode ⟨Try.prog, K16, [], 131, none⟩ b16 = some c16 := by kernel_rfl
theorem go16 : GoS Try.prog 16 1 K16 [] 131 c16 [.t (.g 2)] := .mk Try.func16 (c := b16) rfl (by kernel_rfl) t16 rfl (by kernel_rfl) rfl rfl
end Go.Sas
