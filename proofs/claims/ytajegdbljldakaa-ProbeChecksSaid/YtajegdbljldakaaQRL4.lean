/-
The code of some functions with its types resolved, printed by a program; that it is the code is checked by the kernel.
Conditions: none.
-/
import Derived.Test.YtajegdbljldakaaP4
import Derived.Test.YtajegdbljldakaaProg
set_option linter.unusedVariables false
set_option linter.unusedSimpArgs false
namespace Go.Sas
open Go.Proofs
set_option maxRecDepth 100000
/-- sastrugi/sastrugilaw02.ProbeChecks -/
def c4 : ACode :=
  (.seq
(.reg [
.g 4 (.box (.g 0)),
.g 8 (.mv (.b false))])
(.seq
(.seq
(.reg [
.l 16 (.ld (some 4) (.g 4)),
.l 17 (.mv (.g 1)),
.l 18 (.mv (.g 2)),
.g 19 (.call (.c (.fn 29 [])) [.l 16, .l 17, .l 18])])
(.cond (.g 19)
(.seq
(.reg [
.l 20 (.call (.c (.fn 28 [])) []),
.g 8 (.mv (.l 20))])
.ret)
.skip))
(.seq
(.reg [
.l 21 (.mv (.g 3)),
.l 22 (.call (.c (.fn 17 [])) [.l 21]),
.g 9 (.mv (.l 22))])
(.seq
(.reg [
.l 23 (.mv (.g 9)),
.l 24 (.call (.c (.fn 30 [])) [.l 23, .i 8]),
.g 10 (.new [.slice none 0 0, .int .i64 0, .int .i64 0, .int .i64 0]),
.n (.st 4 (.g 10) (.l 24))])
(.seq
(.draw [
.l 25 (.mv (.g 9)) 0,
.l 26 (.mv (.g 9)) 1,
.l 27 (.ld (some 4) (.g 10)) 2,
.l 30 (.mv (.g 9)) 5,
.l 31 (.mv (.g 9)) 6,
.l 32 (.ld (some 4) (.g 10)) 7,
.lf 28 (.call (.c (.fn 31 [])) [.l 26, .l 27, .i 3, .i 4]) 3,
.lf 29 (.call (.c (.fn 20 [])) [.l 25, .i 3, .l 28, .i 3]) 4,
.lf 33 (.call (.c (.fn 31 [])) [.l 31, .l 32, .i 3, .i 4]) 8,
.lf 34 (.call (.c (.fn 20 [])) [.l 30, .i 3, .l 33, .i 2]) 9,
.lf 35 (.app 5 40 (.l 29) (.l 34)) 10,
.g 11 (.mv (.l 35)) 11])
(.seq
(.reg [
.l 36 (.ld (some 4) (.g 4)),
.l 37 (.call (.c (.fn 32 [])) [.l 36]),
.l 38 (.mks false 5 []),
.l 39 (.mv (.g 1)),
.l 40 (.app 5 40 (.l 38) (.l 39)),
.l 41 (.mks false 5 []),
.l 42 (.mv (.g 2)),
.l 43 (.app 5 40 (.l 41) (.l 42)),
.g 12 (.new [.slice none 0 0, .int .i64 0, .int .i64 0, .int .i64 0]),
.n (.st 4 (.g 12) (.l 37)),
.g 13 (.mv (.l 40)),
.g 14 (.mv (.l 43))])
(.seq
(.seq
(.draw [
.l 44 (.ld (some 4) (.g 12)) 0,
.l 46 (.ld (some 4) (.g 4)) 2,
.lf 45 (.call (.c (.fn 33 [])) [.l 44]) 1,
.lf 47 (.call (.c (.fn 34 [])) [.l 46]) 3,
.l 48 (.bin .neq (.l 45) (.l 47)) 4,
.l 49 (.mv (.l 48)) 5,
.lw 50 (.ld (some 4) (.g 12)) (.l 49) false 6,
.lw 51 (.mv (.g 13)) (.l 49) false 7,
.lw 53 (.ld (some 4) (.g 4)) (.l 49) false 9,
.lw 54 (.mv (.g 1)) (.l 49) false 10,
.lwf 52 (.call (.c (.fn 35 [])) [.l 50, .l 51]) (.l 49) false 8,
.lwf 55 (.call (.c (.fn 36 [])) [.l 53, .l 54]) (.l 49) false 11,
.lw 56 (.bin .neq (.l 52) (.l 55)) (.l 49) false 12,
.l 57 (.pick (.l 49) (.b true) (.l 56)) 13,
.l 58 (.mv (.l 57)) 14,
.lw 59 (.ld (some 4) (.g 12)) (.l 58) false 15,
.lw 60 (.mv (.g 14)) (.l 58) false 16,
.lw 62 (.ld (some 4) (.g 4)) (.l 58) false 18,
.lw 63 (.mv (.g 2)) (.l 58) false 19,
.lwf 61 (.call (.c (.fn 37 [])) [.l 59, .l 60]) (.l 58) false 17,
.lwf 64 (.call (.c (.fn 38 [])) [.l 62, .l 63]) (.l 58) false 20,
.lw 65 (.bin .neq (.l 61) (.l 64)) (.l 58) false 21,
.l 66 (.pick (.l 58) (.b true) (.l 65)) 22,
.l 67 (.mv (.l 66)) 23,
.lw 68 (.ld (some 4) (.g 10)) (.l 67) false 24,
.lw 69 (.mv (.g 11)) (.l 67) false 25,
.lw 71 (.ld (some 4) (.g 10)) (.l 67) false 27,
.lw 72 (.mv (.g 11)) (.l 67) false 28,
.lwf 70 (.call (.c (.fn 35 [])) [.l 68, .l 69]) (.l 67) false 26,
.lwf 73 (.call (.c (.fn 36 [])) [.l 71, .l 72]) (.l 67) false 29,
.lw 74 (.bin .neq (.l 70) (.l 73)) (.l 67) false 30,
.g 75 (.pick (.l 67) (.b true) (.l 74)) 31])
(.cond (.g 75)
(.seq
(.reg [
.g 8 (.mv (.b false))])
.ret)
.skip))
(.seq
(.seq
(.reg [
.g 15 (.mv (.i 0))])
(.block 0
(.loop
(.seq
(.seq
(.reg [
.l 76 (.mv (.g 15)),
.l 77 (.mv (.g 2)),
.l 78 (.len (.l 77)),
.g 79 (.bin .lss (.l 76) (.l 78))])
(.cond (.g 79)
.skip
(.exit 0)))
(.seq
(.block 1
(.seq
(.draw [
.l 82 (.mv (.g 14)) 0,
.l 83 (.mv (.g 15)) 1,
.l 84 (.ia 5 (.l 82) (.l 83)) 2,
.l 85 (.ld (some 5) (.l 84)) 3,
.l 86 (.mv (.g 2)) 4,
.l 87 (.mv (.g 15)) 5,
.l 88 (.ia 5 (.l 86) (.l 87)) 6,
.l 89 (.ld (some 5) (.l 88)) 7,
.g 90 (.eqs true (.fld 0 none .i (.fld 1 none .i (.fld 2 none .i (.fld 3 none .i (.fld 4 none .i .nil))))) (.l 85) (.l 89)) 8])
(.cond (.g 90)
(.seq
(.reg [
.g 8 (.mv (.b false))])
.ret)
.skip)))
(.reg [
.l 80 (.mv (.g 15)),
.l 81 (.bin .add (.l 80) (.i 1)),
.g 15 (.mv (.l 81))]))))))
(.seq
(.reg [
.l 91 (.ld (some 4) (.g 12)),
.l 92 (.ld (some 4) (.g 4)),
.l 93 (.call (.c (.fn 39 [])) [.l 91, .l 92]),
.l 94 (.mv (.l 93)),
.lw 95 (.mv (.g 13)) (.l 94) true,
.lw 96 (.mv (.g 1)) (.l 94) true,
.lw 97 (.call (.c (.fn 40 [])) [.l 95, .l 96]) (.l 94) true,
.l 98 (.pick (.l 94) (.l 97) (.b false)),
.l 99 (.mv (.l 98)),
.lw 100 (.call (.c (.fn 28 [])) []) (.l 99) true,
.l 101 (.pick (.l 99) (.l 100) (.b false)),
.g 8 (.mv (.l 101))])
.ret)))))))))
def K4 : List Nat := [0, 1, 2, 3, 19, 75, 79, 90, 8, 4, 9, 10, 11, 12, 13, 14, 15]
noncomputable def b4 : Code := match Try.f4.body with | some c => c | none => .skip
theorem t4 : trCode ⟨Try.prog, K4, [], 102, none⟩ b4 = some c4 := by kernel_rfl
theorem go4 : GoS Try.prog 4 4 K4 [] 102 c4 [.t (.g 8)] := .mk Try.func4 (c := b4) rfl (by kernel_rfl) t4 rfl (by kernel_rfl) rfl rfl
end Go.Sas
