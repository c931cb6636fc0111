/-
The code of some functions with its types resolved, printed by a program; that it is the code is checked by the kernel.
Conditions: none.
-/
import Derived.Test.YtajegdbljldakaaP4
import Derived.Test.YtajegdbljldakaaProg
set_option linter.unusedVariables false
set_option linter.unusedSimpArgs false
namespace Go.Sas
open Go.Proofs
set_option maxRecDepth 100000
/-- sastrugi/sastrugilaw02.ProbeTruth -/
def c15 : ACode :=
  (.seq
(.reg [
.g 2 (.mv (.b false))])
(.seq
(.reg [
.l 14 (.mv (.g 0)),
.l 15 (.call (.c (.fn 17 [])) [.l 14]),
.g 3 (.mv (.l 15))])
(.seq
(.reg [
.l 17 (.mv (.g 3)),
.l 18 (.call (.c (.fn 18 [])) [.l 17, .i 8, .i 5]),
.l 16 (.mv (.l 18)),
.l 19 (.ex (.l 16) 0),
.l 20 (.ex (.l 16) 1),
.l 21 (.ex (.l 16) 2),
.g 4 (.new [.slice none 0 0, .int .i64 0, .int .i64 0, .int .i64 0]),
.n (.st 4 (.g 4) (.l 19)),
.g 5 (.mv (.l 20)),
.g 6 (.mv (.l 21))])
(.seq
(.reg [
.l 23 (.ld (some 4) (.g 4)),
.l 24 (.mv (.g 6)),
.l 25 (.mv (.g 5)),
.l 26 (.call (.c (.fn 65 [])) [.l 23, .l 24, .i 3, .l 25]),
.l 22 (.mv (.l 26)),
.l 27 (.ex (.l 22) 0),
.l 28 (.ex (.l 22) 1),
.l 29 (.ex (.l 22) 2),
.g 7 (.mv (.l 27)),
.g 8 (.mv (.l 28)),
.g 9 (.mv (.l 29))])
(.seq
(.seq
(.reg [
.l 30 (.mv (.g 9)),
.l 31 (.bin .neq (.l 30) (.i 0)),
.l 32 (.mv (.l 31)),
.lw 33 (.mv (.g 7)) (.l 32) false,
.lw 34 (.bin .neq (.l 33) (.i (-1))) (.l 32) false,
.l 35 (.pick (.l 32) (.b true) (.l 34)),
.l 36 (.mv (.l 35)),
.lw 37 (.mv (.g 8)) (.l 36) false,
.lw 38 (.bin .neq (.l 37) (.i (-1))) (.l 36) false,
.g 39 (.pick (.l 36) (.b true) (.l 38))])
(.cond (.g 39)
(.seq
(.reg [
.g 2 (.mv (.b false))])
.ret)
.skip))
(.seq
(.seq
(.reg [
.g 10 (.mv (.i 0))])
(.block 0
(.loop
(.seq
(.seq
(.reg [
.l 40 (.mv (.g 10)),
.l 41 (.mv (.g 5)),
.l 42 (.len (.l 41)),
.g 43 (.bin .lss (.l 40) (.l 42))])
(.cond (.g 43)
.skip
(.exit 0)))
(.seq
(.block 1
(.seq
(.reg [
.g 11 (.mv (.i 0))])
(.block 2
(.loop
(.seq
(.seq
(.reg [
.l 46 (.mv (.g 11)),
.l 47 (.mv (.g 5)),
.l 48 (.mv (.g 10)),
.l 49 (.ia 1 (.l 47) (.l 48)),
.l 50 (.ld none (.l 49)),
.l 51 (.len (.l 50)),
.g 52 (.bin .lss (.l 46) (.l 51))])
(.cond (.g 52)
.skip
(.exit 2)))
(.seq
(.block 3
(.seq
(.reg [
.l 56 (.ld (some 4) (.g 4)),
.l 57 (.mv (.g 6)),
.l 58 (.mv (.g 11)),
.l 59 (.mv (.g 10)),
.l 60 (.bin .add (.i 3) (.l 59)),
.l 61 (.call (.c (.fn 25 [])) [.l 56, .l 57, .l 58, .l 60]),
.l 55 (.mv (.l 61)),
.l 62 (.ex (.l 55) 0),
.l 63 (.ex (.l 55) 1),
.g 12 (.new [.int .i64 0, .int .i64 0]),
.n (.st 2 (.g 12) (.l 62)),
.g 13 (.mv (.l 63))])
(.seq
(.draw [
.l 64 (.mv (.g 13)) 0,
.l 65 (.bin .neq (.l 64) (.i 0)) 1,
.l 66 (.mv (.l 65)) 2,
.lw 67 (.ld (some 2) (.g 12)) (.l 66) false 3,
.lw 68 (.mv (.g 5)) (.l 66) false 4,
.lw 69 (.mv (.g 10)) (.l 66) false 5,
.lw 70 (.ia 1 (.l 68) (.l 69)) (.l 66) false 6,
.lw 71 (.ld none (.l 70)) (.l 66) false 7,
.lw 72 (.mv (.g 11)) (.l 66) false 8,
.lw 73 (.ia 1 (.l 71) (.l 72)) (.l 66) false 9,
.lw 74 (.ld none (.l 73)) (.l 66) false 10,
.lwf 75 (.call (.c (.fn 50 [])) [.l 67, .l 74]) (.l 66) false 11,
.lw 76 (.un .not (.l 75)) (.l 66) false 12,
.g 77 (.pick (.l 66) (.b true) (.l 76)) 13])
(.cond (.g 77)
(.seq
(.reg [
.g 2 (.mv (.b false))])
.ret)
.skip))))
(.reg [
.l 53 (.mv (.g 11)),
.l 54 (.bin .add (.l 53) (.i 1)),
.g 11 (.mv (.l 54))])))))))
(.reg [
.l 44 (.mv (.g 10)),
.l 45 (.bin .add (.l 44) (.i 1)),
.g 10 (.mv (.l 45))]))))))
(.seq
(.reg [
.l 78 (.call (.c (.fn 28 [])) []),
.g 2 (.mv (.l 78))])
.ret)))))))
def K15 : List Nat := [0, 39, 43, 52, 77, 2, 3, 4, 5, 6, 7, 8, 9, 10, 11, 12, 13]
noncomputable def b15 : Code := match Try.f15.body with | some c => c | none => .skip
theorem t15 : trCode ⟨Try.prog, K15, [], 79, none⟩ b15 = some c15 := by kernel_rfl
theorem go15 : GoS Try.prog 15 1 K15 [] 79 c15 [.t (.g 2)] := .mk Try.func15 (c := b15) rfl (by kernel_rfl) t15 rfl (by kernel_rfl) rfl rfl
end Go.Sas
