/-
The code of some functions with its types resolved, printed by a program; that it is the code is checked by the kernel.
Conditions: none.
-/
import Derived.Test.YtelmlpjkpebcgaaH4
import Derived.Test.YtelmlpjkpebcgaaProg
set_option linter.unusedVariables false
set_option linter.unusedSimpArgs false
namespace Go.Sas
open Go.Proofs
set_option maxRecDepth 100000
/-- sastrugi/sastrugilaw03.BearKnown -/
def c17 : ACode :=
  (.seq
(.reg [
  ⟨(some (true, 0)), .mv (.c (.lit (.bool false))), none⟩])
(.seq
(.reg [
  ⟨(some (true, 1)), .new [.int .i64 0, .int .i64 0, .slice none 0 0, .slice none 0 0, .int .i64 0, .int .i64 0, .int .i64 0, .int .i64 0, .int .i64 0, .int .i64 0, .int .i64 0, .int .i64 0, .int .i64 0, .slice none 0 0, .slice none 0 0, .int .i64 0, .int .i64 0, .int .i64 0, .int .i64 0, .int .i64 0, .int .i64 0, .int .i64 0, .int .i64 0, .int .i64 0, .slice none 0 0, .slice none 0 0, .int .i64 0, .int .i64 0, .int .i64 0, .int .i64 0, .int .i64 0, .int .i64 0, .int .i64 0, .int .i64 0, .int .i64 0, .slice none 0 0, .slice none 0 0, .int .i64 0, .int .i64 0, .int .i64 0, .int .i64 0, .int .i64 0, .int .i64 0, .int .i64 0], none⟩])
(.seq
(.seq
(.reg [
  ⟨(some (true, 2)), .mv (.c (.lit (.int .i64 0))), none⟩])
(.block 0
(.loop
(.seq
(.seq
(.reg [
  ⟨(some (false, 15)), .mv (.g 2), none⟩,
  ⟨(some (true, 16)), .bin .lss (.l 15) (.c (.lit (.int .i64 4))), none⟩])
(.cond (.g 16)
.skip
(.exit 0)))
(.seq
(.block 1
(.reg [
  ⟨(some (false, 19)), .mv (.g 2), none⟩,
  ⟨(some (false, 20)), .call (.c (.fn 79 [])) [], none⟩,
  ⟨(some (false, 21)), .iaa 4 11 (.g 1) (.l 19), none⟩,
  ⟨none, .st 11 (.l 21) (.l 20), none⟩]))
(.reg [
  ⟨(some (false, 17)), .mv (.g 2), none⟩,
  ⟨(some (false, 18)), .bin .add (.l 17) (.c (.lit (.int .i64 1))), none⟩,
  ⟨(some (true, 2)), .mv (.l 18), none⟩]))))))
(.seq
(.draw [
  ⟨⟨(some (false, 22)), .iaa 4 11 (.g 1) (.c (.lit (.int .i64 2))), none⟩, 0, true, []⟩,
  ⟨⟨(some (false, 23)), .fa (.l 22) 2, none⟩, 1, true, []⟩,
  ⟨⟨(some (false, 24)), .ld none (.l 23), none⟩, 2, true, []⟩,
  ⟨⟨(some (false, 25)), .call (.c (.fn 51 [])) [.c (.lit (.int .i64 0)), .c (.lit (.int .i64 1))], none⟩, 3, false, []⟩,
  ⟨⟨(some (false, 26)), .iaa 4 11 (.g 1) (.c (.lit (.int .i64 0))), none⟩, 4, true, []⟩,
  ⟨⟨(some (false, 27)), .fa (.l 26) 0, none⟩, 5, true, []⟩,
  ⟨⟨none, .st 2 (.l 27) (.l 25), none⟩, 6, false, []⟩,
  ⟨⟨(some (false, 28)), .iaa 4 11 (.g 1) (.c (.lit (.int .i64 1))), none⟩, 7, false, []⟩,
  ⟨⟨(some (false, 29)), .fa (.l 28) 2, none⟩, 8, false, []⟩,
  ⟨⟨none, .st 1 (.l 29) (.c (.lit (.slice none 0 0))), none⟩, 9, false, []⟩,
  ⟨⟨(some (false, 30)), .ia 2 (.l 24) (.c (.lit (.int .i64 0))), none⟩, 10, false, []⟩,
  ⟨⟨(some (false, 31)), .fa (.l 30) 1, none⟩, 11, false, []⟩,
  ⟨⟨none, .st 1 (.l 31) (.c (.lit (.int .i64 999999))), none⟩, 12, false, []⟩,
  ⟨⟨(some (false, 32)), .iaa 4 11 (.g 1) (.c (.lit (.int .i64 3))), none⟩, 13, false, []⟩,
  ⟨⟨(some (false, 33)), .fa (.l 32) 7, none⟩, 14, false, []⟩,
  ⟨⟨none, .st 1 (.l 33) (.c (.lit (.int .i64 1440001))), none⟩, 15, true, []⟩])
(.seq
(.reg [
  ⟨(some (false, 34)), .mks false 1 [.c (.lit (.int .i64 2)), .c (.lit (.int .i64 6)), .c (.lit (.int .i64 3)), .c (.lit (.int .i64 11))], none⟩,
  ⟨(some (true, 3)), .mv (.l 34), none⟩])
(.seq
(.seq
(.reg [
  ⟨(some (true, 4)), .mv (.c (.lit (.int .i64 0))), none⟩])
(.block 2
(.loop
(.seq
(.seq
(.reg [
  ⟨(some (false, 35)), .mv (.g 4), none⟩,
  ⟨(some (true, 36)), .bin .lss (.l 35) (.c (.lit (.int .i64 4))), none⟩])
(.cond (.g 36)
.skip
(.exit 2)))
(.seq
(.block 3
(.seq
(.draw [
  ⟨⟨(some (false, 39)), .mv (.g 4), none⟩, 0, true, []⟩,
  ⟨⟨(some (false, 40)), .iaa 4 11 (.g 1) (.l 39), none⟩, 1, true, []⟩,
  ⟨⟨(some (false, 41)), .ld (some 11) (.l 40), none⟩, 2, true, []⟩,
  ⟨⟨(some (false, 43)), .mv (.g 3), none⟩, 4, true, []⟩,
  ⟨⟨(some (false, 44)), .mv (.g 4), none⟩, 5, true, []⟩,
  ⟨⟨(some (false, 45)), .ia 1 (.l 43) (.l 44), none⟩, 6, true, []⟩,
  ⟨⟨(some (false, 46)), .ld none (.l 45), none⟩, 7, true, []⟩,
  ⟨⟨(some (false, 42)), .call (.c (.fn 59 [])) [.l 41], none⟩, 3, false, []⟩,
  ⟨⟨(some (true, 47)), .bin .neq (.l 42) (.l 46), none⟩, 8, true, []⟩])
(.cond (.g 47)
(.seq
(.reg [
  ⟨(some (true, 0)), .mv (.c (.lit (.bool false))), none⟩])
.ret)
.skip)))
(.reg [
  ⟨(some (false, 37)), .mv (.g 4), none⟩,
  ⟨(some (false, 38)), .bin .add (.l 37) (.c (.lit (.int .i64 1))), none⟩,
  ⟨(some (true, 4)), .mv (.l 38), none⟩]))))))
(.seq
(.reg [
  ⟨(some (false, 49)), .call (.c (.fn 79 [])) [], none⟩,
  ⟨(some (false, 50)), .call (.c (.fn 54 [])) [.l 49, .c (.lit (.int .i64 500)), .c (.lit (.int .i64 59))], none⟩,
  ⟨(some (false, 48)), .mv (.l 50), none⟩,
  ⟨(some (false, 51)), .ex (.l 48) 0, none⟩,
  ⟨(some (false, 52)), .ex (.l 48) 1, none⟩,
  ⟨(some (true, 5)), .mv (.l 51), none⟩,
  ⟨(some (true, 6)), .mv (.l 52), none⟩])
(.seq
(.reg [
  ⟨(some (false, 54)), .call (.c (.fn 79 [])) [], none⟩,
  ⟨(some (false, 55)), .call (.c (.fn 55 [])) [.l 54, .c (.lit (.int .i64 10001)), .c (.lit (.int .i64 0))], none⟩,
  ⟨(some (false, 53)), .mv (.l 55), none⟩,
  ⟨(some (false, 56)), .ex (.l 53) 0, none⟩,
  ⟨(some (false, 57)), .ex (.l 53) 1, none⟩,
  ⟨(some (true, 7)), .mv (.l 56), none⟩,
  ⟨(some (true, 8)), .mv (.l 57), none⟩])
(.seq
(.reg [
  ⟨(some (false, 59)), .call (.c (.fn 79 [])) [], none⟩,
  ⟨(some (false, 60)), .call (.c (.fn 55 [])) [.l 59, .c (.lit (.int .i64 200000)), .c (.lit (.int .i64 600))], none⟩,
  ⟨(some (false, 58)), .mv (.l 60), none⟩,
  ⟨(some (false, 61)), .ex (.l 58) 0, none⟩,
  ⟨(some (false, 62)), .ex (.l 58) 1, none⟩,
  ⟨(some (true, 9)), .mv (.l 61), none⟩,
  ⟨(some (true, 10)), .mv (.l 62), none⟩])
(.seq
(.reg [
  ⟨(some (false, 64)), .call (.c (.fn 79 [])) [], none⟩,
  ⟨(some (false, 65)), .call (.c (.fn 57 [])) [.l 64, .c (.lit (.int .i64 500)), .c (.lit (.int .i64 6400))], none⟩,
  ⟨(some (false, 63)), .mv (.l 65), none⟩,
  ⟨(some (false, 66)), .ex (.l 63) 0, none⟩,
  ⟨(some (false, 67)), .ex (.l 63) 1, none⟩,
  ⟨(some (true, 11)), .mv (.l 66), none⟩,
  ⟨(some (true, 12)), .mv (.l 67), none⟩])
(.seq
(.reg [
  ⟨(some (false, 69)), .call (.c (.fn 79 [])) [], none⟩,
  ⟨(some (false, 70)), .call (.c (.fn 57 [])) [.l 69, .c (.lit (.int .i64 500)), .c (.lit (.int .i64 10001))], none⟩,
  ⟨(some (false, 68)), .mv (.l 70), none⟩,
  ⟨(some (false, 71)), .ex (.l 68) 0, none⟩,
  ⟨(some (false, 72)), .ex (.l 68) 1, none⟩,
  ⟨(some (true, 13)), .mv (.l 71), none⟩,
  ⟨(some (true, 14)), .mv (.l 72), none⟩])
(.seq
(.reg [
  ⟨(some (false, 73)), .call (.c (.fn 19 [])) [], none⟩,
  ⟨(some (false, 74)), .mv (.l 73), none⟩,
  ⟨(some (false, 75)), .call (.c (.fn 79 [])) [], (some (.l 74, true))⟩,
  ⟨(some (false, 76)), .call (.c (.fn 59 [])) [.l 75], (some (.l 74, true))⟩,
  ⟨(some (false, 77)), .bin .eql (.l 76) (.c (.lit (.int .i64 0))), (some (.l 74, true))⟩,
  ⟨(some (false, 78)), .pick (.l 74) (.l 77) (.c (.lit (.bool false))), none⟩,
  ⟨(some (false, 79)), .mv (.l 78), none⟩,
  ⟨(some (false, 80)), .mv (.g 6), (some (.l 79, true))⟩,
  ⟨(some (false, 81)), .bin .eql (.l 80) (.c (.lit (.int .i64 0))), (some (.l 79, true))⟩,
  ⟨(some (false, 82)), .pick (.l 79) (.l 81) (.c (.lit (.bool false))), none⟩,
  ⟨(some (false, 83)), .mv (.l 82), none⟩,
  ⟨(some (false, 84)), .mv (.g 8), (some (.l 83, true))⟩,
  ⟨(some (false, 85)), .bin .eql (.l 84) (.c (.lit (.int .i64 0))), (some (.l 83, true))⟩,
  ⟨(some (false, 86)), .pick (.l 83) (.l 85) (.c (.lit (.bool false))), none⟩,
  ⟨(some (false, 87)), .mv (.l 86), none⟩,
  ⟨(some (false, 88)), .mv (.g 10), (some (.l 87, true))⟩,
  ⟨(some (false, 89)), .bin .eql (.l 88) (.c (.lit (.int .i64 0))), (some (.l 87, true))⟩,
  ⟨(some (false, 90)), .pick (.l 87) (.l 89) (.c (.lit (.bool false))), none⟩,
  ⟨(some (false, 91)), .mv (.l 90), none⟩,
  ⟨(some (false, 92)), .mv (.g 12), (some (.l 91, true))⟩,
  ⟨(some (false, 93)), .bin .eql (.l 92) (.c (.lit (.int .i64 0))), (some (.l 91, true))⟩,
  ⟨(some (false, 94)), .pick (.l 91) (.l 93) (.c (.lit (.bool false))), none⟩,
  ⟨(some (false, 95)), .mv (.l 94), none⟩,
  ⟨(some (false, 96)), .mv (.g 14), (some (.l 95, true))⟩,
  ⟨(some (false, 97)), .bin .eql (.l 96) (.c (.lit (.int .i64 0))), (some (.l 95, true))⟩,
  ⟨(some (false, 98)), .pick (.l 95) (.l 97) (.c (.lit (.bool false))), none⟩,
  ⟨(some (false, 99)), .mv (.l 98), none⟩,
  ⟨(some (false, 100)), .mv (.g 5), (some (.l 99, true))⟩,
  ⟨(some (false, 101)), .bin .eql (.l 100) (.c (.lit (.int .i64 10000))), (some (.l 99, true))⟩,
  ⟨(some (false, 102)), .pick (.l 99) (.l 101) (.c (.lit (.bool false))), none⟩,
  ⟨(some (false, 103)), .mv (.l 102), none⟩,
  ⟨(some (false, 104)), .mv (.g 7), (some (.l 103, true))⟩,
  ⟨(some (false, 105)), .bin .eql (.l 104) (.c (.lit (.int .i64 501))), (some (.l 103, true))⟩,
  ⟨(some (false, 106)), .pick (.l 103) (.l 105) (.c (.lit (.bool false))), none⟩,
  ⟨(some (false, 107)), .mv (.l 106), none⟩,
  ⟨(some (false, 108)), .mv (.g 9), (some (.l 107, true))⟩,
  ⟨(some (false, 109)), .bin .eql (.l 108) (.c (.lit (.int .i64 4473))), (some (.l 107, true))⟩,
  ⟨(some (false, 110)), .pick (.l 107) (.l 109) (.c (.lit (.bool false))), none⟩,
  ⟨(some (false, 111)), .mv (.l 110), none⟩,
  ⟨(some (false, 112)), .mv (.g 11), (some (.l 111, true))⟩,
  ⟨(some (false, 113)), .bin .eql (.l 112) (.c (.lit (.int .i64 599))), (some (.l 111, true))⟩,
  ⟨(some (false, 114)), .pick (.l 111) (.l 113) (.c (.lit (.bool false))), none⟩,
  ⟨(some (false, 115)), .mv (.l 114), none⟩,
  ⟨(some (false, 116)), .mv (.g 13), (some (.l 115, true))⟩,
  ⟨(some (false, 117)), .bin .eql (.l 116) (.c (.lit (.int .i64 (-1)))), (some (.l 115, true))⟩,
  ⟨(some (false, 118)), .pick (.l 115) (.l 117) (.c (.lit (.bool false))), none⟩,
  ⟨(some (false, 119)), .mv (.l 118), none⟩,
  ⟨(some (false, 120)), .call (.c (.fn 80 [])) [], (some (.l 119, true))⟩,
  ⟨(some (false, 121)), .pick (.l 119) (.l 120) (.c (.lit (.bool false))), none⟩,
  ⟨(some (false, 122)), .mv (.l 121), none⟩,
  ⟨(some (false, 123)), .call (.c (.fn 81 [])) [], (some (.l 122, true))⟩,
  ⟨(some (false, 124)), .pick (.l 122) (.l 123) (.c (.lit (.bool false))), none⟩,
  ⟨(some (false, 125)), .mv (.l 124), none⟩,
  ⟨(some (false, 126)), .call (.c (.fn 82 [])) [], (some (.l 125, true))⟩,
  ⟨(some (false, 127)), .pick (.l 125) (.l 126) (.c (.lit (.bool false))), none⟩,
  ⟨(some (true, 0)), .mv (.l 127), none⟩])
.ret))))))))))))
def K17 : List Nat := [16, 36, 47, 0, 1, 2, 3, 4, 5, 6, 7, 8, 9, 10, 11, 12, 13, 14]
noncomputable def b17 : Code := match Try.f17.body with | some c => c | none => .skip
theorem t17 : trCode ⟨Try.prog, K17, [], 128, none⟩ b17 = some c17 := by kernel_rfl
theorem go17 {args : List AV} {H : AHeap} {Kk : AV → AHeap → Prop} (hn : args.length = 0) (h : AGo ⟨Try.prog, K17, [], 128, none⟩ H.length [.code c17] (RetP [.t (.g 0)] H.length Kk) ⟨[], argsG 0 args⟩ H) : ACalls Try.prog 17 args H Kk :=
  ACalls_of Try.func17 (c := b17) rfl (by kernel_rfl) t17 (rs := [.t (.g 0)]) (by kernel_rfl) (by rw [hn]; exact Nat.le_of_ble_eq_true rfl) (by rw [hn]; rfl) (h.weaken (fun _ _ => RetP.hands) (by simp))

/-- sastrugi/sastrugilaw03.holds -/
def c80 : ACode :=
  (.seq
(.reg [
  ⟨(some (true, 0)), .mv (.c (.lit (.bool false))), none⟩])
(.seq
(.reg [
  ⟨(some (false, 13)), .call (.c (.fn 61 [])) [.c (.lit (.int .i64 10000))], none⟩,
  ⟨(some (false, 14)), .mks false 1 [.c (.lit (.int .i64 50))], none⟩,
  ⟨(some (false, 15)), .call (.c (.fn 44 [])) [.l 13, .l 14], none⟩,
  ⟨(some (false, 16)), .call (.c (.fn 51 [])) [.c (.lit (.int .i64 10000)), .c (.lit (.int .i64 12500))], none⟩,
  ⟨(some (false, 17)), .mks false 1 [.c (.lit (.int .i64 50))], none⟩,
  ⟨(some (false, 18)), .call (.c (.fn 44 [])) [.l 16, .l 17], none⟩,
  ⟨(some (false, 19)), .call (.c (.fn 51 [])) [.c (.lit (.int .i64 12501)), .c (.lit (.int .i64 12600))], none⟩,
  ⟨(some (false, 20)), .mks false 1 [.c (.lit (.int .i64 50))], none⟩,
  ⟨(some (false, 21)), .call (.c (.fn 44 [])) [.l 19, .l 20], none⟩,
  ⟨(some (false, 22)), .call (.c (.fn 61 [])) [.c (.lit (.int .i64 8000))], none⟩,
  ⟨(some (false, 23)), .mks false 1 [.c (.lit (.int .i64 10)), .c (.lit (.int .i64 40))], none⟩,
  ⟨(some (false, 24)), .call (.c (.fn 44 [])) [.l 22, .l 23], none⟩,
  ⟨(some (false, 25)), .call (.c (.fn 61 [])) [.c (.lit (.int .i64 8000))], none⟩,
  ⟨(some (false, 26)), .mks false 1 [.c (.lit (.int .i64 10)), .c (.lit (.int .i64 99))], none⟩,
  ⟨(some (false, 27)), .call (.c (.fn 44 [])) [.l 25, .l 26], none⟩,
  ⟨(some (false, 28)), .mks false 1 [.l 15, .l 18, .l 21, .l 24, .l 27], none⟩,
  ⟨(some (true, 1)), .mv (.l 28), none⟩])
(.seq
(.reg [
  ⟨(some (false, 29)), .mks false 1 [.c (.lit (.int .i64 1))], none⟩,
  ⟨(some (false, 30)), .mks false 1 [.c (.lit (.int .i64 3))], none⟩,
  ⟨(some (false, 31)), .mks false 1 [.c (.lit (.int .i64 2))], none⟩,
  ⟨(some (false, 32)), .mks false 1 [.c (.lit (.int .i64 3)), .c (.lit (.int .i64 3))], none⟩,
  ⟨(some (false, 33)), .mks false 1 [.c (.lit (.int .i64 3)), .c (.lit (.int .i64 3))], none⟩,
  ⟨(some (false, 34)), .mks false 1 [.l 29, .l 30, .l 31, .l 32, .l 33], none⟩,
  ⟨(some (true, 2)), .mv (.l 34), none⟩])
(.seq
(.seq
(.reg [
  ⟨(some (true, 3)), .mv (.c (.lit (.int .i64 0))), none⟩])
(.block 0
(.loop
(.seq
(.seq
(.reg [
  ⟨(some (false, 35)), .mv (.g 3), none⟩,
  ⟨(some (false, 36)), .mv (.g 1), none⟩,
  ⟨(some (false, 37)), .len (.l 36), none⟩,
  ⟨(some (true, 38)), .bin .lss (.l 35) (.l 37), none⟩])
(.cond (.g 38)
.skip
(.exit 0)))
(.seq
(.block 1
(.seq
(.draw [
  ⟨⟨(some (false, 45)), .mv (.g 1), none⟩, 3, true, []⟩,
  ⟨⟨(some (false, 46)), .mv (.g 3), none⟩, 4, true, []⟩,
  ⟨⟨(some (false, 47)), .ia 1 (.l 45) (.l 46), none⟩, 5, true, []⟩,
  ⟨⟨(some (false, 48)), .ld none (.l 47), none⟩, 6, true, []⟩,
  ⟨⟨(some (false, 42)), .call (.c (.fn 79 [])) [], none⟩, 0, false, []⟩,
  ⟨⟨(some (false, 43)), .call (.c (.fn 61 [])) [.c (.lit (.int .i64 500))], none⟩, 1, false, []⟩,
  ⟨⟨(some (false, 44)), .mks false 2 [.l 43], none⟩, 2, true, []⟩,
  ⟨⟨(some (false, 49)), .call (.c (.fn 25 [])) [.l 42, .l 44, .c (.lit (.slice none 0 0)), .l 48], none⟩, 7, false, []⟩,
  ⟨⟨(some (false, 41)), .mv (.l 49), none⟩, 8, true, []⟩,
  ⟨⟨(some (false, 50)), .ex (.l 41) 0, none⟩, 9, true, []⟩,
  ⟨⟨(some (false, 51)), .ex (.l 41) 1, none⟩, 10, true, []⟩,
  ⟨⟨(some (true, 4)), .mv (.l 50), none⟩, 11, true, []⟩,
  ⟨⟨(some (true, 5)), .mv (.l 51), none⟩, 12, true, []⟩])
(.seq
(.reg [
  ⟨(some (false, 52)), .mv (.g 5), none⟩,
  ⟨(some (false, 53)), .bin .neq (.l 52) (.c (.lit (.int .i64 0))), none⟩,
  ⟨(some (false, 54)), .mv (.l 53), none⟩,
  ⟨(some (false, 55)), .mv (.g 4), (some (.l 54, false))⟩,
  ⟨(some (false, 56)), .mv (.g 2), (some (.l 54, false))⟩,
  ⟨(some (false, 57)), .mv (.g 3), (some (.l 54, false))⟩,
  ⟨(some (false, 58)), .ia 1 (.l 56) (.l 57), (some (.l 54, false))⟩,
  ⟨(some (false, 59)), .ld none (.l 58), (some (.l 54, false))⟩,
  ⟨(some (false, 60)), .call (.c (.fn 27 [])) [.l 55, .l 59], (some (.l 54, false))⟩,
  ⟨(some (false, 61)), .un .not (.l 60), (some (.l 54, false))⟩,
  ⟨(some (true, 62)), .pick (.l 54) (.c (.lit (.bool true))) (.l 61), none⟩])
(.cond (.g 62)
(.seq
(.reg [
  ⟨(some (true, 0)), .mv (.c (.lit (.bool false))), none⟩])
.ret)
.skip))))
(.reg [
  ⟨(some (false, 39)), .mv (.g 3), none⟩,
  ⟨(some (false, 40)), .bin .add (.l 39) (.c (.lit (.int .i64 1))), none⟩,
  ⟨(some (true, 3)), .mv (.l 40), none⟩]))))))
(.seq
(.reg [
  ⟨(some (false, 63)), .mks false 1 [.c (.lit (.int .i64 50)), .c (.lit (.int .i64 35)), .c (.lit (.int .i64 34))], none⟩,
  ⟨(some (false, 64)), .mks false 1 [.c (.lit (.int .i64 1)), .c (.lit (.int .i64 2)), .c (.lit (.int .i64 3))], none⟩,
  ⟨(some (true, 6)), .mv (.l 63), none⟩,
  ⟨(some (true, 7)), .mv (.l 64), none⟩])
(.seq
(.seq
(.reg [
  ⟨(some (true, 8)), .mv (.c (.lit (.int .i64 0))), none⟩])
(.block 2
(.loop
(.seq
(.seq
(.reg [
  ⟨(some (false, 65)), .mv (.g 8), none⟩,
  ⟨(some (false, 66)), .mv (.g 6), none⟩,
  ⟨(some (false, 67)), .len (.l 66), none⟩,
  ⟨(some (true, 68)), .bin .lss (.l 65) (.l 67), none⟩])
(.cond (.g 68)
.skip
(.exit 2)))
(.seq
(.block 3
(.seq
(.draw [
  ⟨⟨(some (false, 78)), .mv (.g 6), none⟩, 6, true, []⟩,
  ⟨⟨(some (false, 79)), .mv (.g 8), none⟩, 7, true, []⟩,
  ⟨⟨(some (false, 80)), .ia 1 (.l 78) (.l 79), none⟩, 8, true, []⟩,
  ⟨⟨(some (false, 81)), .ld none (.l 80), none⟩, 9, true, []⟩,
  ⟨⟨(some (false, 82)), .mks false 1 [.l 81], none⟩, 10, true, []⟩,
  ⟨⟨(some (false, 72)), .call (.c (.fn 79 [])) [], none⟩, 0, false, []⟩,
  ⟨⟨(some (false, 73)), .call (.c (.fn 61 [])) [.c (.lit (.int .i64 500))], none⟩, 1, false, []⟩,
  ⟨⟨(some (false, 74)), .mks false 2 [.l 73], none⟩, 2, true, []⟩,
  ⟨⟨(some (false, 75)), .call (.c (.fn 51 [])) [.c (.lit (.int .i64 30)), .c (.lit (.int .i64 40))], none⟩, 3, false, []⟩,
  ⟨⟨(some (false, 76)), .mks false 2 [.l 75], none⟩, 4, true, []⟩,
  ⟨⟨(some (false, 77)), .call (.c (.fn 61 [])) [.c (.lit (.int .i64 5000))], none⟩, 5, false, []⟩,
  ⟨⟨(some (false, 83)), .call (.c (.fn 44 [])) [.l 77, .l 82], none⟩, 11, false, []⟩,
  ⟨⟨(some (false, 84)), .call (.c (.fn 25 [])) [.l 72, .l 74, .l 76, .l 83], none⟩, 12, false, []⟩,
  ⟨⟨(some (false, 71)), .mv (.l 84), none⟩, 13, true, []⟩,
  ⟨⟨(some (false, 85)), .ex (.l 71) 0, none⟩, 14, true, []⟩,
  ⟨⟨(some (false, 86)), .ex (.l 71) 1, none⟩, 15, true, []⟩,
  ⟨⟨(some (true, 9)), .mv (.l 85), none⟩, 16, true, []⟩,
  ⟨⟨(some (true, 10)), .mv (.l 86), none⟩, 17, true, []⟩])
(.seq
(.reg [
  ⟨(some (false, 87)), .mv (.g 10), none⟩,
  ⟨(some (false, 88)), .bin .neq (.l 87) (.c (.lit (.int .i64 0))), none⟩,
  ⟨(some (false, 89)), .mv (.l 88), none⟩,
  ⟨(some (false, 90)), .mv (.g 9), (some (.l 89, false))⟩,
  ⟨(some (false, 91)), .mv (.g 7), (some (.l 89, false))⟩,
  ⟨(some (false, 92)), .mv (.g 8), (some (.l 89, false))⟩,
  ⟨(some (false, 93)), .mv (.g 8), (some (.l 89, false))⟩,
  ⟨(some (false, 94)), .bin .add (.l 93) (.c (.lit (.int .i64 1))), (some (.l 89, false))⟩,
  ⟨(some (false, 95)), .sl 1 (.l 91) (some (.l 92)) (some (.l 94)) none, (some (.l 89, false))⟩,
  ⟨(some (false, 96)), .call (.c (.fn 27 [])) [.l 90, .l 95], (some (.l 89, false))⟩,
  ⟨(some (false, 97)), .un .not (.l 96), (some (.l 89, false))⟩,
  ⟨(some (true, 98)), .pick (.l 89) (.c (.lit (.bool true))) (.l 97), none⟩])
(.cond (.g 98)
(.seq
(.reg [
  ⟨(some (true, 0)), .mv (.c (.lit (.bool false))), none⟩])
.ret)
.skip))))
(.reg [
  ⟨(some (false, 69)), .mv (.g 8), none⟩,
  ⟨(some (false, 70)), .bin .add (.l 69) (.c (.lit (.int .i64 1))), none⟩,
  ⟨(some (true, 8)), .mv (.l 70), none⟩]))))))
(.seq
(.reg [
  ⟨(some (false, 100)), .call (.c (.fn 79 [])) [], none⟩,
  ⟨(some (false, 101)), .call (.c (.fn 61 [])) [.c (.lit (.int .i64 500))], none⟩,
  ⟨(some (false, 102)), .call (.c (.fn 51 [])) [.c (.lit (.int .i64 400)), .c (.lit (.int .i64 600))], none⟩,
  ⟨(some (false, 103)), .mks false 2 [.l 101, .l 102], none⟩,
  ⟨(some (false, 104)), .call (.c (.fn 61 [])) [.c (.lit (.int .i64 150))], none⟩,
  ⟨(some (false, 105)), .mks false 2 [.l 104], none⟩,
  ⟨(some (false, 106)), .call (.c (.fn 61 [])) [.c (.lit (.int .i64 10000))], none⟩,
  ⟨(some (false, 107)), .call (.c (.fn 42 [])) [.l 100, .l 103, .l 105, .l 106], none⟩,
  ⟨(some (false, 99)), .mv (.l 107), none⟩,
  ⟨(some (false, 108)), .ex (.l 99) 0, none⟩,
  ⟨(some (false, 109)), .ex (.l 99) 1, none⟩,
  ⟨(some (true, 11)), .mv (.l 108), none⟩,
  ⟨(some (true, 12)), .mv (.l 109), none⟩])
(.seq
(.reg [
  ⟨(some (false, 110)), .mv (.g 12), none⟩,
  ⟨(some (false, 111)), .bin .eql (.l 110) (.c (.lit (.int .i64 0))), none⟩,
  ⟨(some (false, 112)), .mv (.l 111), none⟩,
  ⟨(some (false, 113)), .mv (.g 11), (some (.l 112, true))⟩,
  ⟨(some (false, 114)), .mks false 1 [.c (.lit (.int .i64 1)), .c (.lit (.int .i64 3))], (some (.l 112, true))⟩,
  ⟨(some (false, 115)), .call (.c (.fn 27 [])) [.l 113, .l 114], (some (.l 112, true))⟩,
  ⟨(some (false, 116)), .pick (.l 112) (.l 115) (.c (.lit (.bool false))), none⟩,
  ⟨(some (true, 0)), .mv (.l 116), none⟩])
.ret))))))))
def K80 : List Nat := [38, 62, 68, 98, 0, 1, 2, 3, 4, 5, 6, 7, 8, 9, 10, 11, 12]
noncomputable def b80 : Code := match Try.f80.body with | some c => c | none => .skip
theorem t80 : trCode ⟨Try.prog, K80, [], 117, none⟩ b80 = some c80 := by kernel_rfl
theorem go80 {args : List AV} {H : AHeap} {Kk : AV → AHeap → Prop} (hn : args.length = 0) (h : AGo ⟨Try.prog, K80, [], 117, none⟩ H.length [.code c80] (RetP [.t (.g 0)] H.length Kk) ⟨[], argsG 0 args⟩ H) : ACalls Try.prog 80 args H Kk :=
  ACalls_of Try.func80 (c := b80) rfl (by kernel_rfl) t80 (rs := [.t (.g 0)]) (by kernel_rfl) (by rw [hn]; exact Nat.le_of_ble_eq_true rfl) (by rw [hn]; rfl) (h.weaken (fun _ _ => RetP.hands) (by simp))

/-- sastrugi/sastrugilaw03.gaps -/
def c81 : ACode :=
  (.seq
(.reg [
  ⟨(some (true, 0)), .mv (.c (.lit (.bool false))), none⟩])
(.seq
(.reg [
  ⟨(some (false, 7)), .mks false 1 [.c (.lit (.int .i64 500)), .c (.lit (.int .i64 500)), .c (.lit (.int .i64 700))], none⟩,
  ⟨(some (false, 8)), .call (.c (.fn 61 [])) [.c (.lit (.int .i64 8000))], none⟩,
  ⟨(some (false, 9)), .call (.c (.fn 61 [])) [.c (.lit (.int .i64 8000))], none⟩,
  ⟨(some (false, 10)), .mks false 2 [.l 8, .l 9], none⟩,
  ⟨(some (false, 11)), .call (.c (.fn 61 [])) [.c (.lit (.int .i64 10001))], none⟩,
  ⟨(some (false, 12)), .mks false 2 [.l 11], none⟩,
  ⟨(some (false, 13)), .call (.c (.fn 61 [])) [.c (.lit (.int .i64 8000))], none⟩,
  ⟨(some (false, 14)), .call (.c (.fn 61 [])) [.c (.lit (.int .i64 8000))], none⟩,
  ⟨(some (false, 15)), .call (.c (.fn 61 [])) [.c (.lit (.int .i64 8000))], none⟩,
  ⟨(some (false, 16)), .mks false 2 [.l 13, .l 14, .l 15], none⟩,
  ⟨(some (false, 17)), .mks false 1 [.l 10, .l 12, .l 16], none⟩,
  ⟨(some (false, 18)), .mks false 1 [.c (.lit (.int .i64 100)), .c (.lit (.int .i64 (-1))), .c (.lit (.int .i64 20))], none⟩,
  ⟨(some (true, 1)), .mv (.l 7), none⟩,
  ⟨(some (true, 2)), .mv (.l 17), none⟩,
  ⟨(some (true, 3)), .mv (.l 18), none⟩])
(.seq
(.seq
(.reg [
  ⟨(some (true, 4)), .mv (.c (.lit (.int .i64 0))), none⟩])
(.block 0
(.loop
(.seq
(.seq
(.reg [
  ⟨(some (false, 19)), .mv (.g 4), none⟩,
  ⟨(some (false, 20)), .mv (.g 3), none⟩,
  ⟨(some (false, 21)), .len (.l 20), none⟩,
  ⟨(some (true, 22)), .bin .lss (.l 19) (.l 21), none⟩])
(.cond (.g 22)
.skip
(.exit 0)))
(.seq
(.block 1
(.seq
(.draw [
  ⟨⟨(some (false, 27)), .mv (.g 1), none⟩, 1, true, []⟩,
  ⟨⟨(some (false, 28)), .mv (.g 4), none⟩, 2, true, []⟩,
  ⟨⟨(some (false, 29)), .ia 1 (.l 27) (.l 28), none⟩, 3, true, []⟩,
  ⟨⟨(some (false, 30)), .ld none (.l 29), none⟩, 4, true, []⟩,
  ⟨⟨(some (false, 31)), .mv (.g 2), none⟩, 5, true, []⟩,
  ⟨⟨(some (false, 32)), .mv (.g 4), none⟩, 6, true, []⟩,
  ⟨⟨(some (false, 33)), .ia 1 (.l 31) (.l 32), none⟩, 7, true, []⟩,
  ⟨⟨(some (false, 34)), .ld none (.l 33), none⟩, 8, true, []⟩,
  ⟨⟨(some (false, 26)), .call (.c (.fn 79 [])) [], none⟩, 0, false, []⟩,
  ⟨⟨(some (false, 35)), .call (.c (.fn 63 [])) [.l 26, .l 30, .l 34], none⟩, 9, false, []⟩,
  ⟨⟨(some (false, 25)), .mv (.l 35), none⟩, 10, true, []⟩,
  ⟨⟨(some (false, 36)), .ex (.l 25) 0, none⟩, 11, true, []⟩,
  ⟨⟨(some (false, 37)), .ex (.l 25) 1, none⟩, 12, true, []⟩,
  ⟨⟨(some (true, 5)), .mv (.l 36), none⟩, 13, true, []⟩,
  ⟨⟨(some (true, 6)), .mv (.l 37), none⟩, 14, true, []⟩])
(.seq
(.reg [
  ⟨(some (false, 38)), .mv (.g 5), none⟩,
  ⟨(some (false, 39)), .mv (.g 3), none⟩,
  ⟨(some (false, 40)), .mv (.g 4), none⟩,
  ⟨(some (false, 41)), .ia 1 (.l 39) (.l 40), none⟩,
  ⟨(some (false, 42)), .ld none (.l 41), none⟩,
  ⟨(some (false, 43)), .bin .neq (.l 38) (.l 42), none⟩,
  ⟨(some (false, 44)), .mv (.l 43), none⟩,
  ⟨(some (false, 45)), .mv (.g 6), (some (.l 44, false))⟩,
  ⟨(some (false, 46)), .bin .neq (.l 45) (.c (.lit (.int .i64 0))), (some (.l 44, false))⟩,
  ⟨(some (true, 47)), .pick (.l 44) (.c (.lit (.bool true))) (.l 46), none⟩])
(.cond (.g 47)
(.seq
(.reg [
  ⟨(some (true, 0)), .mv (.c (.lit (.bool false))), none⟩])
.ret)
.skip))))
(.reg [
  ⟨(some (false, 23)), .mv (.g 4), none⟩,
  ⟨(some (false, 24)), .bin .add (.l 23) (.c (.lit (.int .i64 1))), none⟩,
  ⟨(some (true, 4)), .mv (.l 24), none⟩]))))))
(.seq
(.reg [
  ⟨(some (true, 0)), .mv (.c (.lit (.bool true))), none⟩])
.ret))))
def K81 : List Nat := [22, 47, 0, 1, 2, 3, 4, 5, 6]
noncomputable def b81 : Code := match Try.f81.body with | some c => c | none => .skip
theorem t81 : trCode ⟨Try.prog, K81, [], 48, none⟩ b81 = some c81 := by kernel_rfl
theorem go81 {args : List AV} {H : AHeap} {Kk : AV → AHeap → Prop} (hn : args.length = 0) (h : AGo ⟨Try.prog, K81, [], 48, none⟩ H.length [.code c81] (RetP [.t (.g 0)] H.length Kk) ⟨[], argsG 0 args⟩ H) : ACalls Try.prog 81 args H Kk :=
  ACalls_of Try.func81 (c := b81) rfl (by kernel_rfl) t81 (rs := [.t (.g 0)]) (by kernel_rfl) (by rw [hn]; exact Nat.le_of_ble_eq_true rfl) (by rw [hn]; rfl) (h.weaken (fun _ _ => RetP.hands) (by simp))

/-- sastrugi/sastrugilaw03.speeds -/
def c82 : ACode :=
  (.seq
(.reg [
  ⟨(some (true, 0)), .mv (.c (.lit (.bool false))), none⟩])
(.seq
(.reg [
  ⟨(some (false, 12)), .mks false 1 [.c (.lit (.int .i64 56)), .c (.lit (.int .i64 55)), .c (.lit (.int .i64 85))], none⟩,
  ⟨(some (false, 13)), .mks false 1 [.c (.lit (.int .i64 2)), .c (.lit (.int .i64 1)), .c (.lit (.int .i64 1))], none⟩,
  ⟨(some (true, 1)), .mv (.l 12), none⟩,
  ⟨(some (true, 2)), .mv (.l 13), none⟩])
(.seq
(.seq
(.reg [
  ⟨(some (true, 3)), .mv (.c (.lit (.int .i64 0))), none⟩])
(.block 0
(.loop
(.seq
(.seq
(.reg [
  ⟨(some (false, 14)), .mv (.g 3), none⟩,
  ⟨(some (false, 15)), .mv (.g 1), none⟩,
  ⟨(some (false, 16)), .len (.l 15), none⟩,
  ⟨(some (true, 17)), .bin .lss (.l 14) (.l 16), none⟩])
(.cond (.g 17)
.skip
(.exit 0)))
(.seq
(.block 1
(.seq
(.draw [
  ⟨⟨(some (false, 23)), .mv (.g 1), none⟩, 2, true, []⟩,
  ⟨⟨(some (false, 24)), .mv (.g 3), none⟩, 3, true, []⟩,
  ⟨⟨(some (false, 25)), .ia 1 (.l 23) (.l 24), none⟩, 4, true, []⟩,
  ⟨⟨(some (false, 26)), .ld none (.l 25), none⟩, 5, true, []⟩,
  ⟨⟨(some (false, 21)), .call (.c (.fn 79 [])) [], none⟩, 0, false, []⟩,
  ⟨⟨(some (false, 22)), .call (.c (.fn 61 [])) [.c (.lit (.int .i64 50))], none⟩, 1, false, []⟩,
  ⟨⟨(some (false, 27)), .call (.c (.fn 46 [])) [.l 21, .l 22, .c (.lit (.int .i64 100)), .l 26], none⟩, 6, false, []⟩,
  ⟨⟨(some (false, 20)), .mv (.l 27), none⟩, 7, true, []⟩,
  ⟨⟨(some (false, 28)), .ex (.l 20) 0, none⟩, 8, true, []⟩,
  ⟨⟨(some (false, 29)), .ex (.l 20) 1, none⟩, 9, true, []⟩,
  ⟨⟨(some (true, 4)), .mv (.l 28), none⟩, 10, true, []⟩,
  ⟨⟨(some (true, 5)), .mv (.l 29), none⟩, 11, true, []⟩])
(.seq
(.reg [
  ⟨(some (false, 30)), .mv (.g 4), none⟩,
  ⟨(some (false, 31)), .mv (.g 2), none⟩,
  ⟨(some (false, 32)), .mv (.g 3), none⟩,
  ⟨(some (false, 33)), .ia 1 (.l 31) (.l 32), none⟩,
  ⟨(some (false, 34)), .ld none (.l 33), none⟩,
  ⟨(some (false, 35)), .bin .neq (.l 30) (.l 34), none⟩,
  ⟨(some (false, 36)), .mv (.l 35), none⟩,
  ⟨(some (false, 37)), .mv (.g 5), (some (.l 36, false))⟩,
  ⟨(some (false, 38)), .bin .neq (.l 37) (.c (.lit (.int .i64 0))), (some (.l 36, false))⟩,
  ⟨(some (true, 39)), .pick (.l 36) (.c (.lit (.bool true))) (.l 38), none⟩])
(.cond (.g 39)
(.seq
(.reg [
  ⟨(some (true, 0)), .mv (.c (.lit (.bool false))), none⟩])
.ret)
.skip))))
(.reg [
  ⟨(some (false, 18)), .mv (.g 3), none⟩,
  ⟨(some (false, 19)), .bin .add (.l 18) (.c (.lit (.int .i64 1))), none⟩,
  ⟨(some (true, 3)), .mv (.l 19), none⟩]))))))
(.seq
(.reg [
  ⟨(some (false, 40)), .call (.c (.fn 61 [])) [.c (.lit (.int .i64 50))], none⟩,
  ⟨(some (false, 41)), .call (.c (.fn 51 [])) [.c (.lit (.int .i64 40)), .c (.lit (.int .i64 50))], none⟩,
  ⟨(some (false, 42)), .call (.c (.fn 61 [])) [.c (.lit (.int .i64 50))], none⟩,
  ⟨(some (false, 43)), .mks false 2 [.l 40, .l 41, .l 42], none⟩,
  ⟨(some (false, 44)), .mks false 1 [.c (.lit (.int .i64 100)), .c (.lit (.int .i64 100)), .c (.lit (.int .i64 49))], none⟩,
  ⟨(some (true, 6)), .mv (.l 43), none⟩,
  ⟨(some (true, 7)), .mv (.l 44), none⟩])
(.seq
(.reg [
  ⟨(some (false, 45)), .call (.c (.fn 51 [])) [.c (.lit (.int .i64 0)), .c (.lit (.int .i64 55))], none⟩,
  ⟨(some (false, 46)), .call (.c (.fn 51 [])) [.c (.lit (.int .i64 85)), .c (.lit (.int .i64 1000))], none⟩,
  ⟨(some (false, 47)), .mks false 2 [.l 45, .l 46], none⟩,
  ⟨(some (false, 48)), .call (.c (.fn 51 [])) [.c (.lit (.int .i64 0)), .c (.lit (.int .i64 50))], none⟩,
  ⟨(some (false, 49)), .call (.c (.fn 51 [])) [.c (.lit (.int .i64 85)), .c (.lit (.int .i64 1000))], none⟩,
  ⟨(some (false, 50)), .mks false 2 [.l 48, .l 49], none⟩,
  ⟨(some (false, 51)), .call (.c (.fn 51 [])) [.c (.lit (.int .i64 0)), .c (.lit (.int .i64 48))], none⟩,
  ⟨(some (false, 52)), .call (.c (.fn 51 [])) [.c (.lit (.int .i64 94)), .c (.lit (.int .i64 1000))], none⟩,
  ⟨(some (false, 53)), .mks false 2 [.l 51, .l 52], none⟩,
  ⟨(some (false, 54)), .mks false 1 [.l 47, .l 50, .l 53], none⟩,
  ⟨(some (true, 8)), .mv (.l 54), none⟩])
(.seq
(.seq
(.reg [
  ⟨(some (true, 9)), .mv (.c (.lit (.int .i64 0))), none⟩])
(.block 2
(.loop
(.seq
(.seq
(.reg [
  ⟨(some (false, 55)), .mv (.g 9), none⟩,
  ⟨(some (false, 56)), .mv (.g 8), none⟩,
  ⟨(some (false, 57)), .len (.l 56), none⟩,
  ⟨(some (true, 58)), .bin .lss (.l 55) (.l 57), none⟩])
(.cond (.g 58)
.skip
(.exit 2)))
(.seq
(.block 3
(.seq
(.draw [
  ⟨⟨(some (false, 63)), .mv (.g 6), none⟩, 1, true, []⟩,
  ⟨⟨(some (false, 64)), .mv (.g 9), none⟩, 2, true, []⟩,
  ⟨⟨(some (false, 65)), .ia 2 (.l 63) (.l 64), none⟩, 3, true, []⟩,
  ⟨⟨(some (false, 66)), .ld (some 2) (.l 65), none⟩, 4, true, []⟩,
  ⟨⟨(some (false, 67)), .mv (.g 7), none⟩, 5, true, []⟩,
  ⟨⟨(some (false, 68)), .mv (.g 9), none⟩, 6, true, []⟩,
  ⟨⟨(some (false, 69)), .ia 1 (.l 67) (.l 68), none⟩, 7, true, []⟩,
  ⟨⟨(some (false, 70)), .ld none (.l 69), none⟩, 8, true, []⟩,
  ⟨⟨(some (false, 62)), .call (.c (.fn 79 [])) [], none⟩, 0, false, []⟩,
  ⟨⟨(some (false, 71)), .call (.c (.fn 48 [])) [.l 62, .l 66, .l 70], none⟩, 9, false, []⟩,
  ⟨⟨(some (false, 61)), .mv (.l 71), none⟩, 10, true, []⟩,
  ⟨⟨(some (false, 72)), .ex (.l 61) 0, none⟩, 11, true, []⟩,
  ⟨⟨(some (false, 73)), .ex (.l 61) 1, none⟩, 12, true, []⟩,
  ⟨⟨(some (true, 10)), .mv (.l 72), none⟩, 13, true, []⟩,
  ⟨⟨(some (true, 11)), .mv (.l 73), none⟩, 14, true, []⟩])
(.seq
(.reg [
  ⟨(some (false, 74)), .mv (.g 11), none⟩,
  ⟨(some (false, 75)), .bin .neq (.l 74) (.c (.lit (.int .i64 0))), none⟩,
  ⟨(some (false, 76)), .mv (.l 75), none⟩,
  ⟨(some (false, 77)), .mv (.g 10), (some (.l 76, false))⟩,
  ⟨(some (false, 78)), .mv (.g 8), (some (.l 76, false))⟩,
  ⟨(some (false, 79)), .mv (.g 9), (some (.l 76, false))⟩,
  ⟨(some (false, 80)), .ia 1 (.l 78) (.l 79), (some (.l 76, false))⟩,
  ⟨(some (false, 81)), .ld none (.l 80), (some (.l 76, false))⟩,
  ⟨(some (false, 82)), .call (.c (.fn 50 [])) [.l 77, .l 81], (some (.l 76, false))⟩,
  ⟨(some (false, 83)), .un .not (.l 82), (some (.l 76, false))⟩,
  ⟨(some (true, 84)), .pick (.l 76) (.c (.lit (.bool true))) (.l 83), none⟩])
(.cond (.g 84)
(.seq
(.reg [
  ⟨(some (true, 0)), .mv (.c (.lit (.bool false))), none⟩])
.ret)
.skip))))
(.reg [
  ⟨(some (false, 59)), .mv (.g 9), none⟩,
  ⟨(some (false, 60)), .bin .add (.l 59) (.c (.lit (.int .i64 1))), none⟩,
  ⟨(some (true, 9)), .mv (.l 60), none⟩]))))))
(.seq
(.reg [
  ⟨(some (true, 0)), .mv (.c (.lit (.bool true))), none⟩])
.ret)))))))
def K82 : List Nat := [17, 39, 58, 84, 0, 1, 2, 3, 4, 5, 6, 7, 8, 9, 10, 11]
noncomputable def b82 : Code := match Try.f82.body with | some c => c | none => .skip
theorem t82 : trCode ⟨Try.prog, K82, [], 85, none⟩ b82 = some c82 := by kernel_rfl
theorem go82 {args : List AV} {H : AHeap} {Kk : AV → AHeap → Prop} (hn : args.length = 0) (h : AGo ⟨Try.prog, K82, [], 85, none⟩ H.length [.code c82] (RetP [.t (.g 0)] H.length Kk) ⟨[], argsG 0 args⟩ H) : ACalls Try.prog 82 args H Kk :=
  ACalls_of Try.func82 (c := b82) rfl (by kernel_rfl) t82 (rs := [.t (.g 0)]) (by kernel_rfl) (by rw [hn]; exact Nat.le_of_ble_eq_true rfl) (by rw [hn]; rfl) (h.weaken (fun _ _ => RetP.hands) (by simp))

end Go.Sas
