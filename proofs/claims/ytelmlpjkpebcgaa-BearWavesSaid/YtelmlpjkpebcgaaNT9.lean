/-
The code of some functions with its types resolved, printed by a program; that it is the code is checked by the kernel.
Conditions: none.
-/
import Derived.Test.YtelmlpjkpebcgaaM4
import Derived.Test.YtelmlpjkpebcgaaProg
set_option linter.unusedVariables false
set_option linter.unusedSimpArgs false
namespace Go.Sas
open Go.Proofs
set_option maxRecDepth 100000
/-- sastrugi/sastrugilaw03.BearWaves -/
def c11m : ACode :=
  (.seq
(.reg [
  ⟨(some (true, 2)), .mv (.c (.lit (.bool false))), none⟩])
(.seq
(.reg [
  ⟨(some (false, 22)), .mv (.g 0), none⟩,
  ⟨(some (false, 23)), .call (.c (.fn 20 [])) [.l 22], none⟩,
  ⟨(some (true, 3)), .mv (.l 23), none⟩])
(.seq
(.reg [
  ⟨(some (false, 24)), .mv (.g 3), none⟩,
  ⟨(some (false, 25)), .call (.c (.fn 21 [])) [.l 24], none⟩,
  ⟨(some (true, 4)), .new [.int .i64 0, .int .i64 0, .slice none 0 0, .slice none 0 0, .int .i64 0, .int .i64 0, .int .i64 0, .int .i64 0, .int .i64 0, .int .i64 0, .int .i64 0], none⟩,
  ⟨none, .st 11 (.g 4) (.l 25), none⟩])
(.seq
(.reg [
  ⟨(some (false, 26)), .mv (.g 3), none⟩,
  ⟨(some (false, 27)), .mv (.g 3), none⟩,
  ⟨(some (false, 28)), .call (.c (.fn 37 [])) [.l 27, .c (.lit (.int .i64 300))], none⟩,
  ⟨(some (false, 29)), .mv (.g 3), none⟩,
  ⟨(some (false, 30)), .call (.c (.fn 37 [])) [.l 29, .c (.lit (.int .i64 9000))], none⟩,
  ⟨(some (false, 31)), .mks false 1 [.c (.lit (.int .i64 0)), .l 28, .l 30], none⟩,
  ⟨(some (false, 32)), .call (.c (.fn 41 [])) [.l 26, .l 31], none⟩,
  ⟨(some (true, 5)), .mv (.l 32), none⟩])
(.seq
(.reg [
  ⟨(some (false, 33)), .mv (.g 5), none⟩,
  ⟨(some (false, 34)), .mv (.g 5), none⟩,
  ⟨(some (false, 35)), .mv (.g 3), none⟩,
  ⟨(some (false, 36)), .call (.c (.fn 37 [])) [.l 35, .c (.lit (.int .i64 60))], none⟩,
  ⟨(some (false, 37)), .bin .add (.l 34) (.l 36), none⟩,
  ⟨(some (false, 38)), .call (.c (.fn 51 [])) [.l 33, .l 37], none⟩,
  ⟨(some (false, 39)), .mv (.g 3), none⟩,
  ⟨(some (false, 40)), .call (.c (.fn 37 [])) [.l 39, .c (.lit (.int .i64 800))], none⟩,
  ⟨(some (true, 6)), .new [.int .i64 0, .int .i64 0], none⟩,
  ⟨none, .st 2 (.g 6) (.l 38), none⟩,
  ⟨(some (true, 7)), .mv (.l 40), none⟩])
(.seq
(.reg [
  ⟨(some (false, 41)), .mv (.g 3), none⟩,
  ⟨(some (false, 42)), .ld (some 2) (.g 6), none⟩,
  ⟨(some (false, 43)), .call (.c (.fn 35 [])) [.l 41, .l 42], none⟩,
  ⟨(some (true, 8)), .new [.int .i64 0, .int .i64 0], none⟩,
  ⟨none, .st 2 (.g 8) (.l 43), none⟩])
(.seq
(.reg [
  ⟨(some (false, 45)), .ld (some 11) (.g 4), none⟩,
  ⟨(some (false, 46)), .ld (some 2) (.g 6), none⟩,
  ⟨(some (false, 47)), .mv (.g 7), none⟩,
  ⟨(some (false, 48)), .call (.c (.fn 48 [])) [.l 45, .l 46, .l 47], none⟩,
  ⟨(some (false, 44)), .mv (.l 48), none⟩,
  ⟨(some (false, 49)), .ex (.l 44) 0, none⟩,
  ⟨(some (false, 50)), .ex (.l 44) 1, none⟩,
  ⟨(some (true, 9)), .mv (.l 49), none⟩,
  ⟨(some (true, 10)), .mv (.l 50), none⟩])
(.seq
(.seq
(.reg [
  ⟨(some (false, 51)), .mv (.g 10), none⟩,
  ⟨(some (true, 52)), .bin .neq (.l 51) (.c (.lit (.int .i64 0))), none⟩])
(.cond (.g 52)
(.seq
(.reg [
  ⟨(some (true, 2)), .mv (.c (.lit (.bool false))), none⟩])
.ret)
.skip))
(.seq
(.reg [
  ⟨(some (false, 53)), .mv (.g 3), none⟩,
  ⟨(some (false, 54)), .call (.c (.fn 45 [])) [.l 53, .c (.lit (.int .i64 0)), .c (.lit (.int .i64 1000))], none⟩,
  ⟨(some (false, 55)), .mv (.g 3), none⟩,
  ⟨(some (false, 56)), .call (.c (.fn 45 [])) [.l 55, .c (.lit (.int .i64 0)), .c (.lit (.int .i64 100))], none⟩,
  ⟨(some (false, 57)), .mks true 1 [.c (.lit (.int .i64 0)), .c (.lit (.int .i64 1000)), .l 54, .l 56], none⟩,
  ⟨(some (true, 11)), .mv (.l 57), none⟩])
(.seq
(.seq
(.reg [
  ⟨(some (true, 12)), .mv (.c (.lit (.int .i64 0))), none⟩])
(.block 0
(.loop
(.seq
(.seq
(.reg [
  ⟨(some (false, 58)), .mv (.g 12), none⟩,
  ⟨(some (false, 59)), .mv (.g 9), none⟩,
  ⟨(some (false, 60)), .len (.l 59), none⟩,
  ⟨(some (true, 61)), .bin .lss (.l 58) (.l 60), none⟩])
(.cond (.g 61)
.skip
(.exit 0)))
(.seq
(.block 1
(.seq
(.seq
(.draw [
  ⟨⟨(some (false, 64)), .mv (.g 9), none⟩, 0, false, []⟩,
  ⟨⟨(some (false, 65)), .mv (.g 12), none⟩, 1, false, []⟩,
  ⟨⟨(some (false, 66)), .ia 2 (.l 64) (.l 65), none⟩, 2, false, []⟩,
  ⟨⟨(some (false, 67)), .fa (.l 66) 0, none⟩, 3, false, []⟩,
  ⟨⟨(some (false, 68)), .ld none (.l 67), none⟩, 4, false, []⟩,
  ⟨⟨(some (false, 69)), .mv (.g 9), none⟩, 5, false, []⟩,
  ⟨⟨(some (false, 70)), .mv (.g 12), none⟩, 6, false, []⟩,
  ⟨⟨(some (false, 71)), .ia 2 (.l 69) (.l 70), none⟩, 7, false, []⟩,
  ⟨⟨(some (false, 72)), .fa (.l 71) 1, none⟩, 8, false, []⟩,
  ⟨⟨(some (false, 73)), .ld none (.l 72), none⟩, 9, false, []⟩,
  ⟨⟨(some (false, 74)), .bin .gtr (.l 68) (.l 73), none⟩, 10, false, []⟩,
  ⟨⟨(some (false, 75)), .mv (.l 74), none⟩, 11, false, []⟩,
  ⟨⟨(some (false, 76)), .mv (.g 12), (some (.l 75, false))⟩, 12, false, []⟩,
  ⟨⟨(some (false, 77)), .bin .gtr (.l 76) (.c (.lit (.int .i64 0))), (some (.l 75, false))⟩, 13, false, []⟩,
  ⟨⟨(some (false, 78)), .mv (.l 77), (some (.l 75, false))⟩, 14, false, []⟩,
  ⟨⟨(some (false, 79)), .mv (.g 9), (some (.l 78, true))⟩, 15, false, []⟩,
  ⟨⟨(some (false, 80)), .mv (.g 12), (some (.l 78, true))⟩, 16, false, []⟩,
  ⟨⟨(some (false, 81)), .ia 2 (.l 79) (.l 80), (some (.l 78, true))⟩, 17, false, []⟩,
  ⟨⟨(some (false, 82)), .fa (.l 81) 0, (some (.l 78, true))⟩, 18, false, []⟩,
  ⟨⟨(some (false, 83)), .ld none (.l 82), (some (.l 78, true))⟩, 19, false, []⟩,
  ⟨⟨(some (false, 84)), .mv (.g 9), (some (.l 78, true))⟩, 20, false, []⟩,
  ⟨⟨(some (false, 85)), .mv (.g 12), (some (.l 78, true))⟩, 21, false, []⟩,
  ⟨⟨(some (false, 86)), .bin .sub (.l 85) (.c (.lit (.int .i64 1))), (some (.l 78, true))⟩, 22, false, []⟩,
  ⟨⟨(some (false, 87)), .ia 2 (.l 84) (.l 86), (some (.l 78, true))⟩, 23, false, []⟩,
  ⟨⟨(some (false, 88)), .fa (.l 87) 1, (some (.l 78, true))⟩, 24, false, []⟩,
  ⟨⟨(some (false, 89)), .ld none (.l 88), (some (.l 78, true))⟩, 25, false, []⟩,
  ⟨⟨(some (false, 90)), .bin .add (.l 89) (.c (.lit (.int .i64 1))), (some (.l 78, true))⟩, 26, false, []⟩,
  ⟨⟨(some (false, 91)), .bin .leq (.l 83) (.l 90), (some (.l 78, true))⟩, 27, false, []⟩,
  ⟨⟨(some (false, 92)), .pick (.l 78) (.l 91) (.c (.lit (.bool false))), (some (.l 75, false))⟩, 28, false, []⟩,
  ⟨⟨(some (false, 93)), .pick (.l 75) (.c (.lit (.bool true))) (.l 92), none⟩, 29, false, []⟩,
  ⟨⟨(some (false, 94)), .mv (.l 93), none⟩, 30, false, []⟩,
  ⟨⟨(some (false, 95)), .mv (.g 9), (some (.l 94, false))⟩, 31, false, []⟩,
  ⟨⟨(some (false, 96)), .mv (.g 12), (some (.l 94, false))⟩, 32, false, []⟩,
  ⟨⟨(some (false, 97)), .ia 2 (.l 95) (.l 96), (some (.l 94, false))⟩, 33, false, []⟩,
  ⟨⟨(some (false, 98)), .fa (.l 97) 0, (some (.l 94, false))⟩, 34, false, []⟩,
  ⟨⟨(some (false, 99)), .ld none (.l 98), (some (.l 94, false))⟩, 35, false, []⟩,
  ⟨⟨(some (false, 100)), .bin .lss (.l 99) (.c (.lit (.int .i64 0))), (some (.l 94, false))⟩, 36, false, []⟩,
  ⟨⟨(some (false, 101)), .pick (.l 94) (.c (.lit (.bool true))) (.l 100), none⟩, 37, false, []⟩,
  ⟨⟨(some (false, 102)), .mv (.l 101), none⟩, 38, false, []⟩,
  ⟨⟨(some (false, 103)), .mv (.g 9), (some (.l 102, false))⟩, 39, false, []⟩,
  ⟨⟨(some (false, 104)), .mv (.g 12), (some (.l 102, false))⟩, 40, false, []⟩,
  ⟨⟨(some (false, 105)), .ia 2 (.l 103) (.l 104), (some (.l 102, false))⟩, 41, false, []⟩,
  ⟨⟨(some (false, 106)), .fa (.l 105) 1, (some (.l 102, false))⟩, 42, false, []⟩,
  ⟨⟨(some (false, 107)), .ld none (.l 106), (some (.l 102, false))⟩, 43, false, []⟩,
  ⟨⟨(some (false, 108)), .bin .gtr (.l 107) (.c (.lit (.int .i64 1000))), (some (.l 102, false))⟩, 44, false, []⟩,
  ⟨⟨(some (true, 109)), .pick (.l 102) (.c (.lit (.bool true))) (.l 108), none⟩, 45, false, []⟩])
(.cond (.g 109)
(.seq
(.reg [
  ⟨(some (true, 2)), .mv (.c (.lit (.bool false))), none⟩])
.ret)
.skip))
(.seq
(.reg [
  ⟨(some (false, 110)), .mv (.g 12), none⟩,
  ⟨(some (true, 111)), .bin .lss (.l 110) (.c (.lit (.int .i64 3))), none⟩])
(.cond (.g 111)
(.draw [
  ⟨⟨(some (false, 112)), .mv (.g 11), none⟩, 0, false, []⟩,
  ⟨⟨(some (false, 113)), .mv (.g 9), none⟩, 1, false, []⟩,
  ⟨⟨(some (false, 114)), .mv (.g 12), none⟩, 2, false, []⟩,
  ⟨⟨(some (false, 115)), .ia 2 (.l 113) (.l 114), none⟩, 3, false, []⟩,
  ⟨⟨(some (false, 116)), .fa (.l 115) 0, none⟩, 4, false, []⟩,
  ⟨⟨(some (false, 117)), .ld none (.l 116), none⟩, 5, false, []⟩,
  ⟨⟨(some (false, 118)), .mv (.g 9), none⟩, 6, false, []⟩,
  ⟨⟨(some (false, 119)), .mv (.g 12), none⟩, 7, false, []⟩,
  ⟨⟨(some (false, 120)), .ia 2 (.l 118) (.l 119), none⟩, 8, false, []⟩,
  ⟨⟨(some (false, 121)), .fa (.l 120) 1, none⟩, 9, false, []⟩,
  ⟨⟨(some (false, 122)), .ld none (.l 121), none⟩, 10, false, []⟩,
  ⟨⟨(some (false, 123)), .mv (.g 9), none⟩, 11, false, []⟩,
  ⟨⟨(some (false, 124)), .mv (.g 12), none⟩, 12, false, []⟩,
  ⟨⟨(some (false, 125)), .ia 2 (.l 123) (.l 124), none⟩, 13, false, []⟩,
  ⟨⟨(some (false, 126)), .fa (.l 125) 0, none⟩, 14, false, []⟩,
  ⟨⟨(some (false, 127)), .ld none (.l 126), none⟩, 15, false, []⟩,
  ⟨⟨(some (false, 128)), .bin .sub (.l 127) (.c (.lit (.int .i64 1))), none⟩, 16, false, []⟩,
  ⟨⟨(some (false, 129)), .mx [.c (.lit (.int .i64 0)), .l 128], none⟩, 17, false, []⟩,
  ⟨⟨(some (false, 130)), .mv (.g 9), none⟩, 18, false, []⟩,
  ⟨⟨(some (false, 131)), .mv (.g 12), none⟩, 19, false, []⟩,
  ⟨⟨(some (false, 132)), .ia 2 (.l 130) (.l 131), none⟩, 20, false, []⟩,
  ⟨⟨(some (false, 133)), .fa (.l 132) 1, none⟩, 21, false, []⟩,
  ⟨⟨(some (false, 134)), .ld none (.l 133), none⟩, 22, false, []⟩,
  ⟨⟨(some (false, 135)), .bin .add (.l 134) (.c (.lit (.int .i64 1))), none⟩, 23, false, []⟩,
  ⟨⟨(some (false, 136)), .mn [.c (.lit (.int .i64 1000)), .l 135], none⟩, 24, false, []⟩,
  ⟨⟨(some (false, 137)), .mks false 1 [.l 117, .l 122, .l 129, .l 136], none⟩, 25, false, []⟩,
  ⟨⟨(some (false, 138)), .app 1 8 (.l 112) (.l 137), none⟩, 26, false, []⟩,
  ⟨⟨(some (true, 11)), .mv (.l 138), none⟩, 27, false, []⟩])
.skip))))
(.reg [
  ⟨(some (false, 62)), .mv (.g 12), none⟩,
  ⟨(some (false, 63)), .bin .add (.l 62) (.c (.lit (.int .i64 1))), none⟩,
  ⟨(some (true, 12)), .mv (.l 63), none⟩]))))))
(.seq
(.seq
(.reg [
  ⟨(some (true, 13)), .mv (.c (.lit (.int .i64 0))), none⟩])
(.block 2
(.loop
(.seq
(.seq
(.reg [
  ⟨(some (false, 139)), .mv (.g 13), none⟩,
  ⟨(some (false, 140)), .mv (.g 11), none⟩,
  ⟨(some (false, 141)), .len (.l 140), none⟩,
  ⟨(some (true, 142)), .bin .lss (.l 139) (.l 141), none⟩])
(.cond (.g 142)
.skip
(.exit 2)))
(.seq
(.block 3
(.seq
(.reg [
  ⟨(some (true, 14)), .mv (.c (.lit (.bool false))), none⟩])
(.seq
(.seq
(.reg [
  ⟨(some (true, 15)), .mv (.c (.lit (.int .i64 0))), none⟩])
(.block 4
(.loop
(.seq
(.seq
(.reg [
  ⟨(some (false, 145)), .mv (.g 15), none⟩,
  ⟨(some (false, 146)), .mv (.g 9), none⟩,
  ⟨(some (false, 147)), .len (.l 146), none⟩,
  ⟨(some (true, 148)), .bin .lss (.l 145) (.l 147), none⟩])
(.cond (.g 148)
.skip
(.exit 4)))
(.seq
(.block 5
(.draw [
  ⟨⟨(some (false, 151)), .mv (.g 14), none⟩, 0, false, []⟩,
  ⟨⟨(some (false, 152)), .mv (.l 151), none⟩, 1, false, []⟩,
  ⟨⟨(some (false, 153)), .mv (.g 9), (some (.l 152, false))⟩, 2, false, []⟩,
  ⟨⟨(some (false, 154)), .mv (.g 15), (some (.l 152, false))⟩, 3, false, []⟩,
  ⟨⟨(some (false, 155)), .ia 2 (.l 153) (.l 154), (some (.l 152, false))⟩, 4, false, []⟩,
  ⟨⟨(some (false, 156)), .ld (some 2) (.l 155), (some (.l 152, false))⟩, 5, false, []⟩,
  ⟨⟨(some (false, 157)), .mv (.g 11), (some (.l 152, false))⟩, 6, false, []⟩,
  ⟨⟨(some (false, 158)), .mv (.g 13), (some (.l 152, false))⟩, 7, false, []⟩,
  ⟨⟨(some (false, 159)), .ia 1 (.l 157) (.l 158), (some (.l 152, false))⟩, 8, false, []⟩,
  ⟨⟨(some (false, 160)), .ld none (.l 159), (some (.l 152, false))⟩, 9, false, []⟩,
  ⟨⟨(some (false, 161)), .call (.c (.fn 52 [])) [.l 156, .l 160], (some (.l 152, false))⟩, 10, false, []⟩,
  ⟨⟨(some (false, 162)), .pick (.l 152) (.c (.lit (.bool true))) (.l 161), none⟩, 11, false, []⟩,
  ⟨⟨(some (true, 14)), .mv (.l 162), none⟩, 12, false, []⟩]))
(.reg [
  ⟨(some (false, 149)), .mv (.g 15), none⟩,
  ⟨(some (false, 150)), .bin .add (.l 149) (.c (.lit (.int .i64 1))), none⟩,
  ⟨(some (true, 15)), .mv (.l 150), none⟩]))))))
(.seq
(.draw [
  ⟨⟨(some (false, 164)), .ld (some 11) (.g 4), none⟩, 0, false, []⟩,
  ⟨⟨(some (false, 165)), .ld (some 2) (.g 6), none⟩, 1, false, []⟩,
  ⟨⟨(some (false, 166)), .mv (.g 7), none⟩, 2, false, []⟩,
  ⟨⟨(some (false, 167)), .mv (.g 11), none⟩, 3, false, []⟩,
  ⟨⟨(some (false, 168)), .mv (.g 13), none⟩, 4, false, []⟩,
  ⟨⟨(some (false, 169)), .ia 1 (.l 167) (.l 168), none⟩, 5, false, []⟩,
  ⟨⟨(some (false, 170)), .ld none (.l 169), none⟩, 6, false, []⟩,
  ⟨⟨(some (false, 171)), .call (.c (.fn 46 [])) [.l 164, .l 165, .l 166, .l 170], none⟩, 7, false, []⟩,
  ⟨⟨(some (false, 163)), .mv (.l 171), none⟩, 8, false, []⟩,
  ⟨⟨(some (false, 172)), .ex (.l 163) 0, none⟩, 9, false, []⟩,
  ⟨⟨(some (false, 173)), .ex (.l 163) 1, none⟩, 10, false, []⟩,
  ⟨⟨(some (true, 16)), .mv (.l 172), none⟩, 11, false, []⟩,
  ⟨⟨(some (true, 17)), .mv (.l 173), none⟩, 12, false, []⟩])
(.seq
(.draw [
  ⟨⟨(some (false, 175)), .ld (some 11) (.g 4), none⟩, 0, false, []⟩,
  ⟨⟨(some (false, 176)), .ld (some 2) (.g 8), none⟩, 1, false, []⟩,
  ⟨⟨(some (false, 177)), .mv (.g 7), none⟩, 2, false, []⟩,
  ⟨⟨(some (false, 178)), .mv (.g 11), none⟩, 3, false, []⟩,
  ⟨⟨(some (false, 179)), .mv (.g 13), none⟩, 4, false, []⟩,
  ⟨⟨(some (false, 180)), .ia 1 (.l 178) (.l 179), none⟩, 5, false, []⟩,
  ⟨⟨(some (false, 181)), .ld none (.l 180), none⟩, 6, false, []⟩,
  ⟨⟨(some (false, 182)), .call (.c (.fn 46 [])) [.l 175, .l 176, .l 177, .l 181], none⟩, 7, false, []⟩,
  ⟨⟨(some (false, 174)), .mv (.l 182), none⟩, 8, false, []⟩,
  ⟨⟨(some (false, 183)), .ex (.l 174) 0, none⟩, 9, false, []⟩,
  ⟨⟨(some (false, 184)), .ex (.l 174) 1, none⟩, 10, false, []⟩,
  ⟨⟨(some (true, 18)), .mv (.l 183), none⟩, 11, false, []⟩,
  ⟨⟨(some (true, 19)), .mv (.l 184), none⟩, 12, false, []⟩])
(.seq
(.draw [
  ⟨⟨(some (false, 186)), .ld (some 11) (.g 4), none⟩, 0, false, []⟩,
  ⟨⟨(some (false, 187)), .ld (some 2) (.g 6), none⟩, 1, false, []⟩,
  ⟨⟨(some (false, 188)), .mv (.g 11), none⟩, 2, false, []⟩,
  ⟨⟨(some (false, 189)), .mv (.g 13), none⟩, 3, false, []⟩,
  ⟨⟨(some (false, 190)), .ia 1 (.l 188) (.l 189), none⟩, 4, false, []⟩,
  ⟨⟨(some (false, 191)), .ld none (.l 190), none⟩, 5, false, []⟩,
  ⟨⟨(some (false, 192)), .call (.c (.fn 46 [])) [.l 186, .l 187, .c (.lit (.int .i64 100000)), .l 191], none⟩, 6, false, []⟩,
  ⟨⟨(some (false, 185)), .mv (.l 192), none⟩, 7, false, []⟩,
  ⟨⟨(some (false, 193)), .ex (.l 185) 0, none⟩, 8, false, []⟩,
  ⟨⟨(some (false, 194)), .ex (.l 185) 1, none⟩, 9, false, []⟩,
  ⟨⟨(some (true, 20)), .mv (.l 193), none⟩, 10, false, []⟩,
  ⟨⟨(some (true, 21)), .mv (.l 194), none⟩, 11, false, []⟩])
(.seq
(.reg [
  ⟨(some (false, 195)), .mv (.g 17), none⟩,
  ⟨(some (false, 196)), .bin .neq (.l 195) (.c (.lit (.int .i64 0))), none⟩,
  ⟨(some (false, 197)), .mv (.l 196), none⟩,
  ⟨(some (false, 198)), .mv (.g 19), (some (.l 197, false))⟩,
  ⟨(some (false, 199)), .bin .neq (.l 198) (.c (.lit (.int .i64 0))), (some (.l 197, false))⟩,
  ⟨(some (false, 200)), .pick (.l 197) (.c (.lit (.bool true))) (.l 199), none⟩,
  ⟨(some (false, 201)), .mv (.l 200), none⟩,
  ⟨(some (false, 202)), .mv (.g 21), (some (.l 201, false))⟩,
  ⟨(some (false, 203)), .bin .neq (.l 202) (.c (.lit (.int .i64 0))), (some (.l 201, false))⟩,
  ⟨(some (false, 204)), .pick (.l 201) (.c (.lit (.bool true))) (.l 203), none⟩,
  ⟨(some (false, 205)), .mv (.l 204), none⟩,
  ⟨(some (false, 206)), .mv (.g 14), (some (.l 205, false))⟩,
  ⟨(some (false, 207)), .mv (.g 16), (some (.l 205, false))⟩,
  ⟨(some (false, 208)), .bin .eql (.l 207) (.c (.lit (.int .i64 1))), (some (.l 205, false))⟩,
  ⟨(some (false, 209)), .binb true (.l 206) (.l 208), (some (.l 205, false))⟩,
  ⟨(some (false, 210)), .pick (.l 205) (.c (.lit (.bool true))) (.l 209), none⟩,
  ⟨(some (false, 211)), .mv (.l 210), none⟩,
  ⟨(some (false, 212)), .mv (.g 16), (some (.l 211, false))⟩,
  ⟨(some (false, 213)), .bin .neq (.l 212) (.c (.lit (.int .i64 3))), (some (.l 211, false))⟩,
  ⟨(some (false, 214)), .mv (.l 213), (some (.l 211, false))⟩,
  ⟨(some (false, 215)), .mv (.g 16), (some (.l 214, true))⟩,
  ⟨(some (false, 216)), .mv (.g 18), (some (.l 214, true))⟩,
  ⟨(some (false, 217)), .bin .neq (.l 215) (.l 216), (some (.l 214, true))⟩,
  ⟨(some (false, 218)), .pick (.l 214) (.l 217) (.c (.lit (.bool false))), (some (.l 211, false))⟩,
  ⟨(some (false, 219)), .pick (.l 211) (.c (.lit (.bool true))) (.l 218), none⟩,
  ⟨(some (false, 220)), .mv (.l 219), none⟩,
  ⟨(some (false, 221)), .mv (.g 16), (some (.l 220, false))⟩,
  ⟨(some (false, 222)), .bin .eql (.l 221) (.c (.lit (.int .i64 1))), (some (.l 220, false))⟩,
  ⟨(some (false, 223)), .mv (.l 222), (some (.l 220, false))⟩,
  ⟨(some (false, 224)), .mv (.g 20), (some (.l 223, true))⟩,
  ⟨(some (false, 225)), .bin .neq (.l 224) (.c (.lit (.int .i64 1))), (some (.l 223, true))⟩,
  ⟨(some (false, 226)), .pick (.l 223) (.l 225) (.c (.lit (.bool false))), (some (.l 220, false))⟩,
  ⟨(some (true, 227)), .pick (.l 220) (.c (.lit (.bool true))) (.l 226), none⟩])
(.cond (.g 227)
(.seq
(.reg [
  ⟨(some (true, 2)), .mv (.c (.lit (.bool false))), none⟩])
.ret)
.skip))))))))
(.reg [
  ⟨(some (false, 143)), .mv (.g 13), none⟩,
  ⟨(some (false, 144)), .bin .add (.l 143) (.c (.lit (.int .i64 1))), none⟩,
  ⟨(some (true, 13)), .mv (.l 144), none⟩]))))))
(.seq
(.reg [
  ⟨(some (false, 228)), .call (.c (.fn 19 [])) [], none⟩,
  ⟨(some (true, 2)), .mv (.l 228), none⟩])
.ret))))))))))))
def K11m : List Nat := [0, 52, 61, 109, 111, 142, 148, 227, 2, 3, 4, 5, 6, 7, 8, 9, 10, 11, 12, 13, 14, 15, 16, 17, 18, 19, 20, 21]
noncomputable def b11m : Code := match Try.f11.body with | some c => c | none => .skip
theorem t11m : trCode ⟨Try.prog, K11m, [57], 229, none⟩ b11m = some c11m := by kernel_rfl
theorem go11m {args : List AV} {H : AHeap} {Kk : AV → AHeap → Prop} (hn : args.length = 1) (h : AGo ⟨Try.prog, K11m, [57], 229, none⟩ H.length [.code c11m] (RetP [.t (.g 2)] H.length Kk) ⟨[], argsG 0 args⟩ H) : ACalls Try.prog 11 args H Kk :=
  ACalls_of Try.func11 (c := b11m) rfl (by kernel_rfl) t11m (rs := [.t (.g 2)]) (by kernel_rfl) (by rw [hn]; exact Nat.le_of_ble_eq_true rfl) (by rw [hn]; rfl) (h.weaken (fun _ _ => RetP.hands) (by simp))

end Go.Sas
