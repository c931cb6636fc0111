/-
The code of some functions with its types resolved, printed by a program; that it is the code is checked by the kernel.
Conditions: none.
-/
import Derived.Test.YthpjckoklnhbcaaZ4
import Derived.Test.YthpjckoklnhbcaaProg
set_option linter.unusedVariables false
set_option linter.unusedSimpArgs false
namespace Go.Sas
open Go.Proofs
set_option maxRecDepth 100000
/-- sastrugi/sastrugilaw08.FreightWhole -/
def c9 : ACode :=
  (.seq
(.reg [
  ⟨(some (true, 2)), .mv (.c (.lit (.bool false))), none⟩])
(.seq
(.reg [
  ⟨(some (false, 19)), .mv (.g 0), none⟩,
  ⟨(some (false, 20)), .call (.c (.fn 22 [])) [.l 19], none⟩,
  ⟨(some (true, 3)), .mv (.l 20), none⟩])
(.seq
(.reg [
  ⟨(some (false, 21)), .mv (.g 3), none⟩,
  ⟨(some (false, 22)), .call (.c (.fn 23 [])) [.l 21, .c (.lit (.int .i64 14)), .c (.lit (.int .i64 6))], none⟩,
  ⟨(some (true, 4)), .new [.int .i64 0, .int .i64 0, .int .i64 0, .int .i64 0, .slice none 0 0, .slice none 0 0], none⟩,
  ⟨none, .st 6 (.g 4) (.l 22), none⟩])
(.seq
(.draw [
  ⟨⟨(some (false, 23)), .mv (.g 3), none⟩, 0, true, []⟩,
  ⟨⟨(some (false, 24)), .ld (some 6) (.g 4), none⟩, 1, true, []⟩,
  ⟨⟨(some (false, 26)), .mv (.g 3), none⟩, 3, true, []⟩,
  ⟨⟨(some (false, 27)), .fa (.g 4) 5, none⟩, 4, false, []⟩,
  ⟨⟨(some (false, 28)), .ld none (.l 27), none⟩, 5, false, []⟩,
  ⟨⟨(some (false, 29)), .len (.l 28), none⟩, 6, true, []⟩,
  ⟨⟨(some (true, 5)), .new [.int .i64 0, .int .i64 0, .slice none 0 0], none⟩, 8, true, []⟩,
  ⟨⟨(some (false, 25)), .call (.c (.fn 35 [])) [.l 23, .l 24], none⟩, 2, false, []⟩,
  ⟨⟨(some (false, 30)), .call (.c (.fn 31 [])) [.l 26, .l 29], none⟩, 7, false, []⟩,
  ⟨⟨none, .st 3 (.g 5) (.l 25), none⟩, 9, false, [8]⟩,
  ⟨⟨(some (true, 6)), .mv (.l 30), none⟩, 10, false, [8]⟩])
(.seq
(.reg [
  ⟨(some (false, 32)), .ld (some 6) (.g 4), none⟩,
  ⟨(some (false, 33)), .ld (some 3) (.g 5), none⟩,
  ⟨(some (false, 34)), .mv (.g 6), none⟩,
  ⟨(some (false, 35)), .call (.c (.fn 38 [])) [.l 32, .l 33, .l 34], none⟩,
  ⟨(some (false, 31)), .mv (.l 35), none⟩,
  ⟨(some (false, 36)), .ex (.l 31) 0, none⟩,
  ⟨(some (false, 37)), .ex (.l 31) 1, none⟩,
  ⟨(some (true, 7)), .mv (.l 36), none⟩,
  ⟨(some (true, 8)), .mv (.l 37), none⟩])
(.seq
(.reg [
  ⟨(some (false, 39)), .ld (some 6) (.g 4), none⟩,
  ⟨(some (false, 40)), .ld (some 3) (.g 5), none⟩,
  ⟨(some (false, 41)), .mv (.g 7), none⟩,
  ⟨(some (false, 42)), .call (.c (.fn 43 [])) [.l 39, .l 40, .l 41], none⟩,
  ⟨(some (false, 38)), .mv (.l 42), none⟩,
  ⟨(some (false, 43)), .ex (.l 38) 0, none⟩,
  ⟨(some (false, 44)), .ex (.l 38) 1, none⟩,
  ⟨(some (false, 45)), .ex (.l 38) 2, none⟩,
  ⟨(some (true, 9)), .mv (.l 43), none⟩,
  ⟨(some (true, 10)), .mv (.l 44), none⟩,
  ⟨(some (true, 11)), .mv (.l 45), none⟩])
(.seq
(.seq
(.reg [
  ⟨(some (false, 46)), .mv (.g 8), none⟩,
  ⟨(some (false, 47)), .bin .neq (.l 46) (.c (.lit (.int .i64 0))), none⟩,
  ⟨(some (false, 48)), .mv (.l 47), none⟩,
  ⟨(some (false, 49)), .mv (.g 11), (some (.l 48, false))⟩,
  ⟨(some (false, 50)), .bin .neq (.l 49) (.c (.lit (.int .i64 0))), (some (.l 48, false))⟩,
  ⟨(some (false, 51)), .pick (.l 48) (.c (.lit (.bool true))) (.l 50), none⟩,
  ⟨(some (false, 52)), .mv (.l 51), none⟩,
  ⟨(some (false, 53)), .mv (.g 9), (some (.l 52, false))⟩,
  ⟨(some (false, 54)), .len (.l 53), (some (.l 52, false))⟩,
  ⟨(some (false, 55)), .fa (.g 4) 5, (some (.l 52, false))⟩,
  ⟨(some (false, 56)), .ld none (.l 55), (some (.l 52, false))⟩,
  ⟨(some (false, 57)), .len (.l 56), (some (.l 52, false))⟩,
  ⟨(some (false, 58)), .bin .neq (.l 54) (.l 57), (some (.l 52, false))⟩,
  ⟨(some (false, 59)), .pick (.l 52) (.c (.lit (.bool true))) (.l 58), none⟩,
  ⟨(some (false, 60)), .mv (.l 59), none⟩,
  ⟨(some (false, 61)), .mv (.g 7), (some (.l 60, false))⟩,
  ⟨(some (false, 62)), .len (.l 61), (some (.l 60, false))⟩,
  ⟨(some (false, 63)), .fa (.g 4) 5, (some (.l 60, false))⟩,
  ⟨(some (false, 64)), .ld none (.l 63), (some (.l 60, false))⟩,
  ⟨(some (false, 65)), .len (.l 64), (some (.l 60, false))⟩,
  ⟨(some (false, 66)), .bin .neq (.l 62) (.l 65), (some (.l 60, false))⟩,
  ⟨(some (true, 67)), .pick (.l 60) (.c (.lit (.bool true))) (.l 66), none⟩])
(.cond (.g 67)
(.seq
(.reg [
  ⟨(some (true, 2)), .mv (.c (.lit (.bool false))), none⟩])
.ret)
.skip))
(.seq
(.reg [
  ⟨(some (true, 12)), .mv (.c (.lit (.bool false))), none⟩,
  ⟨(some (true, 13)), .mv (.c (.lit (.int .i64 0))), none⟩])
(.seq
(.seq
(.reg [
  ⟨(some (true, 14)), .mv (.c (.lit (.int .i64 0))), none⟩])
(.block 0
(.loop
(.seq
(.seq
(.reg [
  ⟨(some (false, 68)), .mv (.g 14), none⟩,
  ⟨(some (false, 69)), .mv (.g 9), none⟩,
  ⟨(some (false, 70)), .len (.l 69), none⟩,
  ⟨(some (true, 71)), .bin .lss (.l 68) (.l 70), none⟩])
(.cond (.g 71)
.skip
(.exit 0)))
(.seq
(.block 1
(.seq
(.reg [
  ⟨(some (false, 74)), .fa (.g 4) 5, none⟩,
  ⟨(some (false, 75)), .ld none (.l 74), none⟩,
  ⟨(some (false, 76)), .mv (.g 14), none⟩,
  ⟨(some (false, 77)), .ia 4 (.l 75) (.l 76), none⟩,
  ⟨(some (false, 78)), .ld (some 4) (.l 77), none⟩,
  ⟨(some (true, 15)), .new [.int .i64 0, .int .i64 0, .int .i64 0, .int .i64 0], none⟩,
  ⟨none, .st 4 (.g 15) (.l 78), none⟩])
(.seq
(.seq
(.draw [
  ⟨⟨(some (false, 79)), .mv (.g 9), none⟩, 0, true, []⟩,
  ⟨⟨(some (false, 80)), .mv (.g 14), none⟩, 1, true, []⟩,
  ⟨⟨(some (false, 81)), .ia 4 (.l 79) (.l 80), none⟩, 2, true, []⟩,
  ⟨⟨(some (false, 82)), .fa (.l 81) 0, none⟩, 3, true, []⟩,
  ⟨⟨(some (false, 83)), .ld none (.l 82), none⟩, 4, true, []⟩,
  ⟨⟨(some (false, 84)), .bin .lss (.l 83) (.c (.lit (.int .i64 0))), none⟩, 5, true, []⟩,
  ⟨⟨(some (false, 85)), .mv (.l 84), none⟩, 6, true, []⟩,
  ⟨⟨(some (false, 86)), .mv (.g 9), (some (.l 85, false))⟩, 7, true, []⟩,
  ⟨⟨(some (false, 87)), .mv (.g 14), (some (.l 85, false))⟩, 8, true, []⟩,
  ⟨⟨(some (false, 88)), .ia 4 (.l 86) (.l 87), (some (.l 85, false))⟩, 9, true, []⟩,
  ⟨⟨(some (false, 89)), .fa (.l 88) 1, (some (.l 85, false))⟩, 10, true, []⟩,
  ⟨⟨(some (false, 90)), .ld none (.l 89), (some (.l 85, false))⟩, 11, true, []⟩,
  ⟨⟨(some (false, 91)), .bin .lss (.l 90) (.c (.lit (.int .i64 0))), (some (.l 85, false))⟩, 12, true, []⟩,
  ⟨⟨(some (false, 92)), .pick (.l 85) (.c (.lit (.bool true))) (.l 91), none⟩, 13, true, []⟩,
  ⟨⟨(some (false, 93)), .mv (.l 92), none⟩, 14, true, []⟩,
  ⟨⟨(some (false, 94)), .mv (.g 9), (some (.l 93, false))⟩, 15, true, []⟩,
  ⟨⟨(some (false, 95)), .mv (.g 14), (some (.l 93, false))⟩, 16, true, []⟩,
  ⟨⟨(some (false, 96)), .ia 4 (.l 94) (.l 95), (some (.l 93, false))⟩, 17, true, []⟩,
  ⟨⟨(some (false, 97)), .fa (.l 96) 2, (some (.l 93, false))⟩, 18, true, []⟩,
  ⟨⟨(some (false, 98)), .ld none (.l 97), (some (.l 93, false))⟩, 19, true, []⟩,
  ⟨⟨(some (false, 99)), .bin .lss (.l 98) (.c (.lit (.int .i64 0))), (some (.l 93, false))⟩, 20, true, []⟩,
  ⟨⟨(some (false, 100)), .pick (.l 93) (.c (.lit (.bool true))) (.l 99), none⟩, 21, true, []⟩,
  ⟨⟨(some (false, 101)), .mv (.l 100), none⟩, 22, true, []⟩,
  ⟨⟨(some (false, 102)), .mv (.g 9), (some (.l 101, false))⟩, 23, true, []⟩,
  ⟨⟨(some (false, 103)), .mv (.g 14), (some (.l 101, false))⟩, 24, true, []⟩,
  ⟨⟨(some (false, 104)), .ia 4 (.l 102) (.l 103), (some (.l 101, false))⟩, 25, true, []⟩,
  ⟨⟨(some (false, 105)), .fa (.l 104) 0, (some (.l 101, false))⟩, 26, true, []⟩,
  ⟨⟨(some (false, 106)), .ld none (.l 105), (some (.l 101, false))⟩, 27, true, []⟩,
  ⟨⟨(some (false, 107)), .mv (.g 9), (some (.l 101, false))⟩, 28, true, []⟩,
  ⟨⟨(some (false, 108)), .mv (.g 14), (some (.l 101, false))⟩, 29, true, []⟩,
  ⟨⟨(some (false, 109)), .ia 4 (.l 107) (.l 108), (some (.l 101, false))⟩, 30, true, []⟩,
  ⟨⟨(some (false, 110)), .fa (.l 109) 1, (some (.l 101, false))⟩, 31, true, []⟩,
  ⟨⟨(some (false, 111)), .ld none (.l 110), (some (.l 101, false))⟩, 32, true, []⟩,
  ⟨⟨(some (false, 112)), .bin .add (.l 106) (.l 111), (some (.l 101, false))⟩, 33, true, []⟩,
  ⟨⟨(some (false, 113)), .mv (.g 9), (some (.l 101, false))⟩, 34, true, []⟩,
  ⟨⟨(some (false, 114)), .mv (.g 14), (some (.l 101, false))⟩, 35, true, []⟩,
  ⟨⟨(some (false, 115)), .ia 4 (.l 113) (.l 114), (some (.l 101, false))⟩, 36, true, []⟩,
  ⟨⟨(some (false, 116)), .fa (.l 115) 2, (some (.l 101, false))⟩, 37, true, []⟩,
  ⟨⟨(some (false, 117)), .ld none (.l 116), (some (.l 101, false))⟩, 38, true, []⟩,
  ⟨⟨(some (false, 118)), .bin .add (.l 112) (.l 117), (some (.l 101, false))⟩, 39, true, []⟩,
  ⟨⟨(some (false, 119)), .fa (.g 15) 0, (some (.l 101, false))⟩, 40, true, []⟩,
  ⟨⟨(some (false, 120)), .ld none (.l 119), (some (.l 101, false))⟩, 41, true, []⟩,
  ⟨⟨(some (false, 121)), .bin .neq (.l 118) (.l 120), (some (.l 101, false))⟩, 42, true, []⟩,
  ⟨⟨(some (false, 122)), .pick (.l 101) (.c (.lit (.bool true))) (.l 121), none⟩, 43, true, []⟩,
  ⟨⟨(some (false, 123)), .mv (.l 122), none⟩, 44, true, []⟩,
  ⟨⟨(some (false, 124)), .mv (.g 9), (some (.l 123, false))⟩, 45, true, []⟩,
  ⟨⟨(some (false, 125)), .mv (.g 14), (some (.l 123, false))⟩, 46, true, []⟩,
  ⟨⟨(some (false, 126)), .ia 4 (.l 124) (.l 125), (some (.l 123, false))⟩, 47, true, []⟩,
  ⟨⟨(some (false, 127)), .fa (.l 126) 3, (some (.l 123, false))⟩, 48, true, []⟩,
  ⟨⟨(some (false, 128)), .ld none (.l 127), (some (.l 123, false))⟩, 49, true, []⟩,
  ⟨⟨(some (false, 129)), .bin .eql (.l 128) (.c (.lit (.int .i64 (-1)))), (some (.l 123, false))⟩, 50, true, []⟩,
  ⟨⟨(some (false, 130)), .mv (.g 9), (some (.l 123, false))⟩, 51, true, []⟩,
  ⟨⟨(some (false, 131)), .mv (.g 14), (some (.l 123, false))⟩, 52, true, []⟩,
  ⟨⟨(some (false, 132)), .ia 4 (.l 130) (.l 131), (some (.l 123, false))⟩, 53, true, []⟩,
  ⟨⟨(some (false, 133)), .fa (.l 132) 2, (some (.l 123, false))⟩, 54, true, []⟩,
  ⟨⟨(some (false, 134)), .ld none (.l 133), (some (.l 123, false))⟩, 55, true, []⟩,
  ⟨⟨(some (false, 135)), .bin .gtr (.l 134) (.c (.lit (.int .i64 0))), (some (.l 123, false))⟩, 56, true, []⟩,
  ⟨⟨(some (false, 136)), .binb true (.l 129) (.l 135), (some (.l 123, false))⟩, 57, true, []⟩,
  ⟨⟨(some (false, 137)), .pick (.l 123) (.c (.lit (.bool true))) (.l 136), none⟩, 58, true, []⟩,
  ⟨⟨(some (false, 138)), .mv (.l 137), none⟩, 59, true, []⟩,
  ⟨⟨(some (false, 139)), .mv (.g 7), (some (.l 138, false))⟩, 60, true, []⟩,
  ⟨⟨(some (false, 140)), .mv (.g 14), (some (.l 138, false))⟩, 61, true, []⟩,
  ⟨⟨(some (false, 141)), .ia 1 (.l 139) (.l 140), (some (.l 138, false))⟩, 62, true, []⟩,
  ⟨⟨(some (false, 142)), .ld none (.l 141), (some (.l 138, false))⟩, 63, true, []⟩,
  ⟨⟨(some (false, 143)), .len (.l 142), (some (.l 138, false))⟩, 64, true, []⟩,
  ⟨⟨(some (false, 144)), .fa (.g 5) 2, (some (.l 138, false))⟩, 65, true, []⟩,
  ⟨⟨(some (false, 145)), .ld none (.l 144), (some (.l 138, false))⟩, 66, true, []⟩,
  ⟨⟨(some (false, 146)), .len (.l 145), (some (.l 138, false))⟩, 67, true, []⟩,
  ⟨⟨(some (false, 147)), .bin .neq (.l 143) (.l 146), (some (.l 138, false))⟩, 68, true, []⟩,
  ⟨⟨(some (true, 148)), .pick (.l 138) (.c (.lit (.bool true))) (.l 147), none⟩, 69, true, []⟩])
(.cond (.g 148)
(.seq
(.reg [
  ⟨(some (true, 2)), .mv (.c (.lit (.bool false))), none⟩])
.ret)
.skip))
(.draw [
  ⟨⟨(some (false, 149)), .mv (.g 12), none⟩, 0, true, []⟩,
  ⟨⟨(some (false, 150)), .mv (.l 149), none⟩, 1, true, []⟩,
  ⟨⟨(some (false, 151)), .mv (.g 9), (some (.l 150, false))⟩, 2, true, []⟩,
  ⟨⟨(some (false, 152)), .mv (.g 14), (some (.l 150, false))⟩, 3, true, []⟩,
  ⟨⟨(some (false, 153)), .ia 4 (.l 151) (.l 152), (some (.l 150, false))⟩, 4, true, []⟩,
  ⟨⟨(some (false, 154)), .fa (.l 153) 2, (some (.l 150, false))⟩, 5, true, []⟩,
  ⟨⟨(some (false, 155)), .ld none (.l 154), (some (.l 150, false))⟩, 6, true, []⟩,
  ⟨⟨(some (false, 156)), .bin .gtr (.l 155) (.c (.lit (.int .i64 0))), (some (.l 150, false))⟩, 7, true, []⟩,
  ⟨⟨(some (false, 157)), .pick (.l 150) (.c (.lit (.bool true))) (.l 156), none⟩, 8, true, []⟩,
  ⟨⟨(some (false, 158)), .mv (.g 13), none⟩, 9, true, []⟩,
  ⟨⟨(some (false, 159)), .mv (.g 9), none⟩, 10, true, []⟩,
  ⟨⟨(some (false, 160)), .mv (.g 14), none⟩, 11, true, []⟩,
  ⟨⟨(some (false, 161)), .ia 4 (.l 159) (.l 160), none⟩, 12, true, []⟩,
  ⟨⟨(some (false, 162)), .fa (.l 161) 1, none⟩, 13, true, []⟩,
  ⟨⟨(some (false, 163)), .ld none (.l 162), none⟩, 14, true, []⟩,
  ⟨⟨(some (false, 164)), .fa (.g 15) 2, none⟩, 15, true, []⟩,
  ⟨⟨(some (false, 165)), .ld none (.l 164), none⟩, 16, true, []⟩,
  ⟨⟨(some (false, 166)), .bin .mul (.l 163) (.l 165), none⟩, 17, true, []⟩,
  ⟨⟨(some (false, 167)), .bin .add (.l 158) (.l 166), none⟩, 18, true, []⟩,
  ⟨⟨(some (false, 168)), .mv (.g 9), none⟩, 19, true, []⟩,
  ⟨⟨(some (false, 169)), .mv (.g 14), none⟩, 20, true, []⟩,
  ⟨⟨(some (false, 170)), .ia 4 (.l 168) (.l 169), none⟩, 21, true, []⟩,
  ⟨⟨(some (false, 171)), .fa (.l 170) 2, none⟩, 22, true, []⟩,
  ⟨⟨(some (false, 172)), .ld none (.l 171), none⟩, 23, true, []⟩,
  ⟨⟨(some (false, 173)), .fa (.g 15) 3, none⟩, 24, true, []⟩,
  ⟨⟨(some (false, 174)), .ld none (.l 173), none⟩, 25, true, []⟩,
  ⟨⟨(some (false, 175)), .bin .mul (.l 172) (.l 174), none⟩, 26, true, []⟩,
  ⟨⟨(some (false, 176)), .bin .add (.l 167) (.l 175), none⟩, 27, true, []⟩,
  ⟨⟨(some (true, 12)), .mv (.l 157), none⟩, 28, true, []⟩,
  ⟨⟨(some (true, 13)), .mv (.l 176), none⟩, 29, true, []⟩]))))
(.reg [
  ⟨(some (false, 72)), .mv (.g 14), none⟩,
  ⟨(some (false, 73)), .bin .add (.l 72) (.c (.lit (.int .i64 1))), none⟩,
  ⟨(some (true, 14)), .mv (.l 73), none⟩]))))))
(.seq
(.seq
(.reg [
  ⟨(some (true, 16)), .mv (.c (.lit (.int .i64 0))), none⟩])
(.block 2
(.loop
(.seq
(.seq
(.reg [
  ⟨(some (false, 177)), .mv (.g 16), none⟩,
  ⟨(some (false, 178)), .fa (.g 5) 2, none⟩,
  ⟨(some (false, 179)), .ld none (.l 178), none⟩,
  ⟨(some (false, 180)), .len (.l 179), none⟩,
  ⟨(some (true, 181)), .bin .lss (.l 177) (.l 180), none⟩])
(.cond (.g 181)
.skip
(.exit 2)))
(.seq
(.block 3
(.seq
(.reg [
  ⟨(some (true, 17)), .mv (.c (.lit (.int .i64 0))), none⟩])
(.seq
(.seq
(.reg [
  ⟨(some (true, 18)), .mv (.c (.lit (.int .i64 0))), none⟩])
(.block 4
(.loop
(.seq
(.seq
(.reg [
  ⟨(some (false, 184)), .mv (.g 18), none⟩,
  ⟨(some (false, 185)), .mv (.g 7), none⟩,
  ⟨(some (false, 186)), .len (.l 185), none⟩,
  ⟨(some (true, 187)), .bin .lss (.l 184) (.l 186), none⟩])
(.cond (.g 187)
.skip
(.exit 4)))
(.seq
(.block 5
(.reg [
  ⟨(some (false, 190)), .mv (.g 17), none⟩,
  ⟨(some (false, 191)), .mv (.g 7), none⟩,
  ⟨(some (false, 192)), .mv (.g 18), none⟩,
  ⟨(some (false, 193)), .ia 1 (.l 191) (.l 192), none⟩,
  ⟨(some (false, 194)), .ld none (.l 193), none⟩,
  ⟨(some (false, 195)), .mv (.g 16), none⟩,
  ⟨(some (false, 196)), .ia 1 (.l 194) (.l 195), none⟩,
  ⟨(some (false, 197)), .ld none (.l 196), none⟩,
  ⟨(some (false, 198)), .bin .add (.l 190) (.l 197), none⟩,
  ⟨(some (true, 17)), .mv (.l 198), none⟩]))
(.reg [
  ⟨(some (false, 188)), .mv (.g 18), none⟩,
  ⟨(some (false, 189)), .bin .add (.l 188) (.c (.lit (.int .i64 1))), none⟩,
  ⟨(some (true, 18)), .mv (.l 189), none⟩]))))))
(.seq
(.reg [
  ⟨(some (false, 199)), .mv (.g 12), none⟩,
  ⟨(some (false, 200)), .mv (.l 199), none⟩,
  ⟨(some (false, 201)), .mv (.g 17), (some (.l 200, true))⟩,
  ⟨(some (false, 202)), .ld (some 3) (.g 5), (some (.l 200, true))⟩,
  ⟨(some (false, 203)), .mv (.g 16), (some (.l 200, true))⟩,
  ⟨(some (false, 204)), .call (.c (.fn 44 [])) [.l 202, .l 203], (some (.l 200, true))⟩,
  ⟨(some (false, 205)), .bin .neq (.l 201) (.l 204), (some (.l 200, true))⟩,
  ⟨(some (true, 206)), .pick (.l 200) (.l 205) (.c (.lit (.bool false))), none⟩])
(.cond (.g 206)
(.seq
(.reg [
  ⟨(some (true, 2)), .mv (.c (.lit (.bool false))), none⟩])
.ret)
.skip)))))
(.reg [
  ⟨(some (false, 182)), .mv (.g 16), none⟩,
  ⟨(some (false, 183)), .bin .add (.l 182) (.c (.lit (.int .i64 1))), none⟩,
  ⟨(some (true, 16)), .mv (.l 183), none⟩]))))))
(.seq
(.reg [
  ⟨(some (false, 207)), .mv (.g 13), none⟩,
  ⟨(some (false, 208)), .mv (.g 10), none⟩,
  ⟨(some (false, 209)), .bin .eql (.l 207) (.l 208), none⟩,
  ⟨(some (false, 210)), .mv (.l 209), none⟩,
  ⟨(some (false, 211)), .call (.c (.fn 17 [])) [], (some (.l 210, true))⟩,
  ⟨(some (false, 212)), .pick (.l 210) (.l 211) (.c (.lit (.bool false))), none⟩,
  ⟨(some (true, 2)), .mv (.l 212), none⟩])
.ret)))))))))))
def K9 : List Nat := [0, 67, 71, 148, 181, 187, 206, 2, 3, 4, 5, 6, 7, 8, 9, 10, 11, 12, 13, 14, 15, 16, 17, 18]
noncomputable def b9 : Code := match Try.f9.body with | some c => c | none => .skip
theorem t9 : trCode ⟨Try.prog, K9, [], 213, none⟩ b9 = some c9 := by kernel_rfl
theorem go9 {args : List AV} {H : AHeap} {Kk : AV → AHeap → Prop} (hn : args.length = 1) (h : AGo ⟨Try.prog, K9, [], 213, none⟩ H.length [.code c9] (RetP [.t (.g 2)] H.length Kk) ⟨[], argsG 0 args⟩ H) : ACalls Try.prog 9 args H Kk :=
  ACalls_of Try.func9 (c := b9) rfl (by kernel_rfl) t9 (rs := [.t (.g 2)]) (by kernel_rfl) (by rw [hn]; exact Nat.le_of_ble_eq_true rfl) (by rw [hn]; rfl) (h.weaken (fun _ _ => RetP.hands) (by simp))

end Go.Sas
