/-
The code of some functions with its types resolved, printed by a program; that it is the code is checked by the kernel.
Conditions: none.
-/
import Derived.Test.YthpjckoklnhbcaaH4
import Derived.Test.YthpjckoklnhbcaaProg
set_option linter.unusedVariables false
set_option linter.unusedSimpArgs false
namespace Go.Sas
open Go.Proofs
set_option maxRecDepth 100000
/-- sastrugi/sastrugilaw08.FreightTells -/
def c14 : ACode :=
  (.seq
(.reg [
  ⟨(some (true, 6)), .box (.g 0), none⟩,
  ⟨(some (true, 7)), .box (.g 1), none⟩,
  ⟨(some (true, 12)), .mv (.c (.lit (.bool false))), none⟩])
(.seq
(.seq
(.reg [
  ⟨(some (false, 37)), .ld (some 6) (.g 6), none⟩,
  ⟨(some (false, 38)), .call (.c (.fn 16 [])) [.l 37], none⟩,
  ⟨(some (false, 39)), .mv (.l 38), none⟩,
  ⟨(some (false, 40)), .fa (.g 7) 2, (some (.l 39, false))⟩,
  ⟨(some (false, 41)), .ld none (.l 40), (some (.l 39, false))⟩,
  ⟨(some (false, 42)), .len (.l 41), (some (.l 39, false))⟩,
  ⟨(some (false, 43)), .bin .gtr (.l 42) (.c (.lit (.int .i64 250))), (some (.l 39, false))⟩,
  ⟨(some (false, 44)), .pick (.l 39) (.c (.lit (.bool true))) (.l 43), none⟩,
  ⟨(some (false, 45)), .mv (.l 44), none⟩,
  ⟨(some (false, 46)), .mv (.g 2), (some (.l 45, false))⟩,
  ⟨(some (false, 47)), .len (.l 46), (some (.l 45, false))⟩,
  ⟨(some (false, 48)), .bin .gtr (.l 47) (.c (.lit (.int .i64 15))), (some (.l 45, false))⟩,
  ⟨(some (true, 49)), .pick (.l 45) (.c (.lit (.bool true))) (.l 48), none⟩])
(.cond (.g 49)
(.seq
(.reg [
  ⟨(some (false, 50)), .call (.c (.fn 17 [])) [], none⟩,
  ⟨(some (true, 12)), .mv (.l 50), none⟩])
.ret)
.skip))
(.seq
(.seq
(.reg [
  ⟨(some (true, 13)), .mv (.c (.lit (.int .i64 0))), none⟩])
(.block 0
(.loop
(.seq
(.seq
(.reg [
  ⟨(some (false, 51)), .mv (.g 13), none⟩,
  ⟨(some (false, 52)), .mv (.g 2), none⟩,
  ⟨(some (false, 53)), .len (.l 52), none⟩,
  ⟨(some (true, 54)), .bin .lss (.l 51) (.l 53), none⟩])
(.cond (.g 54)
.skip
(.exit 0)))
(.seq
(.block 1
(.seq
(.reg [
  ⟨(some (false, 57)), .mv (.g 2), none⟩,
  ⟨(some (false, 58)), .mv (.g 13), none⟩,
  ⟨(some (false, 59)), .ia 1 (.l 57) (.l 58), none⟩,
  ⟨(some (false, 60)), .ld none (.l 59), none⟩,
  ⟨(some (false, 61)), .len (.l 60), none⟩,
  ⟨(some (true, 62)), .bin .gtr (.l 61) (.c (.lit (.int .i64 250))), none⟩])
(.cond (.g 62)
(.seq
(.reg [
  ⟨(some (false, 63)), .call (.c (.fn 17 [])) [], none⟩,
  ⟨(some (true, 12)), .mv (.l 63), none⟩])
.ret)
.skip)))
(.reg [
  ⟨(some (false, 55)), .mv (.g 13), none⟩,
  ⟨(some (false, 56)), .bin .add (.l 55) (.c (.lit (.int .i64 1))), none⟩,
  ⟨(some (true, 13)), .mv (.l 56), none⟩]))))))
(.seq
(.reg [
  ⟨(some (false, 64)), .mv (.g 5), none⟩,
  ⟨(some (false, 65)), .call (.c (.fn 22 [])) [.l 64], none⟩,
  ⟨(some (true, 14)), .mv (.l 65), none⟩])
(.seq
(.reg [
  ⟨(some (false, 66)), .mv (.g 14), none⟩,
  ⟨(some (false, 67)), .call (.c (.fn 23 [])) [.l 66, .c (.lit (.int .i64 12)), .c (.lit (.int .i64 5))], none⟩,
  ⟨(some (true, 15)), .new [.int .i64 0, .int .i64 0, .int .i64 0, .int .i64 0, .slice none 0 0, .slice none 0 0], none⟩,
  ⟨none, .st 6 (.g 15) (.l 67), none⟩])
(.seq
(.reg [
  ⟨(some (false, 68)), .mv (.g 14), none⟩,
  ⟨(some (false, 69)), .ld (some 6) (.g 15), none⟩,
  ⟨(some (false, 70)), .call (.c (.fn 35 [])) [.l 68, .l 69], none⟩,
  ⟨(some (true, 16)), .new [.int .i64 0, .int .i64 0, .slice none 0 0], none⟩,
  ⟨none, .st 3 (.g 16) (.l 70), none⟩])
(.seq
(.reg [
  ⟨(some (false, 71)), .mv (.g 14), none⟩,
  ⟨(some (false, 72)), .ld (some 6) (.g 15), none⟩,
  ⟨(some (false, 73)), .ld (some 3) (.g 16), none⟩,
  ⟨(some (false, 74)), .call (.c (.fn 42 [])) [.l 71, .l 72, .l 73], none⟩,
  ⟨(some (true, 17)), .mv (.l 74), none⟩])
(.seq
(.seq
(.reg [
  ⟨(some (false, 75)), .mv (.g 14), none⟩,
  ⟨(some (true, 76)), .call (.c (.fn 56 [])) [.l 75, .c (.lit (.int .i64 3))], none⟩])
(.cond (.g 76)
(.seq
(.reg [
  ⟨(some (false, 77)), .mv (.g 17), none⟩,
  ⟨(some (false, 78)), .mv (.g 14), none⟩,
  ⟨(some (false, 79)), .mv (.g 17), none⟩,
  ⟨(some (false, 80)), .len (.l 79), none⟩,
  ⟨(some (false, 81)), .call (.c (.fn 47 [])) [.l 78, .l 80], none⟩,
  ⟨(some (false, 82)), .ia 1 (.l 77) (.l 81), none⟩,
  ⟨(some (false, 83)), .ld none (.l 82), none⟩,
  ⟨(some (true, 18)), .mv (.l 83), none⟩])
(.seq
(.reg [
  ⟨(some (false, 84)), .mv (.g 14), none⟩,
  ⟨(some (false, 85)), .mv (.g 18), none⟩,
  ⟨(some (false, 86)), .len (.l 85), none⟩,
  ⟨(some (false, 87)), .call (.c (.fn 47 [])) [.l 84, .l 86], none⟩,
  ⟨(some (true, 19)), .mv (.l 87), none⟩])
(.draw [
  ⟨⟨(some (false, 88)), .mv (.g 18), none⟩, 0, true, []⟩,
  ⟨⟨(some (false, 89)), .mv (.g 19), none⟩, 1, true, []⟩,
  ⟨⟨(some (false, 90)), .mv (.g 18), none⟩, 2, true, []⟩,
  ⟨⟨(some (false, 91)), .mv (.g 19), none⟩, 3, true, []⟩,
  ⟨⟨(some (false, 92)), .ia 1 (.l 90) (.l 91), none⟩, 4, true, []⟩,
  ⟨⟨(some (false, 93)), .ld none (.l 92), none⟩, 5, true, []⟩,
  ⟨⟨(some (false, 94)), .mv (.g 14), none⟩, 6, true, []⟩,
  ⟨⟨(some (false, 95)), .mks false 1 [.c (.lit (.int .i64 1)), .c (.lit (.int .i64 (-1))), .c (.lit (.int .i64 2))], none⟩, 7, true, []⟩,
  ⟨⟨(some (false, 96)), .call (.c (.fn 46 [])) [.l 94, .l 95], none⟩, 8, false, []⟩,
  ⟨⟨(some (false, 97)), .bin .add (.l 93) (.l 96), none⟩, 9, true, []⟩,
  ⟨⟨(some (false, 98)), .ia 1 (.l 88) (.l 89), none⟩, 10, true, []⟩,
  ⟨⟨none, .st 1 (.l 98) (.l 97), none⟩, 11, true, []⟩])))
.skip))
(.seq
(.draw [
  ⟨⟨(some (false, 99)), .ld (some 6) (.g 6), none⟩, 0, true, []⟩,
  ⟨⟨(some (false, 100)), .ld (some 6) (.g 15), none⟩, 1, true, []⟩,
  ⟨⟨(some (false, 101)), .ld (some 6) (.g 15), none⟩, 2, true, []⟩,
  ⟨⟨(some (false, 102)), .mks false 6 [.l 99, .l 100, .l 101], none⟩, 3, true, []⟩,
  ⟨⟨(some (false, 103)), .ld (some 3) (.g 7), none⟩, 4, true, []⟩,
  ⟨⟨(some (false, 104)), .ld (some 3) (.g 16), none⟩, 5, true, []⟩,
  ⟨⟨(some (false, 105)), .ld (some 3) (.g 16), none⟩, 6, true, []⟩,
  ⟨⟨(some (false, 106)), .mks false 3 [.l 103, .l 104, .l 105], none⟩, 7, true, []⟩,
  ⟨⟨(some (false, 107)), .mv (.g 2), none⟩, 8, true, []⟩,
  ⟨⟨(some (false, 108)), .mv (.g 17), none⟩, 9, true, []⟩,
  ⟨⟨(some (false, 109)), .mv (.g 17), none⟩, 10, true, []⟩,
  ⟨⟨(some (false, 110)), .mks false 1 [.l 107, .l 108, .l 109], none⟩, 11, true, []⟩,
  ⟨⟨(some (false, 111)), .mv (.g 3), none⟩, 12, true, []⟩,
  ⟨⟨(some (false, 112)), .mv (.g 14), none⟩, 13, true, []⟩,
  ⟨⟨(some (false, 114)), .mv (.g 3), none⟩, 15, true, []⟩,
  ⟨⟨(some (false, 116)), .mv (.g 4), none⟩, 17, true, []⟩,
  ⟨⟨(some (false, 117)), .mv (.g 14), none⟩, 18, true, []⟩,
  ⟨⟨(some (false, 119)), .mv (.g 4), none⟩, 20, true, []⟩,
  ⟨⟨(some (false, 113)), .call (.c (.fn 47 [])) [.l 112, .c (.lit (.int .i64 100))], none⟩, 14, false, []⟩,
  ⟨⟨(some (false, 115)), .mks false 1 [.l 111, .l 113, .l 114], none⟩, 16, true, []⟩,
  ⟨⟨(some (false, 118)), .call (.c (.fn 47 [])) [.l 117, .c (.lit (.int .i64 10000))], none⟩, 19, false, []⟩,
  ⟨⟨(some (false, 120)), .mks false 1 [.l 116, .l 118, .l 119], none⟩, 21, true, []⟩,
  ⟨⟨(some (true, 20)), .mv (.l 102), none⟩, 22, true, []⟩,
  ⟨⟨(some (true, 21)), .mv (.l 106), none⟩, 23, true, []⟩,
  ⟨⟨(some (true, 22)), .mv (.l 110), none⟩, 24, true, []⟩,
  ⟨⟨(some (true, 23)), .mv (.l 115), none⟩, 25, true, []⟩,
  ⟨⟨(some (true, 24)), .mv (.l 120), none⟩, 26, true, []⟩])
(.seq
(.seq
(.reg [
  ⟨(some (true, 25)), .mv (.c (.lit (.int .i64 0))), none⟩])
(.block 2
(.loop
(.seq
(.seq
(.reg [
  ⟨(some (false, 121)), .mv (.g 25), none⟩,
  ⟨(some (false, 122)), .mv (.g 20), none⟩,
  ⟨(some (false, 123)), .len (.l 122), none⟩,
  ⟨(some (true, 124)), .bin .lss (.l 121) (.l 123), none⟩])
(.cond (.g 124)
.skip
(.exit 2)))
(.seq
(.block 3
(.seq
(.reg [
  ⟨(some (false, 127)), .mv (.g 22), none⟩,
  ⟨(some (false, 128)), .mv (.g 25), none⟩,
  ⟨(some (false, 129)), .ia 1 (.l 127) (.l 128), none⟩,
  ⟨(some (false, 130)), .ld none (.l 129), none⟩,
  ⟨(some (false, 131)), .call (.c (.fn 57 [])) [.l 130], none⟩,
  ⟨(some (true, 26)), .mv (.l 131), none⟩])
(.seq
(.draw [
  ⟨⟨(some (false, 133)), .mv (.g 20), none⟩, 0, true, []⟩,
  ⟨⟨(some (false, 134)), .mv (.g 25), none⟩, 1, true, []⟩,
  ⟨⟨(some (false, 135)), .ia 6 (.l 133) (.l 134), none⟩, 2, true, []⟩,
  ⟨⟨(some (false, 136)), .ld (some 6) (.l 135), none⟩, 3, true, []⟩,
  ⟨⟨(some (false, 137)), .mv (.g 21), none⟩, 4, true, []⟩,
  ⟨⟨(some (false, 138)), .mv (.g 25), none⟩, 5, true, []⟩,
  ⟨⟨(some (false, 139)), .ia 3 (.l 137) (.l 138), none⟩, 6, true, []⟩,
  ⟨⟨(some (false, 140)), .ld (some 3) (.l 139), none⟩, 7, true, []⟩,
  ⟨⟨(some (false, 141)), .mv (.g 26), none⟩, 8, true, []⟩,
  ⟨⟨(some (false, 142)), .call (.c (.fn 43 [])) [.l 136, .l 140, .l 141], none⟩, 9, false, []⟩,
  ⟨⟨(some (false, 132)), .mv (.l 142), none⟩, 10, true, []⟩,
  ⟨⟨(some (false, 143)), .ex (.l 132) 0, none⟩, 11, true, []⟩,
  ⟨⟨(some (false, 144)), .ex (.l 132) 1, none⟩, 12, true, []⟩,
  ⟨⟨(some (false, 145)), .ex (.l 132) 2, none⟩, 13, true, []⟩,
  ⟨⟨(some (true, 27)), .mv (.l 143), none⟩, 14, true, []⟩,
  ⟨⟨(some (true, 28)), .mv (.l 144), none⟩, 15, true, []⟩,
  ⟨⟨(some (true, 29)), .mv (.l 145), none⟩, 16, true, []⟩])
(.seq
(.draw [
  ⟨⟨(some (false, 147)), .mv (.g 20), none⟩, 0, true, []⟩,
  ⟨⟨(some (false, 148)), .mv (.g 25), none⟩, 1, true, []⟩,
  ⟨⟨(some (false, 149)), .ia 6 (.l 147) (.l 148), none⟩, 2, true, []⟩,
  ⟨⟨(some (false, 150)), .ld (some 6) (.l 149), none⟩, 3, true, []⟩,
  ⟨⟨(some (false, 151)), .mv (.g 21), none⟩, 4, true, []⟩,
  ⟨⟨(some (false, 152)), .mv (.g 25), none⟩, 5, true, []⟩,
  ⟨⟨(some (false, 153)), .ia 3 (.l 151) (.l 152), none⟩, 6, true, []⟩,
  ⟨⟨(some (false, 154)), .ld (some 3) (.l 153), none⟩, 7, true, []⟩,
  ⟨⟨(some (false, 155)), .mv (.g 22), none⟩, 8, true, []⟩,
  ⟨⟨(some (false, 156)), .mv (.g 25), none⟩, 9, true, []⟩,
  ⟨⟨(some (false, 157)), .ia 1 (.l 155) (.l 156), none⟩, 10, true, []⟩,
  ⟨⟨(some (false, 158)), .ld none (.l 157), none⟩, 11, true, []⟩,
  ⟨⟨(some (false, 159)), .call (.c (.fn 58 [])) [.l 150, .l 154, .l 158], none⟩, 12, false, []⟩,
  ⟨⟨(some (false, 146)), .mv (.l 159), none⟩, 13, true, []⟩,
  ⟨⟨(some (false, 160)), .ex (.l 146) 0, none⟩, 14, true, []⟩,
  ⟨⟨(some (false, 161)), .ex (.l 146) 1, none⟩, 15, true, []⟩,
  ⟨⟨(some (false, 162)), .ex (.l 146) 2, none⟩, 16, true, []⟩,
  ⟨⟨(some (true, 30)), .mv (.l 160), none⟩, 17, true, []⟩,
  ⟨⟨(some (true, 31)), .mv (.l 161), none⟩, 18, true, []⟩,
  ⟨⟨(some (true, 32)), .mv (.l 162), none⟩, 19, true, []⟩])
(.seq
(.draw [
  ⟨⟨(some (false, 164)), .mv (.g 20), none⟩, 0, true, []⟩,
  ⟨⟨(some (false, 165)), .mv (.g 25), none⟩, 1, true, []⟩,
  ⟨⟨(some (false, 166)), .ia 6 (.l 164) (.l 165), none⟩, 2, true, []⟩,
  ⟨⟨(some (false, 167)), .ld (some 6) (.l 166), none⟩, 3, true, []⟩,
  ⟨⟨(some (false, 168)), .mv (.g 21), none⟩, 4, true, []⟩,
  ⟨⟨(some (false, 169)), .mv (.g 25), none⟩, 5, true, []⟩,
  ⟨⟨(some (false, 170)), .ia 3 (.l 168) (.l 169), none⟩, 6, true, []⟩,
  ⟨⟨(some (false, 171)), .ld (some 3) (.l 170), none⟩, 7, true, []⟩,
  ⟨⟨(some (false, 172)), .mv (.g 26), none⟩, 8, true, []⟩,
  ⟨⟨(some (false, 173)), .mv (.g 23), none⟩, 9, true, []⟩,
  ⟨⟨(some (false, 174)), .mv (.g 25), none⟩, 10, true, []⟩,
  ⟨⟨(some (false, 175)), .ia 1 (.l 173) (.l 174), none⟩, 11, true, []⟩,
  ⟨⟨(some (false, 176)), .ld none (.l 175), none⟩, 12, true, []⟩,
  ⟨⟨(some (false, 177)), .mv (.g 24), none⟩, 13, true, []⟩,
  ⟨⟨(some (false, 178)), .mv (.g 25), none⟩, 14, true, []⟩,
  ⟨⟨(some (false, 179)), .ia 1 (.l 177) (.l 178), none⟩, 15, true, []⟩,
  ⟨⟨(some (false, 180)), .ld none (.l 179), none⟩, 16, true, []⟩,
  ⟨⟨(some (false, 181)), .call (.c (.fn 59 [])) [.l 167, .l 171, .l 172, .l 176, .l 180], none⟩, 17, false, []⟩,
  ⟨⟨(some (false, 163)), .mv (.l 181), none⟩, 18, true, []⟩,
  ⟨⟨(some (false, 182)), .ex (.l 163) 0, none⟩, 19, true, []⟩,
  ⟨⟨(some (false, 183)), .ex (.l 163) 1, none⟩, 20, true, []⟩,
  ⟨⟨(some (true, 33)), .mv (.l 182), none⟩, 21, true, []⟩,
  ⟨⟨(some (true, 34)), .mv (.l 183), none⟩, 22, true, []⟩])
(.seq
(.draw [
  ⟨⟨(some (false, 185)), .mv (.g 20), none⟩, 0, true, []⟩,
  ⟨⟨(some (false, 186)), .mv (.g 25), none⟩, 1, true, []⟩,
  ⟨⟨(some (false, 187)), .ia 6 (.l 185) (.l 186), none⟩, 2, true, []⟩,
  ⟨⟨(some (false, 188)), .ld (some 6) (.l 187), none⟩, 3, true, []⟩,
  ⟨⟨(some (false, 189)), .mv (.g 21), none⟩, 4, true, []⟩,
  ⟨⟨(some (false, 190)), .mv (.g 25), none⟩, 5, true, []⟩,
  ⟨⟨(some (false, 191)), .ia 3 (.l 189) (.l 190), none⟩, 6, true, []⟩,
  ⟨⟨(some (false, 192)), .ld (some 3) (.l 191), none⟩, 7, true, []⟩,
  ⟨⟨(some (false, 193)), .mv (.g 22), none⟩, 8, true, []⟩,
  ⟨⟨(some (false, 194)), .mv (.g 25), none⟩, 9, true, []⟩,
  ⟨⟨(some (false, 195)), .ia 1 (.l 193) (.l 194), none⟩, 10, true, []⟩,
  ⟨⟨(some (false, 196)), .ld none (.l 195), none⟩, 11, true, []⟩,
  ⟨⟨(some (false, 197)), .mv (.g 23), none⟩, 12, true, []⟩,
  ⟨⟨(some (false, 198)), .mv (.g 25), none⟩, 13, true, []⟩,
  ⟨⟨(some (false, 199)), .ia 1 (.l 197) (.l 198), none⟩, 14, true, []⟩,
  ⟨⟨(some (false, 200)), .ld none (.l 199), none⟩, 15, true, []⟩,
  ⟨⟨(some (false, 201)), .mv (.g 24), none⟩, 16, true, []⟩,
  ⟨⟨(some (false, 202)), .mv (.g 25), none⟩, 17, true, []⟩,
  ⟨⟨(some (false, 203)), .ia 1 (.l 201) (.l 202), none⟩, 18, true, []⟩,
  ⟨⟨(some (false, 204)), .ld none (.l 203), none⟩, 19, true, []⟩,
  ⟨⟨(some (false, 205)), .call (.c (.fn 60 [])) [.l 188, .l 192, .l 196, .l 200, .l 204], none⟩, 20, false, []⟩,
  ⟨⟨(some (false, 184)), .mv (.l 205), none⟩, 21, true, []⟩,
  ⟨⟨(some (false, 206)), .ex (.l 184) 0, none⟩, 22, true, []⟩,
  ⟨⟨(some (false, 207)), .ex (.l 184) 1, none⟩, 23, true, []⟩,
  ⟨⟨(some (true, 35)), .mv (.l 206), none⟩, 24, true, []⟩,
  ⟨⟨(some (true, 36)), .mv (.l 207), none⟩, 25, true, []⟩])
(.seq
(.reg [
  ⟨(some (false, 208)), .mv (.g 29), none⟩,
  ⟨(some (false, 209)), .mv (.g 32), none⟩,
  ⟨(some (false, 210)), .bin .neq (.l 208) (.l 209), none⟩,
  ⟨(some (false, 211)), .mv (.l 210), none⟩,
  ⟨(some (false, 212)), .mv (.g 28), (some (.l 211, false))⟩,
  ⟨(some (false, 213)), .mv (.g 31), (some (.l 211, false))⟩,
  ⟨(some (false, 214)), .bin .neq (.l 212) (.l 213), (some (.l 211, false))⟩,
  ⟨(some (false, 215)), .pick (.l 211) (.c (.lit (.bool true))) (.l 214), none⟩,
  ⟨(some (false, 216)), .mv (.l 215), none⟩,
  ⟨(some (false, 217)), .mv (.g 34), (some (.l 216, false))⟩,
  ⟨(some (false, 218)), .mv (.g 36), (some (.l 216, false))⟩,
  ⟨(some (false, 219)), .bin .neq (.l 217) (.l 218), (some (.l 216, false))⟩,
  ⟨(some (false, 220)), .pick (.l 216) (.c (.lit (.bool true))) (.l 219), none⟩,
  ⟨(some (false, 221)), .mv (.l 220), none⟩,
  ⟨(some (false, 222)), .mv (.g 27), (some (.l 221, false))⟩,
  ⟨(some (false, 223)), .mv (.g 30), (some (.l 221, false))⟩,
  ⟨(some (false, 224)), .call (.c (.fn 61 [])) [.l 222, .l 223], (some (.l 221, false))⟩,
  ⟨(some (false, 225)), .un .not (.l 224), (some (.l 221, false))⟩,
  ⟨(some (false, 226)), .pick (.l 221) (.c (.lit (.bool true))) (.l 225), none⟩,
  ⟨(some (false, 227)), .mv (.l 226), none⟩,
  ⟨(some (false, 228)), .mv (.g 33), (some (.l 227, false))⟩,
  ⟨(some (false, 229)), .mv (.g 35), (some (.l 227, false))⟩,
  ⟨(some (false, 230)), .call (.c (.fn 28 [])) [.l 228, .l 229], (some (.l 227, false))⟩,
  ⟨(some (false, 231)), .un .not (.l 230), (some (.l 227, false))⟩,
  ⟨(some (false, 232)), .pick (.l 227) (.c (.lit (.bool true))) (.l 231), none⟩,
  ⟨(some (false, 233)), .mv (.l 232), none⟩,
  ⟨(some (false, 234)), .mv (.g 26), (some (.l 233, false))⟩,
  ⟨(some (false, 235)), .mv (.g 22), (some (.l 233, false))⟩,
  ⟨(some (false, 236)), .mv (.g 25), (some (.l 233, false))⟩,
  ⟨(some (false, 237)), .ia 1 (.l 235) (.l 236), (some (.l 233, false))⟩,
  ⟨(some (false, 238)), .ld none (.l 237), (some (.l 233, false))⟩,
  ⟨(some (false, 239)), .call (.c (.fn 40 [])) [.l 234, .l 238], (some (.l 233, false))⟩,
  ⟨(some (false, 240)), .un .not (.l 239), (some (.l 233, false))⟩,
  ⟨(some (true, 241)), .pick (.l 233) (.c (.lit (.bool true))) (.l 240), none⟩])
(.cond (.g 241)
(.seq
(.reg [
  ⟨(some (true, 12)), .mv (.c (.lit (.bool false))), none⟩])
.ret)
.skip))))))))
(.reg [
  ⟨(some (false, 125)), .mv (.g 25), none⟩,
  ⟨(some (false, 126)), .bin .add (.l 125) (.c (.lit (.int .i64 1))), none⟩,
  ⟨(some (true, 25)), .mv (.l 126), none⟩]))))))
(.seq
(.reg [
  ⟨(some (false, 242)), .call (.c (.fn 17 [])) [], none⟩,
  ⟨(some (true, 12)), .mv (.l 242), none⟩])
.ret)))))))))))
def K14 : List Nat := [0, 1, 2, 3, 4, 5, 49, 54, 62, 76, 124, 241, 12, 6, 7, 13, 14, 15, 16, 17, 18, 19, 20, 21, 22, 23, 24, 25, 26, 27, 28, 29, 30, 31, 32, 33, 34, 35, 36]
noncomputable def b14 : Code := match Try.f14.body with | some c => c | none => .skip
theorem t14 : trCode ⟨Try.prog, K14, [], 243, none⟩ b14 = some c14 := by kernel_rfl
theorem go14 {args : List AV} {H : AHeap} {Kk : AV → AHeap → Prop} (hn : args.length = 6) (h : AGo ⟨Try.prog, K14, [], 243, none⟩ H.length [.code c14] (RetP [.t (.g 12)] H.length Kk) ⟨[], argsG 0 args⟩ H) : ACalls Try.prog 14 args H Kk :=
  ACalls_of Try.func14 (c := b14) rfl (by kernel_rfl) t14 (rs := [.t (.g 12)]) (by kernel_rfl) (by rw [hn]; exact Nat.le_of_ble_eq_true rfl) (by rw [hn]; rfl) (h.weaken (fun _ _ => RetP.hands) (by simp))

end Go.Sas
