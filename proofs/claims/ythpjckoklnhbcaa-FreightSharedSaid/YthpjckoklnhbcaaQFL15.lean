/-
The code of some functions with its types resolved, printed by a program; that it is the code is checked by the kernel.
Conditions: none.
-/
import Derived.Test.YthpjckoklnhbcaaH4
import Derived.Test.YthpjckoklnhbcaaProg
set_option linter.unusedVariables false
set_option linter.unusedSimpArgs false
namespace Go.Sas
open Go.Proofs
set_option maxRecDepth 100000
/-- sastrugi/sastrugilaw08.FreightShared -/
def c15 : ACode :=
  (.seq
(.reg [
  ⟨(some (true, 2)), .mv (.c (.lit (.bool false))), none⟩])
(.seq
(.reg [
  ⟨(some (false, 25)), .mv (.g 0), none⟩,
  ⟨(some (false, 26)), .call (.c (.fn 22 [])) [.l 25], none⟩,
  ⟨(some (true, 3)), .mv (.l 26), none⟩])
(.seq
(.reg [
  ⟨(some (false, 27)), .mv (.g 3), none⟩,
  ⟨(some (false, 28)), .mv (.g 3), none⟩,
  ⟨(some (false, 29)), .call (.c (.fn 47 [])) [.l 28, .c (.lit (.int .i64 50))], none⟩,
  ⟨(some (false, 30)), .mv (.g 3), none⟩,
  ⟨(some (false, 31)), .call (.c (.fn 47 [])) [.l 30, .c (.lit (.int .i64 1000000))], none⟩,
  ⟨(some (false, 32)), .mks false 1 [.c (.lit (.int .i64 0)), .l 29, .l 31], none⟩,
  ⟨(some (false, 33)), .call (.c (.fn 46 [])) [.l 27, .l 32], none⟩,
  ⟨(some (true, 4)), .mv (.l 33), none⟩,
  ⟨(some (true, 5)), .mv (.c (.lit (.int .i64 0))), none⟩])
(.seq
(.reg [
  ⟨(some (true, 6)), .mv (.c (.lit (.slice none 0 0))), none⟩])
(.seq
(.seq
(.reg [
  ⟨(some (false, 34)), .mv (.g 3), none⟩,
  ⟨(some (false, 35)), .call (.c (.fn 45 [])) [.l 34, .c (.lit (.int .i64 1)), .c (.lit (.int .i64 9))], none⟩,
  ⟨(some (true, 7)), .mv (.l 35), none⟩])
(.block 0
(.loop
(.seq
(.seq
(.reg [
  ⟨(some (false, 36)), .mv (.g 7), none⟩,
  ⟨(some (true, 37)), .bin .gtr (.l 36) (.c (.lit (.int .i64 0))), none⟩])
(.cond (.g 37)
.skip
(.exit 0)))
(.seq
(.block 1
(.seq
(.reg [
  ⟨(some (false, 40)), .mv (.g 6), none⟩,
  ⟨(some (false, 41)), .mv (.g 3), none⟩,
  ⟨(some (false, 42)), .mv (.g 3), none⟩,
  ⟨(some (false, 43)), .call (.c (.fn 47 [])) [.l 42, .c (.lit (.int .i64 4))], none⟩,
  ⟨(some (false, 44)), .mv (.g 3), none⟩,
  ⟨(some (false, 45)), .call (.c (.fn 47 [])) [.l 44, .c (.lit (.int .i64 500))], none⟩,
  ⟨(some (false, 46)), .mks false 1 [.c (.lit (.int .i64 0)), .l 43, .l 45], none⟩,
  ⟨(some (false, 47)), .call (.c (.fn 46 [])) [.l 41, .l 46], none⟩,
  ⟨(some (false, 48)), .mks false 1 [.l 47], none⟩,
  ⟨(some (false, 49)), .app 1 8 (.l 40) (.l 48), none⟩,
  ⟨(some (true, 6)), .mv (.l 49), none⟩])
(.reg [
  ⟨(some (false, 50)), .mv (.g 5), none⟩,
  ⟨(some (false, 51)), .mv (.g 6), none⟩,
  ⟨(some (false, 52)), .mv (.g 6), none⟩,
  ⟨(some (false, 53)), .len (.l 52), none⟩,
  ⟨(some (false, 54)), .bin .sub (.l 53) (.c (.lit (.int .i64 1))), none⟩,
  ⟨(some (false, 55)), .ia 1 (.l 51) (.l 54), none⟩,
  ⟨(some (false, 56)), .ld none (.l 55), none⟩,
  ⟨(some (false, 57)), .bin .add (.l 50) (.l 56), none⟩,
  ⟨(some (true, 5)), .mv (.l 57), none⟩])))
(.reg [
  ⟨(some (false, 38)), .mv (.g 7), none⟩,
  ⟨(some (false, 39)), .bin .sub (.l 38) (.c (.lit (.int .i64 1))), none⟩,
  ⟨(some (true, 7)), .mv (.l 39), none⟩]))))))
(.seq
(.reg [
  ⟨(some (false, 59)), .mv (.g 4), none⟩,
  ⟨(some (false, 60)), .mv (.g 6), none⟩,
  ⟨(some (false, 61)), .call (.c (.fn 48 [])) [.l 59, .l 60], none⟩,
  ⟨(some (false, 58)), .mv (.l 61), none⟩,
  ⟨(some (false, 62)), .ex (.l 58) 0, none⟩,
  ⟨(some (false, 63)), .ex (.l 58) 1, none⟩,
  ⟨(some (true, 8)), .mv (.l 62), none⟩,
  ⟨(some (true, 9)), .mv (.l 63), none⟩])
(.seq
(.seq
(.reg [
  ⟨(some (false, 64)), .mv (.g 9), none⟩,
  ⟨(some (false, 65)), .bin .neq (.l 64) (.c (.lit (.int .i64 0))), none⟩,
  ⟨(some (false, 66)), .mv (.l 65), none⟩,
  ⟨(some (false, 67)), .mv (.g 8), (some (.l 66, false))⟩,
  ⟨(some (false, 68)), .len (.l 67), (some (.l 66, false))⟩,
  ⟨(some (false, 69)), .mv (.g 6), (some (.l 66, false))⟩,
  ⟨(some (false, 70)), .len (.l 69), (some (.l 66, false))⟩,
  ⟨(some (false, 71)), .bin .neq (.l 68) (.l 70), (some (.l 66, false))⟩,
  ⟨(some (true, 72)), .pick (.l 66) (.c (.lit (.bool true))) (.l 71), none⟩])
(.cond (.g 72)
(.seq
(.reg [
  ⟨(some (true, 2)), .mv (.c (.lit (.bool false))), none⟩])
.ret)
.skip))
(.seq
(.reg [
  ⟨(some (true, 10)), .mv (.c (.lit (.int .i64 0))), none⟩])
(.seq
(.seq
(.reg [
  ⟨(some (true, 11)), .mv (.c (.lit (.int .i64 0))), none⟩])
(.block 2
(.loop
(.seq
(.seq
(.reg [
  ⟨(some (false, 73)), .mv (.g 11), none⟩,
  ⟨(some (false, 74)), .mv (.g 8), none⟩,
  ⟨(some (false, 75)), .len (.l 74), none⟩,
  ⟨(some (true, 76)), .bin .lss (.l 73) (.l 75), none⟩])
(.cond (.g 76)
.skip
(.exit 2)))
(.seq
(.block 3
(.seq
(.reg [
  ⟨(some (false, 79)), .mv (.g 10), none⟩,
  ⟨(some (false, 80)), .mv (.g 8), none⟩,
  ⟨(some (false, 81)), .mv (.g 11), none⟩,
  ⟨(some (false, 82)), .ia 1 (.l 80) (.l 81), none⟩,
  ⟨(some (false, 83)), .ld none (.l 82), none⟩,
  ⟨(some (false, 84)), .bin .add (.l 79) (.l 83), none⟩,
  ⟨(some (true, 10)), .mv (.l 84), none⟩])
(.seq
(.seq
(.reg [
  ⟨(some (false, 85)), .mv (.g 4), none⟩,
  ⟨(some (false, 86)), .mv (.g 6), none⟩,
  ⟨(some (false, 87)), .mv (.g 11), none⟩,
  ⟨(some (false, 88)), .ia 1 (.l 86) (.l 87), none⟩,
  ⟨(some (false, 89)), .ld none (.l 88), none⟩,
  ⟨(some (false, 90)), .bin .mul (.l 85) (.l 89), none⟩,
  ⟨(some (true, 12)), .mv (.l 90), none⟩])
(.seq
(.draw [
  ⟨⟨(some (false, 91)), .mv (.g 5), none⟩, 0, true, []⟩,
  ⟨⟨(some (false, 92)), .bin .gtr (.l 91) (.c (.lit (.int .i64 0))), none⟩, 1, true, []⟩,
  ⟨⟨(some (false, 93)), .mv (.l 92), none⟩, 2, true, []⟩,
  ⟨⟨(some (false, 94)), .mv (.g 8), (some (.l 93, true))⟩, 3, true, []⟩,
  ⟨⟨(some (false, 95)), .mv (.g 11), (some (.l 93, true))⟩, 4, true, []⟩,
  ⟨⟨(some (false, 96)), .ia 1 (.l 94) (.l 95), (some (.l 93, true))⟩, 5, true, []⟩,
  ⟨⟨(some (false, 97)), .ld none (.l 96), (some (.l 93, true))⟩, 6, true, []⟩,
  ⟨⟨(some (false, 98)), .mv (.g 12), (some (.l 93, true))⟩, 7, true, []⟩,
  ⟨⟨(some (false, 99)), .mv (.g 5), (some (.l 93, true))⟩, 8, true, []⟩,
  ⟨⟨(some (false, 100)), .bin .quo (.l 98) (.l 99), (some (.l 93, true))⟩, 9, true, []⟩,
  ⟨⟨(some (false, 101)), .bin .lss (.l 97) (.l 100), (some (.l 93, true))⟩, 10, true, []⟩,
  ⟨⟨(some (false, 102)), .mv (.l 101), (some (.l 93, true))⟩, 11, true, []⟩,
  ⟨⟨(some (false, 103)), .mv (.g 8), (some (.l 102, false))⟩, 12, true, []⟩,
  ⟨⟨(some (false, 104)), .mv (.g 11), (some (.l 102, false))⟩, 13, true, []⟩,
  ⟨⟨(some (false, 105)), .ia 1 (.l 103) (.l 104), (some (.l 102, false))⟩, 14, true, []⟩,
  ⟨⟨(some (false, 106)), .ld none (.l 105), (some (.l 102, false))⟩, 15, true, []⟩,
  ⟨⟨(some (false, 107)), .mv (.g 12), (some (.l 102, false))⟩, 16, true, []⟩,
  ⟨⟨(some (false, 108)), .mv (.g 5), (some (.l 102, false))⟩, 17, true, []⟩,
  ⟨⟨(some (false, 109)), .bin .add (.l 107) (.l 108), (some (.l 102, false))⟩, 18, true, []⟩,
  ⟨⟨(some (false, 110)), .bin .sub (.l 109) (.c (.lit (.int .i64 1))), (some (.l 102, false))⟩, 19, true, []⟩,
  ⟨⟨(some (false, 111)), .mv (.g 5), (some (.l 102, false))⟩, 20, true, []⟩,
  ⟨⟨(some (false, 112)), .bin .quo (.l 110) (.l 111), (some (.l 102, false))⟩, 21, true, []⟩,
  ⟨⟨(some (false, 113)), .bin .gtr (.l 106) (.l 112), (some (.l 102, false))⟩, 22, true, []⟩,
  ⟨⟨(some (false, 114)), .pick (.l 102) (.c (.lit (.bool true))) (.l 113), (some (.l 93, true))⟩, 23, true, []⟩,
  ⟨⟨(some (true, 115)), .pick (.l 93) (.l 114) (.c (.lit (.bool false))), none⟩, 24, true, []⟩])
(.cond (.g 115)
(.seq
(.reg [
  ⟨(some (true, 2)), .mv (.c (.lit (.bool false))), none⟩])
.ret)
.skip)))
(.seq
(.reg [
  ⟨(some (true, 13)), .mv (.c (.lit (.int .i64 0))), none⟩])
(.block 4
(.loop
(.seq
(.seq
(.reg [
  ⟨(some (false, 116)), .mv (.g 13), none⟩,
  ⟨(some (false, 117)), .mv (.g 11), none⟩,
  ⟨(some (true, 118)), .bin .lss (.l 116) (.l 117), none⟩])
(.cond (.g 118)
.skip
(.exit 4)))
(.seq
(.block 5
(.seq
(.draw [
  ⟨⟨(some (false, 121)), .mv (.g 6), none⟩, 0, true, []⟩,
  ⟨⟨(some (false, 122)), .mv (.g 13), none⟩, 1, true, []⟩,
  ⟨⟨(some (false, 123)), .ia 1 (.l 121) (.l 122), none⟩, 2, true, []⟩,
  ⟨⟨(some (false, 124)), .ld none (.l 123), none⟩, 3, true, []⟩,
  ⟨⟨(some (false, 125)), .mv (.g 6), none⟩, 4, true, []⟩,
  ⟨⟨(some (false, 126)), .mv (.g 11), none⟩, 5, true, []⟩,
  ⟨⟨(some (false, 127)), .ia 1 (.l 125) (.l 126), none⟩, 6, true, []⟩,
  ⟨⟨(some (false, 128)), .ld none (.l 127), none⟩, 7, true, []⟩,
  ⟨⟨(some (false, 129)), .bin .eql (.l 124) (.l 128), none⟩, 8, true, []⟩,
  ⟨⟨(some (false, 130)), .mv (.l 129), none⟩, 9, true, []⟩,
  ⟨⟨(some (false, 131)), .mv (.g 8), (some (.l 130, true))⟩, 10, true, []⟩,
  ⟨⟨(some (false, 132)), .mv (.g 13), (some (.l 130, true))⟩, 11, true, []⟩,
  ⟨⟨(some (false, 133)), .ia 1 (.l 131) (.l 132), (some (.l 130, true))⟩, 12, true, []⟩,
  ⟨⟨(some (false, 134)), .ld none (.l 133), (some (.l 130, true))⟩, 13, true, []⟩,
  ⟨⟨(some (false, 135)), .mv (.g 8), (some (.l 130, true))⟩, 14, true, []⟩,
  ⟨⟨(some (false, 136)), .mv (.g 11), (some (.l 130, true))⟩, 15, true, []⟩,
  ⟨⟨(some (false, 137)), .ia 1 (.l 135) (.l 136), (some (.l 130, true))⟩, 16, true, []⟩,
  ⟨⟨(some (false, 138)), .ld none (.l 137), (some (.l 130, true))⟩, 17, true, []⟩,
  ⟨⟨(some (false, 139)), .bin .lss (.l 134) (.l 138), (some (.l 130, true))⟩, 18, true, []⟩,
  ⟨⟨(some (false, 140)), .mv (.l 139), (some (.l 130, true))⟩, 19, true, []⟩,
  ⟨⟨(some (false, 141)), .mv (.g 8), (some (.l 140, false))⟩, 20, true, []⟩,
  ⟨⟨(some (false, 142)), .mv (.g 13), (some (.l 140, false))⟩, 21, true, []⟩,
  ⟨⟨(some (false, 143)), .ia 1 (.l 141) (.l 142), (some (.l 140, false))⟩, 22, true, []⟩,
  ⟨⟨(some (false, 144)), .ld none (.l 143), (some (.l 140, false))⟩, 23, true, []⟩,
  ⟨⟨(some (false, 145)), .mv (.g 8), (some (.l 140, false))⟩, 24, true, []⟩,
  ⟨⟨(some (false, 146)), .mv (.g 11), (some (.l 140, false))⟩, 25, true, []⟩,
  ⟨⟨(some (false, 147)), .ia 1 (.l 145) (.l 146), (some (.l 140, false))⟩, 26, true, []⟩,
  ⟨⟨(some (false, 148)), .ld none (.l 147), (some (.l 140, false))⟩, 27, true, []⟩,
  ⟨⟨(some (false, 149)), .bin .add (.l 148) (.c (.lit (.int .i64 1))), (some (.l 140, false))⟩, 28, true, []⟩,
  ⟨⟨(some (false, 150)), .bin .gtr (.l 144) (.l 149), (some (.l 140, false))⟩, 29, true, []⟩,
  ⟨⟨(some (false, 151)), .pick (.l 140) (.c (.lit (.bool true))) (.l 150), (some (.l 130, true))⟩, 30, true, []⟩,
  ⟨⟨(some (true, 152)), .pick (.l 130) (.l 151) (.c (.lit (.bool false))), none⟩, 31, true, []⟩])
(.cond (.g 152)
(.seq
(.reg [
  ⟨(some (true, 2)), .mv (.c (.lit (.bool false))), none⟩])
.ret)
.skip)))
(.reg [
  ⟨(some (false, 119)), .mv (.g 13), none⟩,
  ⟨(some (false, 120)), .bin .add (.l 119) (.c (.lit (.int .i64 1))), none⟩,
  ⟨(some (true, 13)), .mv (.l 120), none⟩])))))))))
(.reg [
  ⟨(some (false, 77)), .mv (.g 11), none⟩,
  ⟨(some (false, 78)), .bin .add (.l 77) (.c (.lit (.int .i64 1))), none⟩,
  ⟨(some (true, 11)), .mv (.l 78), none⟩]))))))
(.seq
(.reg [
  ⟨(some (false, 153)), .mv (.g 3), none⟩,
  ⟨(some (false, 154)), .call (.c (.fn 23 [])) [.l 153, .c (.lit (.int .i64 10)), .c (.lit (.int .i64 5))], none⟩,
  ⟨(some (true, 14)), .new [.int .i64 0, .int .i64 0, .int .i64 0, .int .i64 0, .slice none 0 0, .slice none 0 0], none⟩,
  ⟨none, .st 6 (.g 14) (.l 154), none⟩])
(.seq
(.reg [
  ⟨(some (false, 155)), .mv (.g 3), none⟩,
  ⟨(some (false, 156)), .ld (some 6) (.g 14), none⟩,
  ⟨(some (false, 157)), .call (.c (.fn 35 [])) [.l 155, .l 156], none⟩,
  ⟨(some (true, 15)), .new [.int .i64 0, .int .i64 0, .slice none 0 0], none⟩,
  ⟨none, .st 3 (.g 15) (.l 157), none⟩])
(.seq
(.reg [
  ⟨(some (false, 158)), .mv (.g 3), none⟩,
  ⟨(some (false, 159)), .ld (some 6) (.g 14), none⟩,
  ⟨(some (false, 160)), .ld (some 3) (.g 15), none⟩,
  ⟨(some (false, 161)), .call (.c (.fn 42 [])) [.l 158, .l 159, .l 160], none⟩,
  ⟨(some (true, 16)), .mv (.l 161), none⟩])
(.seq
(.reg [
  ⟨(some (false, 162)), .mv (.g 3), none⟩,
  ⟨(some (false, 163)), .call (.c (.fn 47 [])) [.l 162, .c (.lit (.int .i64 50))], none⟩,
  ⟨(some (false, 164)), .mv (.g 3), none⟩,
  ⟨(some (false, 165)), .call (.c (.fn 47 [])) [.l 164, .c (.lit (.int .i64 5000))], none⟩,
  ⟨(some (true, 17)), .mv (.l 163), none⟩,
  ⟨(some (true, 18)), .mv (.l 165), none⟩])
(.seq
(.reg [
  ⟨(some (false, 167)), .ld (some 6) (.g 14), none⟩,
  ⟨(some (false, 168)), .ld (some 3) (.g 15), none⟩,
  ⟨(some (false, 169)), .mv (.g 16), none⟩,
  ⟨(some (false, 170)), .mv (.g 17), none⟩,
  ⟨(some (false, 171)), .mv (.g 18), none⟩,
  ⟨(some (false, 172)), .call (.c (.fn 59 [])) [.l 167, .l 168, .l 169, .l 170, .l 171], none⟩,
  ⟨(some (false, 166)), .mv (.l 172), none⟩,
  ⟨(some (false, 173)), .ex (.l 166) 0, none⟩,
  ⟨(some (false, 174)), .ex (.l 166) 1, none⟩,
  ⟨(some (true, 19)), .mv (.l 173), none⟩,
  ⟨(some (true, 20)), .mv (.l 174), none⟩])
(.seq
(.reg [
  ⟨(some (false, 175)), .mv (.g 18), none⟩,
  ⟨(some (true, 21)), .mv (.l 175), none⟩])
(.seq
(.seq
(.reg [
  ⟨(some (true, 22)), .mv (.c (.lit (.int .i64 0))), none⟩])
(.block 6
(.loop
(.seq
(.seq
(.reg [
  ⟨(some (false, 176)), .mv (.g 22), none⟩,
  ⟨(some (false, 177)), .mv (.g 16), none⟩,
  ⟨(some (false, 178)), .len (.l 177), none⟩,
  ⟨(some (true, 179)), .bin .lss (.l 176) (.l 178), none⟩])
(.cond (.g 179)
.skip
(.exit 6)))
(.seq
(.block 7
(.seq
(.reg [
  ⟨(some (true, 23)), .mv (.c (.lit (.int .i64 0))), none⟩])
(.block 8
(.loop
(.seq
(.seq
(.reg [
  ⟨(some (false, 182)), .mv (.g 23), none⟩,
  ⟨(some (false, 183)), .mv (.g 16), none⟩,
  ⟨(some (false, 184)), .mv (.g 22), none⟩,
  ⟨(some (false, 185)), .ia 1 (.l 183) (.l 184), none⟩,
  ⟨(some (false, 186)), .ld none (.l 185), none⟩,
  ⟨(some (false, 187)), .len (.l 186), none⟩,
  ⟨(some (true, 188)), .bin .lss (.l 182) (.l 187), none⟩])
(.cond (.g 188)
.skip
(.exit 8)))
(.seq
(.block 9
(.reg [
  ⟨(some (false, 191)), .mv (.g 21), none⟩,
  ⟨(some (false, 192)), .mv (.g 17), none⟩,
  ⟨(some (false, 193)), .mv (.g 16), none⟩,
  ⟨(some (false, 194)), .mv (.g 22), none⟩,
  ⟨(some (false, 195)), .ia 1 (.l 193) (.l 194), none⟩,
  ⟨(some (false, 196)), .ld none (.l 195), none⟩,
  ⟨(some (false, 197)), .mv (.g 23), none⟩,
  ⟨(some (false, 198)), .ia 1 (.l 196) (.l 197), none⟩,
  ⟨(some (false, 199)), .ld none (.l 198), none⟩,
  ⟨(some (false, 200)), .bin .mul (.l 192) (.l 199), none⟩,
  ⟨(some (false, 201)), .bin .add (.l 191) (.l 200), none⟩,
  ⟨(some (true, 21)), .mv (.l 201), none⟩]))
(.reg [
  ⟨(some (false, 189)), .mv (.g 23), none⟩,
  ⟨(some (false, 190)), .bin .add (.l 189) (.c (.lit (.int .i64 1))), none⟩,
  ⟨(some (true, 23)), .mv (.l 190), none⟩])))))))
(.reg [
  ⟨(some (false, 180)), .mv (.g 22), none⟩,
  ⟨(some (false, 181)), .bin .add (.l 180) (.c (.lit (.int .i64 1))), none⟩,
  ⟨(some (true, 22)), .mv (.l 181), none⟩]))))))
(.seq
(.seq
(.reg [
  ⟨(some (true, 24)), .mv (.c (.lit (.int .i64 0))), none⟩])
(.block 10
(.loop
(.seq
(.seq
(.reg [
  ⟨(some (false, 202)), .mv (.g 24), none⟩,
  ⟨(some (false, 203)), .mv (.g 19), none⟩,
  ⟨(some (false, 204)), .len (.l 203), none⟩,
  ⟨(some (true, 205)), .bin .lss (.l 202) (.l 204), none⟩])
(.cond (.g 205)
.skip
(.exit 10)))
(.seq
(.block 11
(.reg [
  ⟨(some (false, 208)), .mv (.g 21), none⟩,
  ⟨(some (false, 209)), .mv (.g 19), none⟩,
  ⟨(some (false, 210)), .mv (.g 24), none⟩,
  ⟨(some (false, 211)), .ia 1 (.l 209) (.l 210), none⟩,
  ⟨(some (false, 212)), .ld none (.l 211), none⟩,
  ⟨(some (false, 213)), .bin .sub (.l 208) (.l 212), none⟩,
  ⟨(some (true, 21)), .mv (.l 213), none⟩]))
(.reg [
  ⟨(some (false, 206)), .mv (.g 24), none⟩,
  ⟨(some (false, 207)), .bin .add (.l 206) (.c (.lit (.int .i64 1))), none⟩,
  ⟨(some (true, 24)), .mv (.l 207), none⟩]))))))
(.seq
(.reg [
  ⟨(some (false, 214)), .mv (.g 20), none⟩,
  ⟨(some (false, 215)), .bin .eql (.l 214) (.c (.lit (.int .i64 0))), none⟩,
  ⟨(some (false, 216)), .mv (.l 215), none⟩,
  ⟨(some (false, 217)), .mv (.g 19), (some (.l 216, true))⟩,
  ⟨(some (false, 218)), .len (.l 217), (some (.l 216, true))⟩,
  ⟨(some (false, 219)), .fa (.g 14) 5, (some (.l 216, true))⟩,
  ⟨(some (false, 220)), .ld none (.l 219), (some (.l 216, true))⟩,
  ⟨(some (false, 221)), .len (.l 220), (some (.l 216, true))⟩,
  ⟨(some (false, 222)), .bin .eql (.l 218) (.l 221), (some (.l 216, true))⟩,
  ⟨(some (false, 223)), .pick (.l 216) (.l 222) (.c (.lit (.bool false))), none⟩,
  ⟨(some (false, 224)), .mv (.l 223), none⟩,
  ⟨(some (false, 225)), .mv (.g 10), (some (.l 224, true))⟩,
  ⟨(some (false, 226)), .mv (.g 4), (some (.l 224, true))⟩,
  ⟨(some (false, 227)), .bin .eql (.l 225) (.l 226), (some (.l 224, true))⟩,
  ⟨(some (false, 228)), .pick (.l 224) (.l 227) (.c (.lit (.bool false))), none⟩,
  ⟨(some (false, 229)), .mv (.l 228), none⟩,
  ⟨(some (false, 230)), .mv (.g 21), (some (.l 229, true))⟩,
  ⟨(some (false, 231)), .bin .eql (.l 230) (.c (.lit (.int .i64 0))), (some (.l 229, true))⟩,
  ⟨(some (false, 232)), .pick (.l 229) (.l 231) (.c (.lit (.bool false))), none⟩,
  ⟨(some (false, 233)), .mv (.l 232), none⟩,
  ⟨(some (false, 234)), .call (.c (.fn 17 [])) [], (some (.l 233, true))⟩,
  ⟨(some (false, 235)), .pick (.l 233) (.l 234) (.c (.lit (.bool false))), none⟩,
  ⟨(some (true, 2)), .mv (.l 235), none⟩])
.ret))))))))))))))))))
def K15 : List Nat := [0, 37, 72, 76, 115, 118, 152, 179, 188, 205, 2, 3, 4, 5, 6, 7, 8, 9, 10, 11, 12, 13, 14, 15, 16, 17, 18, 19, 20, 21, 22, 23, 24]
noncomputable def b15 : Code := match Try.f15.body with | some c => c | none => .skip
theorem t15 : trCode ⟨Try.prog, K15, [], 236, none⟩ b15 = some c15 := by kernel_rfl
theorem go15 {args : List AV} {H : AHeap} {Kk : AV → AHeap → Prop} (hn : args.length = 1) (h : AGo ⟨Try.prog, K15, [], 236, none⟩ H.length [.code c15] (RetP [.t (.g 2)] H.length Kk) ⟨[], argsG 0 args⟩ H) : ACalls Try.prog 15 args H Kk :=
  ACalls_of Try.func15 (c := b15) rfl (by kernel_rfl) t15 (rs := [.t (.g 2)]) (by kernel_rfl) (by rw [hn]; exact Nat.le_of_ble_eq_true rfl) (by rw [hn]; rfl) (h.weaken (fun _ _ => RetP.hands) (by simp))

end Go.Sas
