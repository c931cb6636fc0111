/-
The code of some functions with its types resolved, printed by a program; that it is the code is checked by the kernel.
Conditions: none.
-/
import Derived.Test.YthpjckoklnhbcaaZ4
import Derived.Test.YthpjckoklnhbcaaProg
set_option linter.unusedVariables false
set_option linter.unusedSimpArgs false
namespace Go.Sas
open Go.Proofs
set_option maxRecDepth 100000
/-- sastrugi/sastrugilaw08.FreightMore -/
def c13 : ACode :=
  (.seq
(.reg [
  ⟨(some (true, 2)), .mv (.c (.lit (.bool false))), none⟩])
(.seq
(.reg [
  ⟨(some (false, 30)), .mv (.g 0), none⟩,
  ⟨(some (false, 31)), .call (.c (.fn 22 [])) [.l 30], none⟩,
  ⟨(some (true, 3)), .mv (.l 31), none⟩])
(.seq
(.reg [
  ⟨(some (false, 32)), .mv (.g 3), none⟩,
  ⟨(some (false, 33)), .call (.c (.fn 23 [])) [.l 32, .c (.lit (.int .i64 12)), .c (.lit (.int .i64 5))], none⟩,
  ⟨(some (true, 4)), .new [.int .i64 0, .int .i64 0, .int .i64 0, .int .i64 0, .slice none 0 0, .slice none 0 0], none⟩,
  ⟨none, .st 6 (.g 4) (.l 33), none⟩])
(.seq
(.reg [
  ⟨(some (false, 34)), .mv (.g 3), none⟩,
  ⟨(some (false, 35)), .fa (.g 4) 5, none⟩,
  ⟨(some (false, 36)), .ld none (.l 35), none⟩,
  ⟨(some (false, 37)), .len (.l 36), none⟩,
  ⟨(some (false, 38)), .call (.c (.fn 31 [])) [.l 34, .l 37], none⟩,
  ⟨(some (true, 5)), .mv (.l 38), none⟩])
(.seq
(.draw [
  ⟨⟨(some (false, 39)), .mv (.g 3), none⟩, 0, true, []⟩,
  ⟨⟨(some (false, 40)), .ld (some 6) (.g 4), none⟩, 1, true, []⟩,
  ⟨⟨(some (false, 42)), .mv (.g 3), none⟩, 3, true, []⟩,
  ⟨⟨(some (false, 43)), .ld (some 6) (.g 4), none⟩, 4, true, []⟩,
  ⟨⟨(some (true, 6)), .new [.int .i64 0, .int .i64 0, .slice none 0 0], none⟩, 6, true, []⟩,
  ⟨⟨(some (true, 7)), .new [.int .i64 0, .int .i64 0, .slice none 0 0], none⟩, 7, true, []⟩,
  ⟨⟨(some (false, 41)), .call (.c (.fn 35 [])) [.l 39, .l 40], none⟩, 2, false, []⟩,
  ⟨⟨(some (false, 44)), .call (.c (.fn 35 [])) [.l 42, .l 43], none⟩, 5, false, []⟩,
  ⟨⟨none, .st 3 (.g 6) (.l 41), none⟩, 8, true, [6, 7]⟩,
  ⟨⟨none, .st 3 (.g 7) (.l 44), none⟩, 9, true, [6, 7]⟩])
(.seq
(.reg [
  ⟨(some (false, 46)), .ld (some 6) (.g 4), none⟩,
  ⟨(some (false, 47)), .ld (some 3) (.g 6), none⟩,
  ⟨(some (false, 48)), .mv (.g 5), none⟩,
  ⟨(some (false, 49)), .call (.c (.fn 50 [])) [.l 46, .l 47, .l 48], none⟩,
  ⟨(some (false, 45)), .mv (.l 49), none⟩,
  ⟨(some (false, 50)), .ex (.l 45) 0, none⟩,
  ⟨(some (false, 51)), .ex (.l 45) 1, none⟩,
  ⟨(some (false, 52)), .ex (.l 45) 2, none⟩,
  ⟨(some (false, 8)), .mv (.l 50), none⟩,
  ⟨(some (true, 9)), .mv (.l 51), none⟩,
  ⟨(some (true, 10)), .mv (.l 52), none⟩])
(.seq
(.reg [
  ⟨(some (false, 54)), .ld (some 6) (.g 4), none⟩,
  ⟨(some (false, 55)), .ld (some 3) (.g 7), none⟩,
  ⟨(some (false, 56)), .mv (.g 5), none⟩,
  ⟨(some (false, 57)), .call (.c (.fn 50 [])) [.l 54, .l 55, .l 56], none⟩,
  ⟨(some (false, 53)), .mv (.l 57), none⟩,
  ⟨(some (false, 58)), .ex (.l 53) 0, none⟩,
  ⟨(some (false, 59)), .ex (.l 53) 1, none⟩,
  ⟨(some (false, 60)), .ex (.l 53) 2, none⟩,
  ⟨(some (false, 11)), .mv (.l 58), none⟩,
  ⟨(some (true, 12)), .mv (.l 59), none⟩,
  ⟨(some (true, 13)), .mv (.l 60), none⟩])
(.seq
(.reg [
  ⟨(some (true, 14)), .mv (.c (.lit (.bool true))), none⟩,
  ⟨(some (true, 15)), .mv (.c (.lit (.bool true))), none⟩,
  ⟨(some (true, 16)), .mv (.c (.lit (.int .i64 0))), none⟩,
  ⟨(some (true, 17)), .mv (.c (.lit (.int .i64 0))), none⟩])
(.seq
(.seq
(.reg [
  ⟨(some (true, 18)), .mv (.c (.lit (.int .i64 0))), none⟩])
(.block 0
(.loop
(.seq
(.seq
(.reg [
  ⟨(some (false, 61)), .mv (.g 18), none⟩,
  ⟨(some (false, 62)), .fa (.g 4) 4, none⟩,
  ⟨(some (false, 63)), .ld none (.l 62), none⟩,
  ⟨(some (false, 64)), .len (.l 63), none⟩,
  ⟨(some (true, 65)), .bin .lss (.l 61) (.l 64), none⟩])
(.cond (.g 65)
.skip
(.exit 0)))
(.seq
(.block 1
(.seq
(.draw [
  ⟨⟨(some (false, 68)), .mv (.g 16), none⟩, 0, true, []⟩,
  ⟨⟨(some (false, 69)), .ld (some 3) (.g 6), none⟩, 1, true, []⟩,
  ⟨⟨(some (false, 70)), .mv (.g 18), none⟩, 2, true, []⟩,
  ⟨⟨(some (false, 73)), .mv (.g 17), none⟩, 5, true, []⟩,
  ⟨⟨(some (false, 74)), .ld (some 3) (.g 7), none⟩, 6, true, []⟩,
  ⟨⟨(some (false, 75)), .mv (.g 18), none⟩, 7, true, []⟩,
  ⟨⟨(some (false, 71)), .call (.c (.fn 44 [])) [.l 69, .l 70], none⟩, 3, false, []⟩,
  ⟨⟨(some (false, 72)), .bin .add (.l 68) (.l 71), none⟩, 4, true, []⟩,
  ⟨⟨(some (false, 76)), .call (.c (.fn 44 [])) [.l 74, .l 75], none⟩, 8, false, []⟩,
  ⟨⟨(some (false, 77)), .bin .add (.l 73) (.l 76), none⟩, 9, true, []⟩,
  ⟨⟨(some (true, 16)), .mv (.l 72), none⟩, 10, true, []⟩,
  ⟨⟨(some (true, 17)), .mv (.l 77), none⟩, 11, true, []⟩])
(.reg [
  ⟨(some (false, 78)), .mv (.g 14), none⟩,
  ⟨(some (false, 79)), .mv (.l 78), none⟩,
  ⟨(some (false, 80)), .mv (.g 16), (some (.l 79, true))⟩,
  ⟨(some (false, 81)), .mv (.g 17), (some (.l 79, true))⟩,
  ⟨(some (false, 82)), .bin .leq (.l 80) (.l 81), (some (.l 79, true))⟩,
  ⟨(some (false, 83)), .pick (.l 79) (.l 82) (.c (.lit (.bool false))), none⟩,
  ⟨(some (false, 84)), .mv (.g 15), none⟩,
  ⟨(some (false, 85)), .mv (.l 84), none⟩,
  ⟨(some (false, 86)), .mv (.g 16), (some (.l 85, true))⟩,
  ⟨(some (false, 87)), .mv (.g 17), (some (.l 85, true))⟩,
  ⟨(some (false, 88)), .bin .geq (.l 86) (.l 87), (some (.l 85, true))⟩,
  ⟨(some (false, 89)), .pick (.l 85) (.l 88) (.c (.lit (.bool false))), none⟩,
  ⟨(some (true, 14)), .mv (.l 83), none⟩,
  ⟨(some (true, 15)), .mv (.l 89), none⟩])))
(.reg [
  ⟨(some (false, 66)), .mv (.g 18), none⟩,
  ⟨(some (false, 67)), .bin .add (.l 66) (.c (.lit (.int .i64 1))), none⟩,
  ⟨(some (true, 18)), .mv (.l 67), none⟩]))))))
(.seq
(.seq
(.reg [
  ⟨(some (false, 90)), .mv (.g 10), none⟩,
  ⟨(some (false, 91)), .un .not (.l 90), none⟩,
  ⟨(some (false, 92)), .mv (.l 91), none⟩,
  ⟨(some (false, 93)), .mv (.g 13), (some (.l 92, false))⟩,
  ⟨(some (false, 94)), .un .not (.l 93), (some (.l 92, false))⟩,
  ⟨(some (false, 95)), .pick (.l 92) (.c (.lit (.bool true))) (.l 94), none⟩,
  ⟨(some (false, 96)), .mv (.l 95), none⟩,
  ⟨(some (false, 97)), .mv (.g 14), (some (.l 96, false))⟩,
  ⟨(some (false, 98)), .mv (.l 97), (some (.l 96, false))⟩,
  ⟨(some (false, 99)), .mv (.g 9), (some (.l 98, true))⟩,
  ⟨(some (false, 100)), .mv (.g 12), (some (.l 98, true))⟩,
  ⟨(some (false, 101)), .bin .lss (.l 99) (.l 100), (some (.l 98, true))⟩,
  ⟨(some (false, 102)), .pick (.l 98) (.l 101) (.c (.lit (.bool false))), (some (.l 96, false))⟩,
  ⟨(some (false, 103)), .pick (.l 96) (.c (.lit (.bool true))) (.l 102), none⟩,
  ⟨(some (false, 104)), .mv (.l 103), none⟩,
  ⟨(some (false, 105)), .mv (.g 15), (some (.l 104, false))⟩,
  ⟨(some (false, 106)), .mv (.l 105), (some (.l 104, false))⟩,
  ⟨(some (false, 107)), .mv (.g 9), (some (.l 106, true))⟩,
  ⟨(some (false, 108)), .mv (.g 12), (some (.l 106, true))⟩,
  ⟨(some (false, 109)), .bin .gtr (.l 107) (.l 108), (some (.l 106, true))⟩,
  ⟨(some (false, 110)), .pick (.l 106) (.l 109) (.c (.lit (.bool false))), (some (.l 104, false))⟩,
  ⟨(some (true, 111)), .pick (.l 104) (.c (.lit (.bool true))) (.l 110), none⟩])
(.cond (.g 111)
(.seq
(.reg [
  ⟨(some (true, 2)), .mv (.c (.lit (.bool false))), none⟩])
.ret)
.skip))
(.seq
(.reg [
  ⟨(some (false, 112)), .ld (some 6) (.g 4), none⟩,
  ⟨(some (false, 113)), .call (.c (.fn 18 [])) [.l 112], none⟩,
  ⟨(some (true, 19)), .new [.int .i64 0, .int .i64 0, .int .i64 0, .int .i64 0, .slice none 0 0, .slice none 0 0], none⟩,
  ⟨none, .st 6 (.g 19) (.l 113), none⟩])
(.seq
(.draw [
  ⟨⟨(some (false, 114)), .mv (.g 3), none⟩, 0, true, []⟩,
  ⟨⟨(some (false, 115)), .fa (.g 4) 0, none⟩, 1, true, []⟩,
  ⟨⟨(some (false, 116)), .ld (some 2) (.l 115), none⟩, 2, true, []⟩,
  ⟨⟨(some (false, 118)), .mv (.g 3), none⟩, 4, true, []⟩,
  ⟨⟨(some (false, 119)), .fa (.g 4) 2, none⟩, 5, false, []⟩,
  ⟨⟨(some (false, 120)), .ld (some 2) (.l 119), none⟩, 6, true, []⟩,
  ⟨⟨(some (false, 117)), .call (.c (.fn 54 [])) [.l 114, .l 116], none⟩, 3, false, []⟩,
  ⟨⟨(some (false, 122)), .fa (.g 19) 0, none⟩, 8, true, []⟩,
  ⟨⟨(some (false, 121)), .call (.c (.fn 54 [])) [.l 118, .l 120], none⟩, 7, false, []⟩,
  ⟨⟨none, .st 2 (.l 122) (.l 117), none⟩, 9, false, []⟩,
  ⟨⟨(some (false, 123)), .fa (.g 19) 2, none⟩, 10, false, []⟩,
  ⟨⟨none, .st 2 (.l 123) (.l 121), none⟩, 11, true, []⟩])
(.seq
(.seq
(.reg [
  ⟨(some (true, 20)), .mv (.c (.lit (.int .i64 0))), none⟩])
(.block 2
(.loop
(.seq
(.seq
(.reg [
  ⟨(some (false, 124)), .mv (.g 20), none⟩,
  ⟨(some (false, 125)), .fa (.g 19) 4, none⟩,
  ⟨(some (false, 126)), .ld none (.l 125), none⟩,
  ⟨(some (false, 127)), .len (.l 126), none⟩,
  ⟨(some (true, 128)), .bin .lss (.l 124) (.l 127), none⟩])
(.cond (.g 128)
.skip
(.exit 2)))
(.seq
(.block 3
(.draw [
  ⟨⟨(some (false, 131)), .fa (.g 19) 4, none⟩, 0, true, []⟩,
  ⟨⟨(some (false, 132)), .ld none (.l 131), none⟩, 1, true, []⟩,
  ⟨⟨(some (false, 133)), .mv (.g 20), none⟩, 2, true, []⟩,
  ⟨⟨(some (false, 134)), .mv (.g 3), none⟩, 3, true, []⟩,
  ⟨⟨(some (false, 135)), .fa (.g 19) 4, none⟩, 4, true, []⟩,
  ⟨⟨(some (false, 136)), .ld none (.l 135), none⟩, 5, true, []⟩,
  ⟨⟨(some (false, 137)), .mv (.g 20), none⟩, 6, true, []⟩,
  ⟨⟨(some (false, 138)), .ia 2 (.l 136) (.l 137), none⟩, 7, true, []⟩,
  ⟨⟨(some (false, 139)), .ld (some 2) (.l 138), none⟩, 8, true, []⟩,
  ⟨⟨(some (false, 140)), .call (.c (.fn 54 [])) [.l 134, .l 139], none⟩, 9, false, []⟩,
  ⟨⟨(some (false, 141)), .ia 2 (.l 132) (.l 133), none⟩, 10, true, []⟩,
  ⟨⟨none, .st 2 (.l 141) (.l 140), none⟩, 11, true, []⟩]))
(.reg [
  ⟨(some (false, 129)), .mv (.g 20), none⟩,
  ⟨(some (false, 130)), .bin .add (.l 129) (.c (.lit (.int .i64 1))), none⟩,
  ⟨(some (true, 20)), .mv (.l 130), none⟩]))))))
(.seq
(.reg [
  ⟨(some (false, 143)), .ld (some 6) (.g 4), none⟩,
  ⟨(some (false, 144)), .mv (.g 5), none⟩,
  ⟨(some (false, 145)), .call (.c (.fn 30 [])) [.l 143, .l 144], none⟩,
  ⟨(some (false, 142)), .mv (.l 145), none⟩,
  ⟨(some (false, 146)), .ex (.l 142) 0, none⟩,
  ⟨(some (false, 147)), .ex (.l 142) 1, none⟩,
  ⟨(some (true, 21)), .new [.int .i64 0, .int .i64 0], none⟩,
  ⟨none, .st 2 (.g 21) (.l 146), none⟩,
  ⟨(some (true, 22)), .mv (.l 147), none⟩])
(.seq
(.reg [
  ⟨(some (false, 149)), .ld (some 6) (.g 19), none⟩,
  ⟨(some (false, 150)), .mv (.g 5), none⟩,
  ⟨(some (false, 151)), .call (.c (.fn 30 [])) [.l 149, .l 150], none⟩,
  ⟨(some (false, 148)), .mv (.l 151), none⟩,
  ⟨(some (false, 152)), .ex (.l 148) 0, none⟩,
  ⟨(some (false, 153)), .ex (.l 148) 1, none⟩,
  ⟨(some (true, 23)), .new [.int .i64 0, .int .i64 0], none⟩,
  ⟨none, .st 2 (.g 23) (.l 152), none⟩,
  ⟨(some (true, 24)), .mv (.l 153), none⟩])
(.seq
(.reg [
  ⟨(some (false, 155)), .ld (some 6) (.g 4), none⟩,
  ⟨(some (false, 156)), .mv (.g 5), none⟩,
  ⟨(some (false, 157)), .call (.c (.fn 33 [])) [.l 155, .l 156], none⟩,
  ⟨(some (false, 154)), .mv (.l 157), none⟩,
  ⟨(some (false, 158)), .ex (.l 154) 0, none⟩,
  ⟨(some (false, 159)), .ex (.l 154) 1, none⟩,
  ⟨(some (true, 25)), .mv (.l 158), none⟩,
  ⟨(some (true, 26)), .mv (.l 159), none⟩])
(.seq
(.reg [
  ⟨(some (false, 161)), .ld (some 6) (.g 19), none⟩,
  ⟨(some (false, 162)), .mv (.g 5), none⟩,
  ⟨(some (false, 163)), .call (.c (.fn 33 [])) [.l 161, .l 162], none⟩,
  ⟨(some (false, 160)), .mv (.l 163), none⟩,
  ⟨(some (false, 164)), .ex (.l 160) 0, none⟩,
  ⟨(some (false, 165)), .ex (.l 160) 1, none⟩,
  ⟨(some (true, 27)), .mv (.l 164), none⟩,
  ⟨(some (true, 28)), .mv (.l 165), none⟩])
(.seq
(.seq
(.reg [
  ⟨(some (false, 166)), .mv (.g 22), none⟩,
  ⟨(some (false, 167)), .bin .neq (.l 166) (.c (.lit (.int .i64 0))), none⟩,
  ⟨(some (false, 168)), .mv (.l 167), none⟩,
  ⟨(some (false, 169)), .mv (.g 24), (some (.l 168, false))⟩,
  ⟨(some (false, 170)), .bin .neq (.l 169) (.c (.lit (.int .i64 0))), (some (.l 168, false))⟩,
  ⟨(some (false, 171)), .pick (.l 168) (.c (.lit (.bool true))) (.l 170), none⟩,
  ⟨(some (false, 172)), .mv (.l 171), none⟩,
  ⟨(some (false, 173)), .mv (.g 26), (some (.l 172, false))⟩,
  ⟨(some (false, 174)), .bin .neq (.l 173) (.c (.lit (.int .i64 0))), (some (.l 172, false))⟩,
  ⟨(some (false, 175)), .pick (.l 172) (.c (.lit (.bool true))) (.l 174), none⟩,
  ⟨(some (false, 176)), .mv (.l 175), none⟩,
  ⟨(some (false, 177)), .mv (.g 28), (some (.l 176, false))⟩,
  ⟨(some (false, 178)), .bin .neq (.l 177) (.c (.lit (.int .i64 0))), (some (.l 176, false))⟩,
  ⟨(some (false, 179)), .pick (.l 176) (.c (.lit (.bool true))) (.l 178), none⟩,
  ⟨(some (false, 180)), .mv (.l 179), none⟩,
  ⟨(some (false, 181)), .ld (some 2) (.g 23), (some (.l 180, false))⟩,
  ⟨(some (false, 182)), .ld (some 2) (.g 21), (some (.l 180, false))⟩,
  ⟨(some (false, 183)), .call (.c (.fn 55 [])) [.l 181, .l 182], (some (.l 180, false))⟩,
  ⟨(some (false, 184)), .un .not (.l 183), (some (.l 180, false))⟩,
  ⟨(some (false, 185)), .pick (.l 180) (.c (.lit (.bool true))) (.l 184), none⟩,
  ⟨(some (false, 186)), .mv (.l 185), none⟩,
  ⟨(some (false, 187)), .mv (.g 25), (some (.l 186, false))⟩,
  ⟨(some (false, 188)), .len (.l 187), (some (.l 186, false))⟩,
  ⟨(some (false, 189)), .mv (.g 27), (some (.l 186, false))⟩,
  ⟨(some (false, 190)), .len (.l 189), (some (.l 186, false))⟩,
  ⟨(some (false, 191)), .bin .neq (.l 188) (.l 190), (some (.l 186, false))⟩,
  ⟨(some (true, 192)), .pick (.l 186) (.c (.lit (.bool true))) (.l 191), none⟩])
(.cond (.g 192)
(.seq
(.reg [
  ⟨(some (true, 2)), .mv (.c (.lit (.bool false))), none⟩])
.ret)
.skip))
(.seq
(.seq
(.reg [
  ⟨(some (true, 29)), .mv (.c (.lit (.int .i64 0))), none⟩])
(.block 4
(.loop
(.seq
(.seq
(.reg [
  ⟨(some (false, 193)), .mv (.g 29), none⟩,
  ⟨(some (false, 194)), .mv (.g 25), none⟩,
  ⟨(some (false, 195)), .len (.l 194), none⟩,
  ⟨(some (true, 196)), .bin .lss (.l 193) (.l 195), none⟩])
(.cond (.g 196)
.skip
(.exit 4)))
(.seq
(.block 5
(.seq
(.draw [
  ⟨⟨(some (false, 199)), .mv (.g 25), none⟩, 0, true, []⟩,
  ⟨⟨(some (false, 200)), .mv (.g 29), none⟩, 1, true, []⟩,
  ⟨⟨(some (false, 201)), .ia 1 (.l 199) (.l 200), none⟩, 2, true, []⟩,
  ⟨⟨(some (false, 202)), .ld none (.l 201), none⟩, 3, true, []⟩,
  ⟨⟨(some (false, 203)), .bin .neq (.l 202) (.c (.lit (.int .i64 3))), none⟩, 4, true, []⟩,
  ⟨⟨(some (false, 204)), .mv (.l 203), none⟩, 5, true, []⟩,
  ⟨⟨(some (false, 205)), .mv (.g 27), (some (.l 204, true))⟩, 6, true, []⟩,
  ⟨⟨(some (false, 206)), .mv (.g 29), (some (.l 204, true))⟩, 7, true, []⟩,
  ⟨⟨(some (false, 207)), .ia 1 (.l 205) (.l 206), (some (.l 204, true))⟩, 8, true, []⟩,
  ⟨⟨(some (false, 208)), .ld none (.l 207), (some (.l 204, true))⟩, 9, true, []⟩,
  ⟨⟨(some (false, 209)), .mv (.g 25), (some (.l 204, true))⟩, 10, true, []⟩,
  ⟨⟨(some (false, 210)), .mv (.g 29), (some (.l 204, true))⟩, 11, true, []⟩,
  ⟨⟨(some (false, 211)), .ia 1 (.l 209) (.l 210), (some (.l 204, true))⟩, 12, true, []⟩,
  ⟨⟨(some (false, 212)), .ld none (.l 211), (some (.l 204, true))⟩, 13, true, []⟩,
  ⟨⟨(some (false, 213)), .bin .neq (.l 208) (.l 212), (some (.l 204, true))⟩, 14, true, []⟩,
  ⟨⟨(some (true, 214)), .pick (.l 204) (.l 213) (.c (.lit (.bool false))), none⟩, 15, true, []⟩])
(.cond (.g 214)
(.seq
(.reg [
  ⟨(some (true, 2)), .mv (.c (.lit (.bool false))), none⟩])
.ret)
.skip)))
(.reg [
  ⟨(some (false, 197)), .mv (.g 29), none⟩,
  ⟨(some (false, 198)), .bin .add (.l 197) (.c (.lit (.int .i64 1))), none⟩,
  ⟨(some (true, 29)), .mv (.l 198), none⟩]))))))
(.seq
(.reg [
  ⟨(some (false, 215)), .call (.c (.fn 17 [])) [], none⟩,
  ⟨(some (true, 2)), .mv (.l 215), none⟩])
.ret))))))))))))))))))))
def K13 : List Nat := [0, 65, 111, 128, 192, 196, 214, 2, 3, 4, 5, 6, 7, 9, 10, 12, 13, 14, 15, 16, 17, 18, 19, 20, 21, 22, 23, 24, 25, 26, 27, 28, 29]
noncomputable def b13 : Code := match Try.f13.body with | some c => c | none => .skip
theorem t13 : trCode ⟨Try.prog, K13, [], 216, none⟩ b13 = some c13 := by kernel_rfl
theorem go13 {args : List AV} {H : AHeap} {Kk : AV → AHeap → Prop} (hn : args.length = 1) (h : AGo ⟨Try.prog, K13, [], 216, none⟩ H.length [.code c13] (RetP [.t (.g 2)] H.length Kk) ⟨[], argsG 0 args⟩ H) : ACalls Try.prog 13 args H Kk :=
  ACalls_of Try.func13 (c := b13) rfl (by kernel_rfl) t13 (rs := [.t (.g 2)]) (by kernel_rfl) (by rw [hn]; exact Nat.le_of_ble_eq_true rfl) (by rw [hn]; rfl) (h.weaken (fun _ _ => RetP.hands) (by simp))

end Go.Sas
