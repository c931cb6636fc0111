/-
Freight: the law FreightBests: its core.
The code of some functions with its types resolved, printed by a program; that it is the code is checked by the kernel.
Conditions: none.
-/
import Derived.Test.YthpjckoklnhbcaaHN
import Derived.Test.YthpjckoklnhbcaaHE
import Derived.Test.YthpjckoklnhbcaaHO
import Derived.Test.YthpjckoklnhbcaaH4
import Derived.Test.YthpjckoklnhbcaaProg
set_option linter.unusedVariables false
set_option linter.unusedSimpArgs false
namespace Go.Sas
open Go.Proofs
set_option maxRecDepth 100000
end Go.Sas
namespace Go.Sas
open Go.Proofs
set_option maxRecDepth 100000
/-- sastrugi/sastrugilaw08.FreightBests -/
def c4 : ACode :=
  (.seq
(.reg [
  ⟨(some (true, 2)), .box (.g 0), none⟩,
  ⟨(some (true, 4)), .mv (.c (.lit (.bool false))), none⟩])
(.seq
(.seq
(.reg [
  ⟨(some (false, 19)), .ld (some 6) (.g 2), none⟩,
  ⟨(some (true, 20)), .call (.c (.fn 16 [])) [.l 19], none⟩])
(.cond (.g 20)
(.seq
(.reg [
  ⟨(some (false, 21)), .call (.c (.fn 17 [])) [], none⟩,
  ⟨(some (true, 4)), .mv (.l 21), none⟩])
.ret)
.skip))
(.seq
(.reg [
  ⟨(some (false, 22)), .mv (.g 1), none⟩,
  ⟨(some (false, 23)), .call (.c (.fn 22 [])) [.l 22], none⟩,
  ⟨(some (true, 5)), .mv (.l 23), none⟩])
(.seq
(.draw [
  ⟨⟨(some (false, 24)), .ld (some 6) (.g 2), none⟩, 0, true, []⟩,
  ⟨⟨(some (false, 25)), .mv (.g 5), none⟩, 1, true, []⟩,
  ⟨⟨(some (false, 26)), .call (.c (.fn 23 [])) [.l 25, .c (.lit (.int .i64 12)), .c (.lit (.int .i64 4))], none⟩, 2, false, []⟩,
  ⟨⟨(some (false, 27)), .mks false 6 [.l 24, .l 26], none⟩, 3, true, []⟩,
  ⟨⟨(some (true, 6)), .mv (.l 27), none⟩, 4, true, []⟩])
(.seq
(.seq
(.reg [
  ⟨(some (true, 7)), .mv (.c (.lit (.int .i64 0))), none⟩])
(.block 0
(.loop
(.seq
(.seq
(.reg [
  ⟨(some (false, 28)), .mv (.g 7), none⟩,
  ⟨(some (false, 29)), .mv (.g 6), none⟩,
  ⟨(some (false, 30)), .len (.l 29), none⟩,
  ⟨(some (true, 31)), .bin .lss (.l 28) (.l 30), none⟩])
(.cond (.g 31)
.skip
(.exit 0)))
(.seq
(.block 1
(.seq
(.reg [
  ⟨(some (false, 34)), .mv (.g 6), none⟩,
  ⟨(some (false, 35)), .mv (.g 7), none⟩,
  ⟨(some (false, 36)), .ia 6 (.l 34) (.l 35), none⟩,
  ⟨(some (false, 37)), .ld (some 6) (.l 36), none⟩,
  ⟨(some (false, 38)), .call (.c (.fn 18 [])) [.l 37], none⟩,
  ⟨(some (true, 8)), .new [.int .i64 0, .int .i64 0, .int .i64 0, .int .i64 0, .slice none 0 0, .slice none 0 0], none⟩,
  ⟨none, .st 6 (.g 8) (.l 38), none⟩])
(.seq
(.reg [
  ⟨(some (false, 40)), .ld (some 6) (.g 8), none⟩,
  ⟨(some (false, 41)), .call (.c (.fn 24 [])) [.l 40], none⟩,
  ⟨(some (false, 39)), .mv (.l 41), none⟩,
  ⟨(some (false, 42)), .ex (.l 39) 0, none⟩,
  ⟨(some (false, 43)), .ex (.l 39) 1, none⟩,
  ⟨(some (false, 44)), .ex (.l 39) 2, none⟩,
  ⟨(some (true, 9)), .mv (.l 42), none⟩,
  ⟨(some (true, 10)), .mv (.l 43), none⟩,
  ⟨(some (true, 11)), .mv (.l 44), none⟩])
(.seq
(.reg [
  ⟨(some (false, 46)), .mv (.g 6), none⟩,
  ⟨(some (false, 47)), .mv (.g 7), none⟩,
  ⟨(some (false, 48)), .ia 6 (.l 46) (.l 47), none⟩,
  ⟨(some (false, 49)), .ld (some 6) (.l 48), none⟩,
  ⟨(some (false, 50)), .call (.c (.fn 25 [])) [.l 49], none⟩,
  ⟨(some (false, 45)), .mv (.l 50), none⟩,
  ⟨(some (false, 51)), .ex (.l 45) 0, none⟩,
  ⟨(some (false, 52)), .ex (.l 45) 1, none⟩,
  ⟨(some (false, 53)), .ex (.l 45) 2, none⟩,
  ⟨(some (true, 12)), .mv (.l 51), none⟩,
  ⟨(some (true, 13)), .mv (.l 52), none⟩,
  ⟨(some (true, 14)), .mv (.l 53), none⟩])
(.seq
(.reg [
  ⟨(some (false, 55)), .ld (some 6) (.g 8), none⟩,
  ⟨(some (false, 56)), .call (.c (.fn 26 [])) [.l 55], none⟩,
  ⟨(some (false, 54)), .mv (.l 56), none⟩,
  ⟨(some (false, 57)), .ex (.l 54) 0, none⟩,
  ⟨(some (false, 58)), .ex (.l 54) 1, none⟩,
  ⟨(some (true, 15)), .mv (.l 57), none⟩,
  ⟨(some (true, 16)), .mv (.l 58), none⟩])
(.seq
(.reg [
  ⟨(some (false, 60)), .mv (.g 6), none⟩,
  ⟨(some (false, 61)), .mv (.g 7), none⟩,
  ⟨(some (false, 62)), .ia 6 (.l 60) (.l 61), none⟩,
  ⟨(some (false, 63)), .ld (some 6) (.l 62), none⟩,
  ⟨(some (false, 64)), .call (.c (.fn 27 [])) [.l 63], none⟩,
  ⟨(some (false, 59)), .mv (.l 64), none⟩,
  ⟨(some (false, 65)), .ex (.l 59) 0, none⟩,
  ⟨(some (false, 66)), .ex (.l 59) 1, none⟩,
  ⟨(some (true, 17)), .mv (.l 65), none⟩,
  ⟨(some (true, 18)), .mv (.l 66), none⟩])
(.seq
(.draw [
  ⟨⟨(some (false, 67)), .mv (.g 11), none⟩, 0, true, []⟩,
  ⟨⟨(some (false, 68)), .mv (.g 14), none⟩, 1, true, []⟩,
  ⟨⟨(some (false, 69)), .bin .neq (.l 67) (.l 68), none⟩, 2, true, []⟩,
  ⟨⟨(some (false, 70)), .mv (.l 69), none⟩, 3, true, []⟩,
  ⟨⟨(some (false, 71)), .mv (.g 10), (some (.l 70, false))⟩, 4, true, []⟩,
  ⟨⟨(some (false, 72)), .mv (.g 13), (some (.l 70, false))⟩, 5, true, []⟩,
  ⟨⟨(some (false, 73)), .bin .neq (.l 71) (.l 72), (some (.l 70, false))⟩, 6, true, []⟩,
  ⟨⟨(some (false, 74)), .pick (.l 70) (.c (.lit (.bool true))) (.l 73), none⟩, 7, true, []⟩,
  ⟨⟨(some (false, 75)), .mv (.l 74), none⟩, 8, true, []⟩,
  ⟨⟨(some (false, 76)), .mv (.g 9), (some (.l 75, false))⟩, 9, true, []⟩,
  ⟨⟨(some (false, 77)), .mv (.g 12), (some (.l 75, false))⟩, 10, true, []⟩,
  ⟨⟨(some (false, 78)), .call (.c (.fn 28 [])) [.l 76, .l 77], (some (.l 75, false))⟩, 11, false, []⟩,
  ⟨⟨(some (false, 79)), .un .not (.l 78), (some (.l 75, false))⟩, 12, true, []⟩,
  ⟨⟨(some (false, 80)), .pick (.l 75) (.c (.lit (.bool true))) (.l 79), none⟩, 13, true, []⟩,
  ⟨⟨(some (false, 81)), .mv (.l 80), none⟩, 14, true, []⟩,
  ⟨⟨(some (false, 82)), .mv (.g 15), (some (.l 81, false))⟩, 15, true, []⟩,
  ⟨⟨(some (false, 83)), .mv (.g 17), (some (.l 81, false))⟩, 16, true, []⟩,
  ⟨⟨(some (false, 84)), .bin .neq (.l 82) (.l 83), (some (.l 81, false))⟩, 17, true, []⟩,
  ⟨⟨(some (false, 85)), .pick (.l 81) (.c (.lit (.bool true))) (.l 84), none⟩, 18, true, []⟩,
  ⟨⟨(some (false, 86)), .mv (.l 85), none⟩, 19, true, []⟩,
  ⟨⟨(some (false, 87)), .mv (.g 16), (some (.l 86, false))⟩, 20, true, []⟩,
  ⟨⟨(some (false, 88)), .mv (.g 18), (some (.l 86, false))⟩, 21, true, []⟩,
  ⟨⟨(some (false, 89)), .bin .neq (.l 87) (.l 88), (some (.l 86, false))⟩, 22, true, []⟩,
  ⟨⟨(some (false, 90)), .pick (.l 86) (.c (.lit (.bool true))) (.l 89), none⟩, 23, true, []⟩,
  ⟨⟨(some (false, 91)), .mv (.l 90), none⟩, 24, true, []⟩,
  ⟨⟨(some (false, 92)), .ld (some 6) (.g 8), (some (.l 91, false))⟩, 25, true, []⟩,
  ⟨⟨(some (false, 93)), .mv (.g 6), (some (.l 91, false))⟩, 26, true, []⟩,
  ⟨⟨(some (false, 94)), .mv (.g 7), (some (.l 91, false))⟩, 27, true, []⟩,
  ⟨⟨(some (false, 95)), .ia 6 (.l 93) (.l 94), (some (.l 91, false))⟩, 28, true, []⟩,
  ⟨⟨(some (false, 96)), .ld (some 6) (.l 95), (some (.l 91, false))⟩, 29, true, []⟩,
  ⟨⟨(some (false, 97)), .call (.c (.fn 21 [])) [.l 92, .l 96], (some (.l 91, false))⟩, 30, false, []⟩,
  ⟨⟨(some (false, 98)), .un .not (.l 97), (some (.l 91, false))⟩, 31, true, []⟩,
  ⟨⟨(some (true, 99)), .pick (.l 91) (.c (.lit (.bool true))) (.l 98), none⟩, 32, true, []⟩])
(.cond (.g 99)
(.seq
(.reg [
  ⟨(some (true, 4)), .mv (.c (.lit (.bool false))), none⟩])
.ret)
.skip))))))))
(.reg [
  ⟨(some (false, 32)), .mv (.g 7), none⟩,
  ⟨(some (false, 33)), .bin .add (.l 32) (.c (.lit (.int .i64 1))), none⟩,
  ⟨(some (true, 7)), .mv (.l 33), none⟩]))))))
(.seq
(.reg [
  ⟨(some (false, 100)), .call (.c (.fn 17 [])) [], none⟩,
  ⟨(some (true, 4)), .mv (.l 100), none⟩])
.ret))))))
end Go.Sas
