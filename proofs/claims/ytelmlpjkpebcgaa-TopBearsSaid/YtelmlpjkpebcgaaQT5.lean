/-
The code of some functions with its types resolved, printed by a program; that it is the code is checked by the kernel.
Conditions: none.
-/
import Derived.Test.YtelmlpjkpebcgaaH4
import Derived.Test.YtelmlpjkpebcgaaProg
set_option linter.unusedVariables false
set_option linter.unusedSimpArgs false
namespace Go.Sas
open Go.Proofs
set_option maxRecDepth 100000
/-- sastrugi/sastrugilaw03.BearHolds -/
def c3 : ACode :=
  (.seq
(.reg [
  ⟨(some (true, 5)), .box (.g 0), none⟩,
  ⟨(some (true, 10)), .mv (.c (.lit (.bool false))), none⟩])
(.seq
(.seq
(.reg [
  ⟨(some (false, 27)), .ld (some 11) (.g 5), none⟩,
  ⟨(some (false, 28)), .call (.c (.fn 18 [])) [.l 27], none⟩,
  ⟨(some (false, 29)), .mv (.l 28), none⟩,
  ⟨(some (false, 30)), .mv (.g 1), (some (.l 29, false))⟩,
  ⟨(some (false, 31)), .len (.l 30), (some (.l 29, false))⟩,
  ⟨(some (false, 32)), .bin .gtr (.l 31) (.c (.lit (.int .i64 60))), (some (.l 29, false))⟩,
  ⟨(some (false, 33)), .mv (.l 32), (some (.l 29, false))⟩,
  ⟨(some (false, 34)), .mv (.g 1), (some (.l 33, true))⟩,
  ⟨(some (false, 35)), .len (.l 34), (some (.l 33, true))⟩,
  ⟨(some (false, 36)), .bin .leq (.l 35) (.c (.lit (.int .i64 1000))), (some (.l 33, true))⟩,
  ⟨(some (false, 37)), .pick (.l 33) (.l 36) (.c (.lit (.bool false))), (some (.l 29, false))⟩,
  ⟨(some (false, 38)), .pick (.l 29) (.c (.lit (.bool true))) (.l 37), none⟩,
  ⟨(some (false, 39)), .mv (.l 38), none⟩,
  ⟨(some (false, 40)), .mv (.g 2), (some (.l 39, false))⟩,
  ⟨(some (false, 41)), .len (.l 40), (some (.l 39, false))⟩,
  ⟨(some (false, 42)), .bin .gtr (.l 41) (.c (.lit (.int .i64 60))), (some (.l 39, false))⟩,
  ⟨(some (false, 43)), .pick (.l 39) (.c (.lit (.bool true))) (.l 42), none⟩,
  ⟨(some (false, 44)), .mv (.l 43), none⟩,
  ⟨(some (false, 45)), .mv (.g 3), (some (.l 44, false))⟩,
  ⟨(some (false, 46)), .len (.l 45), (some (.l 44, false))⟩,
  ⟨(some (false, 47)), .bin .gtr (.l 46) (.c (.lit (.int .i64 60))), (some (.l 44, false))⟩,
  ⟨(some (true, 48)), .pick (.l 44) (.c (.lit (.bool true))) (.l 47), none⟩])
(.cond (.g 48)
(.seq
(.reg [
  ⟨(some (false, 49)), .call (.c (.fn 19 [])) [], none⟩,
  ⟨(some (true, 10)), .mv (.l 49), none⟩])
.ret)
.skip))
(.seq
(.reg [
  ⟨(some (false, 50)), .mv (.g 4), none⟩,
  ⟨(some (false, 51)), .call (.c (.fn 20 [])) [.l 50], none⟩,
  ⟨(some (true, 11)), .mv (.l 51), none⟩])
(.seq
(.reg [
  ⟨(some (false, 52)), .mv (.g 11), none⟩,
  ⟨(some (false, 53)), .call (.c (.fn 21 [])) [.l 52], none⟩,
  ⟨(some (false, 54)), .mv (.g 11), none⟩,
  ⟨(some (false, 55)), .call (.c (.fn 22 [])) [.l 54, .c (.lit (.int .i64 4))], none⟩,
  ⟨(some (true, 12)), .new [.int .i64 0, .int .i64 0, .slice none 0 0, .slice none 0 0, .int .i64 0, .int .i64 0, .int .i64 0, .int .i64 0, .int .i64 0, .int .i64 0, .int .i64 0], none⟩,
  ⟨none, .st 11 (.g 12) (.l 53), none⟩,
  ⟨(some (true, 13)), .mv (.l 55), none⟩])
(.seq
(.reg [
  ⟨(some (false, 56)), .mv (.g 11), none⟩,
  ⟨(some (false, 57)), .mv (.g 13), none⟩,
  ⟨(some (false, 58)), .len (.l 57), none⟩,
  ⟨(some (false, 59)), .call (.c (.fn 23 [])) [.l 56, .l 58, .c (.lit (.int .i64 3))], none⟩,
  ⟨(some (false, 60)), .mv (.g 11), none⟩,
  ⟨(some (false, 61)), .mv (.g 13), none⟩,
  ⟨(some (false, 62)), .len (.l 61), none⟩,
  ⟨(some (false, 63)), .call (.c (.fn 24 [])) [.l 60, .l 62, .c (.lit (.int .i64 6))], none⟩,
  ⟨(some (true, 14)), .mv (.l 59), none⟩,
  ⟨(some (true, 15)), .mv (.l 63), none⟩])
(.seq
(.reg [
  ⟨(some (false, 64)), .ld (some 11) (.g 5), none⟩,
  ⟨(some (false, 65)), .ld (some 11) (.g 12), none⟩,
  ⟨(some (false, 66)), .ld (some 11) (.g 12), none⟩,
  ⟨(some (false, 67)), .mks false 11 [.l 64, .l 65, .l 66], none⟩,
  ⟨(some (false, 68)), .mv (.g 1), none⟩,
  ⟨(some (false, 69)), .mv (.g 13), none⟩,
  ⟨(some (false, 70)), .mv (.g 1), none⟩,
  ⟨(some (false, 71)), .mks false 1 [.l 68, .l 69, .l 70], none⟩,
  ⟨(some (false, 72)), .mv (.g 2), none⟩,
  ⟨(some (false, 73)), .mv (.g 14), none⟩,
  ⟨(some (false, 74)), .mv (.g 2), none⟩,
  ⟨(some (false, 75)), .mks false 1 [.l 72, .l 73, .l 74], none⟩,
  ⟨(some (false, 76)), .mv (.g 3), none⟩,
  ⟨(some (false, 77)), .mv (.g 15), none⟩,
  ⟨(some (false, 78)), .mv (.g 3), none⟩,
  ⟨(some (false, 79)), .mks false 1 [.l 76, .l 77, .l 78], none⟩,
  ⟨(some (true, 16)), .mv (.l 67), none⟩,
  ⟨(some (true, 17)), .mv (.l 71), none⟩,
  ⟨(some (true, 18)), .mv (.l 75), none⟩,
  ⟨(some (true, 19)), .mv (.l 79), none⟩])
(.seq
(.seq
(.reg [
  ⟨(some (true, 20)), .mv (.c (.lit (.int .i64 0))), none⟩])
(.block 0
(.loop
(.seq
(.seq
(.reg [
  ⟨(some (false, 80)), .mv (.g 20), none⟩,
  ⟨(some (false, 81)), .mv (.g 16), none⟩,
  ⟨(some (false, 82)), .len (.l 81), none⟩,
  ⟨(some (true, 83)), .bin .lss (.l 80) (.l 82), none⟩])
(.cond (.g 83)
.skip
(.exit 0)))
(.seq
(.block 1
(.seq
(.reg [
  ⟨(some (false, 86)), .mks false 4 [], none⟩,
  ⟨(some (false, 87)), .mv (.g 19), none⟩,
  ⟨(some (false, 88)), .mv (.g 20), none⟩,
  ⟨(some (false, 89)), .ia 1 (.l 87) (.l 88), none⟩,
  ⟨(some (false, 90)), .ld none (.l 89), none⟩,
  ⟨(some (false, 91)), .app 4 32 (.l 86) (.l 90), none⟩,
  ⟨(some (true, 21)), .mv (.l 91), none⟩])
(.seq
(.draw [
  ⟨⟨(some (false, 93)), .mv (.g 16), none⟩, 0, true, []⟩,
  ⟨⟨(some (false, 94)), .mv (.g 20), none⟩, 1, true, []⟩,
  ⟨⟨(some (false, 95)), .ia 11 (.l 93) (.l 94), none⟩, 2, true, []⟩,
  ⟨⟨(some (false, 96)), .ld (some 11) (.l 95), none⟩, 3, true, []⟩,
  ⟨⟨(some (false, 97)), .mv (.g 17), none⟩, 4, true, []⟩,
  ⟨⟨(some (false, 98)), .mv (.g 20), none⟩, 5, true, []⟩,
  ⟨⟨(some (false, 99)), .ia 1 (.l 97) (.l 98), none⟩, 6, true, []⟩,
  ⟨⟨(some (false, 100)), .ld none (.l 99), none⟩, 7, true, []⟩,
  ⟨⟨(some (false, 101)), .mv (.g 18), none⟩, 8, true, []⟩,
  ⟨⟨(some (false, 102)), .mv (.g 20), none⟩, 9, true, []⟩,
  ⟨⟨(some (false, 103)), .ia 1 (.l 101) (.l 102), none⟩, 10, true, []⟩,
  ⟨⟨(some (false, 104)), .ld none (.l 103), none⟩, 11, true, []⟩,
  ⟨⟨(some (false, 105)), .mv (.g 21), none⟩, 12, true, []⟩,
  ⟨⟨(some (false, 106)), .call (.c (.fn 25 [])) [.l 96, .l 100, .l 104, .l 105], none⟩, 13, false, []⟩,
  ⟨⟨(some (false, 92)), .mv (.l 106), none⟩, 14, true, []⟩,
  ⟨⟨(some (false, 107)), .ex (.l 92) 0, none⟩, 15, true, []⟩,
  ⟨⟨(some (false, 108)), .ex (.l 92) 1, none⟩, 16, true, []⟩,
  ⟨⟨(some (true, 22)), .mv (.l 107), none⟩, 17, true, []⟩,
  ⟨⟨(some (true, 23)), .mv (.l 108), none⟩, 18, true, []⟩])
(.seq
(.draw [
  ⟨⟨(some (false, 110)), .mv (.g 16), none⟩, 0, true, []⟩,
  ⟨⟨(some (false, 111)), .mv (.g 20), none⟩, 1, true, []⟩,
  ⟨⟨(some (false, 112)), .ia 11 (.l 110) (.l 111), none⟩, 2, true, []⟩,
  ⟨⟨(some (false, 113)), .ld (some 11) (.l 112), none⟩, 3, true, []⟩,
  ⟨⟨(some (false, 114)), .mv (.g 17), none⟩, 4, true, []⟩,
  ⟨⟨(some (false, 115)), .mv (.g 20), none⟩, 5, true, []⟩,
  ⟨⟨(some (false, 116)), .ia 1 (.l 114) (.l 115), none⟩, 6, true, []⟩,
  ⟨⟨(some (false, 117)), .ld none (.l 116), none⟩, 7, true, []⟩,
  ⟨⟨(some (false, 118)), .mv (.g 18), none⟩, 8, true, []⟩,
  ⟨⟨(some (false, 119)), .mv (.g 20), none⟩, 9, true, []⟩,
  ⟨⟨(some (false, 120)), .ia 1 (.l 118) (.l 119), none⟩, 10, true, []⟩,
  ⟨⟨(some (false, 121)), .ld none (.l 120), none⟩, 11, true, []⟩,
  ⟨⟨(some (false, 122)), .mv (.g 19), none⟩, 12, true, []⟩,
  ⟨⟨(some (false, 123)), .mv (.g 20), none⟩, 13, true, []⟩,
  ⟨⟨(some (false, 124)), .ia 1 (.l 122) (.l 123), none⟩, 14, true, []⟩,
  ⟨⟨(some (false, 125)), .ld none (.l 124), none⟩, 15, true, []⟩,
  ⟨⟨(some (false, 126)), .call (.c (.fn 26 [])) [.l 113, .l 117, .l 121, .l 125], none⟩, 16, false, []⟩,
  ⟨⟨(some (false, 109)), .mv (.l 126), none⟩, 17, true, []⟩,
  ⟨⟨(some (false, 127)), .ex (.l 109) 0, none⟩, 18, true, []⟩,
  ⟨⟨(some (false, 128)), .ex (.l 109) 1, none⟩, 19, true, []⟩,
  ⟨⟨(some (true, 24)), .mv (.l 127), none⟩, 20, true, []⟩,
  ⟨⟨(some (true, 25)), .mv (.l 128), none⟩, 21, true, []⟩])
(.seq
(.seq
(.reg [
  ⟨(some (false, 129)), .mv (.g 23), none⟩,
  ⟨(some (false, 130)), .mv (.g 25), none⟩,
  ⟨(some (false, 131)), .bin .neq (.l 129) (.l 130), none⟩,
  ⟨(some (false, 132)), .mv (.l 131), none⟩,
  ⟨(some (false, 133)), .mv (.g 22), (some (.l 132, false))⟩,
  ⟨(some (false, 134)), .mv (.g 24), (some (.l 132, false))⟩,
  ⟨(some (false, 135)), .call (.c (.fn 27 [])) [.l 133, .l 134], (some (.l 132, false))⟩,
  ⟨(some (false, 136)), .un .not (.l 135), (some (.l 132, false))⟩,
  ⟨(some (true, 137)), .pick (.l 132) (.c (.lit (.bool true))) (.l 136), none⟩])
(.cond (.g 137)
(.seq
(.reg [
  ⟨(some (true, 10)), .mv (.c (.lit (.bool false))), none⟩])
.ret)
.skip))
(.seq
(.reg [
  ⟨(some (true, 26)), .mv (.c (.lit (.int .i64 0))), none⟩])
(.block 2
(.loop
(.seq
(.seq
(.reg [
  ⟨(some (false, 138)), .mv (.g 26), none⟩,
  ⟨(some (false, 139)), .mv (.g 21), none⟩,
  ⟨(some (false, 140)), .len (.l 139), none⟩,
  ⟨(some (true, 141)), .bin .lss (.l 138) (.l 140), none⟩])
(.cond (.g 141)
.skip
(.exit 2)))
(.seq
(.block 3
(.seq
(.draw [
  ⟨⟨(some (false, 144)), .mv (.g 21), none⟩, 0, true, []⟩,
  ⟨⟨(some (false, 145)), .mv (.g 26), none⟩, 1, true, []⟩,
  ⟨⟨(some (false, 146)), .ia 4 (.l 144) (.l 145), none⟩, 2, true, []⟩,
  ⟨⟨(some (false, 147)), .ld (some 4) (.l 146), none⟩, 3, true, []⟩,
  ⟨⟨(some (false, 148)), .mv (.g 19), none⟩, 4, true, []⟩,
  ⟨⟨(some (false, 149)), .mv (.g 20), none⟩, 5, true, []⟩,
  ⟨⟨(some (false, 150)), .ia 1 (.l 148) (.l 149), none⟩, 6, true, []⟩,
  ⟨⟨(some (false, 151)), .ld none (.l 150), none⟩, 7, true, []⟩,
  ⟨⟨(some (false, 152)), .mv (.g 26), none⟩, 8, true, []⟩,
  ⟨⟨(some (false, 153)), .ia 4 (.l 151) (.l 152), none⟩, 9, true, []⟩,
  ⟨⟨(some (false, 154)), .ld (some 4) (.l 153), none⟩, 10, true, []⟩,
  ⟨⟨(some (true, 155)), .eqs true (.fld 0 none .i (.fld 1 (some 2) (.fld 0 none .i (.fld 1 none .i .nil)) (.fld 3 none .i .nil))) (.l 147) (.l 154), none⟩, 11, true, []⟩])
(.cond (.g 155)
(.seq
(.reg [
  ⟨(some (true, 10)), .mv (.c (.lit (.bool false))), none⟩])
.ret)
.skip)))
(.reg [
  ⟨(some (false, 142)), .mv (.g 26), none⟩,
  ⟨(some (false, 143)), .bin .add (.l 142) (.c (.lit (.int .i64 1))), none⟩,
  ⟨(some (true, 26)), .mv (.l 143), none⟩])))))))))))
(.reg [
  ⟨(some (false, 84)), .mv (.g 20), none⟩,
  ⟨(some (false, 85)), .bin .add (.l 84) (.c (.lit (.int .i64 1))), none⟩,
  ⟨(some (true, 20)), .mv (.l 85), none⟩]))))))
(.seq
(.reg [
  ⟨(some (false, 156)), .call (.c (.fn 19 [])) [], none⟩,
  ⟨(some (true, 10)), .mv (.l 156), none⟩])
.ret))))))))
noncomputable def b3 : Code := match Try.f3.body with | some c => c | none => .skip
/-- sastrugi/sastrugilaw03.BearTruth -/
def c4 : ACode :=
  (.seq
(.reg [
  ⟨(some (true, 2)), .mv (.c (.lit (.bool false))), none⟩])
(.seq
(.reg [
  ⟨(some (false, 10)), .mv (.g 0), none⟩,
  ⟨(some (false, 11)), .call (.c (.fn 20 [])) [.l 10], none⟩,
  ⟨(some (true, 3)), .mv (.l 11), none⟩])
(.seq
(.reg [
  ⟨(some (false, 12)), .mv (.g 3), none⟩,
  ⟨(some (false, 13)), .call (.c (.fn 28 [])) [.l 12], none⟩,
  ⟨(some (true, 4)), .new [.int .i64 0, .int .i64 0, .slice none 0 0, .slice none 0 0, .int .i64 0, .int .i64 0, .int .i64 0, .int .i64 0, .int .i64 0, .int .i64 0, .int .i64 0, .slice none 0 0, .slice none 0 0, .slice none 0 0], none⟩,
  ⟨none, .st 14 (.g 4) (.l 13), none⟩])
(.seq
(.reg [
  ⟨(some (false, 15)), .fa (.g 4) 0, none⟩,
  ⟨(some (false, 16)), .ld (some 11) (.l 15), none⟩,
  ⟨(some (false, 17)), .fa (.g 4) 11, none⟩,
  ⟨(some (false, 18)), .ld none (.l 17), none⟩,
  ⟨(some (false, 19)), .fa (.g 4) 12, none⟩,
  ⟨(some (false, 20)), .ld none (.l 19), none⟩,
  ⟨(some (false, 21)), .fa (.g 4) 13, none⟩,
  ⟨(some (false, 22)), .ld none (.l 21), none⟩,
  ⟨(some (false, 23)), .call (.c (.fn 25 [])) [.l 16, .l 18, .l 20, .l 22], none⟩,
  ⟨(some (false, 14)), .mv (.l 23), none⟩,
  ⟨(some (false, 24)), .ex (.l 14) 0, none⟩,
  ⟨(some (false, 25)), .ex (.l 14) 1, none⟩,
  ⟨(some (true, 5)), .mv (.l 24), none⟩,
  ⟨(some (true, 6)), .mv (.l 25), none⟩])
(.seq
(.seq
(.reg [
  ⟨(some (false, 26)), .mv (.g 6), none⟩,
  ⟨(some (false, 27)), .bin .neq (.l 26) (.c (.lit (.int .i64 0))), none⟩,
  ⟨(some (false, 28)), .mv (.l 27), none⟩,
  ⟨(some (false, 29)), .mv (.g 5), (some (.l 28, false))⟩,
  ⟨(some (false, 30)), .len (.l 29), (some (.l 28, false))⟩,
  ⟨(some (false, 31)), .fa (.g 4) 13, (some (.l 28, false))⟩,
  ⟨(some (false, 32)), .ld none (.l 31), (some (.l 28, false))⟩,
  ⟨(some (false, 33)), .len (.l 32), (some (.l 28, false))⟩,
  ⟨(some (false, 34)), .bin .neq (.l 30) (.l 33), (some (.l 28, false))⟩,
  ⟨(some (true, 35)), .pick (.l 28) (.c (.lit (.bool true))) (.l 34), none⟩])
(.cond (.g 35)
(.seq
(.reg [
  ⟨(some (true, 2)), .mv (.c (.lit (.bool false))), none⟩])
.ret)
.skip))
(.seq
(.draw [
  ⟨⟨(some (false, 36)), .mv (.g 3), none⟩, 0, true, []⟩,
  ⟨⟨(some (false, 37)), .fa (.g 4) 0, none⟩, 1, true, []⟩,
  ⟨⟨(some (false, 38)), .fa (.l 37) 0, none⟩, 2, true, []⟩,
  ⟨⟨(some (false, 39)), .ld (some 2) (.l 38), none⟩, 3, true, []⟩,
  ⟨⟨(some (false, 41)), .mv (.g 3), none⟩, 5, true, []⟩,
  ⟨⟨(some (false, 42)), .fa (.g 4) 11, none⟩, 6, true, []⟩,
  ⟨⟨(some (false, 43)), .ld none (.l 42), none⟩, 7, true, []⟩,
  ⟨⟨(some (false, 45)), .mv (.g 3), none⟩, 9, true, []⟩,
  ⟨⟨(some (false, 46)), .fa (.g 4) 12, none⟩, 10, true, []⟩,
  ⟨⟨(some (false, 47)), .ld none (.l 46), none⟩, 11, true, []⟩,
  ⟨⟨(some (false, 49)), .mv (.g 3), none⟩, 13, true, []⟩,
  ⟨⟨(some (false, 50)), .fa (.g 4) 13, none⟩, 14, true, []⟩,
  ⟨⟨(some (false, 51)), .ld none (.l 50), none⟩, 15, true, []⟩,
  ⟨⟨(some (true, 7)), .new [.int .i64 0, .slice none 0 0, .slice none 0 0, .slice none 0 0], none⟩, 19, true, []⟩,
  ⟨⟨(some (false, 40)), .call (.c (.fn 29 [])) [.l 36, .l 39], none⟩, 4, false, []⟩,
  ⟨⟨(some (false, 44)), .call (.c (.fn 30 [])) [.l 41, .l 43], none⟩, 8, false, []⟩,
  ⟨⟨(some (false, 48)), .call (.c (.fn 30 [])) [.l 45, .l 47], none⟩, 12, false, []⟩,
  ⟨⟨(some (false, 52)), .call (.c (.fn 31 [])) [.l 51], none⟩, 16, false, []⟩,
  ⟨⟨(some (false, 53)), .call (.c (.fn 30 [])) [.l 49, .l 52], none⟩, 17, false, []⟩,
  ⟨⟨(some (false, 54)), .mk [.int .i64 0, .slice none 0 0, .slice none 0 0, .slice none 0 0] [(0, 1, .l 40), (1, 1, .l 44), (2, 1, .l 48), (3, 1, .l 53)], none⟩, 18, true, []⟩,
  ⟨⟨none, .st 4 (.g 7) (.l 54), none⟩, 20, true, [19]⟩])
(.seq
(.seq
(.reg [
  ⟨(some (true, 8)), .mv (.c (.lit (.int .i64 0))), none⟩])
(.block 0
(.loop
(.seq
(.seq
(.reg [
  ⟨(some (false, 55)), .mv (.g 8), none⟩,
  ⟨(some (false, 56)), .mv (.g 5), none⟩,
  ⟨(some (false, 57)), .len (.l 56), none⟩,
  ⟨(some (true, 58)), .bin .lss (.l 55) (.l 57), none⟩])
(.cond (.g 58)
.skip
(.exit 0)))
(.seq
(.block 1
(.seq
(.reg [
  ⟨(some (false, 61)), .fa (.g 4) 0, none⟩,
  ⟨(some (false, 62)), .ld (some 11) (.l 61), none⟩,
  ⟨(some (false, 63)), .fa (.g 4) 13, none⟩,
  ⟨(some (false, 64)), .ld none (.l 63), none⟩,
  ⟨(some (false, 65)), .ld (some 4) (.g 7), none⟩,
  ⟨(some (false, 66)), .mv (.g 8), none⟩,
  ⟨(some (false, 67)), .call (.c (.fn 32 [])) [.l 62, .l 64, .l 65, .l 66], none⟩,
  ⟨(some (true, 9)), .mv (.l 67), none⟩])
(.seq
(.reg [
  ⟨(some (false, 68)), .mv (.g 5), none⟩,
  ⟨(some (false, 69)), .mv (.g 8), none⟩,
  ⟨(some (false, 70)), .ia 1 (.l 68) (.l 69), none⟩,
  ⟨(some (false, 71)), .ld none (.l 70), none⟩,
  ⟨(some (false, 72)), .bin .eql (.l 71) (.c (.lit (.int .i64 1))), none⟩,
  ⟨(some (false, 73)), .mv (.l 72), none⟩,
  ⟨(some (false, 74)), .mv (.g 9), (some (.l 73, true))⟩,
  ⟨(some (false, 75)), .un .not (.l 74), (some (.l 73, true))⟩,
  ⟨(some (false, 76)), .pick (.l 73) (.l 75) (.c (.lit (.bool false))), none⟩,
  ⟨(some (false, 77)), .mv (.l 76), none⟩,
  ⟨(some (false, 78)), .mv (.g 5), (some (.l 77, false))⟩,
  ⟨(some (false, 79)), .mv (.g 8), (some (.l 77, false))⟩,
  ⟨(some (false, 80)), .ia 1 (.l 78) (.l 79), (some (.l 77, false))⟩,
  ⟨(some (false, 81)), .ld none (.l 80), (some (.l 77, false))⟩,
  ⟨(some (false, 82)), .bin .eql (.l 81) (.c (.lit (.int .i64 2))), (some (.l 77, false))⟩,
  ⟨(some (false, 83)), .mv (.l 82), (some (.l 77, false))⟩,
  ⟨(some (false, 84)), .mv (.g 9), (some (.l 83, true))⟩,
  ⟨(some (false, 85)), .pick (.l 83) (.l 84) (.c (.lit (.bool false))), (some (.l 77, false))⟩,
  ⟨(some (true, 86)), .pick (.l 77) (.c (.lit (.bool true))) (.l 85), none⟩])
(.cond (.g 86)
(.seq
(.reg [
  ⟨(some (true, 2)), .mv (.c (.lit (.bool false))), none⟩])
.ret)
.skip))))
(.reg [
  ⟨(some (false, 59)), .mv (.g 8), none⟩,
  ⟨(some (false, 60)), .bin .add (.l 59) (.c (.lit (.int .i64 1))), none⟩,
  ⟨(some (true, 8)), .mv (.l 60), none⟩]))))))
(.seq
(.reg [
  ⟨(some (false, 87)), .call (.c (.fn 19 [])) [], none⟩,
  ⟨(some (true, 2)), .mv (.l 87), none⟩])
.ret))))))))
noncomputable def b4 : Code := match Try.f4.body with | some c => c | none => .skip
/-- sastrugi/sastrugilaw03.BearBoth -/
def c5 : ACode :=
  (.seq
(.reg [
  ⟨(some (true, 2)), .mv (.c (.lit (.bool false))), none⟩])
(.seq
(.reg [
  ⟨(some (false, 11)), .mv (.g 0), none⟩,
  ⟨(some (false, 12)), .call (.c (.fn 20 [])) [.l 11], none⟩,
  ⟨(some (true, 3)), .mv (.l 12), none⟩])
(.seq
(.reg [
  ⟨(some (false, 13)), .mv (.g 3), none⟩,
  ⟨(some (false, 14)), .call (.c (.fn 28 [])) [.l 13], none⟩,
  ⟨(some (true, 4)), .new [.int .i64 0, .int .i64 0, .slice none 0 0, .slice none 0 0, .int .i64 0, .int .i64 0, .int .i64 0, .int .i64 0, .int .i64 0, .int .i64 0, .int .i64 0, .slice none 0 0, .slice none 0 0, .slice none 0 0], none⟩,
  ⟨none, .st 14 (.g 4) (.l 14), none⟩])
(.seq
(.reg [
  ⟨(some (false, 16)), .fa (.g 4) 0, none⟩,
  ⟨(some (false, 17)), .ld (some 11) (.l 16), none⟩,
  ⟨(some (false, 18)), .fa (.g 4) 11, none⟩,
  ⟨(some (false, 19)), .ld none (.l 18), none⟩,
  ⟨(some (false, 20)), .fa (.g 4) 12, none⟩,
  ⟨(some (false, 21)), .ld none (.l 20), none⟩,
  ⟨(some (false, 22)), .fa (.g 4) 13, none⟩,
  ⟨(some (false, 23)), .ld none (.l 22), none⟩,
  ⟨(some (false, 24)), .call (.c (.fn 25 [])) [.l 17, .l 19, .l 21, .l 23], none⟩,
  ⟨(some (false, 15)), .mv (.l 24), none⟩,
  ⟨(some (false, 25)), .ex (.l 15) 0, none⟩,
  ⟨(some (false, 26)), .ex (.l 15) 1, none⟩,
  ⟨(some (true, 5)), .mv (.l 25), none⟩,
  ⟨(some (true, 6)), .mv (.l 26), none⟩])
(.seq
(.seq
(.reg [
  ⟨(some (false, 27)), .mv (.g 6), none⟩,
  ⟨(some (false, 28)), .bin .neq (.l 27) (.c (.lit (.int .i64 0))), none⟩,
  ⟨(some (false, 29)), .mv (.l 28), none⟩,
  ⟨(some (false, 30)), .mv (.g 5), (some (.l 29, false))⟩,
  ⟨(some (false, 31)), .len (.l 30), (some (.l 29, false))⟩,
  ⟨(some (false, 32)), .fa (.g 4) 13, (some (.l 29, false))⟩,
  ⟨(some (false, 33)), .ld none (.l 32), (some (.l 29, false))⟩,
  ⟨(some (false, 34)), .len (.l 33), (some (.l 29, false))⟩,
  ⟨(some (false, 35)), .bin .neq (.l 31) (.l 34), (some (.l 29, false))⟩,
  ⟨(some (true, 36)), .pick (.l 29) (.c (.lit (.bool true))) (.l 35), none⟩])
(.cond (.g 36)
(.seq
(.reg [
  ⟨(some (true, 2)), .mv (.c (.lit (.bool false))), none⟩])
.ret)
.skip))
(.seq
(.seq
(.reg [
  ⟨(some (true, 7)), .mv (.c (.lit (.int .i64 0))), none⟩])
(.block 0
(.loop
(.seq
(.seq
(.reg [
  ⟨(some (false, 37)), .mv (.g 7), none⟩,
  ⟨(some (false, 38)), .mv (.g 5), none⟩,
  ⟨(some (false, 39)), .len (.l 38), none⟩,
  ⟨(some (true, 40)), .bin .lss (.l 37) (.l 39), none⟩])
(.cond (.g 40)
.skip
(.exit 0)))
(.seq
(.block 1
(.seq
(.reg [
  ⟨(some (false, 43)), .fa (.g 4) 13, none⟩,
  ⟨(some (false, 44)), .ld none (.l 43), none⟩,
  ⟨(some (false, 45)), .mv (.g 7), none⟩,
  ⟨(some (false, 46)), .ia 4 (.l 44) (.l 45), none⟩,
  ⟨(some (false, 47)), .fa (.l 46) 0, none⟩,
  ⟨(some (false, 48)), .ld none (.l 47), none⟩,
  ⟨(some (true, 8)), .mv (.l 48), none⟩])
(.seq
(.draw [
  ⟨⟨(some (false, 49)), .fa (.g 4) 0, none⟩, 0, true, []⟩,
  ⟨⟨(some (false, 50)), .fa (.l 49) 0, none⟩, 1, true, []⟩,
  ⟨⟨(some (false, 51)), .fa (.l 50) 0, none⟩, 2, true, []⟩,
  ⟨⟨(some (false, 52)), .ld none (.l 51), none⟩, 3, true, []⟩,
  ⟨⟨(some (false, 53)), .fa (.g 4) 11, none⟩, 4, true, []⟩,
  ⟨⟨(some (false, 54)), .ld none (.l 53), none⟩, 5, true, []⟩,
  ⟨⟨(some (false, 56)), .fa (.g 4) 12, none⟩, 7, true, []⟩,
  ⟨⟨(some (false, 57)), .ld none (.l 56), none⟩, 8, true, []⟩,
  ⟨⟨(some (false, 58)), .mv (.g 8), none⟩, 9, true, []⟩,
  ⟨⟨(some (false, 60)), .fa (.g 4) 13, none⟩, 11, true, []⟩,
  ⟨⟨(some (false, 61)), .ld none (.l 60), none⟩, 12, true, []⟩,
  ⟨⟨(some (true, 9)), .new [.int .i64 0, .slice none 0 0, .slice none 0 0, .slice none 0 0], none⟩, 16, true, []⟩,
  ⟨⟨(some (false, 55)), .call (.c (.fn 33 [])) [.l 54, .c (.lit (.bool false))], none⟩, 6, false, []⟩,
  ⟨⟨(some (false, 59)), .call (.c (.fn 34 [])) [.l 57, .l 58, .c (.lit (.bool true))], none⟩, 10, false, []⟩,
  ⟨⟨(some (false, 62)), .call (.c (.fn 31 [])) [.l 61], none⟩, 13, false, []⟩,
  ⟨⟨(some (false, 63)), .call (.c (.fn 33 [])) [.l 62, .c (.lit (.bool true))], none⟩, 14, false, []⟩,
  ⟨⟨(some (false, 64)), .mk [.int .i64 0, .slice none 0 0, .slice none 0 0, .slice none 0 0] [(0, 1, .l 52), (1, 1, .l 55), (2, 1, .l 59), (3, 1, .l 63)], none⟩, 15, true, []⟩,
  ⟨⟨none, .st 4 (.g 9) (.l 64), none⟩, 17, true, [16]⟩])
(.seq
(.draw [
  ⟨⟨(some (false, 65)), .fa (.g 4) 0, none⟩, 0, true, []⟩,
  ⟨⟨(some (false, 66)), .fa (.l 65) 0, none⟩, 1, true, []⟩,
  ⟨⟨(some (false, 67)), .fa (.l 66) 1, none⟩, 2, true, []⟩,
  ⟨⟨(some (false, 68)), .ld none (.l 67), none⟩, 3, true, []⟩,
  ⟨⟨(some (false, 69)), .fa (.g 4) 11, none⟩, 4, true, []⟩,
  ⟨⟨(some (false, 70)), .ld none (.l 69), none⟩, 5, true, []⟩,
  ⟨⟨(some (false, 72)), .fa (.g 4) 12, none⟩, 7, true, []⟩,
  ⟨⟨(some (false, 73)), .ld none (.l 72), none⟩, 8, true, []⟩,
  ⟨⟨(some (false, 74)), .mv (.g 8), none⟩, 9, true, []⟩,
  ⟨⟨(some (false, 76)), .fa (.g 4) 13, none⟩, 11, true, []⟩,
  ⟨⟨(some (false, 77)), .ld none (.l 76), none⟩, 12, true, []⟩,
  ⟨⟨(some (true, 10)), .new [.int .i64 0, .slice none 0 0, .slice none 0 0, .slice none 0 0], none⟩, 16, true, []⟩,
  ⟨⟨(some (false, 71)), .call (.c (.fn 33 [])) [.l 70, .c (.lit (.bool true))], none⟩, 6, false, []⟩,
  ⟨⟨(some (false, 75)), .call (.c (.fn 34 [])) [.l 73, .l 74, .c (.lit (.bool false))], none⟩, 10, false, []⟩,
  ⟨⟨(some (false, 78)), .call (.c (.fn 31 [])) [.l 77], none⟩, 13, false, []⟩,
  ⟨⟨(some (false, 79)), .call (.c (.fn 33 [])) [.l 78, .c (.lit (.bool false))], none⟩, 14, false, []⟩,
  ⟨⟨(some (false, 80)), .mk [.int .i64 0, .slice none 0 0, .slice none 0 0, .slice none 0 0] [(0, 1, .l 68), (1, 1, .l 71), (2, 1, .l 75), (3, 1, .l 79)], none⟩, 15, true, []⟩,
  ⟨⟨none, .st 4 (.g 10) (.l 80), none⟩, 17, true, [16]⟩])
(.seq
(.reg [
  ⟨(some (false, 81)), .mv (.g 5), none⟩,
  ⟨(some (false, 82)), .mv (.g 7), none⟩,
  ⟨(some (false, 83)), .ia 1 (.l 81) (.l 82), none⟩,
  ⟨(some (false, 84)), .ld none (.l 83), none⟩,
  ⟨(some (false, 85)), .bin .neq (.l 84) (.c (.lit (.int .i64 1))), none⟩,
  ⟨(some (false, 86)), .mv (.l 85), none⟩,
  ⟨(some (false, 87)), .fa (.g 4) 0, (some (.l 86, true))⟩,
  ⟨(some (false, 88)), .ld (some 11) (.l 87), (some (.l 86, true))⟩,
  ⟨(some (false, 89)), .fa (.g 4) 13, (some (.l 86, true))⟩,
  ⟨(some (false, 90)), .ld none (.l 89), (some (.l 86, true))⟩,
  ⟨(some (false, 91)), .ld (some 4) (.g 9), (some (.l 86, true))⟩,
  ⟨(some (false, 92)), .mv (.g 7), (some (.l 86, true))⟩,
  ⟨(some (false, 93)), .call (.c (.fn 32 [])) [.l 88, .l 90, .l 91, .l 92], (some (.l 86, true))⟩,
  ⟨(some (false, 94)), .pick (.l 86) (.l 93) (.c (.lit (.bool false))), none⟩,
  ⟨(some (false, 95)), .mv (.l 94), none⟩,
  ⟨(some (false, 96)), .mv (.g 5), (some (.l 95, false))⟩,
  ⟨(some (false, 97)), .mv (.g 7), (some (.l 95, false))⟩,
  ⟨(some (false, 98)), .ia 1 (.l 96) (.l 97), (some (.l 95, false))⟩,
  ⟨(some (false, 99)), .ld none (.l 98), (some (.l 95, false))⟩,
  ⟨(some (false, 100)), .bin .neq (.l 99) (.c (.lit (.int .i64 2))), (some (.l 95, false))⟩,
  ⟨(some (false, 101)), .mv (.l 100), (some (.l 95, false))⟩,
  ⟨(some (false, 102)), .fa (.g 4) 0, (some (.l 101, true))⟩,
  ⟨(some (false, 103)), .ld (some 11) (.l 102), (some (.l 101, true))⟩,
  ⟨(some (false, 104)), .fa (.g 4) 13, (some (.l 101, true))⟩,
  ⟨(some (false, 105)), .ld none (.l 104), (some (.l 101, true))⟩,
  ⟨(some (false, 106)), .ld (some 4) (.g 10), (some (.l 101, true))⟩,
  ⟨(some (false, 107)), .mv (.g 7), (some (.l 101, true))⟩,
  ⟨(some (false, 108)), .call (.c (.fn 32 [])) [.l 103, .l 105, .l 106, .l 107], (some (.l 101, true))⟩,
  ⟨(some (false, 109)), .un .not (.l 108), (some (.l 101, true))⟩,
  ⟨(some (false, 110)), .pick (.l 101) (.l 109) (.c (.lit (.bool false))), (some (.l 95, false))⟩,
  ⟨(some (true, 111)), .pick (.l 95) (.c (.lit (.bool true))) (.l 110), none⟩])
(.cond (.g 111)
(.seq
(.reg [
  ⟨(some (true, 2)), .mv (.c (.lit (.bool false))), none⟩])
.ret)
.skip))))))
(.reg [
  ⟨(some (false, 41)), .mv (.g 7), none⟩,
  ⟨(some (false, 42)), .bin .add (.l 41) (.c (.lit (.int .i64 1))), none⟩,
  ⟨(some (true, 7)), .mv (.l 42), none⟩]))))))
(.seq
(.reg [
  ⟨(some (false, 112)), .call (.c (.fn 19 [])) [], none⟩,
  ⟨(some (true, 2)), .mv (.l 112), none⟩])
.ret)))))))
noncomputable def b5 : Code := match Try.f5.body with | some c => c | none => .skip
/-- sastrugi/sastrugilaw03.BearNarrows -/
def c6 : ACode :=
  (.seq
(.reg [
  ⟨(some (true, 2)), .mv (.c (.lit (.bool false))), none⟩])
(.seq
(.reg [
  ⟨(some (false, 13)), .mv (.g 0), none⟩,
  ⟨(some (false, 14)), .call (.c (.fn 20 [])) [.l 13], none⟩,
  ⟨(some (true, 3)), .mv (.l 14), none⟩])
(.seq
(.reg [
  ⟨(some (false, 15)), .mv (.g 3), none⟩,
  ⟨(some (false, 16)), .call (.c (.fn 28 [])) [.l 15], none⟩,
  ⟨(some (true, 4)), .new [.int .i64 0, .int .i64 0, .slice none 0 0, .slice none 0 0, .int .i64 0, .int .i64 0, .int .i64 0, .int .i64 0, .int .i64 0, .int .i64 0, .int .i64 0, .slice none 0 0, .slice none 0 0, .slice none 0 0], none⟩,
  ⟨none, .st 14 (.g 4) (.l 16), none⟩])
(.seq
(.reg [
  ⟨(some (false, 17)), .fa (.g 4) 0, none⟩,
  ⟨(some (false, 18)), .ld (some 11) (.l 17), none⟩,
  ⟨(some (true, 5)), .new [.int .i64 0, .int .i64 0, .slice none 0 0, .slice none 0 0, .int .i64 0, .int .i64 0, .int .i64 0, .int .i64 0, .int .i64 0, .int .i64 0, .int .i64 0], none⟩,
  ⟨none, .st 11 (.g 5) (.l 18), none⟩])
(.seq
(.reg [
  ⟨(some (false, 19)), .mv (.g 3), none⟩,
  ⟨(some (false, 20)), .fa (.g 5) 0, none⟩,
  ⟨(some (false, 21)), .ld (some 2) (.l 20), none⟩,
  ⟨(some (false, 22)), .call (.c (.fn 35 [])) [.l 19, .l 21], none⟩,
  ⟨(some (false, 23)), .fa (.g 5) 0, none⟩,
  ⟨none, .st 2 (.l 23) (.l 22), none⟩])
(.seq
(.reg [
  ⟨(some (false, 24)), .mks false 4 [], none⟩,
  ⟨(some (false, 25)), .fa (.g 4) 13, none⟩,
  ⟨(some (false, 26)), .ld none (.l 25), none⟩,
  ⟨(some (false, 27)), .app 4 32 (.l 24) (.l 26), none⟩,
  ⟨(some (true, 6)), .mv (.l 27), none⟩])
(.seq
(.seq
(.reg [
  ⟨(some (true, 7)), .mv (.c (.lit (.int .i64 0))), none⟩])
(.block 0
(.loop
(.seq
(.seq
(.reg [
  ⟨(some (false, 28)), .mv (.g 7), none⟩,
  ⟨(some (false, 29)), .mv (.g 6), none⟩,
  ⟨(some (false, 30)), .len (.l 29), none⟩,
  ⟨(some (true, 31)), .bin .lss (.l 28) (.l 30), none⟩])
(.cond (.g 31)
.skip
(.exit 0)))
(.seq
(.block 1
(.reg [
  ⟨(some (false, 34)), .mv (.g 6), none⟩,
  ⟨(some (false, 35)), .mv (.g 7), none⟩,
  ⟨(some (false, 36)), .mv (.g 3), none⟩,
  ⟨(some (false, 37)), .mv (.g 6), none⟩,
  ⟨(some (false, 38)), .mv (.g 7), none⟩,
  ⟨(some (false, 39)), .ia 4 (.l 37) (.l 38), none⟩,
  ⟨(some (false, 40)), .fa (.l 39) 1, none⟩,
  ⟨(some (false, 41)), .ld (some 2) (.l 40), none⟩,
  ⟨(some (false, 42)), .call (.c (.fn 35 [])) [.l 36, .l 41], none⟩,
  ⟨(some (false, 43)), .ia 4 (.l 34) (.l 35), none⟩,
  ⟨(some (false, 44)), .fa (.l 43) 1, none⟩,
  ⟨none, .st 2 (.l 44) (.l 42), none⟩]))
(.reg [
  ⟨(some (false, 32)), .mv (.g 7), none⟩,
  ⟨(some (false, 33)), .bin .add (.l 32) (.c (.lit (.int .i64 1))), none⟩,
  ⟨(some (true, 7)), .mv (.l 33), none⟩]))))))
(.seq
(.reg [
  ⟨(some (false, 46)), .fa (.g 4) 0, none⟩,
  ⟨(some (false, 47)), .ld (some 11) (.l 46), none⟩,
  ⟨(some (false, 48)), .fa (.g 4) 11, none⟩,
  ⟨(some (false, 49)), .ld none (.l 48), none⟩,
  ⟨(some (false, 50)), .fa (.g 4) 12, none⟩,
  ⟨(some (false, 51)), .ld none (.l 50), none⟩,
  ⟨(some (false, 52)), .fa (.g 4) 13, none⟩,
  ⟨(some (false, 53)), .ld none (.l 52), none⟩,
  ⟨(some (false, 54)), .call (.c (.fn 25 [])) [.l 47, .l 49, .l 51, .l 53], none⟩,
  ⟨(some (false, 45)), .mv (.l 54), none⟩,
  ⟨(some (false, 55)), .ex (.l 45) 0, none⟩,
  ⟨(some (false, 56)), .ex (.l 45) 1, none⟩,
  ⟨(some (true, 8)), .mv (.l 55), none⟩,
  ⟨(some (true, 9)), .mv (.l 56), none⟩])
(.seq
(.draw [
  ⟨⟨(some (false, 58)), .ld (some 11) (.g 5), none⟩, 0, true, []⟩,
  ⟨⟨(some (false, 59)), .mv (.g 3), none⟩, 1, true, []⟩,
  ⟨⟨(some (false, 60)), .fa (.g 4) 11, none⟩, 2, true, []⟩,
  ⟨⟨(some (false, 61)), .ld none (.l 60), none⟩, 3, true, []⟩,
  ⟨⟨(some (false, 63)), .mv (.g 3), none⟩, 5, true, []⟩,
  ⟨⟨(some (false, 64)), .fa (.g 4) 12, none⟩, 6, true, []⟩,
  ⟨⟨(some (false, 65)), .ld none (.l 64), none⟩, 7, true, []⟩,
  ⟨⟨(some (false, 67)), .mv (.g 6), none⟩, 9, true, []⟩,
  ⟨⟨(some (false, 62)), .call (.c (.fn 36 [])) [.l 59, .l 61], none⟩, 4, false, []⟩,
  ⟨⟨(some (false, 66)), .call (.c (.fn 36 [])) [.l 63, .l 65], none⟩, 8, false, []⟩,
  ⟨⟨(some (false, 68)), .call (.c (.fn 25 [])) [.l 58, .l 62, .l 66, .l 67], none⟩, 10, false, []⟩,
  ⟨⟨(some (false, 57)), .mv (.l 68), none⟩, 11, true, []⟩,
  ⟨⟨(some (false, 69)), .ex (.l 57) 0, none⟩, 12, true, []⟩,
  ⟨⟨(some (false, 70)), .ex (.l 57) 1, none⟩, 13, true, []⟩,
  ⟨⟨(some (true, 10)), .mv (.l 69), none⟩, 14, true, []⟩,
  ⟨⟨(some (true, 11)), .mv (.l 70), none⟩, 15, true, []⟩])
(.seq
(.seq
(.reg [
  ⟨(some (false, 71)), .mv (.g 9), none⟩,
  ⟨(some (false, 72)), .bin .neq (.l 71) (.c (.lit (.int .i64 0))), none⟩,
  ⟨(some (false, 73)), .mv (.l 72), none⟩,
  ⟨(some (false, 74)), .mv (.g 11), (some (.l 73, false))⟩,
  ⟨(some (false, 75)), .bin .neq (.l 74) (.c (.lit (.int .i64 0))), (some (.l 73, false))⟩,
  ⟨(some (false, 76)), .pick (.l 73) (.c (.lit (.bool true))) (.l 75), none⟩,
  ⟨(some (false, 77)), .mv (.l 76), none⟩,
  ⟨(some (false, 78)), .mv (.g 8), (some (.l 77, false))⟩,
  ⟨(some (false, 79)), .len (.l 78), (some (.l 77, false))⟩,
  ⟨(some (false, 80)), .fa (.g 4) 13, (some (.l 77, false))⟩,
  ⟨(some (false, 81)), .ld none (.l 80), (some (.l 77, false))⟩,
  ⟨(some (false, 82)), .len (.l 81), (some (.l 77, false))⟩,
  ⟨(some (false, 83)), .bin .neq (.l 79) (.l 82), (some (.l 77, false))⟩,
  ⟨(some (false, 84)), .pick (.l 77) (.c (.lit (.bool true))) (.l 83), none⟩,
  ⟨(some (false, 85)), .mv (.l 84), none⟩,
  ⟨(some (false, 86)), .mv (.g 10), (some (.l 85, false))⟩,
  ⟨(some (false, 87)), .len (.l 86), (some (.l 85, false))⟩,
  ⟨(some (false, 88)), .mv (.g 8), (some (.l 85, false))⟩,
  ⟨(some (false, 89)), .len (.l 88), (some (.l 85, false))⟩,
  ⟨(some (false, 90)), .bin .neq (.l 87) (.l 89), (some (.l 85, false))⟩,
  ⟨(some (true, 91)), .pick (.l 85) (.c (.lit (.bool true))) (.l 90), none⟩])
(.cond (.g 91)
(.seq
(.reg [
  ⟨(some (true, 2)), .mv (.c (.lit (.bool false))), none⟩])
.ret)
.skip))
(.seq
(.seq
(.reg [
  ⟨(some (true, 12)), .mv (.c (.lit (.int .i64 0))), none⟩])
(.block 2
(.loop
(.seq
(.seq
(.reg [
  ⟨(some (false, 92)), .mv (.g 12), none⟩,
  ⟨(some (false, 93)), .mv (.g 8), none⟩,
  ⟨(some (false, 94)), .len (.l 93), none⟩,
  ⟨(some (true, 95)), .bin .lss (.l 92) (.l 94), none⟩])
(.cond (.g 95)
.skip
(.exit 2)))
(.seq
(.block 3
(.seq
(.draw [
  ⟨⟨(some (false, 98)), .mv (.g 8), none⟩, 0, true, []⟩,
  ⟨⟨(some (false, 99)), .mv (.g 12), none⟩, 1, true, []⟩,
  ⟨⟨(some (false, 100)), .ia 1 (.l 98) (.l 99), none⟩, 2, true, []⟩,
  ⟨⟨(some (false, 101)), .ld none (.l 100), none⟩, 3, true, []⟩,
  ⟨⟨(some (false, 102)), .bin .neq (.l 101) (.c (.lit (.int .i64 3))), none⟩, 4, true, []⟩,
  ⟨⟨(some (false, 103)), .mv (.l 102), none⟩, 5, true, []⟩,
  ⟨⟨(some (false, 104)), .mv (.g 8), (some (.l 103, true))⟩, 6, true, []⟩,
  ⟨⟨(some (false, 105)), .mv (.g 12), (some (.l 103, true))⟩, 7, true, []⟩,
  ⟨⟨(some (false, 106)), .ia 1 (.l 104) (.l 105), (some (.l 103, true))⟩, 8, true, []⟩,
  ⟨⟨(some (false, 107)), .ld none (.l 106), (some (.l 103, true))⟩, 9, true, []⟩,
  ⟨⟨(some (false, 108)), .mv (.g 10), (some (.l 103, true))⟩, 10, true, []⟩,
  ⟨⟨(some (false, 109)), .mv (.g 12), (some (.l 103, true))⟩, 11, true, []⟩,
  ⟨⟨(some (false, 110)), .ia 1 (.l 108) (.l 109), (some (.l 103, true))⟩, 12, true, []⟩,
  ⟨⟨(some (false, 111)), .ld none (.l 110), (some (.l 103, true))⟩, 13, true, []⟩,
  ⟨⟨(some (false, 112)), .bin .neq (.l 107) (.l 111), (some (.l 103, true))⟩, 14, true, []⟩,
  ⟨⟨(some (true, 113)), .pick (.l 103) (.l 112) (.c (.lit (.bool false))), none⟩, 15, true, []⟩])
(.cond (.g 113)
(.seq
(.reg [
  ⟨(some (true, 2)), .mv (.c (.lit (.bool false))), none⟩])
.ret)
.skip)))
(.reg [
  ⟨(some (false, 96)), .mv (.g 12), none⟩,
  ⟨(some (false, 97)), .bin .add (.l 96) (.c (.lit (.int .i64 1))), none⟩,
  ⟨(some (true, 12)), .mv (.l 97), none⟩]))))))
(.seq
(.reg [
  ⟨(some (false, 114)), .call (.c (.fn 19 [])) [], none⟩,
  ⟨(some (true, 2)), .mv (.l 114), none⟩])
.ret))))))))))))
/-- sastrugi/sastrugilaw03.BearOthers -/
def c7 : ACode :=
  (.seq
(.reg [
  ⟨(some (true, 2)), .mv (.c (.lit (.bool false))), none⟩])
(.seq
(.reg [
  ⟨(some (false, 17)), .mv (.g 0), none⟩,
  ⟨(some (false, 18)), .call (.c (.fn 20 [])) [.l 17], none⟩,
  ⟨(some (true, 3)), .mv (.l 18), none⟩])
(.seq
(.reg [
  ⟨(some (false, 19)), .mv (.g 3), none⟩,
  ⟨(some (false, 20)), .call (.c (.fn 28 [])) [.l 19], none⟩,
  ⟨(some (true, 4)), .new [.int .i64 0, .int .i64 0, .slice none 0 0, .slice none 0 0, .int .i64 0, .int .i64 0, .int .i64 0, .int .i64 0, .int .i64 0, .int .i64 0, .int .i64 0, .slice none 0 0, .slice none 0 0, .slice none 0 0], none⟩,
  ⟨none, .st 14 (.g 4) (.l 20), none⟩])
(.seq
(.reg [
  ⟨(some (false, 21)), .mks false 4 [], none⟩,
  ⟨(some (false, 22)), .fa (.g 4) 13, none⟩,
  ⟨(some (false, 23)), .ld none (.l 22), none⟩,
  ⟨(some (false, 24)), .app 4 32 (.l 21) (.l 23), none⟩,
  ⟨(some (true, 5)), .mv (.l 24), none⟩])
(.seq
(.reg [
  ⟨(some (false, 25)), .mv (.g 5), none⟩,
  ⟨(some (false, 26)), .mv (.g 3), none⟩,
  ⟨(some (false, 27)), .fa (.g 4) 11, none⟩,
  ⟨(some (false, 28)), .ld none (.l 27), none⟩,
  ⟨(some (false, 29)), .len (.l 28), none⟩,
  ⟨(some (false, 30)), .bin .mul (.c (.lit (.int .i64 100))) (.l 29), none⟩,
  ⟨(some (false, 31)), .call (.c (.fn 37 [])) [.l 26, .l 30], none⟩,
  ⟨(some (false, 32)), .mv (.g 3), none⟩,
  ⟨(some (false, 33)), .call (.c (.fn 38 [])) [.l 32, .c (.lit (.int .i64 0)), .c (.lit (.int .i64 20000))], none⟩,
  ⟨(some (false, 34)), .mv (.g 3), none⟩,
  ⟨(some (false, 35)), .call (.c (.fn 37 [])) [.l 34, .c (.lit (.int .i64 100))], none⟩,
  ⟨(some (false, 36)), .mk [.int .i64 0, .int .i64 0, .int .i64 0, .int .i64 0] [(0, 1, .l 31), (1, 2, .l 33), (3, 1, .l 35)], none⟩,
  ⟨(some (false, 37)), .mks false 4 [.l 36], none⟩,
  ⟨(some (false, 38)), .app 4 32 (.l 25) (.l 37), none⟩,
  ⟨(some (true, 5)), .mv (.l 38), none⟩])
(.seq
(.reg [
  ⟨(some (false, 39)), .fa (.g 4) 13, none⟩,
  ⟨(some (false, 40)), .ld none (.l 39), none⟩,
  ⟨(some (false, 41)), .len (.l 40), none⟩,
  ⟨(some (false, 42)), .mksl 4 32 [.int .i64 0, .int .i64 0, .int .i64 0, .int .i64 0] (.l 41) (.l 41), none⟩,
  ⟨(some (true, 6)), .mv (.l 42), none⟩])
(.seq
(.seq
(.reg [
  ⟨(some (true, 7)), .mv (.c (.lit (.int .i64 0))), none⟩])
(.block 0
(.loop
(.seq
(.seq
(.reg [
  ⟨(some (false, 43)), .mv (.g 7), none⟩,
  ⟨(some (false, 44)), .fa (.g 4) 13, none⟩,
  ⟨(some (false, 45)), .ld none (.l 44), none⟩,
  ⟨(some (false, 46)), .len (.l 45), none⟩,
  ⟨(some (true, 47)), .bin .lss (.l 43) (.l 46), none⟩])
(.cond (.g 47)
.skip
(.exit 0)))
(.seq
(.block 1
(.reg [
  ⟨(some (false, 50)), .mv (.g 6), none⟩,
  ⟨(some (false, 51)), .mv (.g 6), none⟩,
  ⟨(some (false, 52)), .len (.l 51), none⟩,
  ⟨(some (false, 53)), .bin .sub (.l 52) (.c (.lit (.int .i64 1))), none⟩,
  ⟨(some (false, 54)), .mv (.g 7), none⟩,
  ⟨(some (false, 55)), .bin .sub (.l 53) (.l 54), none⟩,
  ⟨(some (false, 56)), .fa (.g 4) 13, none⟩,
  ⟨(some (false, 57)), .ld none (.l 56), none⟩,
  ⟨(some (false, 58)), .mv (.g 7), none⟩,
  ⟨(some (false, 59)), .ia 4 (.l 57) (.l 58), none⟩,
  ⟨(some (false, 60)), .ld (some 4) (.l 59), none⟩,
  ⟨(some (false, 61)), .ia 4 (.l 50) (.l 55), none⟩,
  ⟨none, .st 4 (.l 61) (.l 60), none⟩]))
(.reg [
  ⟨(some (false, 48)), .mv (.g 7), none⟩,
  ⟨(some (false, 49)), .bin .add (.l 48) (.c (.lit (.int .i64 1))), none⟩,
  ⟨(some (true, 7)), .mv (.l 49), none⟩]))))))
(.seq
(.reg [
  ⟨(some (false, 63)), .fa (.g 4) 0, none⟩,
  ⟨(some (false, 64)), .ld (some 11) (.l 63), none⟩,
  ⟨(some (false, 65)), .fa (.g 4) 11, none⟩,
  ⟨(some (false, 66)), .ld none (.l 65), none⟩,
  ⟨(some (false, 67)), .fa (.g 4) 12, none⟩,
  ⟨(some (false, 68)), .ld none (.l 67), none⟩,
  ⟨(some (false, 69)), .fa (.g 4) 13, none⟩,
  ⟨(some (false, 70)), .ld none (.l 69), none⟩,
  ⟨(some (false, 71)), .call (.c (.fn 25 [])) [.l 64, .l 66, .l 68, .l 70], none⟩,
  ⟨(some (false, 62)), .mv (.l 71), none⟩,
  ⟨(some (false, 72)), .ex (.l 62) 0, none⟩,
  ⟨(some (false, 73)), .ex (.l 62) 1, none⟩,
  ⟨(some (true, 8)), .mv (.l 72), none⟩,
  ⟨(some (true, 9)), .mv (.l 73), none⟩])
(.seq
(.reg [
  ⟨(some (false, 75)), .fa (.g 4) 0, none⟩,
  ⟨(some (false, 76)), .ld (some 11) (.l 75), none⟩,
  ⟨(some (false, 77)), .fa (.g 4) 11, none⟩,
  ⟨(some (false, 78)), .ld none (.l 77), none⟩,
  ⟨(some (false, 79)), .fa (.g 4) 12, none⟩,
  ⟨(some (false, 80)), .ld none (.l 79), none⟩,
  ⟨(some (false, 81)), .mv (.g 5), none⟩,
  ⟨(some (false, 82)), .call (.c (.fn 25 [])) [.l 76, .l 78, .l 80, .l 81], none⟩,
  ⟨(some (false, 74)), .mv (.l 82), none⟩,
  ⟨(some (false, 83)), .ex (.l 74) 0, none⟩,
  ⟨(some (false, 84)), .ex (.l 74) 1, none⟩,
  ⟨(some (true, 10)), .mv (.l 83), none⟩,
  ⟨(some (true, 11)), .mv (.l 84), none⟩])
(.seq
(.reg [
  ⟨(some (false, 86)), .fa (.g 4) 0, none⟩,
  ⟨(some (false, 87)), .ld (some 11) (.l 86), none⟩,
  ⟨(some (false, 88)), .fa (.g 4) 11, none⟩,
  ⟨(some (false, 89)), .ld none (.l 88), none⟩,
  ⟨(some (false, 90)), .fa (.g 4) 12, none⟩,
  ⟨(some (false, 91)), .ld none (.l 90), none⟩,
  ⟨(some (false, 92)), .mv (.g 6), none⟩,
  ⟨(some (false, 93)), .call (.c (.fn 25 [])) [.l 87, .l 89, .l 91, .l 92], none⟩,
  ⟨(some (false, 85)), .mv (.l 93), none⟩,
  ⟨(some (false, 94)), .ex (.l 85) 0, none⟩,
  ⟨(some (false, 95)), .ex (.l 85) 1, none⟩,
  ⟨(some (true, 12)), .mv (.l 94), none⟩,
  ⟨(some (true, 13)), .mv (.l 95), none⟩])
(.seq
(.seq
(.reg [
  ⟨(some (false, 96)), .mv (.g 9), none⟩,
  ⟨(some (false, 97)), .bin .neq (.l 96) (.c (.lit (.int .i64 0))), none⟩,
  ⟨(some (false, 98)), .mv (.l 97), none⟩,
  ⟨(some (false, 99)), .mv (.g 11), (some (.l 98, false))⟩,
  ⟨(some (false, 100)), .bin .neq (.l 99) (.c (.lit (.int .i64 0))), (some (.l 98, false))⟩,
  ⟨(some (false, 101)), .pick (.l 98) (.c (.lit (.bool true))) (.l 100), none⟩,
  ⟨(some (false, 102)), .mv (.l 101), none⟩,
  ⟨(some (false, 103)), .mv (.g 13), (some (.l 102, false))⟩,
  ⟨(some (false, 104)), .bin .neq (.l 103) (.c (.lit (.int .i64 0))), (some (.l 102, false))⟩,
  ⟨(some (false, 105)), .pick (.l 102) (.c (.lit (.bool true))) (.l 104), none⟩,
  ⟨(some (false, 106)), .mv (.l 105), none⟩,
  ⟨(some (false, 107)), .mv (.g 8), (some (.l 106, false))⟩,
  ⟨(some (false, 108)), .len (.l 107), (some (.l 106, false))⟩,
  ⟨(some (false, 109)), .fa (.g 4) 13, (some (.l 106, false))⟩,
  ⟨(some (false, 110)), .ld none (.l 109), (some (.l 106, false))⟩,
  ⟨(some (false, 111)), .len (.l 110), (some (.l 106, false))⟩,
  ⟨(some (false, 112)), .bin .neq (.l 108) (.l 111), (some (.l 106, false))⟩,
  ⟨(some (false, 113)), .pick (.l 106) (.c (.lit (.bool true))) (.l 112), none⟩,
  ⟨(some (false, 114)), .mv (.l 113), none⟩,
  ⟨(some (false, 115)), .mv (.g 10), (some (.l 114, false))⟩,
  ⟨(some (false, 116)), .len (.l 115), (some (.l 114, false))⟩,
  ⟨(some (false, 117)), .mv (.g 5), (some (.l 114, false))⟩,
  ⟨(some (false, 118)), .len (.l 117), (some (.l 114, false))⟩,
  ⟨(some (false, 119)), .bin .neq (.l 116) (.l 118), (some (.l 114, false))⟩,
  ⟨(some (false, 120)), .pick (.l 114) (.c (.lit (.bool true))) (.l 119), none⟩,
  ⟨(some (false, 121)), .mv (.l 120), none⟩,
  ⟨(some (false, 122)), .mv (.g 12), (some (.l 121, false))⟩,
  ⟨(some (false, 123)), .len (.l 122), (some (.l 121, false))⟩,
  ⟨(some (false, 124)), .mv (.g 8), (some (.l 121, false))⟩,
  ⟨(some (false, 125)), .len (.l 124), (some (.l 121, false))⟩,
  ⟨(some (false, 126)), .bin .neq (.l 123) (.l 125), (some (.l 121, false))⟩,
  ⟨(some (true, 127)), .pick (.l 121) (.c (.lit (.bool true))) (.l 126), none⟩])
(.cond (.g 127)
(.seq
(.reg [
  ⟨(some (true, 2)), .mv (.c (.lit (.bool false))), none⟩])
.ret)
.skip))
(.seq
(.reg [
  ⟨(some (false, 128)), .mv (.g 5), none⟩,
  ⟨(some (false, 129)), .mv (.g 5), none⟩,
  ⟨(some (false, 130)), .len (.l 129), none⟩,
  ⟨(some (false, 131)), .bin .sub (.l 130) (.c (.lit (.int .i64 1))), none⟩,
  ⟨(some (false, 132)), .ia 4 (.l 128) (.l 131), none⟩,
  ⟨(some (false, 133)), .ld (some 4) (.l 132), none⟩,
  ⟨(some (true, 14)), .new [.int .i64 0, .int .i64 0, .int .i64 0, .int .i64 0], none⟩,
  ⟨none, .st 4 (.g 14) (.l 133), none⟩])
(.seq
(.reg [
  ⟨(some (true, 15)), .mv (.c (.lit (.bool true))), none⟩])
(.seq
(.seq
(.reg [
  ⟨(some (true, 16)), .mv (.c (.lit (.int .i64 0))), none⟩])
(.block 2
(.loop
(.seq
(.seq
(.reg [
  ⟨(some (false, 134)), .mv (.g 16), none⟩,
  ⟨(some (false, 135)), .mv (.g 8), none⟩,
  ⟨(some (false, 136)), .len (.l 135), none⟩,
  ⟨(some (true, 137)), .bin .lss (.l 134) (.l 136), none⟩])
(.cond (.g 137)
.skip
(.exit 2)))
(.seq
(.block 3
(.seq
(.draw [
  ⟨⟨(some (false, 140)), .mv (.g 15), none⟩, 0, true, []⟩,
  ⟨⟨(some (false, 141)), .mv (.l 140), none⟩, 1, true, []⟩,
  ⟨⟨(some (false, 142)), .fa (.g 4) 0, (some (.l 141, true))⟩, 2, true, []⟩,
  ⟨⟨(some (false, 143)), .fa (.l 142) 2, (some (.l 141, true))⟩, 3, true, []⟩,
  ⟨⟨(some (false, 144)), .ld none (.l 143), (some (.l 141, true))⟩, 4, true, []⟩,
  ⟨⟨(some (false, 145)), .fa (.g 14) 0, (some (.l 141, true))⟩, 5, true, []⟩,
  ⟨⟨(some (false, 146)), .ld none (.l 145), (some (.l 141, true))⟩, 6, true, []⟩,
  ⟨⟨(some (false, 147)), .fa (.g 4) 13, (some (.l 141, true))⟩, 7, true, []⟩,
  ⟨⟨(some (false, 148)), .ld none (.l 147), (some (.l 141, true))⟩, 8, true, []⟩,
  ⟨⟨(some (false, 149)), .mv (.g 16), (some (.l 141, true))⟩, 9, true, []⟩,
  ⟨⟨(some (false, 150)), .ia 4 (.l 148) (.l 149), (some (.l 141, true))⟩, 10, true, []⟩,
  ⟨⟨(some (false, 151)), .fa (.l 150) 0, (some (.l 141, true))⟩, 11, true, []⟩,
  ⟨⟨(some (false, 152)), .ld none (.l 151), (some (.l 141, true))⟩, 12, true, []⟩,
  ⟨⟨(some (false, 153)), .call (.c (.fn 40 [])) [.l 146, .l 152], (some (.l 141, true))⟩, 13, false, []⟩,
  ⟨⟨(some (false, 154)), .call (.c (.fn 39 [])) [.l 144, .l 153], (some (.l 141, true))⟩, 14, false, []⟩,
  ⟨⟨(some (false, 155)), .bin .eql (.l 154) (.c (.lit (.int .i64 0))), (some (.l 141, true))⟩, 15, true, []⟩,
  ⟨⟨(some (false, 156)), .pick (.l 141) (.l 155) (.c (.lit (.bool false))), none⟩, 16, true, []⟩,
  ⟨⟨(some (true, 15)), .mv (.l 156), none⟩, 17, true, []⟩])
(.seq
(.draw [
  ⟨⟨(some (false, 157)), .mv (.g 12), none⟩, 0, true, []⟩,
  ⟨⟨(some (false, 158)), .mv (.g 12), none⟩, 1, true, []⟩,
  ⟨⟨(some (false, 159)), .len (.l 158), none⟩, 2, true, []⟩,
  ⟨⟨(some (false, 160)), .bin .sub (.l 159) (.c (.lit (.int .i64 1))), none⟩, 3, true, []⟩,
  ⟨⟨(some (false, 161)), .mv (.g 16), none⟩, 4, true, []⟩,
  ⟨⟨(some (false, 162)), .bin .sub (.l 160) (.l 161), none⟩, 5, true, []⟩,
  ⟨⟨(some (false, 163)), .ia 1 (.l 157) (.l 162), none⟩, 6, true, []⟩,
  ⟨⟨(some (false, 164)), .ld none (.l 163), none⟩, 7, true, []⟩,
  ⟨⟨(some (false, 165)), .mv (.g 8), none⟩, 8, true, []⟩,
  ⟨⟨(some (false, 166)), .mv (.g 16), none⟩, 9, true, []⟩,
  ⟨⟨(some (false, 167)), .ia 1 (.l 165) (.l 166), none⟩, 10, true, []⟩,
  ⟨⟨(some (false, 168)), .ld none (.l 167), none⟩, 11, true, []⟩,
  ⟨⟨(some (false, 169)), .bin .neq (.l 164) (.l 168), none⟩, 12, true, []⟩,
  ⟨⟨(some (false, 170)), .mv (.l 169), none⟩, 13, true, []⟩,
  ⟨⟨(some (false, 171)), .mv (.g 10), (some (.l 170, false))⟩, 14, true, []⟩,
  ⟨⟨(some (false, 172)), .mv (.g 16), (some (.l 170, false))⟩, 15, true, []⟩,
  ⟨⟨(some (false, 173)), .ia 1 (.l 171) (.l 172), (some (.l 170, false))⟩, 16, true, []⟩,
  ⟨⟨(some (false, 174)), .ld none (.l 173), (some (.l 170, false))⟩, 17, true, []⟩,
  ⟨⟨(some (false, 175)), .bin .eql (.l 174) (.c (.lit (.int .i64 1))), (some (.l 170, false))⟩, 18, true, []⟩,
  ⟨⟨(some (false, 176)), .mv (.l 175), (some (.l 170, false))⟩, 19, true, []⟩,
  ⟨⟨(some (false, 177)), .mv (.g 8), (some (.l 176, true))⟩, 20, true, []⟩,
  ⟨⟨(some (false, 178)), .mv (.g 16), (some (.l 176, true))⟩, 21, true, []⟩,
  ⟨⟨(some (false, 179)), .ia 1 (.l 177) (.l 178), (some (.l 176, true))⟩, 22, true, []⟩,
  ⟨⟨(some (false, 180)), .ld none (.l 179), (some (.l 176, true))⟩, 23, true, []⟩,
  ⟨⟨(some (false, 181)), .bin .neq (.l 180) (.c (.lit (.int .i64 1))), (some (.l 176, true))⟩, 24, true, []⟩,
  ⟨⟨(some (false, 182)), .pick (.l 176) (.l 181) (.c (.lit (.bool false))), (some (.l 170, false))⟩, 25, true, []⟩,
  ⟨⟨(some (false, 183)), .pick (.l 170) (.c (.lit (.bool true))) (.l 182), none⟩, 26, true, []⟩,
  ⟨⟨(some (false, 184)), .mv (.l 183), none⟩, 27, true, []⟩,
  ⟨⟨(some (false, 185)), .mv (.g 8), (some (.l 184, false))⟩, 28, true, []⟩,
  ⟨⟨(some (false, 186)), .mv (.g 16), (some (.l 184, false))⟩, 29, true, []⟩,
  ⟨⟨(some (false, 187)), .ia 1 (.l 185) (.l 186), (some (.l 184, false))⟩, 30, true, []⟩,
  ⟨⟨(some (false, 188)), .ld none (.l 187), (some (.l 184, false))⟩, 31, true, []⟩,
  ⟨⟨(some (false, 189)), .bin .eql (.l 188) (.c (.lit (.int .i64 2))), (some (.l 184, false))⟩, 32, true, []⟩,
  ⟨⟨(some (false, 190)), .mv (.l 189), (some (.l 184, false))⟩, 33, true, []⟩,
  ⟨⟨(some (false, 191)), .mv (.g 10), (some (.l 190, true))⟩, 34, true, []⟩,
  ⟨⟨(some (false, 192)), .mv (.g 16), (some (.l 190, true))⟩, 35, true, []⟩,
  ⟨⟨(some (false, 193)), .ia 1 (.l 191) (.l 192), (some (.l 190, true))⟩, 36, true, []⟩,
  ⟨⟨(some (false, 194)), .ld none (.l 193), (some (.l 190, true))⟩, 37, true, []⟩,
  ⟨⟨(some (false, 195)), .bin .neq (.l 194) (.c (.lit (.int .i64 2))), (some (.l 190, true))⟩, 38, true, []⟩,
  ⟨⟨(some (false, 196)), .pick (.l 190) (.l 195) (.c (.lit (.bool false))), (some (.l 184, false))⟩, 39, true, []⟩,
  ⟨⟨(some (true, 197)), .pick (.l 184) (.c (.lit (.bool true))) (.l 196), none⟩, 40, true, []⟩])
(.cond (.g 197)
(.seq
(.reg [
  ⟨(some (true, 2)), .mv (.c (.lit (.bool false))), none⟩])
.ret)
.skip))))
(.reg [
  ⟨(some (false, 138)), .mv (.g 16), none⟩,
  ⟨(some (false, 139)), .bin .add (.l 138) (.c (.lit (.int .i64 1))), none⟩,
  ⟨(some (true, 16)), .mv (.l 139), none⟩]))))))
(.seq
(.reg [
  ⟨(some (false, 198)), .mv (.g 15), none⟩,
  ⟨(some (false, 199)), .un .not (.l 198), none⟩,
  ⟨(some (false, 200)), .mv (.l 199), none⟩,
  ⟨(some (false, 201)), .mv (.g 8), (some (.l 200, false))⟩,
  ⟨(some (false, 202)), .mv (.g 10), (some (.l 200, false))⟩,
  ⟨(some (false, 203)), .mv (.g 8), (some (.l 200, false))⟩,
  ⟨(some (false, 204)), .len (.l 203), (some (.l 200, false))⟩,
  ⟨(some (false, 205)), .sl 1 (.l 202) none (some (.l 204)) none, (some (.l 200, false))⟩,
  ⟨(some (false, 206)), .call (.c (.fn 27 [])) [.l 201, .l 205], (some (.l 200, false))⟩,
  ⟨(some (false, 207)), .pick (.l 200) (.c (.lit (.bool true))) (.l 206), none⟩,
  ⟨(some (false, 208)), .mv (.l 207), none⟩,
  ⟨(some (false, 209)), .call (.c (.fn 19 [])) [], (some (.l 208, true))⟩,
  ⟨(some (false, 210)), .pick (.l 208) (.l 209) (.c (.lit (.bool false))), none⟩,
  ⟨(some (true, 2)), .mv (.l 210), none⟩])
.ret)))))))))))))))
end Go.Sas
