/-
The code of some functions with its types resolved, printed by a program; that it is the code is checked by the kernel.
Conditions: none.
-/
import Derived.Test.YthpjckoklnhbcaaZ4
import Derived.Test.YthpjckoklnhbcaaProg
set_option linter.unusedVariables false
set_option linter.unusedSimpArgs false
namespace Go.Sas
open Go.Proofs
set_option maxRecDepth 100000
/-- sastrugi/sastrugilaw08.FreightEnds -/
def c12 : ACode :=
  (.seq
(.reg [
  ⟨(some (true, 2)), .mv (.c (.lit (.bool false))), none⟩])
(.seq
(.reg [
  ⟨(some (false, 18)), .mv (.g 0), none⟩,
  ⟨(some (false, 19)), .call (.c (.fn 22 [])) [.l 18], none⟩,
  ⟨(some (true, 3)), .mv (.l 19), none⟩])
(.seq
(.reg [
  ⟨(some (false, 20)), .mv (.g 3), none⟩,
  ⟨(some (false, 21)), .call (.c (.fn 23 [])) [.l 20, .c (.lit (.int .i64 14)), .c (.lit (.int .i64 6))], none⟩,
  ⟨(some (true, 4)), .new [.int .i64 0, .int .i64 0, .int .i64 0, .int .i64 0, .slice none 0 0, .slice none 0 0], none⟩,
  ⟨none, .st 6 (.g 4) (.l 21), none⟩])
(.seq
(.reg [
  ⟨(some (false, 22)), .mv (.g 3), none⟩,
  ⟨(some (false, 23)), .fa (.g 4) 5, none⟩,
  ⟨(some (false, 24)), .ld none (.l 23), none⟩,
  ⟨(some (false, 25)), .len (.l 24), none⟩,
  ⟨(some (false, 26)), .call (.c (.fn 31 [])) [.l 22, .l 25], none⟩,
  ⟨(some (true, 5)), .mv (.l 26), none⟩])
(.seq
(.draw [
  ⟨⟨(some (false, 28)), .ld (some 6) (.g 4), none⟩, 0, true, []⟩,
  ⟨⟨(some (false, 29)), .ld (some 6) (.g 4), none⟩, 1, true, []⟩,
  ⟨⟨(some (false, 31)), .mv (.g 5), none⟩, 3, true, []⟩,
  ⟨⟨(some (false, 30)), .call (.c (.fn 52 [])) [.l 29], none⟩, 2, false, []⟩,
  ⟨⟨(some (false, 32)), .call (.c (.fn 50 [])) [.l 28, .l 30, .l 31], none⟩, 4, false, []⟩,
  ⟨⟨(some (false, 27)), .mv (.l 32), none⟩, 5, true, []⟩,
  ⟨⟨(some (false, 33)), .ex (.l 27) 0, none⟩, 6, true, []⟩,
  ⟨⟨(some (false, 34)), .ex (.l 27) 1, none⟩, 7, true, []⟩,
  ⟨⟨(some (false, 35)), .ex (.l 27) 2, none⟩, 8, true, []⟩,
  ⟨⟨(some (true, 6)), .mv (.l 33), none⟩, 9, true, []⟩,
  ⟨⟨(some (true, 7)), .mv (.l 34), none⟩, 10, true, []⟩,
  ⟨⟨(some (true, 8)), .mv (.l 35), none⟩, 11, true, []⟩])
(.seq
(.draw [
  ⟨⟨(some (false, 37)), .ld (some 6) (.g 4), none⟩, 0, true, []⟩,
  ⟨⟨(some (false, 38)), .ld (some 6) (.g 4), none⟩, 1, true, []⟩,
  ⟨⟨(some (false, 40)), .mv (.g 5), none⟩, 3, true, []⟩,
  ⟨⟨(some (false, 39)), .call (.c (.fn 41 [])) [.l 38], none⟩, 2, false, []⟩,
  ⟨⟨(some (false, 41)), .call (.c (.fn 50 [])) [.l 37, .l 39, .l 40], none⟩, 4, false, []⟩,
  ⟨⟨(some (false, 36)), .mv (.l 41), none⟩, 5, true, []⟩,
  ⟨⟨(some (false, 42)), .ex (.l 36) 0, none⟩, 6, true, []⟩,
  ⟨⟨(some (false, 43)), .ex (.l 36) 1, none⟩, 7, true, []⟩,
  ⟨⟨(some (false, 44)), .ex (.l 36) 2, none⟩, 8, true, []⟩,
  ⟨⟨(some (true, 9)), .mv (.l 42), none⟩, 9, true, []⟩,
  ⟨⟨(some (true, 10)), .mv (.l 43), none⟩, 10, true, []⟩,
  ⟨⟨(some (true, 11)), .mv (.l 44), none⟩, 11, true, []⟩])
(.seq
(.reg [
  ⟨(some (false, 46)), .ld (some 6) (.g 4), none⟩,
  ⟨(some (false, 47)), .mv (.g 5), none⟩,
  ⟨(some (false, 48)), .call (.c (.fn 30 [])) [.l 46, .l 47], none⟩,
  ⟨(some (false, 45)), .mv (.l 48), none⟩,
  ⟨(some (false, 49)), .ex (.l 45) 0, none⟩,
  ⟨(some (false, 50)), .ex (.l 45) 1, none⟩,
  ⟨(some (true, 12)), .new [.int .i64 0, .int .i64 0], none⟩,
  ⟨none, .st 2 (.g 12) (.l 49), none⟩,
  ⟨(some (true, 13)), .mv (.l 50), none⟩])
(.seq
(.reg [
  ⟨(some (false, 52)), .ld (some 6) (.g 4), none⟩,
  ⟨(some (false, 53)), .mv (.g 5), none⟩,
  ⟨(some (false, 54)), .call (.c (.fn 33 [])) [.l 52, .l 53], none⟩,
  ⟨(some (false, 51)), .mv (.l 54), none⟩,
  ⟨(some (false, 55)), .ex (.l 51) 0, none⟩,
  ⟨(some (false, 56)), .ex (.l 51) 1, none⟩,
  ⟨(some (true, 14)), .mv (.l 55), none⟩,
  ⟨(some (true, 15)), .mv (.l 56), none⟩])
(.seq
(.seq
(.draw [
  ⟨⟨(some (false, 57)), .mv (.g 8), none⟩, 0, true, []⟩,
  ⟨⟨(some (false, 58)), .un .not (.l 57), none⟩, 1, true, []⟩,
  ⟨⟨(some (false, 59)), .mv (.l 58), none⟩, 2, true, []⟩,
  ⟨⟨(some (false, 60)), .mv (.g 11), (some (.l 59, false))⟩, 3, true, []⟩,
  ⟨⟨(some (false, 61)), .un .not (.l 60), (some (.l 59, false))⟩, 4, true, []⟩,
  ⟨⟨(some (false, 62)), .pick (.l 59) (.c (.lit (.bool true))) (.l 61), none⟩, 5, true, []⟩,
  ⟨⟨(some (false, 63)), .mv (.l 62), none⟩, 6, true, []⟩,
  ⟨⟨(some (false, 64)), .mv (.g 13), (some (.l 63, false))⟩, 7, true, []⟩,
  ⟨⟨(some (false, 65)), .bin .neq (.l 64) (.c (.lit (.int .i64 0))), (some (.l 63, false))⟩, 8, true, []⟩,
  ⟨⟨(some (false, 66)), .pick (.l 63) (.c (.lit (.bool true))) (.l 65), none⟩, 9, true, []⟩,
  ⟨⟨(some (false, 67)), .mv (.l 66), none⟩, 10, true, []⟩,
  ⟨⟨(some (false, 68)), .mv (.g 15), (some (.l 67, false))⟩, 11, true, []⟩,
  ⟨⟨(some (false, 69)), .bin .neq (.l 68) (.c (.lit (.int .i64 0))), (some (.l 67, false))⟩, 12, true, []⟩,
  ⟨⟨(some (false, 70)), .pick (.l 67) (.c (.lit (.bool true))) (.l 69), none⟩, 13, true, []⟩,
  ⟨⟨(some (false, 71)), .mv (.l 70), none⟩, 14, true, []⟩,
  ⟨⟨(some (false, 72)), .ld (some 2) (.g 12), (some (.l 71, false))⟩, 15, true, []⟩,
  ⟨⟨(some (false, 73)), .mv (.g 7), (some (.l 71, false))⟩, 16, true, []⟩,
  ⟨⟨(some (false, 74)), .mv (.g 10), (some (.l 71, false))⟩, 17, true, []⟩,
  ⟨⟨(some (false, 75)), .call (.c (.fn 53 [])) [.l 73, .l 74], (some (.l 71, false))⟩, 18, false, []⟩,
  ⟨⟨(some (false, 76)), .eqs true (.fld 0 none .i (.fld 1 none .i .nil)) (.l 72) (.l 75), (some (.l 71, false))⟩, 19, true, []⟩,
  ⟨⟨(some (false, 77)), .pick (.l 71) (.c (.lit (.bool true))) (.l 76), none⟩, 20, true, []⟩,
  ⟨⟨(some (false, 78)), .mv (.l 77), none⟩, 21, true, []⟩,
  ⟨⟨(some (false, 79)), .mv (.g 14), (some (.l 78, false))⟩, 22, true, []⟩,
  ⟨⟨(some (false, 80)), .len (.l 79), (some (.l 78, false))⟩, 23, true, []⟩,
  ⟨⟨(some (false, 81)), .mv (.g 6), (some (.l 78, false))⟩, 24, true, []⟩,
  ⟨⟨(some (false, 82)), .len (.l 81), (some (.l 78, false))⟩, 25, true, []⟩,
  ⟨⟨(some (false, 83)), .bin .neq (.l 80) (.l 82), (some (.l 78, false))⟩, 26, true, []⟩,
  ⟨⟨(some (true, 84)), .pick (.l 78) (.c (.lit (.bool true))) (.l 83), none⟩, 27, true, []⟩])
(.cond (.g 84)
(.seq
(.reg [
  ⟨(some (true, 2)), .mv (.c (.lit (.bool false))), none⟩])
.ret)
.skip))
(.seq
(.seq
(.reg [
  ⟨(some (true, 16)), .mv (.c (.lit (.int .i64 0))), none⟩])
(.block 0
(.loop
(.seq
(.seq
(.reg [
  ⟨(some (false, 85)), .mv (.g 16), none⟩,
  ⟨(some (false, 86)), .mv (.g 14), none⟩,
  ⟨(some (false, 87)), .len (.l 86), none⟩,
  ⟨(some (true, 88)), .bin .lss (.l 85) (.l 87), none⟩])
(.cond (.g 88)
.skip
(.exit 0)))
(.seq
(.block 1
(.seq
(.reg [
  ⟨(some (false, 91)), .fa (.g 4) 5, none⟩,
  ⟨(some (false, 92)), .ld none (.l 91), none⟩,
  ⟨(some (false, 93)), .mv (.g 16), none⟩,
  ⟨(some (false, 94)), .ia 4 (.l 92) (.l 93), none⟩,
  ⟨(some (false, 95)), .fa (.l 94) 0, none⟩,
  ⟨(some (false, 96)), .ld none (.l 95), none⟩,
  ⟨(some (true, 17)), .mv (.l 96), none⟩])
(.seq
(.draw [
  ⟨⟨(some (false, 97)), .mv (.g 14), none⟩, 0, true, []⟩,
  ⟨⟨(some (false, 98)), .mv (.g 16), none⟩, 1, true, []⟩,
  ⟨⟨(some (false, 99)), .ia 1 (.l 97) (.l 98), none⟩, 2, true, []⟩,
  ⟨⟨(some (false, 100)), .ld none (.l 99), none⟩, 3, true, []⟩,
  ⟨⟨(some (false, 101)), .bin .eql (.l 100) (.c (.lit (.int .i64 1))), none⟩, 4, true, []⟩,
  ⟨⟨(some (false, 102)), .mv (.g 9), none⟩, 5, true, []⟩,
  ⟨⟨(some (false, 103)), .mv (.g 16), none⟩, 6, true, []⟩,
  ⟨⟨(some (false, 104)), .ia 4 (.l 102) (.l 103), none⟩, 7, true, []⟩,
  ⟨⟨(some (false, 105)), .fa (.l 104) 0, none⟩, 8, true, []⟩,
  ⟨⟨(some (false, 106)), .ld none (.l 105), none⟩, 9, true, []⟩,
  ⟨⟨(some (false, 107)), .mv (.g 17), none⟩, 10, true, []⟩,
  ⟨⟨(some (false, 108)), .bin .eql (.l 106) (.l 107), none⟩, 11, true, []⟩,
  ⟨⟨(some (false, 109)), .binb true (.l 101) (.l 108), none⟩, 12, true, []⟩,
  ⟨⟨(some (false, 110)), .mv (.l 109), none⟩, 13, true, []⟩,
  ⟨⟨(some (false, 111)), .mv (.g 14), (some (.l 110, false))⟩, 14, true, []⟩,
  ⟨⟨(some (false, 112)), .mv (.g 16), (some (.l 110, false))⟩, 15, true, []⟩,
  ⟨⟨(some (false, 113)), .ia 1 (.l 111) (.l 112), (some (.l 110, false))⟩, 16, true, []⟩,
  ⟨⟨(some (false, 114)), .ld none (.l 113), (some (.l 110, false))⟩, 17, true, []⟩,
  ⟨⟨(some (false, 115)), .bin .eql (.l 114) (.c (.lit (.int .i64 2))), (some (.l 110, false))⟩, 18, true, []⟩,
  ⟨⟨(some (false, 116)), .mv (.g 6), (some (.l 110, false))⟩, 19, true, []⟩,
  ⟨⟨(some (false, 117)), .mv (.g 16), (some (.l 110, false))⟩, 20, true, []⟩,
  ⟨⟨(some (false, 118)), .ia 4 (.l 116) (.l 117), (some (.l 110, false))⟩, 21, true, []⟩,
  ⟨⟨(some (false, 119)), .fa (.l 118) 0, (some (.l 110, false))⟩, 22, true, []⟩,
  ⟨⟨(some (false, 120)), .ld none (.l 119), (some (.l 110, false))⟩, 23, true, []⟩,
  ⟨⟨(some (false, 121)), .mv (.g 17), (some (.l 110, false))⟩, 24, true, []⟩,
  ⟨⟨(some (false, 122)), .bin .lss (.l 120) (.l 121), (some (.l 110, false))⟩, 25, true, []⟩,
  ⟨⟨(some (false, 123)), .binb true (.l 115) (.l 122), (some (.l 110, false))⟩, 26, true, []⟩,
  ⟨⟨(some (true, 124)), .pick (.l 110) (.c (.lit (.bool true))) (.l 123), none⟩, 27, true, []⟩])
(.cond (.g 124)
(.seq
(.reg [
  ⟨(some (true, 2)), .mv (.c (.lit (.bool false))), none⟩])
.ret)
.skip))))
(.reg [
  ⟨(some (false, 89)), .mv (.g 16), none⟩,
  ⟨(some (false, 90)), .bin .add (.l 89) (.c (.lit (.int .i64 1))), none⟩,
  ⟨(some (true, 16)), .mv (.l 90), none⟩]))))))
(.seq
(.reg [
  ⟨(some (false, 125)), .call (.c (.fn 17 [])) [], none⟩,
  ⟨(some (true, 2)), .mv (.l 125), none⟩])
.ret)))))))))))
def K12 : List Nat := [0, 84, 88, 124, 2, 3, 4, 5, 6, 7, 8, 9, 10, 11, 12, 13, 14, 15, 16, 17]
noncomputable def b12 : Code := match Try.f12.body with | some c => c | none => .skip
theorem t12 : trCode ⟨Try.prog, K12, [], 126, none⟩ b12 = some c12 := by kernel_rfl
theorem go12 {args : List AV} {H : AHeap} {Kk : AV → AHeap → Prop} (hn : args.length = 1) (h : AGo ⟨Try.prog, K12, [], 126, none⟩ H.length [.code c12] (RetP [.t (.g 2)] H.length Kk) ⟨[], argsG 0 args⟩ H) : ACalls Try.prog 12 args H Kk :=
  ACalls_of Try.func12 (c := b12) rfl (by kernel_rfl) t12 (rs := [.t (.g 2)]) (by kernel_rfl) (by rw [hn]; exact Nat.le_of_ble_eq_true rfl) (by rw [hn]; rfl) (h.weaken (fun _ _ => RetP.hands) (by simp))

end Go.Sas
