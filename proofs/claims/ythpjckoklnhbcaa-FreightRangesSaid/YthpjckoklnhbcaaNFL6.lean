/-
The code of some functions with its types resolved, printed by a program; that it is the code is checked by the kernel.
Conditions: none.
-/
import Derived.Test.YthpjckoklnhbcaaZ4
import Derived.Test.YthpjckoklnhbcaaProg
set_option linter.unusedVariables false
set_option linter.unusedSimpArgs false
namespace Go.Sas
open Go.Proofs
set_option maxRecDepth 100000
/-- sastrugi/sastrugilaw08.FreightRanges -/
def c6 : ACode :=
  (.seq
(.reg [
  ⟨(some (true, 3)), .box (.g 0), none⟩,
  ⟨(some (true, 6)), .mv (.c (.lit (.bool false))), none⟩])
(.seq
(.seq
(.reg [
  ⟨(some (false, 20)), .ld (some 6) (.g 3), none⟩,
  ⟨(some (false, 21)), .call (.c (.fn 16 [])) [.l 20], none⟩,
  ⟨(some (false, 22)), .mv (.l 21), none⟩,
  ⟨(some (false, 23)), .mv (.g 1), (some (.l 22, false))⟩,
  ⟨(some (false, 24)), .len (.l 23), (some (.l 22, false))⟩,
  ⟨(some (false, 25)), .bin .gtr (.l 24) (.c (.lit (.int .i64 20))), (some (.l 22, false))⟩,
  ⟨(some (true, 26)), .pick (.l 22) (.c (.lit (.bool true))) (.l 25), none⟩])
(.cond (.g 26)
(.seq
(.reg [
  ⟨(some (false, 27)), .call (.c (.fn 17 [])) [], none⟩,
  ⟨(some (true, 6)), .mv (.l 27), none⟩])
.ret)
.skip))
(.seq
(.reg [
  ⟨(some (false, 28)), .mv (.g 2), none⟩,
  ⟨(some (false, 29)), .call (.c (.fn 22 [])) [.l 28], none⟩,
  ⟨(some (true, 7)), .mv (.l 29), none⟩])
(.seq
(.reg [
  ⟨(some (false, 30)), .mv (.g 7), none⟩,
  ⟨(some (false, 31)), .call (.c (.fn 23 [])) [.l 30, .c (.lit (.int .i64 14)), .c (.lit (.int .i64 6))], none⟩,
  ⟨(some (true, 8)), .new [.int .i64 0, .int .i64 0, .int .i64 0, .int .i64 0, .slice none 0 0, .slice none 0 0], none⟩,
  ⟨none, .st 6 (.g 8) (.l 31), none⟩])
(.seq
(.draw [
  ⟨⟨(some (false, 32)), .ld (some 6) (.g 3), none⟩, 0, true, []⟩,
  ⟨⟨(some (false, 33)), .ld (some 6) (.g 8), none⟩, 1, true, []⟩,
  ⟨⟨(some (false, 34)), .ld (some 6) (.g 8), none⟩, 2, true, []⟩,
  ⟨⟨(some (false, 35)), .mks false 6 [.l 32, .l 33, .l 34], none⟩, 3, true, []⟩,
  ⟨⟨(some (false, 36)), .mv (.g 1), none⟩, 4, true, []⟩,
  ⟨⟨(some (false, 37)), .mv (.g 7), none⟩, 5, true, []⟩,
  ⟨⟨(some (false, 38)), .fa (.g 8) 5, none⟩, 6, true, []⟩,
  ⟨⟨(some (false, 39)), .ld none (.l 38), none⟩, 7, true, []⟩,
  ⟨⟨(some (false, 40)), .len (.l 39), none⟩, 8, true, []⟩,
  ⟨⟨(some (false, 42)), .mv (.g 1), none⟩, 10, true, []⟩,
  ⟨⟨(some (false, 41)), .call (.c (.fn 31 [])) [.l 37, .l 40], none⟩, 9, false, []⟩,
  ⟨⟨(some (false, 43)), .mks false 1 [.l 36, .l 41, .l 42], none⟩, 11, true, []⟩,
  ⟨⟨(some (true, 9)), .mv (.l 35), none⟩, 12, true, []⟩,
  ⟨⟨(some (true, 10)), .mv (.l 43), none⟩, 13, true, []⟩])
(.seq
(.seq
(.reg [
  ⟨(some (true, 11)), .mv (.c (.lit (.int .i64 0))), none⟩])
(.block 0
(.loop
(.seq
(.seq
(.reg [
  ⟨(some (false, 44)), .mv (.g 11), none⟩,
  ⟨(some (false, 45)), .mv (.g 9), none⟩,
  ⟨(some (false, 46)), .len (.l 45), none⟩,
  ⟨(some (true, 47)), .bin .lss (.l 44) (.l 46), none⟩])
(.cond (.g 47)
.skip
(.exit 0)))
(.seq
(.block 1
(.seq
(.draw [
  ⟨⟨(some (false, 51)), .mv (.g 9), none⟩, 0, true, []⟩,
  ⟨⟨(some (false, 52)), .mv (.g 11), none⟩, 1, true, []⟩,
  ⟨⟨(some (false, 53)), .ia 6 (.l 51) (.l 52), none⟩, 2, true, []⟩,
  ⟨⟨(some (false, 54)), .ld (some 6) (.l 53), none⟩, 3, true, []⟩,
  ⟨⟨(some (false, 55)), .mv (.g 10), none⟩, 4, true, []⟩,
  ⟨⟨(some (false, 56)), .mv (.g 11), none⟩, 5, true, []⟩,
  ⟨⟨(some (false, 57)), .ia 1 (.l 55) (.l 56), none⟩, 6, true, []⟩,
  ⟨⟨(some (false, 58)), .ld none (.l 57), none⟩, 7, true, []⟩,
  ⟨⟨(some (true, 12)), .new [.int .i64 0, .int .i64 0], none⟩, 12, true, []⟩,
  ⟨⟨(some (false, 59)), .call (.c (.fn 30 [])) [.l 54, .l 58], none⟩, 8, false, []⟩,
  ⟨⟨(some (false, 50)), .mv (.l 59), none⟩, 9, true, []⟩,
  ⟨⟨(some (false, 60)), .ex (.l 50) 0, none⟩, 10, true, []⟩,
  ⟨⟨(some (false, 61)), .ex (.l 50) 1, none⟩, 11, false, []⟩,
  ⟨⟨none, .st 2 (.g 12) (.l 60), none⟩, 13, false, [12]⟩,
  ⟨⟨(some (true, 13)), .mv (.l 61), none⟩, 14, false, [12]⟩])
(.seq
(.draw [
  ⟨⟨(some (false, 63)), .mv (.g 9), none⟩, 0, true, []⟩,
  ⟨⟨(some (false, 64)), .mv (.g 11), none⟩, 1, true, []⟩,
  ⟨⟨(some (false, 65)), .ia 6 (.l 63) (.l 64), none⟩, 2, true, []⟩,
  ⟨⟨(some (false, 66)), .ld (some 6) (.l 65), none⟩, 3, true, []⟩,
  ⟨⟨(some (false, 67)), .mv (.g 10), none⟩, 4, true, []⟩,
  ⟨⟨(some (false, 68)), .mv (.g 11), none⟩, 5, true, []⟩,
  ⟨⟨(some (false, 69)), .ia 1 (.l 67) (.l 68), none⟩, 6, true, []⟩,
  ⟨⟨(some (false, 70)), .ld none (.l 69), none⟩, 7, true, []⟩,
  ⟨⟨(some (true, 14)), .new [.int .i64 0, .int .i64 0], none⟩, 12, true, []⟩,
  ⟨⟨(some (false, 71)), .call (.c (.fn 32 [])) [.l 66, .l 70], none⟩, 8, false, []⟩,
  ⟨⟨(some (false, 62)), .mv (.l 71), none⟩, 9, true, []⟩,
  ⟨⟨(some (false, 72)), .ex (.l 62) 0, none⟩, 10, true, []⟩,
  ⟨⟨(some (false, 73)), .ex (.l 62) 1, none⟩, 11, false, []⟩,
  ⟨⟨none, .st 2 (.g 14) (.l 72), none⟩, 13, false, [12]⟩,
  ⟨⟨(some (true, 15)), .mv (.l 73), none⟩, 14, false, [12]⟩])
(.seq
(.draw [
  ⟨⟨(some (false, 75)), .mv (.g 9), none⟩, 0, true, []⟩,
  ⟨⟨(some (false, 76)), .mv (.g 11), none⟩, 1, true, []⟩,
  ⟨⟨(some (false, 77)), .ia 6 (.l 75) (.l 76), none⟩, 2, true, []⟩,
  ⟨⟨(some (false, 78)), .ld (some 6) (.l 77), none⟩, 3, true, []⟩,
  ⟨⟨(some (false, 79)), .mv (.g 10), none⟩, 4, true, []⟩,
  ⟨⟨(some (false, 80)), .mv (.g 11), none⟩, 5, true, []⟩,
  ⟨⟨(some (false, 81)), .ia 1 (.l 79) (.l 80), none⟩, 6, true, []⟩,
  ⟨⟨(some (false, 82)), .ld none (.l 81), none⟩, 7, true, []⟩,
  ⟨⟨(some (false, 83)), .call (.c (.fn 33 [])) [.l 78, .l 82], none⟩, 8, false, []⟩,
  ⟨⟨(some (false, 74)), .mv (.l 83), none⟩, 9, true, []⟩,
  ⟨⟨(some (false, 84)), .ex (.l 74) 0, none⟩, 10, true, []⟩,
  ⟨⟨(some (false, 85)), .ex (.l 74) 1, none⟩, 11, true, []⟩,
  ⟨⟨(some (true, 16)), .mv (.l 84), none⟩, 12, true, []⟩,
  ⟨⟨(some (true, 17)), .mv (.l 85), none⟩, 13, true, []⟩])
(.seq
(.draw [
  ⟨⟨(some (false, 87)), .mv (.g 9), none⟩, 0, true, []⟩,
  ⟨⟨(some (false, 88)), .mv (.g 11), none⟩, 1, true, []⟩,
  ⟨⟨(some (false, 89)), .ia 6 (.l 87) (.l 88), none⟩, 2, true, []⟩,
  ⟨⟨(some (false, 90)), .ld (some 6) (.l 89), none⟩, 3, true, []⟩,
  ⟨⟨(some (false, 91)), .mv (.g 10), none⟩, 4, true, []⟩,
  ⟨⟨(some (false, 92)), .mv (.g 11), none⟩, 5, true, []⟩,
  ⟨⟨(some (false, 93)), .ia 1 (.l 91) (.l 92), none⟩, 6, true, []⟩,
  ⟨⟨(some (false, 94)), .ld none (.l 93), none⟩, 7, true, []⟩,
  ⟨⟨(some (false, 95)), .call (.c (.fn 34 [])) [.l 90, .l 94], none⟩, 8, false, []⟩,
  ⟨⟨(some (false, 86)), .mv (.l 95), none⟩, 9, true, []⟩,
  ⟨⟨(some (false, 96)), .ex (.l 86) 0, none⟩, 10, true, []⟩,
  ⟨⟨(some (false, 97)), .ex (.l 86) 1, none⟩, 11, true, []⟩,
  ⟨⟨(some (true, 18)), .mv (.l 96), none⟩, 12, true, []⟩,
  ⟨⟨(some (true, 19)), .mv (.l 97), none⟩, 13, true, []⟩])
(.seq
(.reg [
  ⟨(some (false, 98)), .ld (some 2) (.g 12), none⟩,
  ⟨(some (false, 99)), .ld (some 2) (.g 14), none⟩,
  ⟨(some (false, 100)), .eqs true (.fld 0 none .i (.fld 1 none .i .nil)) (.l 98) (.l 99), none⟩,
  ⟨(some (false, 101)), .mv (.l 100), none⟩,
  ⟨(some (false, 102)), .mv (.g 13), (some (.l 101, false))⟩,
  ⟨(some (false, 103)), .mv (.g 15), (some (.l 101, false))⟩,
  ⟨(some (false, 104)), .bin .neq (.l 102) (.l 103), (some (.l 101, false))⟩,
  ⟨(some (false, 105)), .pick (.l 101) (.c (.lit (.bool true))) (.l 104), none⟩,
  ⟨(some (false, 106)), .mv (.l 105), none⟩,
  ⟨(some (false, 107)), .mv (.g 17), (some (.l 106, false))⟩,
  ⟨(some (false, 108)), .mv (.g 19), (some (.l 106, false))⟩,
  ⟨(some (false, 109)), .bin .neq (.l 107) (.l 108), (some (.l 106, false))⟩,
  ⟨(some (false, 110)), .pick (.l 106) (.c (.lit (.bool true))) (.l 109), none⟩,
  ⟨(some (false, 111)), .mv (.l 110), none⟩,
  ⟨(some (false, 112)), .mv (.g 16), (some (.l 111, false))⟩,
  ⟨(some (false, 113)), .mv (.g 18), (some (.l 111, false))⟩,
  ⟨(some (false, 114)), .call (.c (.fn 28 [])) [.l 112, .l 113], (some (.l 111, false))⟩,
  ⟨(some (false, 115)), .un .not (.l 114), (some (.l 111, false))⟩,
  ⟨(some (true, 116)), .pick (.l 111) (.c (.lit (.bool true))) (.l 115), none⟩])
(.cond (.g 116)
(.seq
(.reg [
  ⟨(some (true, 6)), .mv (.c (.lit (.bool false))), none⟩])
.ret)
.skip)))))))
(.reg [
  ⟨(some (false, 48)), .mv (.g 11), none⟩,
  ⟨(some (false, 49)), .bin .add (.l 48) (.c (.lit (.int .i64 1))), none⟩,
  ⟨(some (true, 11)), .mv (.l 49), none⟩]))))))
(.seq
(.reg [
  ⟨(some (false, 117)), .call (.c (.fn 17 [])) [], none⟩,
  ⟨(some (true, 6)), .mv (.l 117), none⟩])
.ret)))))))
def K6 : List Nat := [0, 1, 2, 26, 47, 116, 6, 3, 7, 8, 9, 10, 11, 12, 13, 14, 15, 16, 17, 18, 19]
noncomputable def b6 : Code := match Try.f6.body with | some c => c | none => .skip
theorem t6 : trCode ⟨Try.prog, K6, [], 118, none⟩ b6 = some c6 := by kernel_rfl
theorem go6 {args : List AV} {H : AHeap} {Kk : AV → AHeap → Prop} (hn : args.length = 3) (h : AGo ⟨Try.prog, K6, [], 118, none⟩ H.length [.code c6] (RetP [.t (.g 6)] H.length Kk) ⟨[], argsG 0 args⟩ H) : ACalls Try.prog 6 args H Kk :=
  ACalls_of Try.func6 (c := b6) rfl (by kernel_rfl) t6 (rs := [.t (.g 6)]) (by kernel_rfl) (by rw [hn]; exact Nat.le_of_ble_eq_true rfl) (by rw [hn]; rfl) (h.weaken (fun _ _ => RetP.hands) (by simp))

end Go.Sas
