/-
The code of some functions with its types resolved, printed by a program; that it is the code is checked by the kernel.
Conditions: none.
-/
import Derived.Test.YthpjckoklnhbcaaZ4
import Derived.Test.YthpjckoklnhbcaaProg
set_option linter.unusedVariables false
set_option linter.unusedSimpArgs false
namespace Go.Sas
open Go.Proofs
set_option maxRecDepth 100000
/-- sastrugi/sastrugilaw08.FreightSpreads -/
def c7 : ACode :=
  (.seq
(.reg [
  ⟨(some (true, 4)), .box (.g 0), none⟩,
  ⟨(some (true, 5)), .box (.g 1), none⟩,
  ⟨(some (true, 8)), .mv (.c (.lit (.bool false))), none⟩])
(.seq
(.seq
(.reg [
  ⟨(some (false, 23)), .ld (some 6) (.g 4), none⟩,
  ⟨(some (false, 24)), .call (.c (.fn 16 [])) [.l 23], none⟩,
  ⟨(some (false, 25)), .mv (.l 24), none⟩,
  ⟨(some (false, 26)), .fa (.g 5) 2, (some (.l 25, false))⟩,
  ⟨(some (false, 27)), .ld none (.l 26), (some (.l 25, false))⟩,
  ⟨(some (false, 28)), .len (.l 27), (some (.l 25, false))⟩,
  ⟨(some (false, 29)), .bin .gtr (.l 28) (.c (.lit (.int .i64 250))), (some (.l 25, false))⟩,
  ⟨(some (false, 30)), .pick (.l 25) (.c (.lit (.bool true))) (.l 29), none⟩,
  ⟨(some (false, 31)), .mv (.l 30), none⟩,
  ⟨(some (false, 32)), .mv (.g 2), (some (.l 31, false))⟩,
  ⟨(some (false, 33)), .len (.l 32), (some (.l 31, false))⟩,
  ⟨(some (false, 34)), .bin .gtr (.l 33) (.c (.lit (.int .i64 20))), (some (.l 31, false))⟩,
  ⟨(some (true, 35)), .pick (.l 31) (.c (.lit (.bool true))) (.l 34), none⟩])
(.cond (.g 35)
(.seq
(.reg [
  ⟨(some (false, 36)), .call (.c (.fn 17 [])) [], none⟩,
  ⟨(some (true, 8)), .mv (.l 36), none⟩])
.ret)
.skip))
(.seq
(.reg [
  ⟨(some (false, 37)), .mv (.g 3), none⟩,
  ⟨(some (false, 38)), .call (.c (.fn 22 [])) [.l 37], none⟩,
  ⟨(some (true, 9)), .mv (.l 38), none⟩])
(.seq
(.reg [
  ⟨(some (false, 39)), .mv (.g 9), none⟩,
  ⟨(some (false, 40)), .call (.c (.fn 23 [])) [.l 39, .c (.lit (.int .i64 12)), .c (.lit (.int .i64 5))], none⟩,
  ⟨(some (true, 10)), .new [.int .i64 0, .int .i64 0, .int .i64 0, .int .i64 0, .slice none 0 0, .slice none 0 0], none⟩,
  ⟨none, .st 6 (.g 10) (.l 40), none⟩])
(.seq
(.reg [
  ⟨(some (false, 41)), .mv (.g 9), none⟩,
  ⟨(some (false, 42)), .ld (some 6) (.g 10), none⟩,
  ⟨(some (false, 43)), .call (.c (.fn 35 [])) [.l 41, .l 42], none⟩,
  ⟨(some (true, 11)), .new [.int .i64 0, .int .i64 0, .slice none 0 0], none⟩,
  ⟨none, .st 3 (.g 11) (.l 43), none⟩])
(.seq
(.draw [
  ⟨⟨(some (false, 44)), .ld (some 6) (.g 4), none⟩, 0, true, []⟩,
  ⟨⟨(some (false, 45)), .ld (some 6) (.g 10), none⟩, 1, true, []⟩,
  ⟨⟨(some (false, 46)), .ld (some 6) (.g 10), none⟩, 2, true, []⟩,
  ⟨⟨(some (false, 47)), .mks false 6 [.l 44, .l 45, .l 46], none⟩, 3, true, []⟩,
  ⟨⟨(some (false, 48)), .ld (some 3) (.g 5), none⟩, 4, true, []⟩,
  ⟨⟨(some (false, 49)), .ld (some 3) (.g 11), none⟩, 5, true, []⟩,
  ⟨⟨(some (false, 50)), .ld (some 3) (.g 11), none⟩, 6, true, []⟩,
  ⟨⟨(some (false, 51)), .mks false 3 [.l 48, .l 49, .l 50], none⟩, 7, true, []⟩,
  ⟨⟨(some (false, 52)), .mv (.g 2), none⟩, 8, true, []⟩,
  ⟨⟨(some (false, 53)), .mv (.g 9), none⟩, 9, true, []⟩,
  ⟨⟨(some (false, 54)), .fa (.g 10) 5, none⟩, 10, true, []⟩,
  ⟨⟨(some (false, 55)), .ld none (.l 54), none⟩, 11, true, []⟩,
  ⟨⟨(some (false, 56)), .len (.l 55), none⟩, 12, true, []⟩,
  ⟨⟨(some (false, 58)), .mv (.g 2), none⟩, 14, true, []⟩,
  ⟨⟨(some (false, 57)), .call (.c (.fn 31 [])) [.l 53, .l 56], none⟩, 13, false, []⟩,
  ⟨⟨(some (false, 59)), .mks false 1 [.l 52, .l 57, .l 58], none⟩, 15, true, []⟩,
  ⟨⟨(some (true, 12)), .mv (.l 47), none⟩, 16, true, []⟩,
  ⟨⟨(some (true, 13)), .mv (.l 51), none⟩, 17, true, []⟩,
  ⟨⟨(some (true, 14)), .mv (.l 59), none⟩, 18, true, []⟩])
(.seq
(.seq
(.reg [
  ⟨(some (true, 15)), .mv (.c (.lit (.int .i64 0))), none⟩])
(.block 0
(.loop
(.seq
(.seq
(.reg [
  ⟨(some (false, 60)), .mv (.g 15), none⟩,
  ⟨(some (false, 61)), .mv (.g 12), none⟩,
  ⟨(some (false, 62)), .len (.l 61), none⟩,
  ⟨(some (true, 63)), .bin .lss (.l 60) (.l 62), none⟩])
(.cond (.g 63)
.skip
(.exit 0)))
(.seq
(.block 1
(.seq
(.draw [
  ⟨⟨(some (false, 66)), .mv (.g 12), none⟩, 0, true, []⟩,
  ⟨⟨(some (false, 67)), .mv (.g 15), none⟩, 1, true, []⟩,
  ⟨⟨(some (false, 68)), .ia 6 (.l 66) (.l 67), none⟩, 2, true, []⟩,
  ⟨⟨(some (false, 69)), .ld (some 6) (.l 68), none⟩, 3, true, []⟩,
  ⟨⟨(some (false, 71)), .mv (.g 13), none⟩, 5, false, []⟩,
  ⟨⟨(some (false, 72)), .mv (.g 15), none⟩, 6, false, []⟩,
  ⟨⟨(some (false, 73)), .ia 3 (.l 71) (.l 72), none⟩, 7, false, []⟩,
  ⟨⟨(some (false, 74)), .ld (some 3) (.l 73), none⟩, 8, false, []⟩,
  ⟨⟨(some (false, 76)), .mv (.g 14), none⟩, 10, false, []⟩,
  ⟨⟨(some (false, 77)), .mv (.g 15), none⟩, 11, false, []⟩,
  ⟨⟨(some (false, 78)), .ia 1 (.l 76) (.l 77), none⟩, 12, false, []⟩,
  ⟨⟨(some (false, 79)), .ld none (.l 78), none⟩, 13, false, []⟩,
  ⟨⟨(some (true, 16)), .new [.int .i64 0, .int .i64 0, .int .i64 0, .int .i64 0, .slice none 0 0, .slice none 0 0], none⟩, 15, true, []⟩,
  ⟨⟨(some (true, 17)), .new [.int .i64 0, .int .i64 0, .slice none 0 0], none⟩, 16, true, []⟩,
  ⟨⟨(some (false, 70)), .call (.c (.fn 18 [])) [.l 69], none⟩, 4, false, []⟩,
  ⟨⟨(some (false, 75)), .call (.c (.fn 36 [])) [.l 74], none⟩, 9, false, []⟩,
  ⟨⟨(some (false, 80)), .call (.c (.fn 37 [])) [.l 79], none⟩, 14, false, []⟩,
  ⟨⟨none, .st 6 (.g 16) (.l 70), none⟩, 17, false, [15, 16]⟩,
  ⟨⟨none, .st 3 (.g 17) (.l 75), none⟩, 18, false, [15, 16]⟩,
  ⟨⟨(some (true, 18)), .mv (.l 80), none⟩, 19, false, [15, 16]⟩])
(.seq
(.reg [
  ⟨(some (false, 82)), .ld (some 6) (.g 16), none⟩,
  ⟨(some (false, 83)), .ld (some 3) (.g 17), none⟩,
  ⟨(some (false, 84)), .mv (.g 18), none⟩,
  ⟨(some (false, 85)), .call (.c (.fn 38 [])) [.l 82, .l 83, .l 84], none⟩,
  ⟨(some (false, 81)), .mv (.l 85), none⟩,
  ⟨(some (false, 86)), .ex (.l 81) 0, none⟩,
  ⟨(some (false, 87)), .ex (.l 81) 1, none⟩,
  ⟨(some (true, 19)), .mv (.l 86), none⟩,
  ⟨(some (true, 20)), .mv (.l 87), none⟩])
(.seq
(.draw [
  ⟨⟨(some (false, 89)), .mv (.g 12), none⟩, 0, true, []⟩,
  ⟨⟨(some (false, 90)), .mv (.g 15), none⟩, 1, true, []⟩,
  ⟨⟨(some (false, 91)), .ia 6 (.l 89) (.l 90), none⟩, 2, true, []⟩,
  ⟨⟨(some (false, 92)), .ld (some 6) (.l 91), none⟩, 3, true, []⟩,
  ⟨⟨(some (false, 93)), .mv (.g 13), none⟩, 4, true, []⟩,
  ⟨⟨(some (false, 94)), .mv (.g 15), none⟩, 5, true, []⟩,
  ⟨⟨(some (false, 95)), .ia 3 (.l 93) (.l 94), none⟩, 6, true, []⟩,
  ⟨⟨(some (false, 96)), .ld (some 3) (.l 95), none⟩, 7, true, []⟩,
  ⟨⟨(some (false, 97)), .mv (.g 14), none⟩, 8, true, []⟩,
  ⟨⟨(some (false, 98)), .mv (.g 15), none⟩, 9, true, []⟩,
  ⟨⟨(some (false, 99)), .ia 1 (.l 97) (.l 98), none⟩, 10, true, []⟩,
  ⟨⟨(some (false, 100)), .ld none (.l 99), none⟩, 11, true, []⟩,
  ⟨⟨(some (false, 101)), .call (.c (.fn 39 [])) [.l 92, .l 96, .l 100], none⟩, 12, false, []⟩,
  ⟨⟨(some (false, 88)), .mv (.l 101), none⟩, 13, true, []⟩,
  ⟨⟨(some (false, 102)), .ex (.l 88) 0, none⟩, 14, true, []⟩,
  ⟨⟨(some (false, 103)), .ex (.l 88) 1, none⟩, 15, true, []⟩,
  ⟨⟨(some (true, 21)), .mv (.l 102), none⟩, 16, true, []⟩,
  ⟨⟨(some (true, 22)), .mv (.l 103), none⟩, 17, true, []⟩])
(.seq
(.draw [
  ⟨⟨(some (false, 104)), .mv (.g 20), none⟩, 0, true, []⟩,
  ⟨⟨(some (false, 105)), .mv (.g 22), none⟩, 1, true, []⟩,
  ⟨⟨(some (false, 106)), .bin .neq (.l 104) (.l 105), none⟩, 2, true, []⟩,
  ⟨⟨(some (false, 107)), .mv (.l 106), none⟩, 3, true, []⟩,
  ⟨⟨(some (false, 108)), .mv (.g 19), (some (.l 107, false))⟩, 4, true, []⟩,
  ⟨⟨(some (false, 109)), .mv (.g 21), (some (.l 107, false))⟩, 5, true, []⟩,
  ⟨⟨(some (false, 110)), .call (.c (.fn 40 [])) [.l 108, .l 109], (some (.l 107, false))⟩, 6, false, []⟩,
  ⟨⟨(some (false, 111)), .un .not (.l 110), (some (.l 107, false))⟩, 7, true, []⟩,
  ⟨⟨(some (false, 112)), .pick (.l 107) (.c (.lit (.bool true))) (.l 111), none⟩, 8, true, []⟩,
  ⟨⟨(some (false, 113)), .mv (.l 112), none⟩, 9, true, []⟩,
  ⟨⟨(some (false, 114)), .ld (some 6) (.g 16), (some (.l 113, false))⟩, 10, true, []⟩,
  ⟨⟨(some (false, 115)), .mv (.g 12), (some (.l 113, false))⟩, 11, true, []⟩,
  ⟨⟨(some (false, 116)), .mv (.g 15), (some (.l 113, false))⟩, 12, true, []⟩,
  ⟨⟨(some (false, 117)), .ia 6 (.l 115) (.l 116), (some (.l 113, false))⟩, 13, true, []⟩,
  ⟨⟨(some (false, 118)), .ld (some 6) (.l 117), (some (.l 113, false))⟩, 14, true, []⟩,
  ⟨⟨(some (false, 119)), .call (.c (.fn 21 [])) [.l 114, .l 118], (some (.l 113, false))⟩, 15, false, []⟩,
  ⟨⟨(some (false, 120)), .un .not (.l 119), (some (.l 113, false))⟩, 16, true, []⟩,
  ⟨⟨(some (false, 121)), .pick (.l 113) (.c (.lit (.bool true))) (.l 120), none⟩, 17, true, []⟩,
  ⟨⟨(some (false, 122)), .mv (.l 121), none⟩, 18, true, []⟩,
  ⟨⟨(some (false, 123)), .fa (.g 17) 2, (some (.l 122, false))⟩, 19, true, []⟩,
  ⟨⟨(some (false, 124)), .ld none (.l 123), (some (.l 122, false))⟩, 20, true, []⟩,
  ⟨⟨(some (false, 125)), .mv (.g 13), (some (.l 122, false))⟩, 21, true, []⟩,
  ⟨⟨(some (false, 126)), .mv (.g 15), (some (.l 122, false))⟩, 22, true, []⟩,
  ⟨⟨(some (false, 127)), .ia 3 (.l 125) (.l 126), (some (.l 122, false))⟩, 23, true, []⟩,
  ⟨⟨(some (false, 128)), .fa (.l 127) 2, (some (.l 122, false))⟩, 24, true, []⟩,
  ⟨⟨(some (false, 129)), .ld none (.l 128), (some (.l 122, false))⟩, 25, true, []⟩,
  ⟨⟨(some (false, 130)), .call (.c (.fn 28 [])) [.l 124, .l 129], (some (.l 122, false))⟩, 26, false, []⟩,
  ⟨⟨(some (false, 131)), .un .not (.l 130), (some (.l 122, false))⟩, 27, true, []⟩,
  ⟨⟨(some (false, 132)), .pick (.l 122) (.c (.lit (.bool true))) (.l 131), none⟩, 28, true, []⟩,
  ⟨⟨(some (false, 133)), .mv (.l 132), none⟩, 29, true, []⟩,
  ⟨⟨(some (false, 134)), .mv (.g 18), (some (.l 133, false))⟩, 30, true, []⟩,
  ⟨⟨(some (false, 135)), .mv (.g 14), (some (.l 133, false))⟩, 31, true, []⟩,
  ⟨⟨(some (false, 136)), .mv (.g 15), (some (.l 133, false))⟩, 32, true, []⟩,
  ⟨⟨(some (false, 137)), .ia 1 (.l 135) (.l 136), (some (.l 133, false))⟩, 33, true, []⟩,
  ⟨⟨(some (false, 138)), .ld none (.l 137), (some (.l 133, false))⟩, 34, true, []⟩,
  ⟨⟨(some (false, 139)), .call (.c (.fn 28 [])) [.l 134, .l 138], (some (.l 133, false))⟩, 35, false, []⟩,
  ⟨⟨(some (false, 140)), .un .not (.l 139), (some (.l 133, false))⟩, 36, true, []⟩,
  ⟨⟨(some (true, 141)), .pick (.l 133) (.c (.lit (.bool true))) (.l 140), none⟩, 37, true, []⟩])
(.cond (.g 141)
(.seq
(.reg [
  ⟨(some (true, 8)), .mv (.c (.lit (.bool false))), none⟩])
.ret)
.skip))))))
(.reg [
  ⟨(some (false, 64)), .mv (.g 15), none⟩,
  ⟨(some (false, 65)), .bin .add (.l 64) (.c (.lit (.int .i64 1))), none⟩,
  ⟨(some (true, 15)), .mv (.l 65), none⟩]))))))
(.seq
(.reg [
  ⟨(some (false, 142)), .call (.c (.fn 17 [])) [], none⟩,
  ⟨(some (true, 8)), .mv (.l 142), none⟩])
.ret))))))))
def K7 : List Nat := [0, 1, 2, 3, 35, 63, 141, 8, 4, 5, 9, 10, 11, 12, 13, 14, 15, 16, 17, 18, 19, 20, 21, 22]
noncomputable def b7 : Code := match Try.f7.body with | some c => c | none => .skip
theorem t7 : trCode ⟨Try.prog, K7, [], 143, none⟩ b7 = some c7 := by kernel_rfl
theorem go7 {args : List AV} {H : AHeap} {Kk : AV → AHeap → Prop} (hn : args.length = 4) (h : AGo ⟨Try.prog, K7, [], 143, none⟩ H.length [.code c7] (RetP [.t (.g 8)] H.length Kk) ⟨[], argsG 0 args⟩ H) : ACalls Try.prog 7 args H Kk :=
  ACalls_of Try.func7 (c := b7) rfl (by kernel_rfl) t7 (rs := [.t (.g 8)]) (by kernel_rfl) (by rw [hn]; exact Nat.le_of_ble_eq_true rfl) (by rw [hn]; rfl) (h.weaken (fun _ _ => RetP.hands) (by simp))

end Go.Sas
