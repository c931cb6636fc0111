/-
The code of some functions with its types resolved, printed by a program; that it is the code is checked by the kernel.
Conditions: none.
-/
import Derived.Test.YtelmlpjkpebcgaaM4
import Derived.Test.YtelmlpjkpebcgaaProg
set_option linter.unusedVariables false
set_option linter.unusedSimpArgs false
namespace Go.Sas
open Go.Proofs
set_option maxRecDepth 100000
/-- sastrugi/sastrugilaw03.BearLanes -/
def c8 : ACode :=
  (.seq
(.reg [
  ⟨(some (true, 5)), .box (.g 0), none⟩,
  ⟨(some (true, 8)), .box (.g 3), none⟩,
  ⟨(some (true, 10)), .mv (.c (.lit (.bool false))), none⟩])
(.seq
(.seq
(.reg [
  ⟨(some (false, 25)), .ld (some 11) (.g 5), none⟩,
  ⟨(some (false, 26)), .call (.c (.fn 18 [])) [.l 25], none⟩,
  ⟨(some (false, 27)), .mv (.l 26), none⟩,
  ⟨(some (false, 28)), .mv (.g 1), (some (.l 27, false))⟩,
  ⟨(some (false, 29)), .len (.l 28), (some (.l 27, false))⟩,
  ⟨(some (false, 30)), .bin .gtr (.l 29) (.c (.lit (.int .i64 20))), (some (.l 27, false))⟩,
  ⟨(some (false, 31)), .mv (.l 30), (some (.l 27, false))⟩,
  ⟨(some (false, 32)), .mv (.g 1), (some (.l 31, true))⟩,
  ⟨(some (false, 33)), .len (.l 32), (some (.l 31, true))⟩,
  ⟨(some (false, 34)), .bin .leq (.l 33) (.c (.lit (.int .i64 1000))), (some (.l 31, true))⟩,
  ⟨(some (false, 35)), .pick (.l 31) (.l 34) (.c (.lit (.bool false))), (some (.l 27, false))⟩,
  ⟨(some (false, 36)), .pick (.l 27) (.c (.lit (.bool true))) (.l 35), none⟩,
  ⟨(some (false, 37)), .mv (.l 36), none⟩,
  ⟨(some (false, 38)), .mv (.g 2), (some (.l 37, false))⟩,
  ⟨(some (false, 39)), .len (.l 38), (some (.l 37, false))⟩,
  ⟨(some (false, 40)), .bin .gtr (.l 39) (.c (.lit (.int .i64 60))), (some (.l 37, false))⟩,
  ⟨(some (true, 41)), .pick (.l 37) (.c (.lit (.bool true))) (.l 40), none⟩])
(.cond (.g 41)
(.seq
(.reg [
  ⟨(some (false, 42)), .call (.c (.fn 19 [])) [], none⟩,
  ⟨(some (true, 10)), .mv (.l 42), none⟩])
.ret)
.skip))
(.seq
(.reg [
  ⟨(some (false, 43)), .mv (.g 4), none⟩,
  ⟨(some (false, 44)), .call (.c (.fn 20 [])) [.l 43], none⟩,
  ⟨(some (true, 11)), .mv (.l 44), none⟩])
(.seq
(.reg [
  ⟨(some (false, 45)), .mv (.g 11), none⟩,
  ⟨(some (false, 46)), .call (.c (.fn 21 [])) [.l 45], none⟩,
  ⟨(some (false, 47)), .mv (.g 11), none⟩,
  ⟨(some (false, 48)), .call (.c (.fn 22 [])) [.l 47, .c (.lit (.int .i64 4))], none⟩,
  ⟨(some (true, 12)), .new [.int .i64 0, .int .i64 0, .slice none 0 0, .slice none 0 0, .int .i64 0, .int .i64 0, .int .i64 0, .int .i64 0, .int .i64 0, .int .i64 0, .int .i64 0], none⟩,
  ⟨none, .st 11 (.g 12) (.l 46), none⟩,
  ⟨(some (true, 13)), .mv (.l 48), none⟩])
(.seq
(.reg [
  ⟨(some (false, 49)), .mv (.g 11), none⟩,
  ⟨(some (false, 50)), .mv (.g 13), none⟩,
  ⟨(some (false, 51)), .len (.l 50), none⟩,
  ⟨(some (false, 52)), .call (.c (.fn 23 [])) [.l 49, .l 51, .c (.lit (.int .i64 3))], none⟩,
  ⟨(some (false, 53)), .mv (.g 11), none⟩,
  ⟨(some (false, 54)), .mv (.g 11), none⟩,
  ⟨(some (false, 55)), .mks false 1 [.c (.lit (.int .i64 10000)), .c (.lit (.int .i64 40000))], none⟩,
  ⟨(some (false, 56)), .call (.c (.fn 41 [])) [.l 54, .l 55], none⟩,
  ⟨(some (false, 57)), .call (.c (.fn 38 [])) [.l 53, .c (.lit (.int .i64 0)), .l 56], none⟩,
  ⟨(some (true, 15)), .new [.int .i64 0, .int .i64 0], none⟩,
  ⟨(some (true, 14)), .mv (.l 52), none⟩,
  ⟨none, .st 2 (.g 15) (.l 57), none⟩])
(.seq
(.draw [
  ⟨⟨(some (false, 58)), .ld (some 11) (.g 5), none⟩, 0, false, []⟩,
  ⟨⟨(some (false, 59)), .ld (some 11) (.g 12), none⟩, 1, false, []⟩,
  ⟨⟨(some (false, 60)), .ld (some 11) (.g 12), none⟩, 2, false, []⟩,
  ⟨⟨(some (false, 61)), .mks false 11 [.l 58, .l 59, .l 60], none⟩, 3, false, []⟩,
  ⟨⟨(some (false, 62)), .mv (.g 1), none⟩, 4, false, []⟩,
  ⟨⟨(some (false, 63)), .mv (.g 13), none⟩, 5, false, []⟩,
  ⟨⟨(some (false, 64)), .mv (.g 13), none⟩, 6, false, []⟩,
  ⟨⟨(some (false, 65)), .mks false 1 [.l 62, .l 63, .l 64], none⟩, 7, false, []⟩,
  ⟨⟨(some (false, 66)), .mv (.g 2), none⟩, 8, false, []⟩,
  ⟨⟨(some (false, 67)), .mv (.g 14), none⟩, 9, false, []⟩,
  ⟨⟨(some (false, 68)), .mv (.g 14), none⟩, 10, false, []⟩,
  ⟨⟨(some (false, 69)), .mks false 1 [.l 66, .l 67, .l 68], none⟩, 11, false, []⟩,
  ⟨⟨(some (false, 70)), .ld (some 2) (.g 8), none⟩, 12, false, []⟩,
  ⟨⟨(some (false, 71)), .ld (some 2) (.g 15), none⟩, 13, false, []⟩,
  ⟨⟨(some (false, 72)), .ld (some 2) (.g 8), none⟩, 14, false, []⟩,
  ⟨⟨(some (false, 73)), .mks false 2 [.l 70, .l 71, .l 72], none⟩, 15, false, []⟩,
  ⟨⟨(some (true, 16)), .mv (.l 61), none⟩, 16, false, []⟩,
  ⟨⟨(some (true, 17)), .mv (.l 65), none⟩, 17, false, []⟩,
  ⟨⟨(some (true, 18)), .mv (.l 69), none⟩, 18, false, []⟩,
  ⟨⟨(some (true, 19)), .mv (.l 73), none⟩, 19, false, []⟩])
(.seq
(.seq
(.reg [
  ⟨(some (true, 20)), .mv (.c (.lit (.int .i64 0))), none⟩])
(.block 0
(.loop
(.seq
(.seq
(.reg [
  ⟨(some (false, 74)), .mv (.g 20), none⟩,
  ⟨(some (false, 75)), .mv (.g 16), none⟩,
  ⟨(some (false, 76)), .len (.l 75), none⟩,
  ⟨(some (true, 77)), .bin .lss (.l 74) (.l 76), none⟩])
(.cond (.g 77)
.skip
(.exit 0)))
(.seq
(.block 1
(.seq
(.draw [
  ⟨⟨(some (false, 81)), .mv (.g 16), none⟩, 0, false, []⟩,
  ⟨⟨(some (false, 82)), .mv (.g 20), none⟩, 1, false, []⟩,
  ⟨⟨(some (false, 83)), .ia 11 (.l 81) (.l 82), none⟩, 2, false, []⟩,
  ⟨⟨(some (false, 84)), .ld (some 11) (.l 83), none⟩, 3, false, []⟩,
  ⟨⟨(some (false, 85)), .mv (.g 17), none⟩, 4, false, []⟩,
  ⟨⟨(some (false, 86)), .mv (.g 20), none⟩, 5, false, []⟩,
  ⟨⟨(some (false, 87)), .ia 1 (.l 85) (.l 86), none⟩, 6, false, []⟩,
  ⟨⟨(some (false, 88)), .ld none (.l 87), none⟩, 7, false, []⟩,
  ⟨⟨(some (false, 89)), .mv (.g 18), none⟩, 8, false, []⟩,
  ⟨⟨(some (false, 90)), .mv (.g 20), none⟩, 9, false, []⟩,
  ⟨⟨(some (false, 91)), .ia 1 (.l 89) (.l 90), none⟩, 10, false, []⟩,
  ⟨⟨(some (false, 92)), .ld none (.l 91), none⟩, 11, false, []⟩,
  ⟨⟨(some (false, 93)), .mv (.g 19), none⟩, 12, false, []⟩,
  ⟨⟨(some (false, 94)), .mv (.g 20), none⟩, 13, false, []⟩,
  ⟨⟨(some (false, 95)), .ia 2 (.l 93) (.l 94), none⟩, 14, false, []⟩,
  ⟨⟨(some (false, 96)), .ld (some 2) (.l 95), none⟩, 15, false, []⟩,
  ⟨⟨(some (false, 97)), .call (.c (.fn 42 [])) [.l 84, .l 88, .l 92, .l 96], none⟩, 16, false, []⟩,
  ⟨⟨(some (false, 80)), .mv (.l 97), none⟩, 17, false, []⟩,
  ⟨⟨(some (false, 98)), .ex (.l 80) 0, none⟩, 18, false, []⟩,
  ⟨⟨(some (false, 99)), .ex (.l 80) 1, none⟩, 19, false, []⟩,
  ⟨⟨(some (true, 21)), .mv (.l 98), none⟩, 20, false, []⟩,
  ⟨⟨(some (true, 22)), .mv (.l 99), none⟩, 21, false, []⟩])
(.seq
(.draw [
  ⟨⟨(some (false, 101)), .mv (.g 16), none⟩, 0, false, []⟩,
  ⟨⟨(some (false, 102)), .mv (.g 20), none⟩, 1, false, []⟩,
  ⟨⟨(some (false, 103)), .ia 11 (.l 101) (.l 102), none⟩, 2, false, []⟩,
  ⟨⟨(some (false, 104)), .ld (some 11) (.l 103), none⟩, 3, false, []⟩,
  ⟨⟨(some (false, 105)), .mv (.g 17), none⟩, 4, false, []⟩,
  ⟨⟨(some (false, 106)), .mv (.g 20), none⟩, 5, false, []⟩,
  ⟨⟨(some (false, 107)), .ia 1 (.l 105) (.l 106), none⟩, 6, false, []⟩,
  ⟨⟨(some (false, 108)), .ld none (.l 107), none⟩, 7, false, []⟩,
  ⟨⟨(some (false, 109)), .mv (.g 18), none⟩, 8, false, []⟩,
  ⟨⟨(some (false, 110)), .mv (.g 20), none⟩, 9, false, []⟩,
  ⟨⟨(some (false, 111)), .ia 1 (.l 109) (.l 110), none⟩, 10, false, []⟩,
  ⟨⟨(some (false, 112)), .ld none (.l 111), none⟩, 11, false, []⟩,
  ⟨⟨(some (false, 113)), .mv (.g 19), none⟩, 12, false, []⟩,
  ⟨⟨(some (false, 114)), .mv (.g 20), none⟩, 13, false, []⟩,
  ⟨⟨(some (false, 115)), .ia 2 (.l 113) (.l 114), none⟩, 14, false, []⟩,
  ⟨⟨(some (false, 116)), .ld (some 2) (.l 115), none⟩, 15, false, []⟩,
  ⟨⟨(some (false, 117)), .call (.c (.fn 43 [])) [.l 104, .l 108, .l 112, .l 116], none⟩, 16, false, []⟩,
  ⟨⟨(some (false, 100)), .mv (.l 117), none⟩, 17, false, []⟩,
  ⟨⟨(some (false, 118)), .ex (.l 100) 0, none⟩, 18, false, []⟩,
  ⟨⟨(some (false, 119)), .ex (.l 100) 1, none⟩, 19, false, []⟩,
  ⟨⟨(some (true, 23)), .mv (.l 118), none⟩, 20, false, []⟩,
  ⟨⟨(some (true, 24)), .mv (.l 119), none⟩, 21, false, []⟩])
(.seq
(.reg [
  ⟨(some (false, 120)), .mv (.g 22), none⟩,
  ⟨(some (false, 121)), .mv (.g 24), none⟩,
  ⟨(some (false, 122)), .bin .neq (.l 120) (.l 121), none⟩,
  ⟨(some (false, 123)), .mv (.l 122), none⟩,
  ⟨(some (false, 124)), .mv (.g 21), (some (.l 123, false))⟩,
  ⟨(some (false, 125)), .mv (.g 23), (some (.l 123, false))⟩,
  ⟨(some (false, 126)), .call (.c (.fn 27 [])) [.l 124, .l 125], (some (.l 123, false))⟩,
  ⟨(some (false, 127)), .un .not (.l 126), (some (.l 123, false))⟩,
  ⟨(some (true, 128)), .pick (.l 123) (.c (.lit (.bool true))) (.l 127), none⟩])
(.cond (.g 128)
(.seq
(.reg [
  ⟨(some (true, 10)), .mv (.c (.lit (.bool false))), none⟩])
.ret)
.skip)))))
(.reg [
  ⟨(some (false, 78)), .mv (.g 20), none⟩,
  ⟨(some (false, 79)), .bin .add (.l 78) (.c (.lit (.int .i64 1))), none⟩,
  ⟨(some (true, 20)), .mv (.l 79), none⟩]))))))
(.seq
(.reg [
  ⟨(some (false, 129)), .call (.c (.fn 19 [])) [], none⟩,
  ⟨(some (true, 10)), .mv (.l 129), none⟩])
.ret))))))))
def K8 : List Nat := [0, 1, 2, 3, 4, 41, 77, 128, 10, 5, 8, 11, 12, 13, 15, 14, 16, 17, 18, 19, 20, 21, 22, 23, 24]
noncomputable def b8 : Code := match Try.f8.body with | some c => c | none => .skip
theorem t8 : trCode ⟨Try.prog, K8, [], 130, none⟩ b8 = some c8 := by kernel_rfl
theorem go8 {args : List AV} {H : AHeap} {Kk : AV → AHeap → Prop} (hn : args.length = 5) (h : AGo ⟨Try.prog, K8, [], 130, none⟩ H.length [.code c8] (RetP [.t (.g 10)] H.length Kk) ⟨[], argsG 0 args⟩ H) : ACalls Try.prog 8 args H Kk :=
  ACalls_of Try.func8 (c := b8) rfl (by kernel_rfl) t8 (rs := [.t (.g 10)]) (by kernel_rfl) (by rw [hn]; exact Nat.le_of_ble_eq_true rfl) (by rw [hn]; rfl) (h.weaken (fun _ _ => RetP.hands) (by simp))

/-- sastrugi/sastrugilaw03.BearPlaces -/
def c9 : ACode :=
  (.seq
(.reg [
  ⟨(some (true, 2)), .mv (.c (.lit (.bool false))), none⟩])
(.seq
(.reg [
  ⟨(some (false, 15)), .mv (.g 0), none⟩,
  ⟨(some (false, 16)), .call (.c (.fn 20 [])) [.l 15], none⟩,
  ⟨(some (true, 3)), .mv (.l 16), none⟩])
(.seq
(.reg [
  ⟨(some (false, 17)), .mv (.g 3), none⟩,
  ⟨(some (false, 18)), .call (.c (.fn 21 [])) [.l 17], none⟩,
  ⟨(some (false, 19)), .mv (.g 3), none⟩,
  ⟨(some (false, 20)), .call (.c (.fn 22 [])) [.l 19, .c (.lit (.int .i64 2))], none⟩,
  ⟨(some (true, 4)), .new [.int .i64 0, .int .i64 0, .slice none 0 0, .slice none 0 0, .int .i64 0, .int .i64 0, .int .i64 0, .int .i64 0, .int .i64 0, .int .i64 0, .int .i64 0], none⟩,
  ⟨none, .st 11 (.g 4) (.l 18), none⟩,
  ⟨(some (true, 5)), .mv (.l 20), none⟩])
(.seq
(.reg [
  ⟨(some (false, 21)), .mv (.g 3), none⟩,
  ⟨(some (false, 22)), .mv (.g 5), none⟩,
  ⟨(some (false, 23)), .len (.l 22), none⟩,
  ⟨(some (false, 24)), .call (.c (.fn 23 [])) [.l 21, .l 23, .c (.lit (.int .i64 2))], none⟩,
  ⟨(some (false, 25)), .mv (.g 3), none⟩,
  ⟨(some (false, 26)), .mv (.g 3), none⟩,
  ⟨(some (false, 27)), .mks false 1 [.c (.lit (.int .i64 10000)), .c (.lit (.int .i64 40000))], none⟩,
  ⟨(some (false, 28)), .call (.c (.fn 41 [])) [.l 26, .l 27], none⟩,
  ⟨(some (false, 29)), .call (.c (.fn 38 [])) [.l 25, .c (.lit (.int .i64 0)), .l 28], none⟩,
  ⟨(some (true, 7)), .new [.int .i64 0, .int .i64 0], none⟩,
  ⟨(some (true, 6)), .mv (.l 24), none⟩,
  ⟨none, .st 2 (.g 7) (.l 29), none⟩])
(.seq
(.reg [
  ⟨(some (false, 31)), .ld (some 11) (.g 4), none⟩,
  ⟨(some (false, 32)), .mv (.g 5), none⟩,
  ⟨(some (false, 33)), .mv (.g 6), none⟩,
  ⟨(some (false, 34)), .ld (some 2) (.g 7), none⟩,
  ⟨(some (false, 35)), .call (.c (.fn 42 [])) [.l 31, .l 32, .l 33, .l 34], none⟩,
  ⟨(some (false, 30)), .mv (.l 35), none⟩,
  ⟨(some (false, 36)), .ex (.l 30) 0, none⟩,
  ⟨(some (false, 37)), .ex (.l 30) 1, none⟩,
  ⟨(some (true, 8)), .mv (.l 36), none⟩,
  ⟨(some (true, 9)), .mv (.l 37), none⟩])
(.seq
(.seq
(.reg [
  ⟨(some (false, 38)), .mv (.g 9), none⟩,
  ⟨(some (false, 39)), .bin .neq (.l 38) (.c (.lit (.int .i64 0))), none⟩,
  ⟨(some (false, 40)), .mv (.l 39), none⟩,
  ⟨(some (false, 41)), .mv (.g 8), (some (.l 40, false))⟩,
  ⟨(some (false, 42)), .len (.l 41), (some (.l 40, false))⟩,
  ⟨(some (false, 43)), .mv (.g 5), (some (.l 40, false))⟩,
  ⟨(some (false, 44)), .len (.l 43), (some (.l 40, false))⟩,
  ⟨(some (false, 45)), .bin .neq (.l 42) (.l 44), (some (.l 40, false))⟩,
  ⟨(some (true, 46)), .pick (.l 40) (.c (.lit (.bool true))) (.l 45), none⟩])
(.cond (.g 46)
(.seq
(.reg [
  ⟨(some (true, 2)), .mv (.c (.lit (.bool false))), none⟩])
.ret)
.skip))
(.seq
(.seq
(.reg [
  ⟨(some (true, 10)), .mv (.c (.lit (.int .i64 0))), none⟩])
(.block 0
(.loop
(.seq
(.seq
(.reg [
  ⟨(some (false, 47)), .mv (.g 10), none⟩,
  ⟨(some (false, 48)), .mv (.g 5), none⟩,
  ⟨(some (false, 49)), .len (.l 48), none⟩,
  ⟨(some (true, 50)), .bin .lss (.l 47) (.l 49), none⟩])
(.cond (.g 50)
.skip
(.exit 0)))
(.seq
(.block 1
(.seq
(.reg [
  ⟨(some (false, 53)), .mksl 1 8 [.int .i64 0] (.c (.lit (.int .i64 4))) (.c (.lit (.int .i64 4))), none⟩,
  ⟨(some (true, 11)), .mv (.l 53), none⟩])
(.seq
(.seq
(.reg [
  ⟨(some (false, 54)), .mv (.g 10), none⟩,
  ⟨(some (false, 55)), .bin .mul (.c (.lit (.int .i64 100))) (.l 54), none⟩,
  ⟨(some (true, 12)), .mv (.l 55), none⟩])
(.block 2
(.loop
(.seq
(.seq
(.reg [
  ⟨(some (false, 56)), .mv (.g 12), none⟩,
  ⟨(some (false, 57)), .mv (.g 10), none⟩,
  ⟨(some (false, 58)), .bin .mul (.c (.lit (.int .i64 100))) (.l 57), none⟩,
  ⟨(some (false, 59)), .bin .add (.l 58) (.c (.lit (.int .i64 100))), none⟩,
  ⟨(some (true, 60)), .bin .lss (.l 56) (.l 59), none⟩])
(.cond (.g 60)
.skip
(.exit 2)))
(.seq
(.block 3
(.seq
(.draw [
  ⟨⟨(some (false, 64)), .ld (some 11) (.g 4), none⟩, 0, false, []⟩,
  ⟨⟨(some (false, 65)), .mv (.g 5), none⟩, 1, false, []⟩,
  ⟨⟨(some (false, 66)), .mv (.g 6), none⟩, 2, false, []⟩,
  ⟨⟨(some (false, 67)), .ld (some 2) (.g 7), none⟩, 3, false, []⟩,
  ⟨⟨(some (false, 68)), .mv (.g 12), none⟩, 4, false, []⟩,
  ⟨⟨(some (false, 69)), .mks false 1 [.l 68], none⟩, 5, false, []⟩,
  ⟨⟨(some (false, 70)), .call (.c (.fn 44 [])) [.l 67, .l 69], none⟩, 6, false, []⟩,
  ⟨⟨(some (false, 71)), .call (.c (.fn 25 [])) [.l 64, .l 65, .l 66, .l 70], none⟩, 7, false, []⟩,
  ⟨⟨(some (false, 63)), .mv (.l 71), none⟩, 8, false, []⟩,
  ⟨⟨(some (false, 72)), .ex (.l 63) 0, none⟩, 9, false, []⟩,
  ⟨⟨(some (false, 73)), .ex (.l 63) 1, none⟩, 10, false, []⟩,
  ⟨⟨(some (true, 13)), .mv (.l 72), none⟩, 11, false, []⟩,
  ⟨⟨(some (true, 14)), .mv (.l 73), none⟩, 12, false, []⟩])
(.seq
(.seq
(.reg [
  ⟨(some (false, 74)), .mv (.g 14), none⟩,
  ⟨(some (false, 75)), .bin .neq (.l 74) (.c (.lit (.int .i64 0))), none⟩,
  ⟨(some (false, 76)), .mv (.l 75), none⟩,
  ⟨(some (false, 77)), .mv (.g 13), (some (.l 76, false))⟩,
  ⟨(some (false, 78)), .len (.l 77), (some (.l 76, false))⟩,
  ⟨(some (false, 79)), .bin .neq (.l 78) (.c (.lit (.int .i64 1))), (some (.l 76, false))⟩,
  ⟨(some (false, 80)), .pick (.l 76) (.c (.lit (.bool true))) (.l 79), none⟩,
  ⟨(some (false, 81)), .mv (.l 80), none⟩,
  ⟨(some (false, 82)), .mv (.g 13), (some (.l 81, false))⟩,
  ⟨(some (false, 83)), .ia 1 (.l 82) (.c (.lit (.int .i64 0))), (some (.l 81, false))⟩,
  ⟨(some (false, 84)), .ld none (.l 83), (some (.l 81, false))⟩,
  ⟨(some (false, 85)), .bin .lss (.l 84) (.c (.lit (.int .i64 1))), (some (.l 81, false))⟩,
  ⟨(some (false, 86)), .pick (.l 81) (.c (.lit (.bool true))) (.l 85), none⟩,
  ⟨(some (false, 87)), .mv (.l 86), none⟩,
  ⟨(some (false, 88)), .mv (.g 13), (some (.l 87, false))⟩,
  ⟨(some (false, 89)), .ia 1 (.l 88) (.c (.lit (.int .i64 0))), (some (.l 87, false))⟩,
  ⟨(some (false, 90)), .ld none (.l 89), (some (.l 87, false))⟩,
  ⟨(some (false, 91)), .bin .gtr (.l 90) (.c (.lit (.int .i64 3))), (some (.l 87, false))⟩,
  ⟨(some (true, 92)), .pick (.l 87) (.c (.lit (.bool true))) (.l 91), none⟩])
(.cond (.g 92)
(.seq
(.reg [
  ⟨(some (true, 2)), .mv (.c (.lit (.bool false))), none⟩])
.ret)
.skip))
(.reg [
  ⟨(some (false, 93)), .mv (.g 11), none⟩,
  ⟨(some (false, 94)), .mv (.g 13), none⟩,
  ⟨(some (false, 95)), .ia 1 (.l 94) (.c (.lit (.int .i64 0))), none⟩,
  ⟨(some (false, 96)), .ld none (.l 95), none⟩,
  ⟨(some (false, 97)), .ia 1 (.l 93) (.l 96), none⟩,
  ⟨(some (false, 98)), .ld none (.l 97), none⟩,
  ⟨(some (false, 99)), .bin .add (.l 98) (.c (.lit (.int .i64 1))), none⟩,
  ⟨(some (false, 100)), .ia 1 (.l 93) (.l 96), none⟩,
  ⟨none, .st 1 (.l 100) (.l 99), none⟩]))))
(.reg [
  ⟨(some (false, 61)), .mv (.g 12), none⟩,
  ⟨(some (false, 62)), .bin .add (.l 61) (.c (.lit (.int .i64 1))), none⟩,
  ⟨(some (true, 12)), .mv (.l 62), none⟩]))))))
(.seq
(.draw [
  ⟨⟨(some (false, 101)), .mv (.g 8), none⟩, 0, false, []⟩,
  ⟨⟨(some (false, 102)), .mv (.g 10), none⟩, 1, false, []⟩,
  ⟨⟨(some (false, 103)), .ia 1 (.l 101) (.l 102), none⟩, 2, false, []⟩,
  ⟨⟨(some (false, 104)), .ld none (.l 103), none⟩, 3, false, []⟩,
  ⟨⟨(some (false, 105)), .bin .eql (.l 104) (.c (.lit (.int .i64 1))), none⟩, 4, false, []⟩,
  ⟨⟨(some (false, 106)), .mv (.g 11), none⟩, 5, false, []⟩,
  ⟨⟨(some (false, 107)), .ia 1 (.l 106) (.c (.lit (.int .i64 1))), none⟩, 6, false, []⟩,
  ⟨⟨(some (false, 108)), .ld none (.l 107), none⟩, 7, false, []⟩,
  ⟨⟨(some (false, 109)), .bin .eql (.l 108) (.c (.lit (.int .i64 100))), none⟩, 8, false, []⟩,
  ⟨⟨(some (false, 110)), .binb true (.l 105) (.l 109), none⟩, 9, false, []⟩,
  ⟨⟨(some (false, 111)), .mv (.l 110), none⟩, 10, false, []⟩,
  ⟨⟨(some (false, 112)), .mv (.g 8), (some (.l 111, false))⟩, 11, false, []⟩,
  ⟨⟨(some (false, 113)), .mv (.g 10), (some (.l 111, false))⟩, 12, false, []⟩,
  ⟨⟨(some (false, 114)), .ia 1 (.l 112) (.l 113), (some (.l 111, false))⟩, 13, false, []⟩,
  ⟨⟨(some (false, 115)), .ld none (.l 114), (some (.l 111, false))⟩, 14, false, []⟩,
  ⟨⟨(some (false, 116)), .bin .eql (.l 115) (.c (.lit (.int .i64 2))), (some (.l 111, false))⟩, 15, false, []⟩,
  ⟨⟨(some (false, 117)), .mv (.g 11), (some (.l 111, false))⟩, 16, false, []⟩,
  ⟨⟨(some (false, 118)), .ia 1 (.l 117) (.c (.lit (.int .i64 2))), (some (.l 111, false))⟩, 17, false, []⟩,
  ⟨⟨(some (false, 119)), .ld none (.l 118), (some (.l 111, false))⟩, 18, false, []⟩,
  ⟨⟨(some (false, 120)), .bin .eql (.l 119) (.c (.lit (.int .i64 100))), (some (.l 111, false))⟩, 19, false, []⟩,
  ⟨⟨(some (false, 121)), .binb true (.l 116) (.l 120), (some (.l 111, false))⟩, 20, false, []⟩,
  ⟨⟨(some (false, 122)), .pick (.l 111) (.c (.lit (.bool true))) (.l 121), none⟩, 21, false, []⟩,
  ⟨⟨(some (false, 123)), .mv (.l 122), none⟩, 22, false, []⟩,
  ⟨⟨(some (false, 124)), .mv (.g 8), (some (.l 123, false))⟩, 23, false, []⟩,
  ⟨⟨(some (false, 125)), .mv (.g 10), (some (.l 123, false))⟩, 24, false, []⟩,
  ⟨⟨(some (false, 126)), .ia 1 (.l 124) (.l 125), (some (.l 123, false))⟩, 25, false, []⟩,
  ⟨⟨(some (false, 127)), .ld none (.l 126), (some (.l 123, false))⟩, 26, false, []⟩,
  ⟨⟨(some (false, 128)), .bin .lss (.l 127) (.c (.lit (.int .i64 1))), (some (.l 123, false))⟩, 27, false, []⟩,
  ⟨⟨(some (false, 129)), .pick (.l 123) (.c (.lit (.bool true))) (.l 128), none⟩, 28, false, []⟩,
  ⟨⟨(some (false, 130)), .mv (.l 129), none⟩, 29, false, []⟩,
  ⟨⟨(some (false, 131)), .mv (.g 8), (some (.l 130, false))⟩, 30, false, []⟩,
  ⟨⟨(some (false, 132)), .mv (.g 10), (some (.l 130, false))⟩, 31, false, []⟩,
  ⟨⟨(some (false, 133)), .ia 1 (.l 131) (.l 132), (some (.l 130, false))⟩, 32, false, []⟩,
  ⟨⟨(some (false, 134)), .ld none (.l 133), (some (.l 130, false))⟩, 33, false, []⟩,
  ⟨⟨(some (false, 135)), .bin .gtr (.l 134) (.c (.lit (.int .i64 3))), (some (.l 130, false))⟩, 34, false, []⟩,
  ⟨⟨(some (true, 136)), .pick (.l 130) (.c (.lit (.bool true))) (.l 135), none⟩, 35, false, []⟩])
(.cond (.g 136)
(.seq
(.reg [
  ⟨(some (true, 2)), .mv (.c (.lit (.bool false))), none⟩])
.ret)
.skip)))))
(.reg [
  ⟨(some (false, 51)), .mv (.g 10), none⟩,
  ⟨(some (false, 52)), .bin .add (.l 51) (.c (.lit (.int .i64 1))), none⟩,
  ⟨(some (true, 10)), .mv (.l 52), none⟩]))))))
(.seq
(.reg [
  ⟨(some (false, 137)), .call (.c (.fn 19 [])) [], none⟩,
  ⟨(some (true, 2)), .mv (.l 137), none⟩])
.ret))))))))
def K9 : List Nat := [0, 46, 50, 60, 92, 136, 2, 3, 4, 5, 7, 6, 8, 9, 10, 11, 12, 13, 14]
noncomputable def b9 : Code := match Try.f9.body with | some c => c | none => .skip
theorem t9 : trCode ⟨Try.prog, K9, [], 138, none⟩ b9 = some c9 := by kernel_rfl
theorem go9 {args : List AV} {H : AHeap} {Kk : AV → AHeap → Prop} (hn : args.length = 1) (h : AGo ⟨Try.prog, K9, [], 138, none⟩ H.length [.code c9] (RetP [.t (.g 2)] H.length Kk) ⟨[], argsG 0 args⟩ H) : ACalls Try.prog 9 args H Kk :=
  ACalls_of Try.func9 (c := b9) rfl (by kernel_rfl) t9 (rs := [.t (.g 2)]) (by kernel_rfl) (by rw [hn]; exact Nat.le_of_ble_eq_true rfl) (by rw [hn]; rfl) (h.weaken (fun _ _ => RetP.hands) (by simp))

/-- sastrugi/sastrugilaw03.BearSpeeds -/
def c10 : ACode :=
  (.seq
(.reg [
  ⟨(some (true, 5)), .box (.g 0), none⟩,
  ⟨(some (true, 6)), .box (.g 1), none⟩,
  ⟨(some (true, 10)), .mv (.c (.lit (.bool false))), none⟩])
(.seq
(.seq
(.reg [
  ⟨(some (false, 29)), .ld (some 11) (.g 5), none⟩,
  ⟨(some (false, 30)), .call (.c (.fn 18 [])) [.l 29], none⟩,
  ⟨(some (false, 31)), .mv (.l 30), none⟩,
  ⟨(some (false, 32)), .fa (.g 6) 0, (some (.l 31, false))⟩,
  ⟨(some (false, 33)), .ld none (.l 32), (some (.l 31, false))⟩,
  ⟨(some (false, 34)), .bin .geq (.l 33) (.c (.lit (.int .i64 0))), (some (.l 31, false))⟩,
  ⟨(some (false, 35)), .mv (.l 34), (some (.l 31, false))⟩,
  ⟨(some (false, 36)), .fa (.g 6) 0, (some (.l 35, true))⟩,
  ⟨(some (false, 37)), .ld none (.l 36), (some (.l 35, true))⟩,
  ⟨(some (false, 38)), .fa (.g 6) 1, (some (.l 35, true))⟩,
  ⟨(some (false, 39)), .ld none (.l 38), (some (.l 35, true))⟩,
  ⟨(some (false, 40)), .bin .leq (.l 37) (.l 39), (some (.l 35, true))⟩,
  ⟨(some (false, 41)), .pick (.l 35) (.l 40) (.c (.lit (.bool false))), (some (.l 31, false))⟩,
  ⟨(some (false, 42)), .mv (.l 41), (some (.l 31, false))⟩,
  ⟨(some (false, 43)), .fa (.g 6) 1, (some (.l 42, true))⟩,
  ⟨(some (false, 44)), .ld none (.l 43), (some (.l 42, true))⟩,
  ⟨(some (false, 45)), .bin .leq (.l 44) (.c (.lit (.int .i64 10000))), (some (.l 42, true))⟩,
  ⟨(some (false, 46)), .pick (.l 42) (.l 45) (.c (.lit (.bool false))), (some (.l 31, false))⟩,
  ⟨(some (false, 47)), .mv (.l 46), (some (.l 31, false))⟩,
  ⟨(some (false, 48)), .fa (.g 6) 1, (some (.l 47, true))⟩,
  ⟨(some (false, 49)), .ld none (.l 48), (some (.l 47, true))⟩,
  ⟨(some (false, 50)), .fa (.g 6) 0, (some (.l 47, true))⟩,
  ⟨(some (false, 51)), .ld none (.l 50), (some (.l 47, true))⟩,
  ⟨(some (false, 52)), .bin .sub (.l 49) (.l 51), (some (.l 47, true))⟩,
  ⟨(some (false, 53)), .bin .gtr (.l 52) (.c (.lit (.int .i64 300))), (some (.l 47, true))⟩,
  ⟨(some (false, 54)), .pick (.l 47) (.l 53) (.c (.lit (.bool false))), (some (.l 31, false))⟩,
  ⟨(some (true, 55)), .pick (.l 31) (.c (.lit (.bool true))) (.l 54), none⟩])
(.cond (.g 55)
(.seq
(.reg [
  ⟨(some (false, 56)), .call (.c (.fn 19 [])) [], none⟩,
  ⟨(some (true, 10)), .mv (.l 56), none⟩])
.ret)
.skip))
(.seq
(.reg [
  ⟨(some (false, 57)), .mv (.g 4), none⟩,
  ⟨(some (false, 58)), .call (.c (.fn 20 [])) [.l 57], none⟩,
  ⟨(some (true, 11)), .mv (.l 58), none⟩])
(.seq
(.reg [
  ⟨(some (false, 59)), .mv (.g 11), none⟩,
  ⟨(some (false, 60)), .call (.c (.fn 21 [])) [.l 59], none⟩,
  ⟨(some (true, 12)), .new [.int .i64 0, .int .i64 0, .slice none 0 0, .slice none 0 0, .int .i64 0, .int .i64 0, .int .i64 0, .int .i64 0, .int .i64 0, .int .i64 0, .int .i64 0], none⟩,
  ⟨none, .st 11 (.g 12) (.l 60), none⟩])
(.seq
(.reg [
  ⟨(some (false, 61)), .mv (.g 11), none⟩,
  ⟨(some (false, 62)), .mv (.g 11), none⟩,
  ⟨(some (false, 63)), .call (.c (.fn 37 [])) [.l 62, .c (.lit (.int .i64 300))], none⟩,
  ⟨(some (false, 64)), .mv (.g 11), none⟩,
  ⟨(some (false, 65)), .call (.c (.fn 37 [])) [.l 64, .c (.lit (.int .i64 9000))], none⟩,
  ⟨(some (false, 66)), .mks false 1 [.c (.lit (.int .i64 0)), .l 63, .l 65], none⟩,
  ⟨(some (false, 67)), .call (.c (.fn 41 [])) [.l 61, .l 66], none⟩,
  ⟨(some (true, 13)), .mv (.l 67), none⟩])
(.seq
(.draw [
  ⟨⟨(some (false, 68)), .mv (.g 13), none⟩, 0, false, []⟩,
  ⟨⟨(some (false, 69)), .mv (.g 13), none⟩, 1, false, []⟩,
  ⟨⟨(some (false, 70)), .mv (.g 11), none⟩, 2, false, []⟩,
  ⟨⟨(some (false, 74)), .mv (.g 11), none⟩, 6, false, []⟩,
  ⟨⟨(some (false, 75)), .fa (.g 12) 9, none⟩, 7, false, []⟩,
  ⟨⟨(some (false, 76)), .ld none (.l 75), none⟩, 8, false, []⟩,
  ⟨⟨(some (false, 77)), .fa (.g 12) 9, none⟩, 9, false, []⟩,
  ⟨⟨(some (false, 78)), .ld none (.l 77), none⟩, 10, false, []⟩,
  ⟨⟨(some (false, 79)), .bin .sub (.l 78) (.c (.lit (.int .i64 1))), none⟩, 11, false, []⟩,
  ⟨⟨(some (false, 80)), .mx [.c (.lit (.int .i64 0)), .l 79], none⟩, 12, false, []⟩,
  ⟨⟨(some (false, 81)), .mv (.g 11), none⟩, 13, false, []⟩,
  ⟨⟨(some (true, 14)), .new [.int .i64 0, .int .i64 0], none⟩, 17, false, []⟩,
  ⟨⟨(some (false, 71)), .call (.c (.fn 37 [])) [.l 70, .c (.lit (.int .i64 60))], none⟩, 3, false, []⟩,
  ⟨⟨(some (false, 72)), .bin .add (.l 69) (.l 71), none⟩, 4, false, []⟩,
  ⟨⟨(some (false, 73)), .mk [.int .i64 0, .int .i64 0] [(0, 1, .l 68), (1, 1, .l 72)], none⟩, 5, false, []⟩,
  ⟨⟨(some (false, 82)), .call (.c (.fn 37 [])) [.l 81, .c (.lit (.int .i64 1000))], none⟩, 14, false, []⟩,
  ⟨⟨(some (false, 83)), .mks false 1 [.c (.lit (.int .i64 0)), .l 76, .l 80, .l 82], none⟩, 15, false, []⟩,
  ⟨⟨(some (false, 84)), .call (.c (.fn 41 [])) [.l 74, .l 83], none⟩, 16, false, []⟩,
  ⟨⟨none, .st 2 (.g 14) (.l 73), none⟩, 18, false, [17]⟩,
  ⟨⟨(some (true, 15)), .mv (.l 84), none⟩, 19, false, [17]⟩])
(.seq
(.draw [
  ⟨⟨(some (false, 85)), .ld (some 11) (.g 5), none⟩, 0, false, []⟩,
  ⟨⟨(some (false, 86)), .ld (some 11) (.g 12), none⟩, 1, false, []⟩,
  ⟨⟨(some (false, 87)), .ld (some 11) (.g 12), none⟩, 2, false, []⟩,
  ⟨⟨(some (false, 88)), .mks false 11 [.l 85, .l 86, .l 87], none⟩, 3, false, []⟩,
  ⟨⟨(some (false, 89)), .ld (some 2) (.g 6), none⟩, 4, false, []⟩,
  ⟨⟨(some (false, 90)), .ld (some 2) (.g 14), none⟩, 5, false, []⟩,
  ⟨⟨(some (false, 91)), .ld (some 2) (.g 6), none⟩, 6, false, []⟩,
  ⟨⟨(some (false, 92)), .mks false 2 [.l 89, .l 90, .l 91], none⟩, 7, false, []⟩,
  ⟨⟨(some (false, 93)), .mv (.g 2), none⟩, 8, false, []⟩,
  ⟨⟨(some (false, 94)), .mv (.g 15), none⟩, 9, false, []⟩,
  ⟨⟨(some (false, 95)), .mv (.g 2), none⟩, 10, false, []⟩,
  ⟨⟨(some (false, 96)), .mks false 1 [.l 93, .l 94, .l 95], none⟩, 11, false, []⟩,
  ⟨⟨(some (false, 97)), .mv (.g 3), none⟩, 12, false, []⟩,
  ⟨⟨(some (false, 98)), .mv (.g 11), none⟩, 13, false, []⟩,
  ⟨⟨(some (false, 100)), .mv (.g 3), none⟩, 15, false, []⟩,
  ⟨⟨(some (false, 99)), .call (.c (.fn 45 [])) [.l 98, .c (.lit (.int .i64 0)), .c (.lit (.int .i64 1000))], none⟩, 14, false, []⟩,
  ⟨⟨(some (false, 101)), .mks false 1 [.l 97, .l 99, .l 100], none⟩, 16, false, []⟩,
  ⟨⟨(some (true, 16)), .mv (.l 88), none⟩, 17, false, []⟩,
  ⟨⟨(some (true, 17)), .mv (.l 92), none⟩, 18, false, []⟩,
  ⟨⟨(some (true, 18)), .mv (.l 96), none⟩, 19, false, []⟩,
  ⟨⟨(some (true, 19)), .mv (.l 101), none⟩, 20, false, []⟩])
(.seq
(.seq
(.reg [
  ⟨(some (true, 20)), .mv (.c (.lit (.int .i64 0))), none⟩])
(.block 0
(.loop
(.seq
(.seq
(.reg [
  ⟨(some (false, 102)), .mv (.g 20), none⟩,
  ⟨(some (false, 103)), .mv (.g 16), none⟩,
  ⟨(some (false, 104)), .len (.l 103), none⟩,
  ⟨(some (true, 105)), .bin .lss (.l 102) (.l 104), none⟩])
(.cond (.g 105)
.skip
(.exit 0)))
(.seq
(.block 1
(.seq
(.draw [
  ⟨⟨(some (false, 109)), .mv (.g 16), none⟩, 0, false, []⟩,
  ⟨⟨(some (false, 110)), .mv (.g 20), none⟩, 1, false, []⟩,
  ⟨⟨(some (false, 111)), .ia 11 (.l 109) (.l 110), none⟩, 2, false, []⟩,
  ⟨⟨(some (false, 112)), .ld (some 11) (.l 111), none⟩, 3, false, []⟩,
  ⟨⟨(some (false, 113)), .mv (.g 17), none⟩, 4, false, []⟩,
  ⟨⟨(some (false, 114)), .mv (.g 20), none⟩, 5, false, []⟩,
  ⟨⟨(some (false, 115)), .ia 2 (.l 113) (.l 114), none⟩, 6, false, []⟩,
  ⟨⟨(some (false, 116)), .ld (some 2) (.l 115), none⟩, 7, false, []⟩,
  ⟨⟨(some (false, 117)), .mv (.g 18), none⟩, 8, false, []⟩,
  ⟨⟨(some (false, 118)), .mv (.g 20), none⟩, 9, false, []⟩,
  ⟨⟨(some (false, 119)), .ia 1 (.l 117) (.l 118), none⟩, 10, false, []⟩,
  ⟨⟨(some (false, 120)), .ld none (.l 119), none⟩, 11, false, []⟩,
  ⟨⟨(some (false, 121)), .mv (.g 19), none⟩, 12, false, []⟩,
  ⟨⟨(some (false, 122)), .mv (.g 20), none⟩, 13, false, []⟩,
  ⟨⟨(some (false, 123)), .ia 1 (.l 121) (.l 122), none⟩, 14, false, []⟩,
  ⟨⟨(some (false, 124)), .ld none (.l 123), none⟩, 15, false, []⟩,
  ⟨⟨(some (false, 125)), .call (.c (.fn 46 [])) [.l 112, .l 116, .l 120, .l 124], none⟩, 16, false, []⟩,
  ⟨⟨(some (false, 108)), .mv (.l 125), none⟩, 17, false, []⟩,
  ⟨⟨(some (false, 126)), .ex (.l 108) 0, none⟩, 18, false, []⟩,
  ⟨⟨(some (false, 127)), .ex (.l 108) 1, none⟩, 19, false, []⟩,
  ⟨⟨(some (true, 21)), .mv (.l 126), none⟩, 20, false, []⟩,
  ⟨⟨(some (true, 22)), .mv (.l 127), none⟩, 21, false, []⟩])
(.seq
(.draw [
  ⟨⟨(some (false, 129)), .mv (.g 16), none⟩, 0, false, []⟩,
  ⟨⟨(some (false, 130)), .mv (.g 20), none⟩, 1, false, []⟩,
  ⟨⟨(some (false, 131)), .ia 11 (.l 129) (.l 130), none⟩, 2, false, []⟩,
  ⟨⟨(some (false, 132)), .ld (some 11) (.l 131), none⟩, 3, false, []⟩,
  ⟨⟨(some (false, 133)), .mv (.g 17), none⟩, 4, false, []⟩,
  ⟨⟨(some (false, 134)), .mv (.g 20), none⟩, 5, false, []⟩,
  ⟨⟨(some (false, 135)), .ia 2 (.l 133) (.l 134), none⟩, 6, false, []⟩,
  ⟨⟨(some (false, 136)), .ld (some 2) (.l 135), none⟩, 7, false, []⟩,
  ⟨⟨(some (false, 137)), .mv (.g 18), none⟩, 8, false, []⟩,
  ⟨⟨(some (false, 138)), .mv (.g 20), none⟩, 9, false, []⟩,
  ⟨⟨(some (false, 139)), .ia 1 (.l 137) (.l 138), none⟩, 10, false, []⟩,
  ⟨⟨(some (false, 140)), .ld none (.l 139), none⟩, 11, false, []⟩,
  ⟨⟨(some (false, 141)), .mv (.g 19), none⟩, 12, false, []⟩,
  ⟨⟨(some (false, 142)), .mv (.g 20), none⟩, 13, false, []⟩,
  ⟨⟨(some (false, 143)), .ia 1 (.l 141) (.l 142), none⟩, 14, false, []⟩,
  ⟨⟨(some (false, 144)), .ld none (.l 143), none⟩, 15, false, []⟩,
  ⟨⟨(some (false, 145)), .call (.c (.fn 47 [])) [.l 132, .l 136, .l 140, .l 144], none⟩, 16, false, []⟩,
  ⟨⟨(some (false, 128)), .mv (.l 145), none⟩, 17, false, []⟩,
  ⟨⟨(some (false, 146)), .ex (.l 128) 0, none⟩, 18, false, []⟩,
  ⟨⟨(some (false, 147)), .ex (.l 128) 1, none⟩, 19, false, []⟩,
  ⟨⟨(some (true, 23)), .mv (.l 146), none⟩, 20, false, []⟩,
  ⟨⟨(some (true, 24)), .mv (.l 147), none⟩, 21, false, []⟩])
(.seq
(.draw [
  ⟨⟨(some (false, 149)), .mv (.g 16), none⟩, 0, false, []⟩,
  ⟨⟨(some (false, 150)), .mv (.g 20), none⟩, 1, false, []⟩,
  ⟨⟨(some (false, 151)), .ia 11 (.l 149) (.l 150), none⟩, 2, false, []⟩,
  ⟨⟨(some (false, 152)), .ld (some 11) (.l 151), none⟩, 3, false, []⟩,
  ⟨⟨(some (false, 153)), .mv (.g 17), none⟩, 4, false, []⟩,
  ⟨⟨(some (false, 154)), .mv (.g 20), none⟩, 5, false, []⟩,
  ⟨⟨(some (false, 155)), .ia 2 (.l 153) (.l 154), none⟩, 6, false, []⟩,
  ⟨⟨(some (false, 156)), .ld (some 2) (.l 155), none⟩, 7, false, []⟩,
  ⟨⟨(some (false, 157)), .mv (.g 18), none⟩, 8, false, []⟩,
  ⟨⟨(some (false, 158)), .mv (.g 20), none⟩, 9, false, []⟩,
  ⟨⟨(some (false, 159)), .ia 1 (.l 157) (.l 158), none⟩, 10, false, []⟩,
  ⟨⟨(some (false, 160)), .ld none (.l 159), none⟩, 11, false, []⟩,
  ⟨⟨(some (false, 161)), .call (.c (.fn 48 [])) [.l 152, .l 156, .l 160], none⟩, 12, false, []⟩,
  ⟨⟨(some (false, 148)), .mv (.l 161), none⟩, 13, false, []⟩,
  ⟨⟨(some (false, 162)), .ex (.l 148) 0, none⟩, 14, false, []⟩,
  ⟨⟨(some (false, 163)), .ex (.l 148) 1, none⟩, 15, false, []⟩,
  ⟨⟨(some (true, 25)), .mv (.l 162), none⟩, 16, false, []⟩,
  ⟨⟨(some (true, 26)), .mv (.l 163), none⟩, 17, false, []⟩])
(.seq
(.draw [
  ⟨⟨(some (false, 165)), .mv (.g 16), none⟩, 0, false, []⟩,
  ⟨⟨(some (false, 166)), .mv (.g 20), none⟩, 1, false, []⟩,
  ⟨⟨(some (false, 167)), .ia 11 (.l 165) (.l 166), none⟩, 2, false, []⟩,
  ⟨⟨(some (false, 168)), .ld (some 11) (.l 167), none⟩, 3, false, []⟩,
  ⟨⟨(some (false, 169)), .mv (.g 17), none⟩, 4, false, []⟩,
  ⟨⟨(some (false, 170)), .mv (.g 20), none⟩, 5, false, []⟩,
  ⟨⟨(some (false, 171)), .ia 2 (.l 169) (.l 170), none⟩, 6, false, []⟩,
  ⟨⟨(some (false, 172)), .ld (some 2) (.l 171), none⟩, 7, false, []⟩,
  ⟨⟨(some (false, 173)), .mv (.g 18), none⟩, 8, false, []⟩,
  ⟨⟨(some (false, 174)), .mv (.g 20), none⟩, 9, false, []⟩,
  ⟨⟨(some (false, 175)), .ia 1 (.l 173) (.l 174), none⟩, 10, false, []⟩,
  ⟨⟨(some (false, 176)), .ld none (.l 175), none⟩, 11, false, []⟩,
  ⟨⟨(some (false, 177)), .call (.c (.fn 49 [])) [.l 168, .l 172, .l 176], none⟩, 12, false, []⟩,
  ⟨⟨(some (false, 164)), .mv (.l 177), none⟩, 13, false, []⟩,
  ⟨⟨(some (false, 178)), .ex (.l 164) 0, none⟩, 14, false, []⟩,
  ⟨⟨(some (false, 179)), .ex (.l 164) 1, none⟩, 15, false, []⟩,
  ⟨⟨(some (true, 27)), .mv (.l 178), none⟩, 16, false, []⟩,
  ⟨⟨(some (true, 28)), .mv (.l 179), none⟩, 17, false, []⟩])
(.seq
(.reg [
  ⟨(some (false, 180)), .mv (.g 21), none⟩,
  ⟨(some (false, 181)), .mv (.g 23), none⟩,
  ⟨(some (false, 182)), .bin .neq (.l 180) (.l 181), none⟩,
  ⟨(some (false, 183)), .mv (.l 182), none⟩,
  ⟨(some (false, 184)), .mv (.g 22), (some (.l 183, false))⟩,
  ⟨(some (false, 185)), .mv (.g 24), (some (.l 183, false))⟩,
  ⟨(some (false, 186)), .bin .neq (.l 184) (.l 185), (some (.l 183, false))⟩,
  ⟨(some (false, 187)), .pick (.l 183) (.c (.lit (.bool true))) (.l 186), none⟩,
  ⟨(some (false, 188)), .mv (.l 187), none⟩,
  ⟨(some (false, 189)), .mv (.g 26), (some (.l 188, false))⟩,
  ⟨(some (false, 190)), .mv (.g 28), (some (.l 188, false))⟩,
  ⟨(some (false, 191)), .bin .neq (.l 189) (.l 190), (some (.l 188, false))⟩,
  ⟨(some (false, 192)), .pick (.l 188) (.c (.lit (.bool true))) (.l 191), none⟩,
  ⟨(some (false, 193)), .mv (.l 192), none⟩,
  ⟨(some (false, 194)), .mv (.g 25), (some (.l 193, false))⟩,
  ⟨(some (false, 195)), .mv (.g 27), (some (.l 193, false))⟩,
  ⟨(some (false, 196)), .call (.c (.fn 50 [])) [.l 194, .l 195], (some (.l 193, false))⟩,
  ⟨(some (false, 197)), .un .not (.l 196), (some (.l 193, false))⟩,
  ⟨(some (true, 198)), .pick (.l 193) (.c (.lit (.bool true))) (.l 197), none⟩])
(.cond (.g 198)
(.seq
(.reg [
  ⟨(some (true, 10)), .mv (.c (.lit (.bool false))), none⟩])
.ret)
.skip)))))))
(.reg [
  ⟨(some (false, 106)), .mv (.g 20), none⟩,
  ⟨(some (false, 107)), .bin .add (.l 106) (.c (.lit (.int .i64 1))), none⟩,
  ⟨(some (true, 20)), .mv (.l 107), none⟩]))))))
(.seq
(.reg [
  ⟨(some (false, 199)), .call (.c (.fn 19 [])) [], none⟩,
  ⟨(some (true, 10)), .mv (.l 199), none⟩])
.ret)))))))))
def K10 : List Nat := [0, 1, 2, 3, 4, 55, 105, 198, 10, 5, 6, 11, 12, 13, 14, 15, 16, 17, 18, 19, 20, 21, 22, 23, 24, 25, 26, 27, 28]
noncomputable def b10 : Code := match Try.f10.body with | some c => c | none => .skip
theorem t10 : trCode ⟨Try.prog, K10, [], 200, none⟩ b10 = some c10 := by kernel_rfl
theorem go10 {args : List AV} {H : AHeap} {Kk : AV → AHeap → Prop} (hn : args.length = 5) (h : AGo ⟨Try.prog, K10, [], 200, none⟩ H.length [.code c10] (RetP [.t (.g 10)] H.length Kk) ⟨[], argsG 0 args⟩ H) : ACalls Try.prog 10 args H Kk :=
  ACalls_of Try.func10 (c := b10) rfl (by kernel_rfl) t10 (rs := [.t (.g 10)]) (by kernel_rfl) (by rw [hn]; exact Nat.le_of_ble_eq_true rfl) (by rw [hn]; rfl) (h.weaken (fun _ _ => RetP.hands) (by simp))

/-- sastrugi/sastrugilaw03.BearWaves -/
def c11 : ACode :=
  (.seq
(.reg [
  ⟨(some (true, 2)), .mv (.c (.lit (.bool false))), none⟩])
(.seq
(.reg [
  ⟨(some (false, 22)), .mv (.g 0), none⟩,
  ⟨(some (false, 23)), .call (.c (.fn 20 [])) [.l 22], none⟩,
  ⟨(some (true, 3)), .mv (.l 23), none⟩])
(.seq
(.reg [
  ⟨(some (false, 24)), .mv (.g 3), none⟩,
  ⟨(some (false, 25)), .call (.c (.fn 21 [])) [.l 24], none⟩,
  ⟨(some (true, 4)), .new [.int .i64 0, .int .i64 0, .slice none 0 0, .slice none 0 0, .int .i64 0, .int .i64 0, .int .i64 0, .int .i64 0, .int .i64 0, .int .i64 0, .int .i64 0], none⟩,
  ⟨none, .st 11 (.g 4) (.l 25), none⟩])
(.seq
(.reg [
  ⟨(some (false, 26)), .mv (.g 3), none⟩,
  ⟨(some (false, 27)), .mv (.g 3), none⟩,
  ⟨(some (false, 28)), .call (.c (.fn 37 [])) [.l 27, .c (.lit (.int .i64 300))], none⟩,
  ⟨(some (false, 29)), .mv (.g 3), none⟩,
  ⟨(some (false, 30)), .call (.c (.fn 37 [])) [.l 29, .c (.lit (.int .i64 9000))], none⟩,
  ⟨(some (false, 31)), .mks false 1 [.c (.lit (.int .i64 0)), .l 28, .l 30], none⟩,
  ⟨(some (false, 32)), .call (.c (.fn 41 [])) [.l 26, .l 31], none⟩,
  ⟨(some (true, 5)), .mv (.l 32), none⟩])
(.seq
(.reg [
  ⟨(some (false, 33)), .mv (.g 5), none⟩,
  ⟨(some (false, 34)), .mv (.g 5), none⟩,
  ⟨(some (false, 35)), .mv (.g 3), none⟩,
  ⟨(some (false, 36)), .call (.c (.fn 37 [])) [.l 35, .c (.lit (.int .i64 60))], none⟩,
  ⟨(some (false, 37)), .bin .add (.l 34) (.l 36), none⟩,
  ⟨(some (false, 38)), .call (.c (.fn 51 [])) [.l 33, .l 37], none⟩,
  ⟨(some (false, 39)), .mv (.g 3), none⟩,
  ⟨(some (false, 40)), .call (.c (.fn 37 [])) [.l 39, .c (.lit (.int .i64 800))], none⟩,
  ⟨(some (true, 6)), .new [.int .i64 0, .int .i64 0], none⟩,
  ⟨none, .st 2 (.g 6) (.l 38), none⟩,
  ⟨(some (true, 7)), .mv (.l 40), none⟩])
(.seq
(.reg [
  ⟨(some (false, 41)), .mv (.g 3), none⟩,
  ⟨(some (false, 42)), .ld (some 2) (.g 6), none⟩,
  ⟨(some (false, 43)), .call (.c (.fn 35 [])) [.l 41, .l 42], none⟩,
  ⟨(some (true, 8)), .new [.int .i64 0, .int .i64 0], none⟩,
  ⟨none, .st 2 (.g 8) (.l 43), none⟩])
(.seq
(.reg [
  ⟨(some (false, 45)), .ld (some 11) (.g 4), none⟩,
  ⟨(some (false, 46)), .ld (some 2) (.g 6), none⟩,
  ⟨(some (false, 47)), .mv (.g 7), none⟩,
  ⟨(some (false, 48)), .call (.c (.fn 48 [])) [.l 45, .l 46, .l 47], none⟩,
  ⟨(some (false, 44)), .mv (.l 48), none⟩,
  ⟨(some (false, 49)), .ex (.l 44) 0, none⟩,
  ⟨(some (false, 50)), .ex (.l 44) 1, none⟩,
  ⟨(some (true, 9)), .mv (.l 49), none⟩,
  ⟨(some (true, 10)), .mv (.l 50), none⟩])
(.seq
(.seq
(.reg [
  ⟨(some (false, 51)), .mv (.g 10), none⟩,
  ⟨(some (true, 52)), .bin .neq (.l 51) (.c (.lit (.int .i64 0))), none⟩])
(.cond (.g 52)
(.seq
(.reg [
  ⟨(some (true, 2)), .mv (.c (.lit (.bool false))), none⟩])
.ret)
.skip))
(.seq
(.reg [
  ⟨(some (false, 53)), .mv (.g 3), none⟩,
  ⟨(some (false, 54)), .call (.c (.fn 45 [])) [.l 53, .c (.lit (.int .i64 0)), .c (.lit (.int .i64 1000))], none⟩,
  ⟨(some (false, 55)), .mv (.g 3), none⟩,
  ⟨(some (false, 56)), .call (.c (.fn 45 [])) [.l 55, .c (.lit (.int .i64 0)), .c (.lit (.int .i64 100))], none⟩,
  ⟨(some (false, 57)), .mks false 1 [.c (.lit (.int .i64 0)), .c (.lit (.int .i64 1000)), .l 54, .l 56], none⟩,
  ⟨(some (true, 11)), .mv (.l 57), none⟩])
(.seq
(.seq
(.reg [
  ⟨(some (true, 12)), .mv (.c (.lit (.int .i64 0))), none⟩])
(.block 0
(.loop
(.seq
(.seq
(.reg [
  ⟨(some (false, 58)), .mv (.g 12), none⟩,
  ⟨(some (false, 59)), .mv (.g 9), none⟩,
  ⟨(some (false, 60)), .len (.l 59), none⟩,
  ⟨(some (true, 61)), .bin .lss (.l 58) (.l 60), none⟩])
(.cond (.g 61)
.skip
(.exit 0)))
(.seq
(.block 1
(.seq
(.seq
(.draw [
  ⟨⟨(some (false, 64)), .mv (.g 9), none⟩, 0, false, []⟩,
  ⟨⟨(some (false, 65)), .mv (.g 12), none⟩, 1, false, []⟩,
  ⟨⟨(some (false, 66)), .ia 2 (.l 64) (.l 65), none⟩, 2, false, []⟩,
  ⟨⟨(some (false, 67)), .fa (.l 66) 0, none⟩, 3, false, []⟩,
  ⟨⟨(some (false, 68)), .ld none (.l 67), none⟩, 4, false, []⟩,
  ⟨⟨(some (false, 69)), .mv (.g 9), none⟩, 5, false, []⟩,
  ⟨⟨(some (false, 70)), .mv (.g 12), none⟩, 6, false, []⟩,
  ⟨⟨(some (false, 71)), .ia 2 (.l 69) (.l 70), none⟩, 7, false, []⟩,
  ⟨⟨(some (false, 72)), .fa (.l 71) 1, none⟩, 8, false, []⟩,
  ⟨⟨(some (false, 73)), .ld none (.l 72), none⟩, 9, false, []⟩,
  ⟨⟨(some (false, 74)), .bin .gtr (.l 68) (.l 73), none⟩, 10, false, []⟩,
  ⟨⟨(some (false, 75)), .mv (.l 74), none⟩, 11, false, []⟩,
  ⟨⟨(some (false, 76)), .mv (.g 12), (some (.l 75, false))⟩, 12, false, []⟩,
  ⟨⟨(some (false, 77)), .bin .gtr (.l 76) (.c (.lit (.int .i64 0))), (some (.l 75, false))⟩, 13, false, []⟩,
  ⟨⟨(some (false, 78)), .mv (.l 77), (some (.l 75, false))⟩, 14, false, []⟩,
  ⟨⟨(some (false, 79)), .mv (.g 9), (some (.l 78, true))⟩, 15, false, []⟩,
  ⟨⟨(some (false, 80)), .mv (.g 12), (some (.l 78, true))⟩, 16, false, []⟩,
  ⟨⟨(some (false, 81)), .ia 2 (.l 79) (.l 80), (some (.l 78, true))⟩, 17, false, []⟩,
  ⟨⟨(some (false, 82)), .fa (.l 81) 0, (some (.l 78, true))⟩, 18, false, []⟩,
  ⟨⟨(some (false, 83)), .ld none (.l 82), (some (.l 78, true))⟩, 19, false, []⟩,
  ⟨⟨(some (false, 84)), .mv (.g 9), (some (.l 78, true))⟩, 20, false, []⟩,
  ⟨⟨(some (false, 85)), .mv (.g 12), (some (.l 78, true))⟩, 21, false, []⟩,
  ⟨⟨(some (false, 86)), .bin .sub (.l 85) (.c (.lit (.int .i64 1))), (some (.l 78, true))⟩, 22, false, []⟩,
  ⟨⟨(some (false, 87)), .ia 2 (.l 84) (.l 86), (some (.l 78, true))⟩, 23, false, []⟩,
  ⟨⟨(some (false, 88)), .fa (.l 87) 1, (some (.l 78, true))⟩, 24, false, []⟩,
  ⟨⟨(some (false, 89)), .ld none (.l 88), (some (.l 78, true))⟩, 25, false, []⟩,
  ⟨⟨(some (false, 90)), .bin .add (.l 89) (.c (.lit (.int .i64 1))), (some (.l 78, true))⟩, 26, false, []⟩,
  ⟨⟨(some (false, 91)), .bin .leq (.l 83) (.l 90), (some (.l 78, true))⟩, 27, false, []⟩,
  ⟨⟨(some (false, 92)), .pick (.l 78) (.l 91) (.c (.lit (.bool false))), (some (.l 75, false))⟩, 28, false, []⟩,
  ⟨⟨(some (false, 93)), .pick (.l 75) (.c (.lit (.bool true))) (.l 92), none⟩, 29, false, []⟩,
  ⟨⟨(some (false, 94)), .mv (.l 93), none⟩, 30, false, []⟩,
  ⟨⟨(some (false, 95)), .mv (.g 9), (some (.l 94, false))⟩, 31, false, []⟩,
  ⟨⟨(some (false, 96)), .mv (.g 12), (some (.l 94, false))⟩, 32, false, []⟩,
  ⟨⟨(some (false, 97)), .ia 2 (.l 95) (.l 96), (some (.l 94, false))⟩, 33, false, []⟩,
  ⟨⟨(some (false, 98)), .fa (.l 97) 0, (some (.l 94, false))⟩, 34, false, []⟩,
  ⟨⟨(some (false, 99)), .ld none (.l 98), (some (.l 94, false))⟩, 35, false, []⟩,
  ⟨⟨(some (false, 100)), .bin .lss (.l 99) (.c (.lit (.int .i64 0))), (some (.l 94, false))⟩, 36, false, []⟩,
  ⟨⟨(some (false, 101)), .pick (.l 94) (.c (.lit (.bool true))) (.l 100), none⟩, 37, false, []⟩,
  ⟨⟨(some (false, 102)), .mv (.l 101), none⟩, 38, false, []⟩,
  ⟨⟨(some (false, 103)), .mv (.g 9), (some (.l 102, false))⟩, 39, false, []⟩,
  ⟨⟨(some (false, 104)), .mv (.g 12), (some (.l 102, false))⟩, 40, false, []⟩,
  ⟨⟨(some (false, 105)), .ia 2 (.l 103) (.l 104), (some (.l 102, false))⟩, 41, false, []⟩,
  ⟨⟨(some (false, 106)), .fa (.l 105) 1, (some (.l 102, false))⟩, 42, false, []⟩,
  ⟨⟨(some (false, 107)), .ld none (.l 106), (some (.l 102, false))⟩, 43, false, []⟩,
  ⟨⟨(some (false, 108)), .bin .gtr (.l 107) (.c (.lit (.int .i64 1000))), (some (.l 102, false))⟩, 44, false, []⟩,
  ⟨⟨(some (true, 109)), .pick (.l 102) (.c (.lit (.bool true))) (.l 108), none⟩, 45, false, []⟩])
(.cond (.g 109)
(.seq
(.reg [
  ⟨(some (true, 2)), .mv (.c (.lit (.bool false))), none⟩])
.ret)
.skip))
(.seq
(.reg [
  ⟨(some (false, 110)), .mv (.g 12), none⟩,
  ⟨(some (true, 111)), .bin .lss (.l 110) (.c (.lit (.int .i64 3))), none⟩])
(.cond (.g 111)
(.draw [
  ⟨⟨(some (false, 112)), .mv (.g 11), none⟩, 0, false, []⟩,
  ⟨⟨(some (false, 113)), .mv (.g 9), none⟩, 1, false, []⟩,
  ⟨⟨(some (false, 114)), .mv (.g 12), none⟩, 2, false, []⟩,
  ⟨⟨(some (false, 115)), .ia 2 (.l 113) (.l 114), none⟩, 3, false, []⟩,
  ⟨⟨(some (false, 116)), .fa (.l 115) 0, none⟩, 4, false, []⟩,
  ⟨⟨(some (false, 117)), .ld none (.l 116), none⟩, 5, false, []⟩,
  ⟨⟨(some (false, 118)), .mv (.g 9), none⟩, 6, false, []⟩,
  ⟨⟨(some (false, 119)), .mv (.g 12), none⟩, 7, false, []⟩,
  ⟨⟨(some (false, 120)), .ia 2 (.l 118) (.l 119), none⟩, 8, false, []⟩,
  ⟨⟨(some (false, 121)), .fa (.l 120) 1, none⟩, 9, false, []⟩,
  ⟨⟨(some (false, 122)), .ld none (.l 121), none⟩, 10, false, []⟩,
  ⟨⟨(some (false, 123)), .mv (.g 9), none⟩, 11, false, []⟩,
  ⟨⟨(some (false, 124)), .mv (.g 12), none⟩, 12, false, []⟩,
  ⟨⟨(some (false, 125)), .ia 2 (.l 123) (.l 124), none⟩, 13, false, []⟩,
  ⟨⟨(some (false, 126)), .fa (.l 125) 0, none⟩, 14, false, []⟩,
  ⟨⟨(some (false, 127)), .ld none (.l 126), none⟩, 15, false, []⟩,
  ⟨⟨(some (false, 128)), .bin .sub (.l 127) (.c (.lit (.int .i64 1))), none⟩, 16, false, []⟩,
  ⟨⟨(some (false, 129)), .mx [.c (.lit (.int .i64 0)), .l 128], none⟩, 17, false, []⟩,
  ⟨⟨(some (false, 130)), .mv (.g 9), none⟩, 18, false, []⟩,
  ⟨⟨(some (false, 131)), .mv (.g 12), none⟩, 19, false, []⟩,
  ⟨⟨(some (false, 132)), .ia 2 (.l 130) (.l 131), none⟩, 20, false, []⟩,
  ⟨⟨(some (false, 133)), .fa (.l 132) 1, none⟩, 21, false, []⟩,
  ⟨⟨(some (false, 134)), .ld none (.l 133), none⟩, 22, false, []⟩,
  ⟨⟨(some (false, 135)), .bin .add (.l 134) (.c (.lit (.int .i64 1))), none⟩, 23, false, []⟩,
  ⟨⟨(some (false, 136)), .mn [.c (.lit (.int .i64 1000)), .l 135], none⟩, 24, false, []⟩,
  ⟨⟨(some (false, 137)), .mks false 1 [.l 117, .l 122, .l 129, .l 136], none⟩, 25, false, []⟩,
  ⟨⟨(some (false, 138)), .app 1 8 (.l 112) (.l 137), none⟩, 26, false, []⟩,
  ⟨⟨(some (true, 11)), .mv (.l 138), none⟩, 27, false, []⟩])
.skip))))
(.reg [
  ⟨(some (false, 62)), .mv (.g 12), none⟩,
  ⟨(some (false, 63)), .bin .add (.l 62) (.c (.lit (.int .i64 1))), none⟩,
  ⟨(some (true, 12)), .mv (.l 63), none⟩]))))))
(.seq
(.seq
(.reg [
  ⟨(some (true, 13)), .mv (.c (.lit (.int .i64 0))), none⟩])
(.block 2
(.loop
(.seq
(.seq
(.reg [
  ⟨(some (false, 139)), .mv (.g 13), none⟩,
  ⟨(some (false, 140)), .mv (.g 11), none⟩,
  ⟨(some (false, 141)), .len (.l 140), none⟩,
  ⟨(some (true, 142)), .bin .lss (.l 139) (.l 141), none⟩])
(.cond (.g 142)
.skip
(.exit 2)))
(.seq
(.block 3
(.seq
(.reg [
  ⟨(some (true, 14)), .mv (.c (.lit (.bool false))), none⟩])
(.seq
(.seq
(.reg [
  ⟨(some (true, 15)), .mv (.c (.lit (.int .i64 0))), none⟩])
(.block 4
(.loop
(.seq
(.seq
(.reg [
  ⟨(some (false, 145)), .mv (.g 15), none⟩,
  ⟨(some (false, 146)), .mv (.g 9), none⟩,
  ⟨(some (false, 147)), .len (.l 146), none⟩,
  ⟨(some (true, 148)), .bin .lss (.l 145) (.l 147), none⟩])
(.cond (.g 148)
.skip
(.exit 4)))
(.seq
(.block 5
(.draw [
  ⟨⟨(some (false, 151)), .mv (.g 14), none⟩, 0, false, []⟩,
  ⟨⟨(some (false, 152)), .mv (.l 151), none⟩, 1, false, []⟩,
  ⟨⟨(some (false, 153)), .mv (.g 9), (some (.l 152, false))⟩, 2, false, []⟩,
  ⟨⟨(some (false, 154)), .mv (.g 15), (some (.l 152, false))⟩, 3, false, []⟩,
  ⟨⟨(some (false, 155)), .ia 2 (.l 153) (.l 154), (some (.l 152, false))⟩, 4, false, []⟩,
  ⟨⟨(some (false, 156)), .ld (some 2) (.l 155), (some (.l 152, false))⟩, 5, false, []⟩,
  ⟨⟨(some (false, 157)), .mv (.g 11), (some (.l 152, false))⟩, 6, false, []⟩,
  ⟨⟨(some (false, 158)), .mv (.g 13), (some (.l 152, false))⟩, 7, false, []⟩,
  ⟨⟨(some (false, 159)), .ia 1 (.l 157) (.l 158), (some (.l 152, false))⟩, 8, false, []⟩,
  ⟨⟨(some (false, 160)), .ld none (.l 159), (some (.l 152, false))⟩, 9, false, []⟩,
  ⟨⟨(some (false, 161)), .call (.c (.fn 52 [])) [.l 156, .l 160], (some (.l 152, false))⟩, 10, false, []⟩,
  ⟨⟨(some (false, 162)), .pick (.l 152) (.c (.lit (.bool true))) (.l 161), none⟩, 11, false, []⟩,
  ⟨⟨(some (true, 14)), .mv (.l 162), none⟩, 12, false, []⟩]))
(.reg [
  ⟨(some (false, 149)), .mv (.g 15), none⟩,
  ⟨(some (false, 150)), .bin .add (.l 149) (.c (.lit (.int .i64 1))), none⟩,
  ⟨(some (true, 15)), .mv (.l 150), none⟩]))))))
(.seq
(.draw [
  ⟨⟨(some (false, 164)), .ld (some 11) (.g 4), none⟩, 0, false, []⟩,
  ⟨⟨(some (false, 165)), .ld (some 2) (.g 6), none⟩, 1, false, []⟩,
  ⟨⟨(some (false, 166)), .mv (.g 7), none⟩, 2, false, []⟩,
  ⟨⟨(some (false, 167)), .mv (.g 11), none⟩, 3, false, []⟩,
  ⟨⟨(some (false, 168)), .mv (.g 13), none⟩, 4, false, []⟩,
  ⟨⟨(some (false, 169)), .ia 1 (.l 167) (.l 168), none⟩, 5, false, []⟩,
  ⟨⟨(some (false, 170)), .ld none (.l 169), none⟩, 6, false, []⟩,
  ⟨⟨(some (false, 171)), .call (.c (.fn 46 [])) [.l 164, .l 165, .l 166, .l 170], none⟩, 7, false, []⟩,
  ⟨⟨(some (false, 163)), .mv (.l 171), none⟩, 8, false, []⟩,
  ⟨⟨(some (false, 172)), .ex (.l 163) 0, none⟩, 9, false, []⟩,
  ⟨⟨(some (false, 173)), .ex (.l 163) 1, none⟩, 10, false, []⟩,
  ⟨⟨(some (true, 16)), .mv (.l 172), none⟩, 11, false, []⟩,
  ⟨⟨(some (true, 17)), .mv (.l 173), none⟩, 12, false, []⟩])
(.seq
(.draw [
  ⟨⟨(some (false, 175)), .ld (some 11) (.g 4), none⟩, 0, false, []⟩,
  ⟨⟨(some (false, 176)), .ld (some 2) (.g 8), none⟩, 1, false, []⟩,
  ⟨⟨(some (false, 177)), .mv (.g 7), none⟩, 2, false, []⟩,
  ⟨⟨(some (false, 178)), .mv (.g 11), none⟩, 3, false, []⟩,
  ⟨⟨(some (false, 179)), .mv (.g 13), none⟩, 4, false, []⟩,
  ⟨⟨(some (false, 180)), .ia 1 (.l 178) (.l 179), none⟩, 5, false, []⟩,
  ⟨⟨(some (false, 181)), .ld none (.l 180), none⟩, 6, false, []⟩,
  ⟨⟨(some (false, 182)), .call (.c (.fn 46 [])) [.l 175, .l 176, .l 177, .l 181], none⟩, 7, false, []⟩,
  ⟨⟨(some (false, 174)), .mv (.l 182), none⟩, 8, false, []⟩,
  ⟨⟨(some (false, 183)), .ex (.l 174) 0, none⟩, 9, false, []⟩,
  ⟨⟨(some (false, 184)), .ex (.l 174) 1, none⟩, 10, false, []⟩,
  ⟨⟨(some (true, 18)), .mv (.l 183), none⟩, 11, false, []⟩,
  ⟨⟨(some (true, 19)), .mv (.l 184), none⟩, 12, false, []⟩])
(.seq
(.draw [
  ⟨⟨(some (false, 186)), .ld (some 11) (.g 4), none⟩, 0, false, []⟩,
  ⟨⟨(some (false, 187)), .ld (some 2) (.g 6), none⟩, 1, false, []⟩,
  ⟨⟨(some (false, 188)), .mv (.g 11), none⟩, 2, false, []⟩,
  ⟨⟨(some (false, 189)), .mv (.g 13), none⟩, 3, false, []⟩,
  ⟨⟨(some (false, 190)), .ia 1 (.l 188) (.l 189), none⟩, 4, false, []⟩,
  ⟨⟨(some (false, 191)), .ld none (.l 190), none⟩, 5, false, []⟩,
  ⟨⟨(some (false, 192)), .call (.c (.fn 46 [])) [.l 186, .l 187, .c (.lit (.int .i64 100000)), .l 191], none⟩, 6, false, []⟩,
  ⟨⟨(some (false, 185)), .mv (.l 192), none⟩, 7, false, []⟩,
  ⟨⟨(some (false, 193)), .ex (.l 185) 0, none⟩, 8, false, []⟩,
  ⟨⟨(some (false, 194)), .ex (.l 185) 1, none⟩, 9, false, []⟩,
  ⟨⟨(some (true, 20)), .mv (.l 193), none⟩, 10, false, []⟩,
  ⟨⟨(some (true, 21)), .mv (.l 194), none⟩, 11, false, []⟩])
(.seq
(.reg [
  ⟨(some (false, 195)), .mv (.g 17), none⟩,
  ⟨(some (false, 196)), .bin .neq (.l 195) (.c (.lit (.int .i64 0))), none⟩,
  ⟨(some (false, 197)), .mv (.l 196), none⟩,
  ⟨(some (false, 198)), .mv (.g 19), (some (.l 197, false))⟩,
  ⟨(some (false, 199)), .bin .neq (.l 198) (.c (.lit (.int .i64 0))), (some (.l 197, false))⟩,
  ⟨(some (false, 200)), .pick (.l 197) (.c (.lit (.bool true))) (.l 199), none⟩,
  ⟨(some (false, 201)), .mv (.l 200), none⟩,
  ⟨(some (false, 202)), .mv (.g 21), (some (.l 201, false))⟩,
  ⟨(some (false, 203)), .bin .neq (.l 202) (.c (.lit (.int .i64 0))), (some (.l 201, false))⟩,
  ⟨(some (false, 204)), .pick (.l 201) (.c (.lit (.bool true))) (.l 203), none⟩,
  ⟨(some (false, 205)), .mv (.l 204), none⟩,
  ⟨(some (false, 206)), .mv (.g 14), (some (.l 205, false))⟩,
  ⟨(some (false, 207)), .mv (.g 16), (some (.l 205, false))⟩,
  ⟨(some (false, 208)), .bin .eql (.l 207) (.c (.lit (.int .i64 1))), (some (.l 205, false))⟩,
  ⟨(some (false, 209)), .binb true (.l 206) (.l 208), (some (.l 205, false))⟩,
  ⟨(some (false, 210)), .pick (.l 205) (.c (.lit (.bool true))) (.l 209), none⟩,
  ⟨(some (false, 211)), .mv (.l 210), none⟩,
  ⟨(some (false, 212)), .mv (.g 16), (some (.l 211, false))⟩,
  ⟨(some (false, 213)), .bin .neq (.l 212) (.c (.lit (.int .i64 3))), (some (.l 211, false))⟩,
  ⟨(some (false, 214)), .mv (.l 213), (some (.l 211, false))⟩,
  ⟨(some (false, 215)), .mv (.g 16), (some (.l 214, true))⟩,
  ⟨(some (false, 216)), .mv (.g 18), (some (.l 214, true))⟩,
  ⟨(some (false, 217)), .bin .neq (.l 215) (.l 216), (some (.l 214, true))⟩,
  ⟨(some (false, 218)), .pick (.l 214) (.l 217) (.c (.lit (.bool false))), (some (.l 211, false))⟩,
  ⟨(some (false, 219)), .pick (.l 211) (.c (.lit (.bool true))) (.l 218), none⟩,
  ⟨(some (false, 220)), .mv (.l 219), none⟩,
  ⟨(some (false, 221)), .mv (.g 16), (some (.l 220, false))⟩,
  ⟨(some (false, 222)), .bin .eql (.l 221) (.c (.lit (.int .i64 1))), (some (.l 220, false))⟩,
  ⟨(some (false, 223)), .mv (.l 222), (some (.l 220, false))⟩,
  ⟨(some (false, 224)), .mv (.g 20), (some (.l 223, true))⟩,
  ⟨(some (false, 225)), .bin .neq (.l 224) (.c (.lit (.int .i64 1))), (some (.l 223, true))⟩,
  ⟨(some (false, 226)), .pick (.l 223) (.l 225) (.c (.lit (.bool false))), (some (.l 220, false))⟩,
  ⟨(some (true, 227)), .pick (.l 220) (.c (.lit (.bool true))) (.l 226), none⟩])
(.cond (.g 227)
(.seq
(.reg [
  ⟨(some (true, 2)), .mv (.c (.lit (.bool false))), none⟩])
.ret)
.skip))))))))
(.reg [
  ⟨(some (false, 143)), .mv (.g 13), none⟩,
  ⟨(some (false, 144)), .bin .add (.l 143) (.c (.lit (.int .i64 1))), none⟩,
  ⟨(some (true, 13)), .mv (.l 144), none⟩]))))))
(.seq
(.reg [
  ⟨(some (false, 228)), .call (.c (.fn 19 [])) [], none⟩,
  ⟨(some (true, 2)), .mv (.l 228), none⟩])
.ret))))))))))))
def K11 : List Nat := [0, 52, 61, 109, 111, 142, 148, 227, 2, 3, 4, 5, 6, 7, 8, 9, 10, 11, 12, 13, 14, 15, 16, 17, 18, 19, 20, 21]
noncomputable def b11 : Code := match Try.f11.body with | some c => c | none => .skip
theorem t11 : trCode ⟨Try.prog, K11, [], 229, none⟩ b11 = some c11 := by kernel_rfl
theorem go11 {args : List AV} {H : AHeap} {Kk : AV → AHeap → Prop} (hn : args.length = 1) (h : AGo ⟨Try.prog, K11, [], 229, none⟩ H.length [.code c11] (RetP [.t (.g 2)] H.length Kk) ⟨[], argsG 0 args⟩ H) : ACalls Try.prog 11 args H Kk :=
  ACalls_of Try.func11 (c := b11) rfl (by kernel_rfl) t11 (rs := [.t (.g 2)]) (by kernel_rfl) (by rw [hn]; exact Nat.le_of_ble_eq_true rfl) (by rw [hn]; rfl) (h.weaken (fun _ _ => RetP.hands) (by simp))

/-- sastrugi/sastrugilaw03.BearChecks -/
def c12 : ACode :=
  (.seq
(.reg [
  ⟨(some (true, 5)), .box (.g 0), none⟩,
  ⟨(some (true, 10)), .mv (.c (.lit (.bool false))), none⟩])
(.seq
(.seq
(.reg [
  ⟨(some (false, 34)), .ld (some 11) (.g 5), none⟩,
  ⟨(some (true, 35)), .call (.c (.fn 18 [])) [.l 34], none⟩])
(.cond (.g 35)
(.seq
(.reg [
  ⟨(some (false, 36)), .call (.c (.fn 19 [])) [], none⟩,
  ⟨(some (true, 10)), .mv (.l 36), none⟩])
.ret)
.skip))
(.seq
(.reg [
  ⟨(some (false, 37)), .mv (.g 4), none⟩,
  ⟨(some (false, 38)), .call (.c (.fn 20 [])) [.l 37], none⟩,
  ⟨(some (true, 11)), .mv (.l 38), none⟩])
(.seq
(.reg [
  ⟨(some (false, 39)), .mv (.g 11), none⟩,
  ⟨(some (false, 40)), .call (.c (.fn 21 [])) [.l 39], none⟩,
  ⟨(some (true, 12)), .new [.int .i64 0, .int .i64 0, .slice none 0 0, .slice none 0 0, .int .i64 0, .int .i64 0, .int .i64 0, .int .i64 0, .int .i64 0, .int .i64 0, .int .i64 0], none⟩,
  ⟨none, .st 11 (.g 12) (.l 40), none⟩])
(.seq
(.reg [
  ⟨(some (false, 41)), .mv (.g 11), none⟩,
  ⟨(some (false, 42)), .mv (.g 11), none⟩,
  ⟨(some (false, 43)), .call (.c (.fn 45 [])) [.l 42, .c (.lit (.int .i64 200)), .c (.lit (.int .i64 900))], none⟩,
  ⟨(some (false, 44)), .mks false 1 [.c (.lit (.int .i64 0)), .l 43, .c (.lit (.int .i64 5000))], none⟩,
  ⟨(some (false, 45)), .call (.c (.fn 41 [])) [.l 41, .l 44], none⟩,
  ⟨(some (false, 46)), .mv (.g 11), none⟩,
  ⟨(some (false, 47)), .mv (.g 11), none⟩,
  ⟨(some (false, 48)), .call (.c (.fn 37 [])) [.l 47, .c (.lit (.int .i64 2000))], none⟩,
  ⟨(some (false, 49)), .mks false 1 [.c (.lit (.int .i64 0)), .l 48, .c (.lit (.int .i64 10000))], none⟩,
  ⟨(some (false, 50)), .call (.c (.fn 41 [])) [.l 46, .l 49], none⟩,
  ⟨(some (true, 13)), .mv (.l 45), none⟩,
  ⟨(some (true, 14)), .mv (.l 50), none⟩])
(.seq
(.reg [
  ⟨(some (false, 52)), .ld (some 11) (.g 12), none⟩,
  ⟨(some (false, 53)), .mv (.g 13), none⟩,
  ⟨(some (false, 54)), .mv (.g 14), none⟩,
  ⟨(some (false, 55)), .call (.c (.fn 53 [])) [.l 52, .l 53, .l 54], none⟩,
  ⟨(some (false, 51)), .mv (.l 55), none⟩,
  ⟨(some (false, 56)), .ex (.l 51) 0, none⟩,
  ⟨(some (false, 57)), .ex (.l 51) 1, none⟩,
  ⟨(some (true, 15)), .mv (.l 56), none⟩,
  ⟨(some (false, 16)), .mv (.l 57), none⟩])
(.seq
(.reg [
  ⟨(some (false, 58)), .mv (.g 15), none⟩,
  ⟨(some (false, 59)), .mv (.g 11), none⟩,
  ⟨(some (false, 60)), .call (.c (.fn 45 [])) [.l 59, .c (.lit (.int .i64 (-1))), .c (.lit (.int .i64 1))], none⟩,
  ⟨(some (false, 61)), .bin .add (.l 58) (.l 60), none⟩,
  ⟨(some (false, 62)), .mx [.c (.lit (.int .i64 0)), .l 61], none⟩,
  ⟨(some (false, 63)), .mn [.c (.lit (.int .i64 200000)), .l 62], none⟩,
  ⟨(some (true, 15)), .mv (.l 63), none⟩])
(.seq
(.reg [
  ⟨(some (false, 64)), .ld (some 11) (.g 5), none⟩,
  ⟨(some (false, 65)), .ld (some 11) (.g 12), none⟩,
  ⟨(some (false, 66)), .ld (some 11) (.g 12), none⟩,
  ⟨(some (false, 67)), .mks false 11 [.l 64, .l 65, .l 66], none⟩,
  ⟨(some (false, 68)), .mv (.g 1), none⟩,
  ⟨(some (false, 69)), .mv (.g 13), none⟩,
  ⟨(some (false, 70)), .mv (.g 1), none⟩,
  ⟨(some (false, 71)), .mks false 1 [.l 68, .l 69, .l 70], none⟩,
  ⟨(some (false, 72)), .mv (.g 2), none⟩,
  ⟨(some (false, 73)), .mv (.g 15), none⟩,
  ⟨(some (false, 74)), .mv (.g 2), none⟩,
  ⟨(some (false, 75)), .mks false 1 [.l 72, .l 73, .l 74], none⟩,
  ⟨(some (false, 76)), .mv (.g 3), none⟩,
  ⟨(some (false, 77)), .mv (.g 14), none⟩,
  ⟨(some (false, 78)), .mv (.g 3), none⟩,
  ⟨(some (false, 79)), .mks false 1 [.l 76, .l 77, .l 78], none⟩,
  ⟨(some (true, 17)), .mv (.l 67), none⟩,
  ⟨(some (true, 18)), .mv (.l 71), none⟩,
  ⟨(some (true, 19)), .mv (.l 75), none⟩,
  ⟨(some (true, 20)), .mv (.l 79), none⟩])
(.seq
(.seq
(.reg [
  ⟨(some (true, 21)), .mv (.c (.lit (.int .i64 0))), none⟩])
(.block 0
(.loop
(.seq
(.seq
(.reg [
  ⟨(some (false, 80)), .mv (.g 21), none⟩,
  ⟨(some (false, 81)), .mv (.g 17), none⟩,
  ⟨(some (false, 82)), .len (.l 81), none⟩,
  ⟨(some (true, 83)), .bin .lss (.l 80) (.l 82), none⟩])
(.cond (.g 83)
.skip
(.exit 0)))
(.seq
(.block 1
(.seq
(.draw [
  ⟨⟨(some (false, 87)), .mv (.g 17), none⟩, 0, false, []⟩,
  ⟨⟨(some (false, 88)), .mv (.g 21), none⟩, 1, false, []⟩,
  ⟨⟨(some (false, 89)), .ia 11 (.l 87) (.l 88), none⟩, 2, false, []⟩,
  ⟨⟨(some (false, 90)), .ld (some 11) (.l 89), none⟩, 3, false, []⟩,
  ⟨⟨(some (false, 91)), .mv (.g 18), none⟩, 4, false, []⟩,
  ⟨⟨(some (false, 92)), .mv (.g 21), none⟩, 5, false, []⟩,
  ⟨⟨(some (false, 93)), .ia 1 (.l 91) (.l 92), none⟩, 6, false, []⟩,
  ⟨⟨(some (false, 94)), .ld none (.l 93), none⟩, 7, false, []⟩,
  ⟨⟨(some (false, 95)), .mv (.g 20), none⟩, 8, false, []⟩,
  ⟨⟨(some (false, 96)), .mv (.g 21), none⟩, 9, false, []⟩,
  ⟨⟨(some (false, 97)), .ia 1 (.l 95) (.l 96), none⟩, 10, false, []⟩,
  ⟨⟨(some (false, 98)), .ld none (.l 97), none⟩, 11, false, []⟩,
  ⟨⟨(some (false, 99)), .call (.c (.fn 54 [])) [.l 90, .l 94, .l 98], none⟩, 12, false, []⟩,
  ⟨⟨(some (false, 86)), .mv (.l 99), none⟩, 13, false, []⟩,
  ⟨⟨(some (false, 100)), .ex (.l 86) 0, none⟩, 14, false, []⟩,
  ⟨⟨(some (false, 101)), .ex (.l 86) 1, none⟩, 15, false, []⟩,
  ⟨⟨(some (true, 22)), .mv (.l 100), none⟩, 16, false, []⟩,
  ⟨⟨(some (true, 23)), .mv (.l 101), none⟩, 17, false, []⟩])
(.seq
(.draw [
  ⟨⟨(some (false, 103)), .mv (.g 17), none⟩, 0, false, []⟩,
  ⟨⟨(some (false, 104)), .mv (.g 21), none⟩, 1, false, []⟩,
  ⟨⟨(some (false, 105)), .ia 11 (.l 103) (.l 104), none⟩, 2, false, []⟩,
  ⟨⟨(some (false, 106)), .ld (some 11) (.l 105), none⟩, 3, false, []⟩,
  ⟨⟨(some (false, 107)), .mv (.g 18), none⟩, 4, false, []⟩,
  ⟨⟨(some (false, 108)), .mv (.g 21), none⟩, 5, false, []⟩,
  ⟨⟨(some (false, 109)), .ia 1 (.l 107) (.l 108), none⟩, 6, false, []⟩,
  ⟨⟨(some (false, 110)), .ld none (.l 109), none⟩, 7, false, []⟩,
  ⟨⟨(some (false, 111)), .mv (.g 20), none⟩, 8, false, []⟩,
  ⟨⟨(some (false, 112)), .mv (.g 21), none⟩, 9, false, []⟩,
  ⟨⟨(some (false, 113)), .ia 1 (.l 111) (.l 112), none⟩, 10, false, []⟩,
  ⟨⟨(some (false, 114)), .ld none (.l 113), none⟩, 11, false, []⟩,
  ⟨⟨(some (false, 115)), .call (.c (.fn 53 [])) [.l 106, .l 110, .l 114], none⟩, 12, false, []⟩,
  ⟨⟨(some (false, 102)), .mv (.l 115), none⟩, 13, false, []⟩,
  ⟨⟨(some (false, 116)), .ex (.l 102) 0, none⟩, 14, false, []⟩,
  ⟨⟨(some (false, 117)), .ex (.l 102) 1, none⟩, 15, false, []⟩,
  ⟨⟨(some (true, 24)), .mv (.l 116), none⟩, 16, false, []⟩,
  ⟨⟨(some (true, 25)), .mv (.l 117), none⟩, 17, false, []⟩])
(.seq
(.draw [
  ⟨⟨(some (false, 119)), .mv (.g 17), none⟩, 0, false, []⟩,
  ⟨⟨(some (false, 120)), .mv (.g 21), none⟩, 1, false, []⟩,
  ⟨⟨(some (false, 121)), .ia 11 (.l 119) (.l 120), none⟩, 2, false, []⟩,
  ⟨⟨(some (false, 122)), .ld (some 11) (.l 121), none⟩, 3, false, []⟩,
  ⟨⟨(some (false, 123)), .mv (.g 19), none⟩, 4, false, []⟩,
  ⟨⟨(some (false, 124)), .mv (.g 21), none⟩, 5, false, []⟩,
  ⟨⟨(some (false, 125)), .ia 1 (.l 123) (.l 124), none⟩, 6, false, []⟩,
  ⟨⟨(some (false, 126)), .ld none (.l 125), none⟩, 7, false, []⟩,
  ⟨⟨(some (false, 127)), .mv (.g 20), none⟩, 8, false, []⟩,
  ⟨⟨(some (false, 128)), .mv (.g 21), none⟩, 9, false, []⟩,
  ⟨⟨(some (false, 129)), .ia 1 (.l 127) (.l 128), none⟩, 10, false, []⟩,
  ⟨⟨(some (false, 130)), .ld none (.l 129), none⟩, 11, false, []⟩,
  ⟨⟨(some (false, 131)), .call (.c (.fn 55 [])) [.l 122, .l 126, .l 130], none⟩, 12, false, []⟩,
  ⟨⟨(some (false, 118)), .mv (.l 131), none⟩, 13, false, []⟩,
  ⟨⟨(some (false, 132)), .ex (.l 118) 0, none⟩, 14, false, []⟩,
  ⟨⟨(some (false, 133)), .ex (.l 118) 1, none⟩, 15, false, []⟩,
  ⟨⟨(some (true, 26)), .mv (.l 132), none⟩, 16, false, []⟩,
  ⟨⟨(some (true, 27)), .mv (.l 133), none⟩, 17, false, []⟩])
(.seq
(.draw [
  ⟨⟨(some (false, 135)), .mv (.g 17), none⟩, 0, false, []⟩,
  ⟨⟨(some (false, 136)), .mv (.g 21), none⟩, 1, false, []⟩,
  ⟨⟨(some (false, 137)), .ia 11 (.l 135) (.l 136), none⟩, 2, false, []⟩,
  ⟨⟨(some (false, 138)), .ld (some 11) (.l 137), none⟩, 3, false, []⟩,
  ⟨⟨(some (false, 139)), .mv (.g 19), none⟩, 4, false, []⟩,
  ⟨⟨(some (false, 140)), .mv (.g 21), none⟩, 5, false, []⟩,
  ⟨⟨(some (false, 141)), .ia 1 (.l 139) (.l 140), none⟩, 6, false, []⟩,
  ⟨⟨(some (false, 142)), .ld none (.l 141), none⟩, 7, false, []⟩,
  ⟨⟨(some (false, 143)), .mv (.g 20), none⟩, 8, false, []⟩,
  ⟨⟨(some (false, 144)), .mv (.g 21), none⟩, 9, false, []⟩,
  ⟨⟨(some (false, 145)), .ia 1 (.l 143) (.l 144), none⟩, 10, false, []⟩,
  ⟨⟨(some (false, 146)), .ld none (.l 145), none⟩, 11, false, []⟩,
  ⟨⟨(some (false, 147)), .call (.c (.fn 56 [])) [.l 138, .l 142, .l 146], none⟩, 12, false, []⟩,
  ⟨⟨(some (false, 134)), .mv (.l 147), none⟩, 13, false, []⟩,
  ⟨⟨(some (false, 148)), .ex (.l 134) 0, none⟩, 14, false, []⟩,
  ⟨⟨(some (false, 149)), .ex (.l 134) 1, none⟩, 15, false, []⟩,
  ⟨⟨(some (true, 28)), .mv (.l 148), none⟩, 16, false, []⟩,
  ⟨⟨(some (true, 29)), .mv (.l 149), none⟩, 17, false, []⟩])
(.seq
(.draw [
  ⟨⟨(some (false, 151)), .mv (.g 17), none⟩, 0, false, []⟩,
  ⟨⟨(some (false, 152)), .mv (.g 21), none⟩, 1, false, []⟩,
  ⟨⟨(some (false, 153)), .ia 11 (.l 151) (.l 152), none⟩, 2, false, []⟩,
  ⟨⟨(some (false, 154)), .ld (some 11) (.l 153), none⟩, 3, false, []⟩,
  ⟨⟨(some (false, 155)), .mv (.g 18), none⟩, 4, false, []⟩,
  ⟨⟨(some (false, 156)), .mv (.g 21), none⟩, 5, false, []⟩,
  ⟨⟨(some (false, 157)), .ia 1 (.l 155) (.l 156), none⟩, 6, false, []⟩,
  ⟨⟨(some (false, 158)), .ld none (.l 157), none⟩, 7, false, []⟩,
  ⟨⟨(some (false, 159)), .mv (.g 19), none⟩, 8, false, []⟩,
  ⟨⟨(some (false, 160)), .mv (.g 21), none⟩, 9, false, []⟩,
  ⟨⟨(some (false, 161)), .ia 1 (.l 159) (.l 160), none⟩, 10, false, []⟩,
  ⟨⟨(some (false, 162)), .ld none (.l 161), none⟩, 11, false, []⟩,
  ⟨⟨(some (false, 163)), .call (.c (.fn 57 [])) [.l 154, .l 158, .l 162], none⟩, 12, false, []⟩,
  ⟨⟨(some (false, 150)), .mv (.l 163), none⟩, 13, false, []⟩,
  ⟨⟨(some (false, 164)), .ex (.l 150) 0, none⟩, 14, false, []⟩,
  ⟨⟨(some (false, 165)), .ex (.l 150) 1, none⟩, 15, false, []⟩,
  ⟨⟨(some (true, 30)), .mv (.l 164), none⟩, 16, false, []⟩,
  ⟨⟨(some (true, 31)), .mv (.l 165), none⟩, 17, false, []⟩])
(.seq
(.draw [
  ⟨⟨(some (false, 167)), .mv (.g 17), none⟩, 0, false, []⟩,
  ⟨⟨(some (false, 168)), .mv (.g 21), none⟩, 1, false, []⟩,
  ⟨⟨(some (false, 169)), .ia 11 (.l 167) (.l 168), none⟩, 2, false, []⟩,
  ⟨⟨(some (false, 170)), .ld (some 11) (.l 169), none⟩, 3, false, []⟩,
  ⟨⟨(some (false, 171)), .mv (.g 18), none⟩, 4, false, []⟩,
  ⟨⟨(some (false, 172)), .mv (.g 21), none⟩, 5, false, []⟩,
  ⟨⟨(some (false, 173)), .ia 1 (.l 171) (.l 172), none⟩, 6, false, []⟩,
  ⟨⟨(some (false, 174)), .ld none (.l 173), none⟩, 7, false, []⟩,
  ⟨⟨(some (false, 175)), .mv (.g 19), none⟩, 8, false, []⟩,
  ⟨⟨(some (false, 176)), .mv (.g 21), none⟩, 9, false, []⟩,
  ⟨⟨(some (false, 177)), .ia 1 (.l 175) (.l 176), none⟩, 10, false, []⟩,
  ⟨⟨(some (false, 178)), .ld none (.l 177), none⟩, 11, false, []⟩,
  ⟨⟨(some (false, 179)), .call (.c (.fn 58 [])) [.l 170, .l 174, .l 178], none⟩, 12, false, []⟩,
  ⟨⟨(some (false, 166)), .mv (.l 179), none⟩, 13, false, []⟩,
  ⟨⟨(some (false, 180)), .ex (.l 166) 0, none⟩, 14, false, []⟩,
  ⟨⟨(some (false, 181)), .ex (.l 166) 1, none⟩, 15, false, []⟩,
  ⟨⟨(some (true, 32)), .mv (.l 180), none⟩, 16, false, []⟩,
  ⟨⟨(some (true, 33)), .mv (.l 181), none⟩, 17, false, []⟩])
(.seq
(.draw [
  ⟨⟨(some (false, 182)), .mv (.g 17), none⟩, 0, false, []⟩,
  ⟨⟨(some (false, 183)), .mv (.g 21), none⟩, 1, false, []⟩,
  ⟨⟨(some (false, 184)), .ia 11 (.l 182) (.l 183), none⟩, 2, false, []⟩,
  ⟨⟨(some (false, 185)), .ld (some 11) (.l 184), none⟩, 3, false, []⟩,
  ⟨⟨(some (false, 187)), .mv (.g 17), none⟩, 5, false, []⟩,
  ⟨⟨(some (false, 188)), .mv (.g 21), none⟩, 6, false, []⟩,
  ⟨⟨(some (false, 189)), .ia 11 (.l 187) (.l 188), none⟩, 7, false, []⟩,
  ⟨⟨(some (false, 190)), .ld (some 11) (.l 189), none⟩, 8, false, []⟩,
  ⟨⟨(some (false, 186)), .call (.c (.fn 59 [])) [.l 185], none⟩, 4, false, []⟩,
  ⟨⟨(some (false, 191)), .call (.c (.fn 60 [])) [.l 190], none⟩, 9, false, []⟩,
  ⟨⟨(some (false, 192)), .bin .neq (.l 186) (.l 191), none⟩, 10, false, []⟩,
  ⟨⟨(some (false, 193)), .mv (.l 192), none⟩, 11, false, []⟩,
  ⟨⟨(some (false, 194)), .mv (.g 22), (some (.l 193, false))⟩, 12, false, []⟩,
  ⟨⟨(some (false, 195)), .mv (.g 24), (some (.l 193, false))⟩, 13, false, []⟩,
  ⟨⟨(some (false, 196)), .bin .neq (.l 194) (.l 195), (some (.l 193, false))⟩, 14, false, []⟩,
  ⟨⟨(some (false, 197)), .pick (.l 193) (.c (.lit (.bool true))) (.l 196), none⟩, 15, false, []⟩,
  ⟨⟨(some (false, 198)), .mv (.l 197), none⟩, 16, false, []⟩,
  ⟨⟨(some (false, 199)), .mv (.g 23), (some (.l 198, false))⟩, 17, false, []⟩,
  ⟨⟨(some (false, 200)), .mv (.g 25), (some (.l 198, false))⟩, 18, false, []⟩,
  ⟨⟨(some (false, 201)), .bin .neq (.l 199) (.l 200), (some (.l 198, false))⟩, 19, false, []⟩,
  ⟨⟨(some (false, 202)), .pick (.l 198) (.c (.lit (.bool true))) (.l 201), none⟩, 20, false, []⟩,
  ⟨⟨(some (false, 203)), .mv (.l 202), none⟩, 21, false, []⟩,
  ⟨⟨(some (false, 204)), .mv (.g 26), (some (.l 203, false))⟩, 22, false, []⟩,
  ⟨⟨(some (false, 205)), .mv (.g 28), (some (.l 203, false))⟩, 23, false, []⟩,
  ⟨⟨(some (false, 206)), .bin .neq (.l 204) (.l 205), (some (.l 203, false))⟩, 24, false, []⟩,
  ⟨⟨(some (false, 207)), .pick (.l 203) (.c (.lit (.bool true))) (.l 206), none⟩, 25, false, []⟩,
  ⟨⟨(some (false, 208)), .mv (.l 207), none⟩, 26, false, []⟩,
  ⟨⟨(some (false, 209)), .mv (.g 27), (some (.l 208, false))⟩, 27, false, []⟩,
  ⟨⟨(some (false, 210)), .mv (.g 29), (some (.l 208, false))⟩, 28, false, []⟩,
  ⟨⟨(some (false, 211)), .bin .neq (.l 209) (.l 210), (some (.l 208, false))⟩, 29, false, []⟩,
  ⟨⟨(some (false, 212)), .pick (.l 208) (.c (.lit (.bool true))) (.l 211), none⟩, 30, false, []⟩,
  ⟨⟨(some (false, 213)), .mv (.l 212), none⟩, 31, false, []⟩,
  ⟨⟨(some (false, 214)), .mv (.g 30), (some (.l 213, false))⟩, 32, false, []⟩,
  ⟨⟨(some (false, 215)), .mv (.g 32), (some (.l 213, false))⟩, 33, false, []⟩,
  ⟨⟨(some (false, 216)), .bin .neq (.l 214) (.l 215), (some (.l 213, false))⟩, 34, false, []⟩,
  ⟨⟨(some (false, 217)), .pick (.l 213) (.c (.lit (.bool true))) (.l 216), none⟩, 35, false, []⟩,
  ⟨⟨(some (false, 218)), .mv (.l 217), none⟩, 36, false, []⟩,
  ⟨⟨(some (false, 219)), .mv (.g 31), (some (.l 218, false))⟩, 37, false, []⟩,
  ⟨⟨(some (false, 220)), .mv (.g 33), (some (.l 218, false))⟩, 38, false, []⟩,
  ⟨⟨(some (false, 221)), .bin .neq (.l 219) (.l 220), (some (.l 218, false))⟩, 39, false, []⟩,
  ⟨⟨(some (true, 222)), .pick (.l 218) (.c (.lit (.bool true))) (.l 221), none⟩, 40, false, []⟩])
(.cond (.g 222)
(.seq
(.reg [
  ⟨(some (true, 10)), .mv (.c (.lit (.bool false))), none⟩])
.ret)
.skip)))))))))
(.reg [
  ⟨(some (false, 84)), .mv (.g 21), none⟩,
  ⟨(some (false, 85)), .bin .add (.l 84) (.c (.lit (.int .i64 1))), none⟩,
  ⟨(some (true, 21)), .mv (.l 85), none⟩]))))))
(.seq
(.reg [
  ⟨(some (false, 223)), .call (.c (.fn 19 [])) [], none⟩,
  ⟨(some (true, 10)), .mv (.l 223), none⟩])
.ret))))))))))
def K12 : List Nat := [0, 1, 2, 3, 4, 35, 83, 222, 10, 5, 11, 12, 13, 14, 15, 17, 18, 19, 20, 21, 22, 23, 24, 25, 26, 27, 28, 29, 30, 31, 32, 33]
noncomputable def b12 : Code := match Try.f12.body with | some c => c | none => .skip
theorem t12 : trCode ⟨Try.prog, K12, [], 224, none⟩ b12 = some c12 := by kernel_rfl
theorem go12 {args : List AV} {H : AHeap} {Kk : AV → AHeap → Prop} (hn : args.length = 5) (h : AGo ⟨Try.prog, K12, [], 224, none⟩ H.length [.code c12] (RetP [.t (.g 10)] H.length Kk) ⟨[], argsG 0 args⟩ H) : ACalls Try.prog 12 args H Kk :=
  ACalls_of Try.func12 (c := b12) rfl (by kernel_rfl) t12 (rs := [.t (.g 10)]) (by kernel_rfl) (by rw [hn]; exact Nat.le_of_ble_eq_true rfl) (by rw [hn]; rfl) (h.weaken (fun _ _ => RetP.hands) (by simp))

/-- sastrugi/sastrugilaw03.BearLeast -/
def c13 : ACode :=
  (.seq
(.reg [
  ⟨(some (true, 2)), .mv (.c (.lit (.bool false))), none⟩])
(.seq
(.reg [
  ⟨(some (false, 24)), .mv (.g 0), none⟩,
  ⟨(some (false, 25)), .call (.c (.fn 20 [])) [.l 24], none⟩,
  ⟨(some (true, 3)), .mv (.l 25), none⟩])
(.seq
(.reg [
  ⟨(some (false, 26)), .mv (.g 3), none⟩,
  ⟨(some (false, 27)), .call (.c (.fn 21 [])) [.l 26], none⟩,
  ⟨(some (true, 4)), .new [.int .i64 0, .int .i64 0, .slice none 0 0, .slice none 0 0, .int .i64 0, .int .i64 0, .int .i64 0, .int .i64 0, .int .i64 0, .int .i64 0, .int .i64 0], none⟩,
  ⟨none, .st 11 (.g 4) (.l 27), none⟩])
(.seq
(.reg [
  ⟨(some (false, 28)), .mv (.g 3), none⟩,
  ⟨(some (false, 29)), .call (.c (.fn 45 [])) [.l 28, .c (.lit (.int .i64 0)), .c (.lit (.int .i64 1500))], none⟩,
  ⟨(some (false, 30)), .mv (.g 3), none⟩,
  ⟨(some (false, 31)), .mv (.g 3), none⟩,
  ⟨(some (false, 32)), .call (.c (.fn 37 [])) [.l 31, .c (.lit (.int .i64 3000))], none⟩,
  ⟨(some (false, 33)), .mks false 1 [.c (.lit (.int .i64 0)), .l 32, .c (.lit (.int .i64 10000))], none⟩,
  ⟨(some (false, 34)), .call (.c (.fn 41 [])) [.l 30, .l 33], none⟩,
  ⟨(some (true, 5)), .mv (.l 29), none⟩,
  ⟨(some (true, 6)), .mv (.l 34), none⟩])
(.seq
(.reg [
  ⟨(some (false, 36)), .ld (some 11) (.g 4), none⟩,
  ⟨(some (false, 37)), .mv (.g 5), none⟩,
  ⟨(some (false, 38)), .mv (.g 6), none⟩,
  ⟨(some (false, 39)), .call (.c (.fn 54 [])) [.l 36, .l 37, .l 38], none⟩,
  ⟨(some (false, 35)), .mv (.l 39), none⟩,
  ⟨(some (false, 40)), .ex (.l 35) 0, none⟩,
  ⟨(some (false, 41)), .ex (.l 35) 1, none⟩,
  ⟨(some (true, 7)), .mv (.l 40), none⟩,
  ⟨(some (true, 8)), .mv (.l 41), none⟩])
(.seq
(.draw [
  ⟨⟨(some (false, 43)), .ld (some 11) (.g 4), none⟩, 0, false, []⟩,
  ⟨⟨(some (false, 44)), .mv (.g 5), none⟩, 1, false, []⟩,
  ⟨⟨(some (false, 45)), .mv (.g 3), none⟩, 2, false, []⟩,
  ⟨⟨(some (false, 48)), .mv (.g 6), none⟩, 5, false, []⟩,
  ⟨⟨(some (false, 46)), .call (.c (.fn 37 [])) [.l 45, .c (.lit (.int .i64 100))], none⟩, 3, false, []⟩,
  ⟨⟨(some (false, 47)), .bin .add (.l 44) (.l 46), none⟩, 4, false, []⟩,
  ⟨⟨(some (false, 49)), .call (.c (.fn 54 [])) [.l 43, .l 47, .l 48], none⟩, 6, false, []⟩,
  ⟨⟨(some (false, 42)), .mv (.l 49), none⟩, 7, false, []⟩,
  ⟨⟨(some (false, 50)), .ex (.l 42) 0, none⟩, 8, false, []⟩,
  ⟨⟨(some (false, 51)), .ex (.l 42) 1, none⟩, 9, false, []⟩,
  ⟨⟨(some (true, 9)), .mv (.l 50), none⟩, 10, false, []⟩,
  ⟨⟨(some (true, 10)), .mv (.l 51), none⟩, 11, false, []⟩])
(.seq
(.draw [
  ⟨⟨(some (false, 53)), .ld (some 11) (.g 4), none⟩, 0, false, []⟩,
  ⟨⟨(some (false, 54)), .mv (.g 5), none⟩, 1, false, []⟩,
  ⟨⟨(some (false, 55)), .mv (.g 6), none⟩, 2, false, []⟩,
  ⟨⟨(some (false, 56)), .mv (.g 3), none⟩, 3, false, []⟩,
  ⟨⟨(some (false, 57)), .call (.c (.fn 37 [])) [.l 56, .c (.lit (.int .i64 500))], none⟩, 4, false, []⟩,
  ⟨⟨(some (false, 58)), .bin .add (.l 55) (.l 57), none⟩, 5, false, []⟩,
  ⟨⟨(some (false, 59)), .mn [.c (.lit (.int .i64 10000)), .l 58], none⟩, 6, false, []⟩,
  ⟨⟨(some (false, 60)), .call (.c (.fn 54 [])) [.l 53, .l 54, .l 59], none⟩, 7, false, []⟩,
  ⟨⟨(some (false, 52)), .mv (.l 60), none⟩, 8, false, []⟩,
  ⟨⟨(some (false, 61)), .ex (.l 52) 0, none⟩, 9, false, []⟩,
  ⟨⟨(some (false, 62)), .ex (.l 52) 1, none⟩, 10, false, []⟩,
  ⟨⟨(some (true, 11)), .mv (.l 61), none⟩, 11, false, []⟩,
  ⟨⟨(some (true, 12)), .mv (.l 62), none⟩, 12, false, []⟩])
(.seq
(.seq
(.reg [
  ⟨(some (false, 63)), .mv (.g 8), none⟩,
  ⟨(some (false, 64)), .bin .neq (.l 63) (.c (.lit (.int .i64 0))), none⟩,
  ⟨(some (false, 65)), .mv (.l 64), none⟩,
  ⟨(some (false, 66)), .mv (.g 10), (some (.l 65, false))⟩,
  ⟨(some (false, 67)), .bin .neq (.l 66) (.c (.lit (.int .i64 0))), (some (.l 65, false))⟩,
  ⟨(some (false, 68)), .pick (.l 65) (.c (.lit (.bool true))) (.l 67), none⟩,
  ⟨(some (false, 69)), .mv (.l 68), none⟩,
  ⟨(some (false, 70)), .mv (.g 12), (some (.l 69, false))⟩,
  ⟨(some (false, 71)), .bin .neq (.l 70) (.c (.lit (.int .i64 0))), (some (.l 69, false))⟩,
  ⟨(some (false, 72)), .pick (.l 69) (.c (.lit (.bool true))) (.l 71), none⟩,
  ⟨(some (false, 73)), .mv (.l 72), none⟩,
  ⟨(some (false, 74)), .mv (.g 9), (some (.l 73, false))⟩,
  ⟨(some (false, 75)), .mv (.g 7), (some (.l 73, false))⟩,
  ⟨(some (false, 76)), .bin .lss (.l 74) (.l 75), (some (.l 73, false))⟩,
  ⟨(some (false, 77)), .pick (.l 73) (.c (.lit (.bool true))) (.l 76), none⟩,
  ⟨(some (false, 78)), .mv (.l 77), none⟩,
  ⟨(some (false, 79)), .mv (.g 11), (some (.l 78, false))⟩,
  ⟨(some (false, 80)), .mv (.g 7), (some (.l 78, false))⟩,
  ⟨(some (false, 81)), .bin .gtr (.l 79) (.l 80), (some (.l 78, false))⟩,
  ⟨(some (true, 82)), .pick (.l 78) (.c (.lit (.bool true))) (.l 81), none⟩])
(.cond (.g 82)
(.seq
(.reg [
  ⟨(some (true, 2)), .mv (.c (.lit (.bool false))), none⟩])
.ret)
.skip))
(.seq
(.reg [
  ⟨(some (false, 83)), .mv (.g 7), none⟩,
  ⟨(some (false, 84)), .mv (.g 3), none⟩,
  ⟨(some (false, 85)), .mv (.g 3), none⟩,
  ⟨(some (false, 86)), .call (.c (.fn 45 [])) [.l 85, .c (.lit (.int .i64 (-20000))), .c (.lit (.int .i64 20000))], none⟩,
  ⟨(some (false, 87)), .mks false 1 [.c (.lit (.int .i64 (-1))), .c (.lit (.int .i64 0)), .c (.lit (.int .i64 1)), .l 86], none⟩,
  ⟨(some (false, 88)), .call (.c (.fn 41 [])) [.l 84, .l 87], none⟩,
  ⟨(some (false, 89)), .bin .add (.l 83) (.l 88), none⟩,
  ⟨(some (false, 90)), .mx [.c (.lit (.int .i64 0)), .l 89], none⟩,
  ⟨(some (false, 91)), .mn [.c (.lit (.int .i64 200000)), .l 90], none⟩,
  ⟨(some (true, 13)), .mv (.l 91), none⟩])
(.seq
(.draw [
  ⟨⟨(some (false, 93)), .ld (some 11) (.g 4), none⟩, 0, false, []⟩,
  ⟨⟨(some (false, 94)), .mv (.g 5), none⟩, 1, false, []⟩,
  ⟨⟨(some (false, 97)), .mv (.g 13), none⟩, 4, false, []⟩,
  ⟨⟨(some (false, 99)), .mv (.g 6), none⟩, 6, false, []⟩,
  ⟨⟨(some (false, 95)), .call (.c (.fn 61 [])) [.l 94], none⟩, 2, false, []⟩,
  ⟨⟨(some (false, 96)), .mks false 2 [.l 95], none⟩, 3, false, []⟩,
  ⟨⟨(some (false, 98)), .call (.c (.fn 61 [])) [.l 97], none⟩, 5, false, []⟩,
  ⟨⟨(some (false, 100)), .mk [.int .i64 0, .int .i64 0, .int .i64 0, .int .i64 0] [(0, 1, .c (.lit (.int .i64 7))), (1, 2, .l 98), (3, 1, .l 99)], none⟩, 7, false, []⟩,
  ⟨⟨(some (false, 101)), .mks false 4 [.l 100], none⟩, 8, false, []⟩,
  ⟨⟨(some (false, 102)), .call (.c (.fn 25 [])) [.l 93, .l 96, .c (.lit (.slice none 0 0)), .l 101], none⟩, 9, false, []⟩,
  ⟨⟨(some (false, 92)), .mv (.l 102), none⟩, 10, false, []⟩,
  ⟨⟨(some (false, 103)), .ex (.l 92) 0, none⟩, 11, false, []⟩,
  ⟨⟨(some (false, 104)), .ex (.l 92) 1, none⟩, 12, false, []⟩,
  ⟨⟨(some (true, 14)), .mv (.l 103), none⟩, 13, false, []⟩,
  ⟨⟨(some (true, 15)), .mv (.l 104), none⟩, 14, false, []⟩])
(.seq
(.reg [
  ⟨(some (false, 106)), .ld (some 11) (.g 4), none⟩,
  ⟨(some (false, 107)), .mv (.g 5), none⟩,
  ⟨(some (false, 108)), .mv (.g 13), none⟩,
  ⟨(some (false, 109)), .call (.c (.fn 57 [])) [.l 106, .l 107, .l 108], none⟩,
  ⟨(some (false, 105)), .mv (.l 109), none⟩,
  ⟨(some (false, 110)), .ex (.l 105) 0, none⟩,
  ⟨(some (false, 111)), .ex (.l 105) 1, none⟩,
  ⟨(some (true, 16)), .mv (.l 110), none⟩,
  ⟨(some (true, 17)), .mv (.l 111), none⟩])
(.seq
(.seq
(.reg [
  ⟨(some (false, 112)), .mv (.g 15), none⟩,
  ⟨(some (false, 113)), .bin .neq (.l 112) (.c (.lit (.int .i64 0))), none⟩,
  ⟨(some (false, 114)), .mv (.l 113), none⟩,
  ⟨(some (false, 115)), .mv (.g 17), (some (.l 114, false))⟩,
  ⟨(some (false, 116)), .bin .neq (.l 115) (.c (.lit (.int .i64 0))), (some (.l 114, false))⟩,
  ⟨(some (false, 117)), .pick (.l 114) (.c (.lit (.bool true))) (.l 116), none⟩,
  ⟨(some (false, 118)), .mv (.l 117), none⟩,
  ⟨(some (false, 119)), .mv (.g 14), (some (.l 118, false))⟩,
  ⟨(some (false, 120)), .len (.l 119), (some (.l 118, false))⟩,
  ⟨(some (false, 121)), .bin .neq (.l 120) (.c (.lit (.int .i64 1))), (some (.l 118, false))⟩,
  ⟨(some (false, 122)), .pick (.l 118) (.c (.lit (.bool true))) (.l 121), none⟩,
  ⟨(some (false, 123)), .mv (.l 122), none⟩,
  ⟨(some (false, 124)), .mv (.g 14), (some (.l 123, false))⟩,
  ⟨(some (false, 125)), .ia 1 (.l 124) (.c (.lit (.int .i64 0))), (some (.l 123, false))⟩,
  ⟨(some (false, 126)), .ld none (.l 125), (some (.l 123, false))⟩,
  ⟨(some (false, 127)), .bin .eql (.l 126) (.c (.lit (.int .i64 1))), (some (.l 123, false))⟩,
  ⟨(some (false, 128)), .mv (.g 13), (some (.l 123, false))⟩,
  ⟨(some (false, 129)), .mv (.g 7), (some (.l 123, false))⟩,
  ⟨(some (false, 130)), .bin .leq (.l 128) (.l 129), (some (.l 123, false))⟩,
  ⟨(some (false, 131)), .binb true (.l 127) (.l 130), (some (.l 123, false))⟩,
  ⟨(some (false, 132)), .pick (.l 123) (.c (.lit (.bool true))) (.l 131), none⟩,
  ⟨(some (false, 133)), .mv (.l 132), none⟩,
  ⟨(some (false, 134)), .mv (.g 6), (some (.l 133, false))⟩,
  ⟨(some (false, 135)), .mv (.g 16), (some (.l 133, false))⟩,
  ⟨(some (false, 136)), .bin .leq (.l 134) (.l 135), (some (.l 133, false))⟩,
  ⟨(some (false, 137)), .mv (.g 13), (some (.l 133, false))⟩,
  ⟨(some (false, 138)), .mv (.g 7), (some (.l 133, false))⟩,
  ⟨(some (false, 139)), .bin .leq (.l 137) (.l 138), (some (.l 133, false))⟩,
  ⟨(some (false, 140)), .binb true (.l 136) (.l 139), (some (.l 133, false))⟩,
  ⟨(some (true, 141)), .pick (.l 133) (.c (.lit (.bool true))) (.l 140), none⟩])
(.cond (.g 141)
(.seq
(.reg [
  ⟨(some (true, 2)), .mv (.c (.lit (.bool false))), none⟩])
.ret)
.skip))
(.seq
(.reg [
  ⟨(some (false, 143)), .ld (some 11) (.g 4), none⟩,
  ⟨(some (false, 144)), .mv (.g 13), none⟩,
  ⟨(some (false, 145)), .mv (.g 6), none⟩,
  ⟨(some (false, 146)), .call (.c (.fn 55 [])) [.l 143, .l 144, .l 145], none⟩,
  ⟨(some (false, 142)), .mv (.l 146), none⟩,
  ⟨(some (false, 147)), .ex (.l 142) 0, none⟩,
  ⟨(some (false, 148)), .ex (.l 142) 1, none⟩,
  ⟨(some (true, 18)), .mv (.l 147), none⟩,
  ⟨(some (true, 19)), .mv (.l 148), none⟩])
(.seq
(.seq
(.reg [
  ⟨(some (false, 149)), .mv (.g 19), none⟩,
  ⟨(some (true, 150)), .bin .neq (.l 149) (.c (.lit (.int .i64 0))), none⟩])
(.cond (.g 150)
(.seq
(.reg [
  ⟨(some (false, 152)), .ld (some 11) (.g 4), none⟩,
  ⟨(some (false, 153)), .mv (.g 6), none⟩,
  ⟨(some (false, 154)), .call (.c (.fn 54 [])) [.l 152, .c (.lit (.int .i64 5000)), .l 153], none⟩,
  ⟨(some (false, 151)), .mv (.l 154), none⟩,
  ⟨(some (false, 155)), .ex (.l 151) 0, none⟩,
  ⟨(some (false, 156)), .ex (.l 151) 1, none⟩,
  ⟨(some (true, 20)), .mv (.l 155), none⟩,
  ⟨(some (true, 21)), .mv (.l 156), none⟩])
(.seq
(.reg [
  ⟨(some (false, 157)), .mv (.g 19), none⟩,
  ⟨(some (false, 158)), .bin .eql (.l 157) (.c (.lit (.int .i64 14))), none⟩,
  ⟨(some (false, 159)), .mv (.l 158), none⟩,
  ⟨(some (false, 160)), .mv (.g 21), (some (.l 159, true))⟩,
  ⟨(some (false, 161)), .bin .eql (.l 160) (.c (.lit (.int .i64 0))), (some (.l 159, true))⟩,
  ⟨(some (false, 162)), .pick (.l 159) (.l 161) (.c (.lit (.bool false))), none⟩,
  ⟨(some (false, 163)), .mv (.l 162), none⟩,
  ⟨(some (false, 164)), .mv (.g 20), (some (.l 163, true))⟩,
  ⟨(some (false, 165)), .mv (.g 13), (some (.l 163, true))⟩,
  ⟨(some (false, 166)), .bin .lss (.l 164) (.l 165), (some (.l 163, true))⟩,
  ⟨(some (false, 167)), .pick (.l 163) (.l 166) (.c (.lit (.bool false))), none⟩,
  ⟨(some (false, 168)), .mv (.l 167), none⟩,
  ⟨(some (false, 169)), .call (.c (.fn 19 [])) [], (some (.l 168, true))⟩,
  ⟨(some (false, 170)), .pick (.l 168) (.l 169) (.c (.lit (.bool false))), none⟩,
  ⟨(some (true, 2)), .mv (.l 170), none⟩])
.ret))
.skip))
(.seq
(.reg [
  ⟨(some (false, 172)), .ld (some 11) (.g 4), none⟩,
  ⟨(some (false, 173)), .mv (.g 18), none⟩,
  ⟨(some (false, 174)), .mv (.g 6), none⟩,
  ⟨(some (false, 175)), .call (.c (.fn 54 [])) [.l 172, .l 173, .l 174], none⟩,
  ⟨(some (false, 171)), .mv (.l 175), none⟩,
  ⟨(some (false, 176)), .ex (.l 171) 0, none⟩,
  ⟨(some (false, 177)), .ex (.l 171) 1, none⟩,
  ⟨(some (true, 22)), .mv (.l 176), none⟩,
  ⟨(some (true, 23)), .mv (.l 177), none⟩])
(.seq
(.seq
(.reg [
  ⟨(some (false, 178)), .mv (.g 23), none⟩,
  ⟨(some (false, 179)), .bin .neq (.l 178) (.c (.lit (.int .i64 0))), none⟩,
  ⟨(some (false, 180)), .mv (.l 179), none⟩,
  ⟨(some (false, 181)), .mv (.g 22), (some (.l 180, false))⟩,
  ⟨(some (false, 182)), .mv (.g 13), (some (.l 180, false))⟩,
  ⟨(some (false, 183)), .bin .lss (.l 181) (.l 182), (some (.l 180, false))⟩,
  ⟨(some (false, 184)), .pick (.l 180) (.c (.lit (.bool true))) (.l 183), none⟩,
  ⟨(some (false, 185)), .mv (.l 184), none⟩,
  ⟨(some (false, 186)), .mv (.g 18), (some (.l 185, false))⟩,
  ⟨(some (false, 187)), .mv (.g 5), (some (.l 185, false))⟩,
  ⟨(some (false, 188)), .bin .leq (.l 186) (.l 187), (some (.l 185, false))⟩,
  ⟨(some (false, 189)), .mv (.g 13), (some (.l 185, false))⟩,
  ⟨(some (false, 190)), .mv (.g 7), (some (.l 185, false))⟩,
  ⟨(some (false, 191)), .bin .leq (.l 189) (.l 190), (some (.l 185, false))⟩,
  ⟨(some (false, 192)), .binb true (.l 188) (.l 191), (some (.l 185, false))⟩,
  ⟨(some (true, 193)), .pick (.l 185) (.c (.lit (.bool true))) (.l 192), none⟩])
(.cond (.g 193)
(.seq
(.reg [
  ⟨(some (true, 2)), .mv (.c (.lit (.bool false))), none⟩])
.ret)
.skip))
(.seq
(.seq
(.reg [
  ⟨(some (false, 194)), .mv (.g 18), none⟩,
  ⟨(some (true, 195)), .bin .gtr (.l 194) (.c (.lit (.int .i64 0))), none⟩])
(.cond (.g 195)
(.reg [
  ⟨(some (false, 197)), .ld (some 11) (.g 4), none⟩,
  ⟨(some (false, 198)), .mv (.g 18), none⟩,
  ⟨(some (false, 199)), .bin .sub (.l 198) (.c (.lit (.int .i64 1))), none⟩,
  ⟨(some (false, 200)), .mv (.g 6), none⟩,
  ⟨(some (false, 201)), .call (.c (.fn 54 [])) [.l 197, .l 199, .l 200], none⟩,
  ⟨(some (false, 196)), .mv (.l 201), none⟩,
  ⟨(some (false, 202)), .ex (.l 196) 0, none⟩,
  ⟨(some (false, 203)), .ex (.l 196) 1, none⟩,
  ⟨(some (true, 22)), .mv (.l 202), none⟩,
  ⟨(some (true, 23)), .mv (.l 203), none⟩])
.skip))
(.seq
(.reg [
  ⟨(some (false, 204)), .mv (.g 18), none⟩,
  ⟨(some (false, 205)), .bin .eql (.l 204) (.c (.lit (.int .i64 0))), none⟩,
  ⟨(some (false, 206)), .mv (.l 205), none⟩,
  ⟨(some (false, 207)), .mv (.g 23), (some (.l 206, false))⟩,
  ⟨(some (false, 208)), .bin .eql (.l 207) (.c (.lit (.int .i64 0))), (some (.l 206, false))⟩,
  ⟨(some (false, 209)), .mv (.l 208), (some (.l 206, false))⟩,
  ⟨(some (false, 210)), .mv (.g 22), (some (.l 209, true))⟩,
  ⟨(some (false, 211)), .mv (.g 13), (some (.l 209, true))⟩,
  ⟨(some (false, 212)), .bin .lss (.l 210) (.l 211), (some (.l 209, true))⟩,
  ⟨(some (false, 213)), .pick (.l 209) (.l 212) (.c (.lit (.bool false))), (some (.l 206, false))⟩,
  ⟨(some (false, 214)), .pick (.l 206) (.c (.lit (.bool true))) (.l 213), none⟩,
  ⟨(some (false, 215)), .mv (.l 214), none⟩,
  ⟨(some (false, 216)), .call (.c (.fn 19 [])) [], (some (.l 215, true))⟩,
  ⟨(some (false, 217)), .pick (.l 215) (.l 216) (.c (.lit (.bool false))), none⟩,
  ⟨(some (true, 2)), .mv (.l 217), none⟩])
.ret))))))))))))))))))
def K13 : List Nat := [0, 82, 141, 150, 193, 195, 2, 3, 4, 5, 6, 7, 8, 9, 10, 11, 12, 13, 14, 15, 16, 17, 18, 19, 20, 21, 22, 23]
noncomputable def b13 : Code := match Try.f13.body with | some c => c | none => .skip
theorem t13 : trCode ⟨Try.prog, K13, [], 218, none⟩ b13 = some c13 := by kernel_rfl
theorem go13 {args : List AV} {H : AHeap} {Kk : AV → AHeap → Prop} (hn : args.length = 1) (h : AGo ⟨Try.prog, K13, [], 218, none⟩ H.length [.code c13] (RetP [.t (.g 2)] H.length Kk) ⟨[], argsG 0 args⟩ H) : ACalls Try.prog 13 args H Kk :=
  ACalls_of Try.func13 (c := b13) rfl (by kernel_rfl) t13 (rs := [.t (.g 2)]) (by kernel_rfl) (by rw [hn]; exact Nat.le_of_ble_eq_true rfl) (by rw [hn]; rfl) (h.weaken (fun _ _ => RetP.hands) (by simp))

/-- sastrugi/sastrugilaw03.BearGaps -/
def c14 : ACode :=
  (.seq
(.reg [
  ⟨(some (true, 4)), .box (.g 0), none⟩,
  ⟨(some (true, 8)), .mv (.c (.lit (.bool false))), none⟩])
(.seq
(.seq
(.reg [
  ⟨(some (false, 20)), .ld (some 11) (.g 4), none⟩,
  ⟨(some (false, 21)), .call (.c (.fn 18 [])) [.l 20], none⟩,
  ⟨(some (false, 22)), .mv (.l 21), none⟩,
  ⟨(some (false, 23)), .mv (.g 2), (some (.l 22, false))⟩,
  ⟨(some (false, 24)), .len (.l 23), (some (.l 22, false))⟩,
  ⟨(some (false, 25)), .bin .gtr (.l 24) (.c (.lit (.int .i64 60))), (some (.l 22, false))⟩,
  ⟨(some (true, 26)), .pick (.l 22) (.c (.lit (.bool true))) (.l 25), none⟩])
(.cond (.g 26)
(.seq
(.reg [
  ⟨(some (false, 27)), .call (.c (.fn 19 [])) [], none⟩,
  ⟨(some (true, 8)), .mv (.l 27), none⟩])
.ret)
.skip))
(.seq
(.reg [
  ⟨(some (false, 28)), .mv (.g 3), none⟩,
  ⟨(some (false, 29)), .call (.c (.fn 20 [])) [.l 28], none⟩,
  ⟨(some (true, 9)), .mv (.l 29), none⟩])
(.seq
(.reg [
  ⟨(some (false, 30)), .mv (.g 9), none⟩,
  ⟨(some (false, 31)), .call (.c (.fn 21 [])) [.l 30], none⟩,
  ⟨(some (false, 32)), .mv (.g 9), none⟩,
  ⟨(some (false, 33)), .call (.c (.fn 62 [])) [.l 32, .c (.lit (.int .i64 6))], none⟩,
  ⟨(some (true, 10)), .new [.int .i64 0, .int .i64 0, .slice none 0 0, .slice none 0 0, .int .i64 0, .int .i64 0, .int .i64 0, .int .i64 0, .int .i64 0, .int .i64 0, .int .i64 0], none⟩,
  ⟨none, .st 11 (.g 10) (.l 31), none⟩,
  ⟨(some (true, 11)), .mv (.l 33), none⟩])
(.seq
(.draw [
  ⟨⟨(some (false, 34)), .ld (some 11) (.g 4), none⟩, 0, false, []⟩,
  ⟨⟨(some (false, 35)), .ld (some 11) (.g 10), none⟩, 1, false, []⟩,
  ⟨⟨(some (false, 36)), .ld (some 11) (.g 10), none⟩, 2, false, []⟩,
  ⟨⟨(some (false, 37)), .mks false 11 [.l 34, .l 35, .l 36], none⟩, 3, false, []⟩,
  ⟨⟨(some (false, 38)), .mv (.g 1), none⟩, 4, false, []⟩,
  ⟨⟨(some (false, 39)), .mv (.g 9), none⟩, 5, false, []⟩,
  ⟨⟨(some (false, 41)), .mv (.g 1), none⟩, 7, false, []⟩,
  ⟨⟨(some (false, 43)), .mv (.g 2), none⟩, 9, false, []⟩,
  ⟨⟨(some (false, 44)), .mv (.g 11), none⟩, 10, false, []⟩,
  ⟨⟨(some (false, 45)), .mv (.g 11), none⟩, 11, false, []⟩,
  ⟨⟨(some (false, 46)), .mks false 1 [.l 43, .l 44, .l 45], none⟩, 12, false, []⟩,
  ⟨⟨(some (false, 40)), .call (.c (.fn 45 [])) [.l 39, .c (.lit (.int .i64 0)), .c (.lit (.int .i64 1200))], none⟩, 6, false, []⟩,
  ⟨⟨(some (false, 42)), .mks false 1 [.l 38, .l 40, .l 41], none⟩, 8, false, []⟩,
  ⟨⟨(some (true, 12)), .mv (.l 37), none⟩, 13, false, []⟩,
  ⟨⟨(some (true, 13)), .mv (.l 42), none⟩, 14, false, []⟩,
  ⟨⟨(some (true, 14)), .mv (.l 46), none⟩, 15, false, []⟩])
(.seq
(.seq
(.reg [
  ⟨(some (true, 15)), .mv (.c (.lit (.int .i64 0))), none⟩])
(.block 0
(.loop
(.seq
(.seq
(.reg [
  ⟨(some (false, 47)), .mv (.g 15), none⟩,
  ⟨(some (false, 48)), .mv (.g 12), none⟩,
  ⟨(some (false, 49)), .len (.l 48), none⟩,
  ⟨(some (true, 50)), .bin .lss (.l 47) (.l 49), none⟩])
(.cond (.g 50)
.skip
(.exit 0)))
(.seq
(.block 1
(.seq
(.draw [
  ⟨⟨(some (false, 54)), .mv (.g 12), none⟩, 0, false, []⟩,
  ⟨⟨(some (false, 55)), .mv (.g 15), none⟩, 1, false, []⟩,
  ⟨⟨(some (false, 56)), .ia 11 (.l 54) (.l 55), none⟩, 2, false, []⟩,
  ⟨⟨(some (false, 57)), .ld (some 11) (.l 56), none⟩, 3, false, []⟩,
  ⟨⟨(some (false, 58)), .mv (.g 13), none⟩, 4, false, []⟩,
  ⟨⟨(some (false, 59)), .mv (.g 15), none⟩, 5, false, []⟩,
  ⟨⟨(some (false, 60)), .ia 1 (.l 58) (.l 59), none⟩, 6, false, []⟩,
  ⟨⟨(some (false, 61)), .ld none (.l 60), none⟩, 7, false, []⟩,
  ⟨⟨(some (false, 62)), .mv (.g 14), none⟩, 8, false, []⟩,
  ⟨⟨(some (false, 63)), .mv (.g 15), none⟩, 9, false, []⟩,
  ⟨⟨(some (false, 64)), .ia 1 (.l 62) (.l 63), none⟩, 10, false, []⟩,
  ⟨⟨(some (false, 65)), .ld none (.l 64), none⟩, 11, false, []⟩,
  ⟨⟨(some (false, 66)), .call (.c (.fn 63 [])) [.l 57, .l 61, .l 65], none⟩, 12, false, []⟩,
  ⟨⟨(some (false, 53)), .mv (.l 66), none⟩, 13, false, []⟩,
  ⟨⟨(some (false, 67)), .ex (.l 53) 0, none⟩, 14, false, []⟩,
  ⟨⟨(some (false, 68)), .ex (.l 53) 1, none⟩, 15, false, []⟩,
  ⟨⟨(some (true, 16)), .mv (.l 67), none⟩, 16, false, []⟩,
  ⟨⟨(some (true, 17)), .mv (.l 68), none⟩, 17, false, []⟩])
(.seq
(.draw [
  ⟨⟨(some (false, 70)), .mv (.g 12), none⟩, 0, false, []⟩,
  ⟨⟨(some (false, 71)), .mv (.g 15), none⟩, 1, false, []⟩,
  ⟨⟨(some (false, 72)), .ia 11 (.l 70) (.l 71), none⟩, 2, false, []⟩,
  ⟨⟨(some (false, 73)), .ld (some 11) (.l 72), none⟩, 3, false, []⟩,
  ⟨⟨(some (false, 74)), .mv (.g 13), none⟩, 4, false, []⟩,
  ⟨⟨(some (false, 75)), .mv (.g 15), none⟩, 5, false, []⟩,
  ⟨⟨(some (false, 76)), .ia 1 (.l 74) (.l 75), none⟩, 6, false, []⟩,
  ⟨⟨(some (false, 77)), .ld none (.l 76), none⟩, 7, false, []⟩,
  ⟨⟨(some (false, 78)), .mv (.g 14), none⟩, 8, false, []⟩,
  ⟨⟨(some (false, 79)), .mv (.g 15), none⟩, 9, false, []⟩,
  ⟨⟨(some (false, 80)), .ia 1 (.l 78) (.l 79), none⟩, 10, false, []⟩,
  ⟨⟨(some (false, 81)), .ld none (.l 80), none⟩, 11, false, []⟩,
  ⟨⟨(some (false, 82)), .call (.c (.fn 64 [])) [.l 73, .l 77, .l 81], none⟩, 12, false, []⟩,
  ⟨⟨(some (false, 69)), .mv (.l 82), none⟩, 13, false, []⟩,
  ⟨⟨(some (false, 83)), .ex (.l 69) 0, none⟩, 14, false, []⟩,
  ⟨⟨(some (false, 84)), .ex (.l 69) 1, none⟩, 15, false, []⟩,
  ⟨⟨(some (true, 18)), .mv (.l 83), none⟩, 16, false, []⟩,
  ⟨⟨(some (true, 19)), .mv (.l 84), none⟩, 17, false, []⟩])
(.seq
(.reg [
  ⟨(some (false, 85)), .mv (.g 16), none⟩,
  ⟨(some (false, 86)), .mv (.g 18), none⟩,
  ⟨(some (false, 87)), .bin .neq (.l 85) (.l 86), none⟩,
  ⟨(some (false, 88)), .mv (.l 87), none⟩,
  ⟨(some (false, 89)), .mv (.g 17), (some (.l 88, false))⟩,
  ⟨(some (false, 90)), .mv (.g 19), (some (.l 88, false))⟩,
  ⟨(some (false, 91)), .bin .neq (.l 89) (.l 90), (some (.l 88, false))⟩,
  ⟨(some (true, 92)), .pick (.l 88) (.c (.lit (.bool true))) (.l 91), none⟩])
(.cond (.g 92)
(.seq
(.reg [
  ⟨(some (true, 8)), .mv (.c (.lit (.bool false))), none⟩])
.ret)
.skip)))))
(.reg [
  ⟨(some (false, 51)), .mv (.g 15), none⟩,
  ⟨(some (false, 52)), .bin .add (.l 51) (.c (.lit (.int .i64 1))), none⟩,
  ⟨(some (true, 15)), .mv (.l 52), none⟩]))))))
(.seq
(.reg [
  ⟨(some (false, 93)), .call (.c (.fn 19 [])) [], none⟩,
  ⟨(some (true, 8)), .mv (.l 93), none⟩])
.ret)))))))
def K14 : List Nat := [0, 1, 2, 3, 26, 50, 92, 8, 4, 9, 10, 11, 12, 13, 14, 15, 16, 17, 18, 19]
noncomputable def b14 : Code := match Try.f14.body with | some c => c | none => .skip
theorem t14 : trCode ⟨Try.prog, K14, [], 94, none⟩ b14 = some c14 := by kernel_rfl
theorem go14 {args : List AV} {H : AHeap} {Kk : AV → AHeap → Prop} (hn : args.length = 4) (h : AGo ⟨Try.prog, K14, [], 94, none⟩ H.length [.code c14] (RetP [.t (.g 8)] H.length Kk) ⟨[], argsG 0 args⟩ H) : ACalls Try.prog 14 args H Kk :=
  ACalls_of Try.func14 (c := b14) rfl (by kernel_rfl) t14 (rs := [.t (.g 8)]) (by kernel_rfl) (by rw [hn]; exact Nat.le_of_ble_eq_true rfl) (by rw [hn]; rfl) (h.weaken (fun _ _ => RetP.hands) (by simp))

/-- sastrugi/sastrugilaw03.BearApart -/
def c16 : ACode :=
  (.seq
(.reg [
  ⟨(some (true, 4)), .mv (.c (.lit (.bool false))), none⟩])
(.seq
(.reg [
  ⟨(some (false, 11)), .mv (.g 0), none⟩,
  ⟨(some (false, 12)), .call (.c (.fn 20 [])) [.l 11], none⟩,
  ⟨(some (true, 5)), .mv (.l 12), none⟩])
(.seq
(.reg [
  ⟨(some (false, 13)), .mv (.g 5), none⟩,
  ⟨(some (false, 14)), .call (.c (.fn 21 [])) [.l 13], none⟩,
  ⟨(some (false, 15)), .mv (.g 5), none⟩,
  ⟨(some (false, 16)), .call (.c (.fn 45 [])) [.l 15, .c (.lit (.int .i64 0)), .c (.lit (.int .i64 1200))], none⟩,
  ⟨(some (true, 6)), .new [.int .i64 0, .int .i64 0, .slice none 0 0, .slice none 0 0, .int .i64 0, .int .i64 0, .int .i64 0, .int .i64 0, .int .i64 0, .int .i64 0, .int .i64 0], none⟩,
  ⟨none, .st 11 (.g 6) (.l 14), none⟩,
  ⟨(some (true, 7)), .mv (.l 16), none⟩])
(.seq
(.reg [
  ⟨(some (false, 17)), .mv (.g 5), none⟩,
  ⟨(some (false, 18)), .call (.c (.fn 62 [])) [.l 17, .c (.lit (.int .i64 5))], none⟩,
  ⟨(some (true, 8)), .mv (.l 18), none⟩])
(.seq
(.reg [
  ⟨(some (false, 20)), .ld (some 11) (.g 6), none⟩,
  ⟨(some (false, 21)), .mv (.g 7), none⟩,
  ⟨(some (false, 22)), .mv (.g 8), none⟩,
  ⟨(some (false, 23)), .call (.c (.fn 63 [])) [.l 20, .l 21, .l 22], none⟩,
  ⟨(some (false, 19)), .mv (.l 23), none⟩,
  ⟨(some (false, 24)), .ex (.l 19) 0, none⟩,
  ⟨(some (false, 25)), .ex (.l 19) 1, none⟩,
  ⟨(some (true, 9)), .mv (.l 24), none⟩,
  ⟨(some (true, 10)), .mv (.l 25), none⟩])
(.seq
(.seq
(.reg [
  ⟨(some (false, 26)), .mv (.g 10), none⟩,
  ⟨(some (false, 27)), .bin .neq (.l 26) (.c (.lit (.int .i64 0))), none⟩,
  ⟨(some (false, 28)), .mv (.l 27), none⟩,
  ⟨(some (false, 29)), .mv (.g 9), (some (.l 28, false))⟩,
  ⟨(some (false, 30)), .bin .lss (.l 29) (.c (.lit (.int .i64 (-1)))), (some (.l 28, false))⟩,
  ⟨(some (false, 31)), .pick (.l 28) (.c (.lit (.bool true))) (.l 30), none⟩,
  ⟨(some (false, 32)), .mv (.l 31), none⟩,
  ⟨(some (false, 33)), .mv (.g 9), (some (.l 32, false))⟩,
  ⟨(some (false, 34)), .bin .gtr (.l 33) (.c (.lit (.int .i64 10000))), (some (.l 32, false))⟩,
  ⟨(some (true, 35)), .pick (.l 32) (.c (.lit (.bool true))) (.l 34), none⟩])
(.cond (.g 35)
(.seq
(.reg [
  ⟨(some (true, 4)), .mv (.c (.lit (.bool false))), none⟩])
.ret)
.skip))
(.seq
(.reg [
  ⟨(some (false, 36)), .mv (.g 1), none⟩,
  ⟨(some (false, 37)), .call (.c (.fn 77 [])) [.l 36, .c (.lit (.int .i64 1000))], none⟩,
  ⟨(some (true, 1)), .mv (.l 37), none⟩])
(.seq
(.seq
(.reg [
  ⟨(some (false, 38)), .mv (.g 9), none⟩,
  ⟨(some (true, 39)), .bin .lss (.l 38) (.c (.lit (.int .i64 0))), none⟩])
(.cond (.g 39)
(.seq
(.reg [
  ⟨(some (false, 40)), .ld (some 11) (.g 6), none⟩,
  ⟨(some (false, 41)), .mv (.g 7), none⟩,
  ⟨(some (false, 42)), .mv (.g 8), none⟩,
  ⟨(some (false, 43)), .mv (.g 1), none⟩,
  ⟨(some (false, 44)), .call (.c (.fn 78 [])) [.l 40, .l 41, .l 42, .l 43], none⟩,
  ⟨(some (false, 45)), .un .not (.l 44), none⟩,
  ⟨(some (false, 46)), .mv (.l 45), none⟩,
  ⟨(some (false, 47)), .call (.c (.fn 19 [])) [], (some (.l 46, true))⟩,
  ⟨(some (false, 48)), .pick (.l 46) (.l 47) (.c (.lit (.bool false))), none⟩,
  ⟨(some (true, 4)), .mv (.l 48), none⟩])
.ret)
.skip))
(.seq
(.seq
(.reg [
  ⟨(some (false, 49)), .mv (.g 9), none⟩,
  ⟨(some (true, 50)), .bin .gtr (.l 49) (.c (.lit (.int .i64 4000))), none⟩])
(.cond (.g 50)
(.seq
(.reg [
  ⟨(some (false, 51)), .call (.c (.fn 19 [])) [], none⟩,
  ⟨(some (true, 4)), .mv (.l 51), none⟩])
.ret)
.skip))
(.seq
(.reg [
  ⟨(some (false, 52)), .ld (some 11) (.g 6), none⟩,
  ⟨(some (false, 53)), .mv (.g 7), none⟩,
  ⟨(some (false, 54)), .mv (.g 8), none⟩,
  ⟨(some (false, 55)), .mv (.g 9), none⟩,
  ⟨(some (false, 56)), .call (.c (.fn 78 [])) [.l 52, .l 53, .l 54, .l 55], none⟩,
  ⟨(some (false, 57)), .mv (.l 56), none⟩,
  ⟨(some (false, 58)), .ld (some 11) (.g 6), (some (.l 57, true))⟩,
  ⟨(some (false, 59)), .mv (.g 7), (some (.l 57, true))⟩,
  ⟨(some (false, 60)), .mv (.g 8), (some (.l 57, true))⟩,
  ⟨(some (false, 61)), .mv (.g 9), (some (.l 57, true))⟩,
  ⟨(some (false, 62)), .mv (.g 1), (some (.l 57, true))⟩,
  ⟨(some (false, 63)), .bin .add (.l 61) (.l 62), (some (.l 57, true))⟩,
  ⟨(some (false, 64)), .call (.c (.fn 78 [])) [.l 58, .l 59, .l 60, .l 63], (some (.l 57, true))⟩,
  ⟨(some (false, 65)), .pick (.l 57) (.l 64) (.c (.lit (.bool false))), none⟩,
  ⟨(some (false, 66)), .mv (.l 65), none⟩,
  ⟨(some (false, 67)), .mv (.g 9), (some (.l 66, true))⟩,
  ⟨(some (false, 68)), .bin .eql (.l 67) (.c (.lit (.int .i64 0))), (some (.l 66, true))⟩,
  ⟨(some (false, 69)), .mv (.l 68), (some (.l 66, true))⟩,
  ⟨(some (false, 70)), .ld (some 11) (.g 6), (some (.l 69, false))⟩,
  ⟨(some (false, 71)), .mv (.g 7), (some (.l 69, false))⟩,
  ⟨(some (false, 72)), .mv (.g 8), (some (.l 69, false))⟩,
  ⟨(some (false, 73)), .mv (.g 9), (some (.l 69, false))⟩,
  ⟨(some (false, 74)), .bin .sub (.l 73) (.c (.lit (.int .i64 1))), (some (.l 69, false))⟩,
  ⟨(some (false, 75)), .call (.c (.fn 78 [])) [.l 70, .l 71, .l 72, .l 74], (some (.l 69, false))⟩,
  ⟨(some (false, 76)), .un .not (.l 75), (some (.l 69, false))⟩,
  ⟨(some (false, 77)), .pick (.l 69) (.c (.lit (.bool true))) (.l 76), (some (.l 66, true))⟩,
  ⟨(some (false, 78)), .pick (.l 66) (.l 77) (.c (.lit (.bool false))), none⟩,
  ⟨(some (false, 79)), .mv (.l 78), none⟩,
  ⟨(some (false, 80)), .call (.c (.fn 19 [])) [], (some (.l 79, true))⟩,
  ⟨(some (false, 81)), .pick (.l 79) (.l 80) (.c (.lit (.bool false))), none⟩,
  ⟨(some (true, 4)), .mv (.l 81), none⟩])
.ret))))))))))
def K16 : List Nat := [0, 1, 35, 39, 50, 4, 5, 6, 7, 8, 9, 10]
noncomputable def b16 : Code := match Try.f16.body with | some c => c | none => .skip
theorem t16 : trCode ⟨Try.prog, K16, [], 82, none⟩ b16 = some c16 := by kernel_rfl
theorem go16 {args : List AV} {H : AHeap} {Kk : AV → AHeap → Prop} (hn : args.length = 2) (h : AGo ⟨Try.prog, K16, [], 82, none⟩ H.length [.code c16] (RetP [.t (.g 4)] H.length Kk) ⟨[], argsG 0 args⟩ H) : ACalls Try.prog 16 args H Kk :=
  ACalls_of Try.func16 (c := b16) rfl (by kernel_rfl) t16 (rs := [.t (.g 4)]) (by kernel_rfl) (by rw [hn]; exact Nat.le_of_ble_eq_true rfl) (by rw [hn]; rfl) (h.weaken (fun _ _ => RetP.hands) (by simp))

end Go.Sas
