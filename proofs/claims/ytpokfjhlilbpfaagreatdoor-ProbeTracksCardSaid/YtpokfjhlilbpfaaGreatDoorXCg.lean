/-
The code of some functions with its types resolved, printed by a program; that it is the code is checked by the kernel.
The code of some functions with its types resolved, printed by a program; that it is the code is checked by the kernel.
The code of some functions with its types resolved, printed by a program; that it is the code is checked by the kernel.
Conditions: none.
-/
import Derived.Test.YtpokfjhlilbpfaaGreatDoorP4g
import Derived.Test.YtpokfjhlilbpfaaGreatDoorProg
set_option linter.unusedVariables false
set_option linter.unusedSimpArgs false
namespace Go.Sas
open Go.Proofs
set_option maxRecDepth 100000
/-- sastrugi/probe.checkTrack -/
def c27 : ACode :=
  (.seq
(.reg [
  ⟨(some (true, 1)), .box (.g 0), none⟩,
  ⟨(some (true, 2)), .mv (.c (.lit (.int .i64 0))), none⟩])
(.seq
(.block 0
(.seq
(.reg [
  ⟨(some (false, 6)), .fa (.g 1) 0, none⟩,
  ⟨(some (false, 7)), .fa (.l 6) 0, none⟩,
  ⟨(some (false, 8)), .ld none (.l 7), none⟩,
  ⟨(some (false, 9)), .call (.c (.fn 41 [])) [.l 8, .c (.lit (.int .i64 1)), .c (.lit (.int .i64 1000))], none⟩,
  ⟨(some (false, 10)), .un .not (.l 9), none⟩,
  ⟨(some (false, 11)), .mv (.l 10), none⟩,
  ⟨(some (false, 12)), .fa (.g 1) 0, (some (.l 11, false))⟩,
  ⟨(some (false, 13)), .fa (.l 12) 1, (some (.l 11, false))⟩,
  ⟨(some (false, 14)), .ld none (.l 13), (some (.l 11, false))⟩,
  ⟨(some (false, 15)), .call (.c (.fn 41 [])) [.l 14, .c (.lit (.int .i64 1)), .c (.lit (.int .i64 1000))], (some (.l 11, false))⟩,
  ⟨(some (false, 16)), .un .not (.l 15), (some (.l 11, false))⟩,
  ⟨(some (false, 17)), .pick (.l 11) (.c (.lit (.bool true))) (.l 16), none⟩,
  ⟨(some (true, 5)), .mv (.l 17), none⟩])
(.cond (.g 5)
(.seq
(.reg [
  ⟨(some (true, 2)), .mv (.c (.lit (.int .i64 2))), none⟩])
.ret)
(.seq
(.reg [
  ⟨(some (false, 19)), .fa (.g 1) 0, none⟩,
  ⟨(some (false, 20)), .fa (.l 19) 0, none⟩,
  ⟨(some (false, 21)), .ld none (.l 20), none⟩,
  ⟨(some (false, 22)), .fa (.g 1) 0, none⟩,
  ⟨(some (false, 23)), .fa (.l 22) 1, none⟩,
  ⟨(some (false, 24)), .ld none (.l 23), none⟩,
  ⟨(some (false, 25)), .bin .gtr (.l 21) (.l 24), none⟩,
  ⟨(some (true, 18)), .mv (.l 25), none⟩])
(.cond (.g 18)
(.seq
(.reg [
  ⟨(some (true, 2)), .mv (.c (.lit (.int .i64 11))), none⟩])
.ret)
(.seq
(.reg [
  ⟨(some (false, 27)), .fa (.g 1) 2, none⟩,
  ⟨(some (false, 28)), .ld none (.l 27), none⟩,
  ⟨(some (false, 29)), .len (.l 28), none⟩,
  ⟨(some (false, 30)), .bin .gtr (.l 29) (.c (.lit (.int .i64 200))), none⟩,
  ⟨(some (true, 26)), .mv (.l 30), none⟩])
(.cond (.g 26)
(.seq
(.reg [
  ⟨(some (true, 2)), .mv (.c (.lit (.int .i64 8))), none⟩])
.ret)
.skip)))))))
(.seq
(.seq
(.reg [
  ⟨(some (false, 31)), .fa (.g 1) 2, none⟩,
  ⟨(some (true, 32)), .ld none (.l 31), none⟩,
  ⟨(some (true, 33)), .len (.g 32), none⟩,
  ⟨(some (true, 34)), .mv (.c (.lit (.int .i64 0))), none⟩])
(.block 1
(.loop
(.seq
(.reg [
  ⟨(some (true, 35)), .bin .lss (.g 34) (.g 33), none⟩])
(.seq
(.cond (.g 35)
.skip
(.exit 1))
(.seq
(.block 2
(.seq
(.reg [
  ⟨(some (false, 36)), .ia 4 (.g 32) (.g 34), none⟩,
  ⟨(some (false, 37)), .ld (some 4) (.l 36), none⟩,
  ⟨(some (true, 4)), .new [.int .i64 0, .int .i64 0, .int .i64 0, .int .i64 0], none⟩,
  ⟨none, .st 4 (.g 4) (.l 37), none⟩])
(.block 3
(.seq
(.reg [
  ⟨(some (false, 39)), .fa (.g 4) 0, none⟩,
  ⟨(some (false, 40)), .ld none (.l 39), none⟩,
  ⟨(some (false, 41)), .call (.c (.fn 41 [])) [.l 40, .c (.lit (.int .i64 0)), .c (.lit (.int .i64 999))], none⟩,
  ⟨(some (false, 42)), .un .not (.l 41), none⟩,
  ⟨(some (false, 43)), .mv (.l 42), none⟩,
  ⟨(some (false, 44)), .fa (.g 4) 1, (some (.l 43, false))⟩,
  ⟨(some (false, 45)), .ld none (.l 44), (some (.l 43, false))⟩,
  ⟨(some (false, 46)), .call (.c (.fn 41 [])) [.l 45, .c (.lit (.int .i64 0)), .c (.lit (.int .i64 10000))], (some (.l 43, false))⟩,
  ⟨(some (false, 47)), .un .not (.l 46), (some (.l 43, false))⟩,
  ⟨(some (false, 48)), .pick (.l 43) (.c (.lit (.bool true))) (.l 47), none⟩,
  ⟨(some (false, 49)), .mv (.l 48), none⟩,
  ⟨(some (false, 50)), .fa (.g 4) 2, (some (.l 49, false))⟩,
  ⟨(some (false, 51)), .fa (.l 50) 0, (some (.l 49, false))⟩,
  ⟨(some (false, 52)), .ld none (.l 51), (some (.l 49, false))⟩,
  ⟨(some (false, 53)), .call (.c (.fn 41 [])) [.l 52, .c (.lit (.int .i64 0)), .c (.lit (.int .i64 1000000))], (some (.l 49, false))⟩,
  ⟨(some (false, 54)), .un .not (.l 53), (some (.l 49, false))⟩,
  ⟨(some (false, 55)), .pick (.l 49) (.c (.lit (.bool true))) (.l 54), none⟩,
  ⟨(some (false, 56)), .mv (.l 55), none⟩,
  ⟨(some (false, 57)), .fa (.g 4) 2, (some (.l 56, false))⟩,
  ⟨(some (false, 58)), .fa (.l 57) 1, (some (.l 56, false))⟩,
  ⟨(some (false, 59)), .ld none (.l 58), (some (.l 56, false))⟩,
  ⟨(some (false, 60)), .call (.c (.fn 41 [])) [.l 59, .c (.lit (.int .i64 0)), .c (.lit (.int .i64 1000000))], (some (.l 56, false))⟩,
  ⟨(some (false, 61)), .un .not (.l 60), (some (.l 56, false))⟩,
  ⟨(some (false, 62)), .pick (.l 56) (.c (.lit (.bool true))) (.l 61), none⟩,
  ⟨(some (true, 38)), .mv (.l 62), none⟩])
(.cond (.g 38)
(.seq
(.reg [
  ⟨(some (true, 2)), .mv (.c (.lit (.int .i64 2))), none⟩])
.ret)
(.seq
(.reg [
  ⟨(some (false, 64)), .fa (.g 4) 2, none⟩,
  ⟨(some (false, 65)), .fa (.l 64) 0, none⟩,
  ⟨(some (false, 66)), .ld none (.l 65), none⟩,
  ⟨(some (false, 67)), .fa (.g 4) 2, none⟩,
  ⟨(some (false, 68)), .fa (.l 67) 1, none⟩,
  ⟨(some (false, 69)), .ld none (.l 68), none⟩,
  ⟨(some (false, 70)), .bin .gtr (.l 66) (.l 69), none⟩,
  ⟨(some (true, 63)), .mv (.l 70), none⟩])
(.cond (.g 63)
(.seq
(.reg [
  ⟨(some (true, 2)), .mv (.c (.lit (.int .i64 11))), none⟩])
.ret)
.skip)))))))
(.reg [
  ⟨(some (false, 71)), .bin .add (.g 34) (.c (.lit (.int .i64 1))), none⟩,
  ⟨(some (true, 34)), .mv (.l 71), none⟩])))))))
(.seq
(.reg [
  ⟨(some (true, 2)), .mv (.c (.lit (.int .i64 0))), none⟩])
.ret))))
def K27 : List Nat := [0, 5, 18, 26, 35, 38, 63, 2, 1, 32, 33, 34, 4]
noncomputable def b27 : Code := match Tryz.f27.body with | some c => c | none => .skip
theorem t27 : trCode ⟨Tryz.prog, K27, [], 72, none⟩ b27 = some c27 := by kernel_rfl
theorem go27 {args : List AV} {H : AHeap} {Kk : AV → AHeap → Prop} (hn : args.length = 1) (h : AGo ⟨Tryz.prog, K27, [], 72, none⟩ H.length [.code c27] (RetP [.t (.g 2)] H.length Kk) ⟨[], argsG 0 args⟩ H) : ACalls Tryz.prog 27 args H Kk :=
  ACalls_of Tryz.func27 (c := b27) rfl (by kernel_rfl) t27 (rs := [.t (.g 2)]) (by kernel_rfl) (by rw [hn]; exact Nat.le_of_ble_eq_true rfl) (by rw [hn]; rfl) (h.weaken (fun _ _ => RetP.hands) (by simp))

/-- sastrugi/probe.Read -/
def c9 : ACode :=
  (.seq
(.reg [
  ⟨(some (true, 2)), .new [.int .i64 0, .int .i64 0, .slice none 0 0], none⟩,
  ⟨(some (true, 3)), .mv (.c (.lit (.int .i64 0))), none⟩,
  ⟨(some (true, 4)), .mv (.c (.lit (.int .i64 0))), none⟩])
(.seq
(.seq
(.reg [
  ⟨(some (false, 14)), .mv (.g 0), none⟩,
  ⟨(some (false, 15)), .lens (.l 14), none⟩,
  ⟨(some (true, 16)), .bin .gtr (.l 15) (.c (.lit (.int .i64 20000))), none⟩])
(.cond (.g 16)
(.seq
(.reg [
  ⟨(some (false, 17)), .mk [.int .i64 0, .int .i64 0, .slice none 0 0] [], none⟩,
  ⟨none, .st 3 (.g 2) (.l 17), none⟩,
  ⟨(some (true, 3)), .mv (.c (.lit (.int .i64 0))), none⟩,
  ⟨(some (true, 4)), .mv (.c (.lit (.int .i64 5))), none⟩])
.ret)
.skip))
(.seq
(.reg [
  ⟨(some (false, 18)), .mv (.g 0), none⟩,
  ⟨(some (false, 19)), .call (.c (.fn 33 [])) [.l 18, .c (.lit (.string ⟨[10].toArray⟩))], none⟩,
  ⟨(some (true, 5)), .mv (.l 19), none⟩])
(.seq
(.reg [
  ⟨(some (false, 20)), .mv (.g 5), none⟩,
  ⟨(some (false, 21)), .len (.l 20), none⟩,
  ⟨(some (false, 22)), .bin .sub (.l 21) (.c (.lit (.int .i64 1))), none⟩,
  ⟨(some (true, 6)), .mv (.l 22), none⟩])
(.seq
(.seq
(.reg [
  ⟨(some (false, 23)), .mv (.g 5), none⟩,
  ⟨(some (false, 24)), .mv (.g 6), none⟩,
  ⟨(some (true, 25)), .sl 1 (.l 23) none (some (.l 24)) none, none⟩,
  ⟨(some (true, 26)), .len (.g 25), none⟩,
  ⟨(some (true, 27)), .mv (.c (.lit (.int .i64 0))), none⟩])
(.block 0
(.loop
(.seq
(.reg [
  ⟨(some (true, 28)), .bin .lss (.g 27) (.g 26), none⟩])
(.seq
(.cond (.g 28)
.skip
(.exit 0))
(.seq
(.block 1
(.seq
(.reg [
  ⟨(some (false, 29)), .mv (.g 27), none⟩,
  ⟨(some (false, 30)), .ia 1 (.g 25) (.g 27), none⟩,
  ⟨(some (false, 31)), .ld none (.l 30), none⟩,
  ⟨(some (true, 7)), .mv (.l 29), none⟩,
  ⟨(some (true, 8)), .mv (.l 31), none⟩])
(.seq
(.seq
(.reg [
  ⟨(some (false, 32)), .mv (.g 7), none⟩,
  ⟨(some (true, 33)), .bin .eql (.l 32) (.c (.lit (.int .i64 0))), none⟩])
(.cond (.g 33)
(.seq
(.reg [
  ⟨(some (false, 35)), .mv (.g 8), none⟩,
  ⟨(some (false, 36)), .call (.c (.fn 34 [])) [.l 35, .c (.lit (.string ⟨[114, 97, 100, 97, 114].toArray⟩)), .c (.lit (.int .i64 2))], none⟩,
  ⟨(some (false, 34)), .mv (.l 36), none⟩,
  ⟨(some (false, 37)), .ex (.l 34) 0, none⟩,
  ⟨(some (false, 38)), .ex (.l 34) 1, none⟩,
  ⟨(some (true, 9)), .mv (.l 37), none⟩,
  ⟨(some (true, 10)), .mv (.l 38), none⟩])
(.seq
(.seq
(.reg [
  ⟨(some (false, 39)), .mv (.g 10), none⟩,
  ⟨(some (true, 40)), .un .not (.l 39), none⟩])
(.cond (.g 40)
(.seq
(.reg [
  ⟨(some (false, 41)), .mk [.int .i64 0, .int .i64 0, .slice none 0 0] [], none⟩,
  ⟨none, .st 3 (.g 2) (.l 41), none⟩,
  ⟨(some (true, 3)), .mv (.c (.lit (.int .i64 1))), none⟩,
  ⟨(some (true, 4)), .mv (.c (.lit (.int .i64 3))), none⟩])
.ret)
.skip))
(.seq
(.draw [
  ⟨⟨(some (false, 42)), .mv (.g 9), none⟩, 0, true, []⟩,
  ⟨⟨(some (false, 43)), .ia 1 (.l 42) (.c (.lit (.int .i64 0))), none⟩, 1, true, []⟩,
  ⟨⟨(some (false, 44)), .ld none (.l 43), none⟩, 2, true, []⟩,
  ⟨⟨(some (false, 45)), .mv (.g 9), none⟩, 3, true, []⟩,
  ⟨⟨(some (false, 46)), .ia 1 (.l 45) (.c (.lit (.int .i64 1))), none⟩, 4, true, []⟩,
  ⟨⟨(some (false, 47)), .ld none (.l 46), none⟩, 5, true, []⟩,
  ⟨⟨(some (false, 48)), .mk [.int .i64 0, .int .i64 0] [(0, 1, .l 44), (1, 1, .l 47)], none⟩, 6, true, []⟩,
  ⟨⟨(some (false, 49)), .fa (.g 2) 0, none⟩, 7, true, []⟩,
  ⟨⟨none, .st 2 (.l 49) (.l 48), none⟩, 8, true, []⟩])
(.exit 1))))
.skip))
(.seq
(.reg [
  ⟨(some (false, 51)), .mv (.g 8), none⟩,
  ⟨(some (false, 52)), .call (.c (.fn 34 [])) [.l 51, .c (.lit (.string ⟨[101, 99, 104, 111].toArray⟩)), .c (.lit (.int .i64 4))], none⟩,
  ⟨(some (false, 50)), .mv (.l 52), none⟩,
  ⟨(some (false, 53)), .ex (.l 50) 0, none⟩,
  ⟨(some (false, 54)), .ex (.l 50) 1, none⟩,
  ⟨(some (true, 11)), .mv (.l 53), none⟩,
  ⟨(some (true, 12)), .mv (.l 54), none⟩])
(.seq
(.seq
(.reg [
  ⟨(some (false, 55)), .mv (.g 12), none⟩,
  ⟨(some (true, 56)), .un .not (.l 55), none⟩])
(.cond (.g 56)
(.seq
(.reg [
  ⟨(some (false, 57)), .mk [.int .i64 0, .int .i64 0, .slice none 0 0] [], none⟩,
  ⟨(some (false, 58)), .mv (.g 7), none⟩,
  ⟨(some (false, 59)), .bin .add (.l 58) (.c (.lit (.int .i64 1))), none⟩,
  ⟨none, .st 3 (.g 2) (.l 57), none⟩,
  ⟨(some (true, 3)), .mv (.l 59), none⟩,
  ⟨(some (true, 4)), .mv (.c (.lit (.int .i64 3))), none⟩])
.ret)
.skip))
(.draw [
  ⟨⟨(some (false, 60)), .fa (.g 2) 2, none⟩, 0, true, []⟩,
  ⟨⟨(some (false, 61)), .ld none (.l 60), none⟩, 1, true, []⟩,
  ⟨⟨(some (false, 62)), .mv (.g 11), none⟩, 2, true, []⟩,
  ⟨⟨(some (false, 63)), .ia 1 (.l 62) (.c (.lit (.int .i64 0))), none⟩, 3, true, []⟩,
  ⟨⟨(some (false, 64)), .ld none (.l 63), none⟩, 4, true, []⟩,
  ⟨⟨(some (false, 65)), .mv (.g 11), none⟩, 5, true, []⟩,
  ⟨⟨(some (false, 66)), .ia 1 (.l 65) (.c (.lit (.int .i64 1))), none⟩, 6, true, []⟩,
  ⟨⟨(some (false, 67)), .ld none (.l 66), none⟩, 7, true, []⟩,
  ⟨⟨(some (false, 68)), .mv (.g 11), none⟩, 8, true, []⟩,
  ⟨⟨(some (false, 69)), .ia 1 (.l 68) (.c (.lit (.int .i64 2))), none⟩, 9, true, []⟩,
  ⟨⟨(some (false, 70)), .ld none (.l 69), none⟩, 10, true, []⟩,
  ⟨⟨(some (false, 71)), .mv (.g 11), none⟩, 11, true, []⟩,
  ⟨⟨(some (false, 72)), .ia 1 (.l 71) (.c (.lit (.int .i64 3))), none⟩, 12, true, []⟩,
  ⟨⟨(some (false, 73)), .ld none (.l 72), none⟩, 13, true, []⟩,
  ⟨⟨(some (false, 74)), .mk [.int .i64 0, .int .i64 0] [(0, 1, .l 70), (1, 1, .l 73)], none⟩, 14, true, []⟩,
  ⟨⟨(some (false, 75)), .mk [.int .i64 0, .int .i64 0, .int .i64 0, .int .i64 0] [(0, 1, .l 64), (1, 1, .l 67), (2, 2, .l 74)], none⟩, 15, true, []⟩,
  ⟨⟨(some (false, 76)), .mks false 4 [.l 75], none⟩, 16, true, []⟩,
  ⟨⟨(some (false, 77)), .app 4 32 (.l 61) (.l 76), none⟩, 17, false, []⟩,
  ⟨⟨(some (false, 78)), .fa (.g 2) 2, none⟩, 18, true, []⟩,
  ⟨⟨none, .st 1 (.l 78) (.l 77), none⟩, 19, true, []⟩]))))))
(.reg [
  ⟨(some (false, 79)), .bin .add (.g 27) (.c (.lit (.int .i64 1))), none⟩,
  ⟨(some (true, 27)), .mv (.l 79), none⟩])))))))
(.seq
(.seq
(.reg [
  ⟨(some (false, 80)), .mv (.g 6), none⟩,
  ⟨(some (false, 81)), .bin .eql (.l 80) (.c (.lit (.int .i64 0))), none⟩,
  ⟨(some (false, 82)), .mv (.l 81), none⟩,
  ⟨(some (false, 83)), .mv (.g 5), (some (.l 82, false))⟩,
  ⟨(some (false, 84)), .mv (.g 6), (some (.l 82, false))⟩,
  ⟨(some (false, 85)), .ia 1 (.l 83) (.l 84), (some (.l 82, false))⟩,
  ⟨(some (false, 86)), .ld none (.l 85), (some (.l 82, false))⟩,
  ⟨(some (false, 87)), .bin .neq (.l 86) (.c (.lit (.string ⟨[].toArray⟩))), (some (.l 82, false))⟩,
  ⟨(some (true, 88)), .pick (.l 82) (.c (.lit (.bool true))) (.l 87), none⟩])
(.cond (.g 88)
(.seq
(.reg [
  ⟨(some (false, 89)), .mk [.int .i64 0, .int .i64 0, .slice none 0 0] [], none⟩,
  ⟨(some (false, 90)), .mv (.g 6), none⟩,
  ⟨(some (false, 91)), .bin .add (.l 90) (.c (.lit (.int .i64 1))), none⟩,
  ⟨none, .st 3 (.g 2) (.l 89), none⟩,
  ⟨(some (true, 3)), .mv (.l 91), none⟩,
  ⟨(some (true, 4)), .mv (.c (.lit (.int .i64 3))), none⟩])
.ret)
.skip))
(.seq
(.seq
(.reg [
  ⟨(some (false, 92)), .ld (some 3) (.g 2), none⟩,
  ⟨(some (false, 93)), .call (.c (.fn 27 [])) [.l 92], none⟩,
  ⟨(some (true, 13)), .mv (.l 93), none⟩])
(.seq
(.reg [
  ⟨(some (false, 94)), .mv (.g 13), none⟩,
  ⟨(some (true, 95)), .bin .neq (.l 94) (.c (.lit (.int .i64 0))), none⟩])
(.cond (.g 95)
(.seq
(.reg [
  ⟨(some (false, 96)), .mk [.int .i64 0, .int .i64 0, .slice none 0 0] [], none⟩,
  ⟨(some (false, 97)), .mv (.g 13), none⟩,
  ⟨none, .st 3 (.g 2) (.l 96), none⟩,
  ⟨(some (true, 3)), .mv (.c (.lit (.int .i64 0))), none⟩,
  ⟨(some (true, 4)), .mv (.l 97), none⟩])
.ret)
.skip)))
(.seq
(.reg [
  ⟨(some (false, 98)), .ld (some 3) (.g 2), none⟩,
  ⟨none, .st 3 (.g 2) (.l 98), none⟩,
  ⟨(some (true, 3)), .mv (.c (.lit (.int .i64 0))), none⟩,
  ⟨(some (true, 4)), .mv (.c (.lit (.int .i64 0))), none⟩])
.ret))))))))
def K9 : List Nat := [0, 16, 28, 33, 40, 56, 88, 95, 2, 3, 4, 5, 6, 25, 26, 27, 7, 8, 9, 10, 11, 12, 13]
noncomputable def b9 : Code := match Tryz.f9.body with | some c => c | none => .skip
theorem t9 : trCode ⟨Tryz.prog, K9, [], 99, none⟩ b9 = some c9 := by kernel_rfl
theorem go9 {args : List AV} {H : AHeap} {Kk : AV → AHeap → Prop} (hn : args.length = 1) (h : AGo ⟨Tryz.prog, K9, [], 99, none⟩ H.length [.code c9] (RetP [.cell (.g 2) (some 3), .t (.g 3), .t (.g 4)] H.length Kk) ⟨[], argsG 0 args⟩ H) : ACalls Tryz.prog 9 args H Kk :=
  ACalls_of Tryz.func9 (c := b9) rfl (by kernel_rfl) t9 (rs := [.cell (.g 2) (some 3), .t (.g 3), .t (.g 4)]) (by kernel_rfl) (by rw [hn]; exact Nat.le_of_ble_eq_true rfl) (by rw [hn]; rfl) (h.weaken (fun _ _ => RetP.hands) (by simp))

/-- sastrugi/sastrugikit.TrackOf -/
def c6 : ACode :=
  (.seq
(.reg [
  ⟨(some (true, 4)), .new [.int .i64 0, .int .i64 0, .slice none 0 0], none⟩])
(.seq
(.reg [
  ⟨(some (false, 7)), .mv (.g 0), none⟩,
  ⟨(some (false, 8)), .call (.c (.fn 23 [])) [.l 7, .c (.lit (.int .i64 150)), .c (.lit (.int .i64 180))], none⟩,
  ⟨(some (false, 9)), .mk [.int .i64 0, .int .i64 0, .slice none 0 0] [(0, 2, .l 8)], none⟩,
  ⟨(some (true, 5)), .new [.int .i64 0, .int .i64 0, .slice none 0 0], none⟩,
  ⟨none, .st 3 (.g 5) (.l 9), none⟩])
(.seq
(.seq
(.reg [
  ⟨(some (false, 10)), .mv (.g 0), none⟩,
  ⟨(some (false, 11)), .mv (.g 1), none⟩,
  ⟨(some (false, 12)), .bin .add (.l 11) (.c (.lit (.int .i64 1))), none⟩,
  ⟨(some (false, 13)), .call (.c (.fn 24 [])) [.l 10, .l 12], none⟩,
  ⟨(some (true, 6)), .mv (.l 13), none⟩])
(.block 0
(.loop
(.seq
(.seq
(.reg [
  ⟨(some (false, 14)), .mv (.g 6), none⟩,
  ⟨(some (true, 15)), .bin .gtr (.l 14) (.c (.lit (.int .i64 0))), none⟩])
(.cond (.g 15)
.skip
(.exit 0)))
(.seq
(.block 1
(.draw [
  ⟨⟨(some (false, 18)), .fa (.g 5) 2, none⟩, 0, true, []⟩,
  ⟨⟨(some (false, 19)), .ld none (.l 18), none⟩, 1, true, []⟩,
  ⟨⟨(some (false, 20)), .mv (.g 0), none⟩, 2, true, []⟩,
  ⟨⟨(some (false, 22)), .mv (.g 0), none⟩, 4, true, []⟩,
  ⟨⟨(some (false, 24)), .mv (.g 0), none⟩, 6, true, []⟩,
  ⟨⟨(some (false, 25)), .mv (.g 0), none⟩, 7, true, []⟩,
  ⟨⟨(some (false, 26)), .mks false 1 [.c (.lit (.int .i64 20000)), .c (.lit (.int .i64 50000))], none⟩, 8, true, []⟩,
  ⟨⟨(some (false, 21)), .call (.c (.fn 24 [])) [.l 20, .c (.lit (.int .i64 20))], none⟩, 3, false, []⟩,
  ⟨⟨(some (false, 23)), .call (.c (.fn 24 [])) [.l 22, .c (.lit (.int .i64 30))], none⟩, 5, false, []⟩,
  ⟨⟨(some (false, 27)), .call (.c (.fn 25 [])) [.l 25, .l 26], none⟩, 9, false, []⟩,
  ⟨⟨(some (false, 28)), .call (.c (.fn 23 [])) [.l 24, .c (.lit (.int .i64 0)), .l 27], none⟩, 10, false, []⟩,
  ⟨⟨(some (false, 29)), .mk [.int .i64 0, .int .i64 0, .int .i64 0, .int .i64 0] [(0, 1, .l 21), (1, 1, .l 23), (2, 2, .l 28)], none⟩, 11, true, []⟩,
  ⟨⟨(some (false, 30)), .mks false 4 [.l 29], none⟩, 12, true, []⟩,
  ⟨⟨(some (false, 31)), .app 4 32 (.l 19) (.l 30), none⟩, 13, false, []⟩,
  ⟨⟨(some (false, 32)), .fa (.g 5) 2, none⟩, 14, true, []⟩,
  ⟨⟨none, .st 1 (.l 32) (.l 31), none⟩, 15, true, []⟩]))
(.reg [
  ⟨(some (false, 16)), .mv (.g 6), none⟩,
  ⟨(some (false, 17)), .bin .sub (.l 16) (.c (.lit (.int .i64 1))), none⟩,
  ⟨(some (true, 6)), .mv (.l 17), none⟩]))))))
(.seq
(.reg [
  ⟨(some (false, 33)), .ld (some 3) (.g 5), none⟩,
  ⟨none, .st 3 (.g 4) (.l 33), none⟩])
.ret))))
def K6 : List Nat := [0, 1, 15, 4, 5, 6]
noncomputable def b6 : Code := match Tryz.f6.body with | some c => c | none => .skip
theorem t6 : trCode ⟨Tryz.prog, K6, [], 34, none⟩ b6 = some c6 := by kernel_rfl
theorem go6 {args : List AV} {H : AHeap} {Kk : AV → AHeap → Prop} (hn : args.length = 2) (h : AGo ⟨Tryz.prog, K6, [], 34, none⟩ H.length [.code c6] (RetP [.cell (.g 4) (some 3)] H.length Kk) ⟨[], argsG 0 args⟩ H) : ACalls Tryz.prog 6 args H Kk :=
  ACalls_of Tryz.func6 (c := b6) rfl (by kernel_rfl) t6 (rs := [.cell (.g 4) (some 3)]) (by kernel_rfl) (by rw [hn]; exact Nat.le_of_ble_eq_true rfl) (by rw [hn]; rfl) (h.weaken (fun _ _ => RetP.hands) (by simp))

/-- sastrugi/sastrugikit.SameTracks -/
def c10 : ACode :=
  (.seq
(.reg [
  ⟨(some (true, 2)), .box (.g 0), none⟩,
  ⟨(some (true, 3)), .box (.g 1), none⟩,
  ⟨(some (true, 4)), .mv (.c (.lit (.bool false))), none⟩])
(.seq
(.seq
(.reg [
  ⟨(some (false, 6)), .fa (.g 2) 0, none⟩,
  ⟨(some (false, 7)), .ld (some 2) (.l 6), none⟩,
  ⟨(some (false, 8)), .fa (.g 3) 0, none⟩,
  ⟨(some (false, 9)), .ld (some 2) (.l 8), none⟩,
  ⟨(some (false, 10)), .eqs true (.fld 0 none .i (.fld 1 none .i .nil)) (.l 7) (.l 9), none⟩,
  ⟨(some (false, 11)), .mv (.l 10), none⟩,
  ⟨(some (false, 12)), .fa (.g 2) 2, (some (.l 11, false))⟩,
  ⟨(some (false, 13)), .ld none (.l 12), (some (.l 11, false))⟩,
  ⟨(some (false, 14)), .len (.l 13), (some (.l 11, false))⟩,
  ⟨(some (false, 15)), .fa (.g 3) 2, (some (.l 11, false))⟩,
  ⟨(some (false, 16)), .ld none (.l 15), (some (.l 11, false))⟩,
  ⟨(some (false, 17)), .len (.l 16), (some (.l 11, false))⟩,
  ⟨(some (false, 18)), .bin .neq (.l 14) (.l 17), (some (.l 11, false))⟩,
  ⟨(some (true, 19)), .pick (.l 11) (.c (.lit (.bool true))) (.l 18), none⟩])
(.cond (.g 19)
(.seq
(.reg [
  ⟨(some (true, 4)), .mv (.c (.lit (.bool false))), none⟩])
.ret)
.skip))
(.seq
(.seq
(.reg [
  ⟨(some (true, 5)), .mv (.c (.lit (.int .i64 0))), none⟩])
(.block 0
(.loop
(.seq
(.seq
(.reg [
  ⟨(some (false, 20)), .mv (.g 5), none⟩,
  ⟨(some (false, 21)), .fa (.g 2) 2, none⟩,
  ⟨(some (false, 22)), .ld none (.l 21), none⟩,
  ⟨(some (false, 23)), .len (.l 22), none⟩,
  ⟨(some (true, 24)), .bin .lss (.l 20) (.l 23), none⟩])
(.cond (.g 24)
.skip
(.exit 0)))
(.seq
(.block 1
(.seq
(.draw [
  ⟨⟨(some (false, 27)), .fa (.g 2) 2, none⟩, 0, true, []⟩,
  ⟨⟨(some (false, 28)), .ld none (.l 27), none⟩, 1, true, []⟩,
  ⟨⟨(some (false, 29)), .mv (.g 5), none⟩, 2, true, []⟩,
  ⟨⟨(some (false, 30)), .ia 4 (.l 28) (.l 29), none⟩, 3, true, []⟩,
  ⟨⟨(some (false, 31)), .ld (some 4) (.l 30), none⟩, 4, true, []⟩,
  ⟨⟨(some (false, 32)), .fa (.g 3) 2, none⟩, 5, true, []⟩,
  ⟨⟨(some (false, 33)), .ld none (.l 32), none⟩, 6, true, []⟩,
  ⟨⟨(some (false, 34)), .mv (.g 5), none⟩, 7, true, []⟩,
  ⟨⟨(some (false, 35)), .ia 4 (.l 33) (.l 34), none⟩, 8, true, []⟩,
  ⟨⟨(some (false, 36)), .ld (some 4) (.l 35), none⟩, 9, true, []⟩,
  ⟨⟨(some (true, 37)), .eqs true (.fld 0 none .i (.fld 1 none .i (.fld 2 (some 2) (.fld 0 none .i (.fld 1 none .i .nil)) .nil))) (.l 31) (.l 36), none⟩, 10, true, []⟩])
(.cond (.g 37)
(.seq
(.reg [
  ⟨(some (true, 4)), .mv (.c (.lit (.bool false))), none⟩])
.ret)
.skip)))
(.reg [
  ⟨(some (false, 25)), .mv (.g 5), none⟩,
  ⟨(some (false, 26)), .bin .add (.l 25) (.c (.lit (.int .i64 1))), none⟩,
  ⟨(some (true, 5)), .mv (.l 26), none⟩]))))))
(.seq
(.reg [
  ⟨(some (true, 4)), .mv (.c (.lit (.bool true))), none⟩])
.ret))))
def K10 : List Nat := [0, 1, 19, 24, 37, 4, 2, 3, 5]
noncomputable def b10 : Code := match Tryz.f10.body with | some c => c | none => .skip
theorem t10 : trCode ⟨Tryz.prog, K10, [], 38, none⟩ b10 = some c10 := by kernel_rfl
theorem go10 {args : List AV} {H : AHeap} {Kk : AV → AHeap → Prop} (hn : args.length = 2) (h : AGo ⟨Tryz.prog, K10, [], 38, none⟩ H.length [.code c10] (RetP [.t (.g 4)] H.length Kk) ⟨[], argsG 0 args⟩ H) : ACalls Tryz.prog 10 args H Kk :=
  ACalls_of Tryz.func10 (c := b10) rfl (by kernel_rfl) t10 (rs := [.t (.g 4)]) (by kernel_rfl) (by rw [hn]; exact Nat.le_of_ble_eq_true rfl) (by rw [hn]; rfl) (h.weaken (fun _ _ => RetP.hands) (by simp))

/-- sastrugi/sastrugilaw02.ProbeTape -/
def c3 : ACode :=
  (.seq
(.reg [
  ⟨(some (true, 4)), .mv (.c (.lit (.bool false))), none⟩])
(.seq
(.seq
(.reg [
  ⟨(some (false, 16)), .mv (.g 1), none⟩,
  ⟨(some (false, 17)), .lens (.l 16), none⟩,
  ⟨(some (true, 18)), .bin .gtr (.l 17) (.c (.lit (.int .i64 2000))), none⟩])
(.cond (.g 18)
(.seq
(.reg [
  ⟨(some (false, 19)), .call (.c (.fn 5 [])) [], none⟩,
  ⟨(some (true, 4)), .mv (.l 19), none⟩])
.ret)
.skip))
(.seq
(.reg [
  ⟨(some (false, 20)), .mv (.g 0), none⟩,
  ⟨(some (false, 21)), .call (.c (.fn 7 [])) [.l 20], none⟩,
  ⟨(some (false, 22)), .call (.c (.fn 6 [])) [.l 21, .c (.lit (.int .i64 20))], none⟩,
  ⟨(some (true, 5)), .new [.int .i64 0, .int .i64 0, .slice none 0 0], none⟩,
  ⟨none, .st 3 (.g 5) (.l 22), none⟩])
(.seq
(.reg [
  ⟨(some (false, 24)), .ld (some 3) (.g 5), none⟩,
  ⟨(some (false, 25)), .call (.c (.fn 8 [])) [.l 24], none⟩,
  ⟨(some (false, 23)), .mv (.l 25), none⟩,
  ⟨(some (false, 26)), .ex (.l 23) 0, none⟩,
  ⟨(some (false, 27)), .ex (.l 23) 1, none⟩,
  ⟨(some (true, 6)), .mv (.l 26), none⟩,
  ⟨(some (true, 7)), .mv (.l 27), none⟩])
(.seq
(.reg [
  ⟨(some (false, 29)), .mv (.g 6), none⟩,
  ⟨(some (false, 30)), .call (.c (.fn 9 [])) [.l 29], none⟩,
  ⟨(some (false, 28)), .mv (.l 30), none⟩,
  ⟨(some (false, 31)), .ex (.l 28) 0, none⟩,
  ⟨(some (false, 32)), .ex (.l 28) 1, none⟩,
  ⟨(some (false, 33)), .ex (.l 28) 2, none⟩,
  ⟨(some (true, 8)), .new [.int .i64 0, .int .i64 0, .slice none 0 0], none⟩,
  ⟨none, .st 3 (.g 8) (.l 31), none⟩,
  ⟨(some (true, 9)), .mv (.l 32), none⟩,
  ⟨(some (true, 10)), .mv (.l 33), none⟩])
(.seq
(.seq
(.reg [
  ⟨(some (false, 34)), .mv (.g 7), none⟩,
  ⟨(some (false, 35)), .bin .neq (.l 34) (.c (.lit (.int .i64 0))), none⟩,
  ⟨(some (false, 36)), .mv (.l 35), none⟩,
  ⟨(some (false, 37)), .mv (.g 10), (some (.l 36, false))⟩,
  ⟨(some (false, 38)), .bin .neq (.l 37) (.c (.lit (.int .i64 0))), (some (.l 36, false))⟩,
  ⟨(some (false, 39)), .pick (.l 36) (.c (.lit (.bool true))) (.l 38), none⟩,
  ⟨(some (false, 40)), .mv (.l 39), none⟩,
  ⟨(some (false, 41)), .mv (.g 9), (some (.l 40, false))⟩,
  ⟨(some (false, 42)), .bin .neq (.l 41) (.c (.lit (.int .i64 0))), (some (.l 40, false))⟩,
  ⟨(some (false, 43)), .pick (.l 40) (.c (.lit (.bool true))) (.l 42), none⟩,
  ⟨(some (false, 44)), .mv (.l 43), none⟩,
  ⟨(some (false, 45)), .ld (some 3) (.g 5), (some (.l 44, false))⟩,
  ⟨(some (false, 46)), .ld (some 3) (.g 8), (some (.l 44, false))⟩,
  ⟨(some (false, 47)), .call (.c (.fn 10 [])) [.l 45, .l 46], (some (.l 44, false))⟩,
  ⟨(some (false, 48)), .un .not (.l 47), (some (.l 44, false))⟩,
  ⟨(some (true, 49)), .pick (.l 44) (.c (.lit (.bool true))) (.l 48), none⟩])
(.cond (.g 49)
(.seq
(.reg [
  ⟨(some (true, 4)), .mv (.c (.lit (.bool false))), none⟩])
.ret)
.skip))
(.seq
(.reg [
  ⟨(some (false, 51)), .mv (.g 1), none⟩,
  ⟨(some (false, 52)), .call (.c (.fn 9 [])) [.l 51], none⟩,
  ⟨(some (false, 50)), .mv (.l 52), none⟩,
  ⟨(some (false, 53)), .ex (.l 50) 0, none⟩,
  ⟨(some (false, 54)), .ex (.l 50) 1, none⟩,
  ⟨(some (false, 55)), .ex (.l 50) 2, none⟩,
  ⟨(some (true, 11)), .new [.int .i64 0, .int .i64 0, .slice none 0 0], none⟩,
  ⟨none, .st 3 (.g 11) (.l 53), none⟩,
  ⟨(some (false, 12)), .mv (.l 54), none⟩,
  ⟨(some (true, 13)), .mv (.l 55), none⟩])
(.seq
(.seq
(.reg [
  ⟨(some (false, 56)), .mv (.g 13), none⟩,
  ⟨(some (true, 57)), .bin .neq (.l 56) (.c (.lit (.int .i64 0))), none⟩])
(.cond (.g 57)
(.seq
(.reg [
  ⟨(some (false, 58)), .call (.c (.fn 5 [])) [], none⟩,
  ⟨(some (true, 4)), .mv (.l 58), none⟩])
.ret)
.skip))
(.seq
(.reg [
  ⟨(some (false, 60)), .ld (some 3) (.g 11), none⟩,
  ⟨(some (false, 61)), .call (.c (.fn 8 [])) [.l 60], none⟩,
  ⟨(some (false, 59)), .mv (.l 61), none⟩,
  ⟨(some (false, 62)), .ex (.l 59) 0, none⟩,
  ⟨(some (false, 63)), .ex (.l 59) 1, none⟩,
  ⟨(some (true, 14)), .mv (.l 62), none⟩,
  ⟨(some (true, 15)), .mv (.l 63), none⟩])
(.seq
(.reg [
  ⟨(some (false, 64)), .mv (.g 15), none⟩,
  ⟨(some (false, 65)), .bin .eql (.l 64) (.c (.lit (.int .i64 0))), none⟩,
  ⟨(some (false, 66)), .mv (.l 65), none⟩,
  ⟨(some (false, 67)), .mv (.g 14), (some (.l 66, true))⟩,
  ⟨(some (false, 68)), .mv (.g 1), (some (.l 66, true))⟩,
  ⟨(some (false, 69)), .bin .eql (.l 67) (.l 68), (some (.l 66, true))⟩,
  ⟨(some (false, 70)), .pick (.l 66) (.l 69) (.c (.lit (.bool false))), none⟩,
  ⟨(some (false, 71)), .mv (.l 70), none⟩,
  ⟨(some (false, 72)), .call (.c (.fn 5 [])) [], (some (.l 71, true))⟩,
  ⟨(some (false, 73)), .pick (.l 71) (.l 72) (.c (.lit (.bool false))), none⟩,
  ⟨(some (true, 4)), .mv (.l 73), none⟩])
.ret))))))))))
def K3 : List Nat := [0, 1, 18, 49, 57, 4, 5, 6, 7, 8, 9, 10, 11, 13, 14, 15]
noncomputable def b3 : Code := match Tryz.f3.body with | some c => c | none => .skip
theorem t3 : trCode ⟨Tryz.prog, K3, [], 74, none⟩ b3 = some c3 := by kernel_rfl
end Go.Sas
namespace Go.Sas
open Go.Proofs
set_option maxRecDepth 100000
/-- sastrugi/probe.numbers -/
def c34m : ACode :=
  (.seq
(.reg [
  ⟨(some (true, 6)), .mv (.c (.lit (.slice none 0 0))), none⟩,
  ⟨(some (true, 7)), .mv (.c (.lit (.bool false))), none⟩])
(.seq
(.reg [
  ⟨(some (false, 14)), .mv (.g 0), none⟩,
  ⟨(some (false, 15)), .call (.c (.fn 33 [])) [.l 14, .c (.lit (.string ⟨[32].toArray⟩))], none⟩,
  ⟨(some (true, 8)), .mv (.l 15), none⟩])
(.seq
(.seq
(.reg [
  ⟨(some (false, 16)), .mv (.g 8), none⟩,
  ⟨(some (false, 17)), .ia 1 (.l 16) (.c (.lit (.int .i64 0))), none⟩,
  ⟨(some (false, 18)), .ld none (.l 17), none⟩,
  ⟨(some (false, 19)), .mv (.g 1), none⟩,
  ⟨(some (false, 20)), .bin .neq (.l 18) (.l 19), none⟩,
  ⟨(some (false, 21)), .mv (.l 20), none⟩,
  ⟨(some (false, 22)), .mv (.g 8), (some (.l 21, false))⟩,
  ⟨(some (false, 23)), .len (.l 22), (some (.l 21, false))⟩,
  ⟨(some (false, 24)), .mv (.g 2), (some (.l 21, false))⟩,
  ⟨(some (false, 25)), .bin .add (.l 24) (.c (.lit (.int .i64 1))), (some (.l 21, false))⟩,
  ⟨(some (false, 26)), .bin .neq (.l 23) (.l 25), (some (.l 21, false))⟩,
  ⟨(some (true, 27)), .pick (.l 21) (.c (.lit (.bool true))) (.l 26), none⟩])
(.cond (.g 27)
(.seq
(.reg [
  ⟨(some (true, 6)), .mv (.c (.lit (.slice none 0 0))), none⟩,
  ⟨(some (true, 7)), .mv (.c (.lit (.bool false))), none⟩])
.ret)
.skip))
(.seq
(.reg [
  ⟨(some (true, 9)), .mv (.c (.lit (.slice none 0 0))), none⟩])
(.seq
(.seq
(.reg [
  ⟨(some (false, 28)), .mv (.g 8), none⟩,
  ⟨(some (true, 29)), .sl 1 (.l 28) (some (.c (.lit (.int .i64 1)))) none none, none⟩,
  ⟨(some (true, 30)), .len (.g 29), none⟩,
  ⟨(some (true, 31)), .mv (.c (.lit (.int .i64 0))), none⟩])
(.block 0
(.loop
(.seq
(.reg [
  ⟨(some (true, 32)), .bin .lss (.g 31) (.g 30), none⟩])
(.seq
(.cond (.g 32)
.skip
(.exit 0))
(.seq
(.block 1
(.seq
(.reg [
  ⟨(some (false, 33)), .ia 1 (.g 29) (.g 31), none⟩,
  ⟨(some (false, 34)), .ld none (.l 33), none⟩,
  ⟨(some (true, 11)), .mv (.l 34), none⟩])
(.seq
(.reg [
  ⟨(some (false, 36)), .mv (.g 11), none⟩,
  ⟨(some (false, 37)), .call (.c (.fn 52 [])) [.l 36], none⟩,
  ⟨(some (false, 35)), .mv (.l 37), none⟩,
  ⟨(some (false, 38)), .ex (.l 35) 0, none⟩,
  ⟨(some (false, 39)), .ex (.l 35) 1, none⟩,
  ⟨(some (true, 12)), .mv (.l 38), none⟩,
  ⟨(some (true, 13)), .mv (.l 39), none⟩])
(.seq
(.seq
(.reg [
  ⟨(some (false, 40)), .mv (.g 13), none⟩,
  ⟨(some (false, 41)), .eqi true (.l 40), none⟩,
  ⟨(some (false, 42)), .mv (.l 41), none⟩,
  ⟨(some (false, 43)), .mv (.g 12), (some (.l 42, false))⟩,
  ⟨(some (false, 44)), .bin .lss (.l 43) (.c (.lit (.int .i64 0))), (some (.l 42, false))⟩,
  ⟨(some (false, 45)), .pick (.l 42) (.c (.lit (.bool true))) (.l 44), none⟩,
  ⟨(some (false, 46)), .mv (.l 45), none⟩,
  ⟨(some (false, 47)), .mv (.g 11), (some (.l 46, false))⟩,
  ⟨(some (false, 48)), .lens (.l 47), (some (.l 46, false))⟩,
  ⟨(some (false, 49)), .bin .gtr (.l 48) (.c (.lit (.int .i64 9))), (some (.l 46, false))⟩,
  ⟨(some (false, 50)), .pick (.l 46) (.c (.lit (.bool true))) (.l 49), none⟩,
  ⟨(some (false, 51)), .mv (.l 50), none⟩,
  ⟨(some (false, 52)), .mv (.g 12), (some (.l 51, false))⟩,
  ⟨(some (false, 53)), .call (.c (.fn 30 [])) [.l 52], (some (.l 51, false))⟩,
  ⟨(some (false, 54)), .mv (.g 11), (some (.l 51, false))⟩,
  ⟨(some (false, 55)), .bin .neq (.l 53) (.l 54), (some (.l 51, false))⟩,
  ⟨(some (true, 56)), .pick (.l 51) (.c (.lit (.bool true))) (.l 55), none⟩])
(.cond (.g 56)
(.seq
(.reg [
  ⟨(some (true, 6)), .mv (.c (.lit (.slice none 0 0))), none⟩,
  ⟨(some (true, 7)), .mv (.c (.lit (.bool false))), none⟩])
.ret)
.skip))
(.reg [
  ⟨(some (false, 57)), .mv (.g 9), none⟩,
  ⟨(some (false, 58)), .mv (.g 12), none⟩,
  ⟨(some (false, 59)), .mks false 1 [.l 58], none⟩,
  ⟨(some (false, 60)), .app 1 8 (.l 57) (.l 59), none⟩,
  ⟨(some (true, 9)), .mv (.l 60), none⟩])))))
(.reg [
  ⟨(some (false, 61)), .bin .add (.g 31) (.c (.lit (.int .i64 1))), none⟩,
  ⟨(some (true, 31)), .mv (.l 61), none⟩])))))))
(.seq
(.reg [
  ⟨(some (false, 62)), .mv (.g 9), none⟩,
  ⟨(some (true, 6)), .mv (.l 62), none⟩,
  ⟨(some (true, 7)), .mv (.c (.lit (.bool true))), none⟩])
.ret))))))
def K34m : List Nat := [0, 1, 2, 27, 32, 56, 6, 7, 8, 9, 29, 30, 31, 11, 12, 13]
noncomputable def b34m : Code := match Tryz.f34.body with | some c => c | none => .skip
theorem t34m : trCode ⟨Tryz.prog, K34m, [9], 63, none⟩ b34m = some c34m := by kernel_rfl
theorem go34m {args : List AV} {H : AHeap} {Kk : AV → AHeap → Prop} (hn : args.length = 3) (h : AGo ⟨Tryz.prog, K34m, [9], 63, none⟩ H.length [.code c34m] (RetP [.t (.g 6), .t (.g 7)] H.length Kk) ⟨[], argsG 0 args⟩ H) : ACalls Tryz.prog 34 args H Kk :=
  ACalls_of Tryz.func34 (c := b34m) rfl (by kernel_rfl) t34m (rs := [.t (.g 6), .t (.g 7)]) (by kernel_rfl) (by rw [hn]; exact Nat.le_of_ble_eq_true rfl) (by rw [hn]; rfl) (h.weaken (fun _ _ => RetP.hands) (by simp))

end Go.Sas
namespace Go.Sas
open Go.Proofs
set_option maxRecDepth 100000
/-- (*sastrugi/sastrugikit.Seed).Span -/
def c23 : ACode :=
  (.seq
(.reg [
  ⟨(some (true, 6)), .new [.int .i64 0, .int .i64 0], none⟩])
(.seq
(.reg [
  ⟨(some (false, 8)), .mv (.g 0), none⟩,
  ⟨(some (false, 9)), .mv (.g 1), none⟩,
  ⟨(some (false, 10)), .mv (.g 2), none⟩,
  ⟨(some (false, 11)), .call (.c (.fn 48 [])) [.l 8, .l 9, .l 10], none⟩,
  ⟨(some (false, 12)), .mk [.int .i64 0, .int .i64 0] [(0, 1, .l 11)], none⟩,
  ⟨(some (true, 7)), .new [.int .i64 0, .int .i64 0], none⟩,
  ⟨none, .st 2 (.g 7) (.l 12), none⟩])
(.seq
(.reg [
  ⟨(some (false, 13)), .fa (.g 7) 0, none⟩,
  ⟨(some (false, 14)), .ld none (.l 13), none⟩,
  ⟨(some (false, 15)), .fa (.g 7) 1, none⟩,
  ⟨none, .st 1 (.l 15) (.l 14), none⟩])
(.seq
(.seq
(.reg [
  ⟨(some (false, 16)), .mv (.g 0), none⟩,
  ⟨(some (true, 17)), .call (.c (.fn 24 [])) [.l 16, .c (.lit (.int .i64 3))], none⟩])
(.block 0
(.seq
(.reg [
  ⟨(some (false, 19)), .bin .eql (.g 17) (.c (.lit (.int .i64 0))), none⟩,
  ⟨(some (true, 18)), .mv (.l 19), none⟩])
(.cond (.g 18)
(.reg [
  ⟨(some (false, 20)), .mv (.g 0), none⟩,
  ⟨(some (false, 21)), .fa (.g 7) 0, none⟩,
  ⟨(some (false, 22)), .ld none (.l 21), none⟩,
  ⟨(some (false, 23)), .mv (.g 2), none⟩,
  ⟨(some (false, 24)), .fa (.g 7) 0, none⟩,
  ⟨(some (false, 25)), .ld none (.l 24), none⟩,
  ⟨(some (false, 26)), .bin .add (.l 25) (.c (.lit (.int .i64 1))), none⟩,
  ⟨(some (false, 27)), .mv (.g 2), none⟩,
  ⟨(some (false, 28)), .mv (.g 1), none⟩,
  ⟨(some (false, 29)), .bin .sub (.l 27) (.l 28), none⟩,
  ⟨(some (false, 30)), .bin .quo (.l 29) (.c (.lit (.int .i64 10))), none⟩,
  ⟨(some (false, 31)), .bin .add (.l 26) (.l 30), none⟩,
  ⟨(some (false, 32)), .mn [.l 23, .l 31], none⟩,
  ⟨(some (false, 33)), .call (.c (.fn 48 [])) [.l 20, .l 22, .l 32], none⟩,
  ⟨(some (false, 34)), .fa (.g 7) 1, none⟩,
  ⟨none, .st 1 (.l 34) (.l 33), none⟩])
(.seq
(.reg [
  ⟨(some (false, 36)), .bin .eql (.g 17) (.c (.lit (.int .i64 1))), none⟩,
  ⟨(some (true, 35)), .mv (.l 36), none⟩])
(.cond (.g 35)
(.reg [
  ⟨(some (false, 37)), .mv (.g 0), none⟩,
  ⟨(some (false, 38)), .fa (.g 7) 0, none⟩,
  ⟨(some (false, 39)), .ld none (.l 38), none⟩,
  ⟨(some (false, 40)), .mv (.g 2), none⟩,
  ⟨(some (false, 41)), .call (.c (.fn 48 [])) [.l 37, .l 39, .l 40], none⟩,
  ⟨(some (false, 42)), .fa (.g 7) 1, none⟩,
  ⟨none, .st 1 (.l 42) (.l 41), none⟩])
.skip))))))
(.seq
(.reg [
  ⟨(some (false, 43)), .ld (some 2) (.g 7), none⟩,
  ⟨none, .st 2 (.g 6) (.l 43), none⟩])
.ret)))))
def K23 : List Nat := [0, 1, 2, 18, 35, 6, 7, 17]
noncomputable def b23 : Code := match Tryz.f23.body with | some c => c | none => .skip
theorem t23 : trCode ⟨Tryz.prog, K23, [], 44, none⟩ b23 = some c23 := by kernel_rfl
theorem go23 {args : List AV} {H : AHeap} {Kk : AV → AHeap → Prop} (hn : args.length = 3) (h : AGo ⟨Tryz.prog, K23, [], 44, none⟩ H.length [.code c23] (RetP [.cell (.g 6) (some 2)] H.length Kk) ⟨[], argsG 0 args⟩ H) : ACalls Tryz.prog 23 args H Kk :=
  ACalls_of Tryz.func23 (c := b23) rfl (by kernel_rfl) t23 (rs := [.cell (.g 6) (some 2)]) (by kernel_rfl) (by rw [hn]; exact Nat.le_of_ble_eq_true rfl) (by rw [hn]; rfl) (h.weaken (fun _ _ => RetP.hands) (by simp))

end Go.Sas
