/-
The code of some functions with its types resolved, printed by a program; that it is the code is checked by the kernel.
Conditions: none.
-/
import Derived.Test.YtpokfjhlilbpfaaGreatDoorP4g
import Derived.Test.YtpokfjhlilbpfaaGreatDoorProg
set_option linter.unusedVariables false
set_option linter.unusedSimpArgs false
namespace Go.Sas
open Go.Proofs
set_option maxRecDepth 100000
/-- sastrugi/probe.stale -/
def c61 : ACode :=
  (.seq
(.reg [
  ⟨(some (true, 3)), .box (.g 0), none⟩,
  ⟨(some (true, 4)), .box (.g 1), none⟩,
  ⟨(some (true, 5)), .box (.g 2), none⟩,
  ⟨(some (true, 6)), .mv (.c (.lit (.slice none 0 0))), none⟩])
(.seq
(.reg [
  ⟨(some (false, 13)), .fa (.g 3) 5, none⟩,
  ⟨(some (false, 14)), .ld none (.l 13), none⟩,
  ⟨(some (false, 15)), .len (.l 14), none⟩,
  ⟨(some (false, 16)), .mksl 1 1 [.bool false] (.l 15) (.l 15), none⟩,
  ⟨(some (true, 7)), .new [.slice none 0 0], none⟩,
  ⟨none, .st 1 (.g 7) (.l 16), none⟩])
(.seq
(.seq
(.reg [
  ⟨(some (false, 17)), .fa (.g 3) 0, none⟩,
  ⟨(some (false, 18)), .ld (some 4) (.l 17), none⟩,
  ⟨(some (true, 19)), .call (.c (.fn 71 [])) [.l 18], none⟩])
(.block 0
(.rng (.g 19) [20, 21]
(.seq
(.reg [
  ⟨(some (true, 8)), .mv (.g 20), none⟩])
(.reg [
  ⟨(some (true, 9)), .new [.int .i64 0, .int .i64 0, .int .i64 0, .int .i64 0, .int .i64 0], none⟩,
  ⟨none, .st 5 (.g 9) (.g 21), none⟩]))
(.block 1
(.seq
(.reg [
  ⟨(some (false, 22)), .ld none (.g 7), none⟩,
  ⟨(some (false, 23)), .mv (.g 8), none⟩,
  ⟨(some (false, 24)), .ia 1 (.l 22) (.l 23), none⟩,
  ⟨none, .st 1 (.l 24) (.c (.lit (.bool true))), none⟩])
(.seq
(.reg [
  ⟨(some (true, 25)), .ld none (.g 4), none⟩,
  ⟨(some (true, 26)), .len (.g 25), none⟩,
  ⟨(some (true, 27)), .mv (.c (.lit (.int .i64 0))), none⟩])
(.block 2
(.loop
(.seq
(.reg [
  ⟨(some (true, 28)), .bin .lss (.g 27) (.g 26), none⟩])
(.seq
(.cond (.g 28)
.skip
(.exit 2))
(.seq
(.block 3
(.seq
(.reg [
  ⟨(some (false, 29)), .ia 5 (.g 25) (.g 27), none⟩,
  ⟨(some (false, 30)), .ld (some 5) (.l 29), none⟩,
  ⟨(some (true, 11)), .new [.int .i64 0, .int .i64 0, .int .i64 0, .int .i64 0, .int .i64 0], none⟩,
  ⟨none, .st 5 (.g 11) (.l 30), none⟩])
(.seq
(.reg [
  ⟨(some (false, 31)), .fa (.g 3) 0, none⟩,
  ⟨(some (false, 32)), .fa (.l 31) 1, none⟩,
  ⟨(some (false, 33)), .ld (some 3) (.l 32), none⟩,
  ⟨(some (true, 12)), .new [.int .i64 0, .int .i64 0, .int .i64 0], none⟩,
  ⟨none, .st 3 (.g 12) (.l 33), none⟩])
(.seq
(.draw [
  ⟨⟨(some (false, 34)), .mv (.g 8), none⟩, 0, true, []⟩,
  ⟨⟨(some (false, 35)), .fa (.g 11) 1, none⟩, 1, true, []⟩,
  ⟨⟨(some (false, 36)), .ld none (.l 35), none⟩, 2, true, []⟩,
  ⟨⟨(some (false, 37)), .fa (.g 11) 0, none⟩, 3, true, []⟩,
  ⟨⟨(some (false, 38)), .ld none (.l 37), none⟩, 4, true, []⟩,
  ⟨⟨(some (false, 39)), .bin .sub (.l 38) (.c (.lit (.int .i64 1))), none⟩, 5, true, []⟩,
  ⟨⟨(some (false, 40)), .iaa 3 1 (.g 12) (.l 39), none⟩, 6, true, []⟩,
  ⟨⟨(some (false, 41)), .ld none (.l 40), none⟩, 7, true, []⟩,
  ⟨⟨(some (false, 42)), .bin .sub (.l 36) (.l 41), none⟩, 8, true, []⟩,
  ⟨⟨(some (false, 43)), .fa (.g 11) 1, none⟩, 9, true, []⟩,
  ⟨⟨(some (false, 44)), .ld none (.l 43), none⟩, 10, true, []⟩,
  ⟨⟨(some (false, 45)), .fa (.g 11) 0, none⟩, 11, true, []⟩,
  ⟨⟨(some (false, 46)), .ld none (.l 45), none⟩, 12, true, []⟩,
  ⟨⟨(some (false, 47)), .bin .sub (.l 46) (.c (.lit (.int .i64 1))), none⟩, 13, true, []⟩,
  ⟨⟨(some (false, 48)), .iaa 3 1 (.g 12) (.l 47), none⟩, 14, true, []⟩,
  ⟨⟨(some (false, 49)), .ld none (.l 48), none⟩, 15, true, []⟩,
  ⟨⟨(some (false, 50)), .bin .add (.l 44) (.l 49), none⟩, 16, true, []⟩,
  ⟨⟨(some (false, 51)), .call (.c (.fn 41 [])) [.l 34, .l 42, .l 50], none⟩, 17, false, []⟩,
  ⟨⟨(some (false, 52)), .mv (.l 51), none⟩, 18, true, []⟩,
  ⟨⟨(some (false, 53)), .fa (.g 11) 2, (some (.l 52, true))⟩, 19, true, []⟩,
  ⟨⟨(some (false, 54)), .ld none (.l 53), (some (.l 52, true))⟩, 20, true, []⟩,
  ⟨⟨(some (false, 55)), .ld none (.g 5), (some (.l 52, true))⟩, 21, true, []⟩,
  ⟨⟨(some (false, 56)), .fa (.g 9) 4, (some (.l 52, true))⟩, 22, true, []⟩,
  ⟨⟨(some (false, 57)), .ld none (.l 56), (some (.l 52, true))⟩, 23, true, []⟩,
  ⟨⟨(some (false, 58)), .bin .sub (.l 55) (.l 57), (some (.l 52, true))⟩, 24, true, []⟩,
  ⟨⟨(some (false, 59)), .ld none (.g 5), (some (.l 52, true))⟩, 25, true, []⟩,
  ⟨⟨(some (false, 60)), .call (.c (.fn 41 [])) [.l 54, .l 58, .l 59], (some (.l 52, true))⟩, 26, false, []⟩,
  ⟨⟨(some (true, 61)), .pick (.l 52) (.l 60) (.c (.lit (.bool false))), none⟩, 27, true, []⟩])
(.cond (.g 61)
(.reg [
  ⟨(some (false, 62)), .ld none (.g 7), none⟩,
  ⟨(some (false, 63)), .mv (.g 8), none⟩,
  ⟨(some (false, 64)), .ia 1 (.l 62) (.l 63), none⟩,
  ⟨none, .st 1 (.l 64) (.c (.lit (.bool false))), none⟩])
.skip)))))
(.reg [
  ⟨(some (false, 65)), .bin .add (.g 27) (.c (.lit (.int .i64 1))), none⟩,
  ⟨(some (true, 27)), .mv (.l 65), none⟩]))))))))))))
(.seq
(.reg [
  ⟨(some (false, 66)), .ld none (.g 7), none⟩,
  ⟨(some (true, 6)), .mv (.l 66), none⟩])
.ret))))
def K61 : List Nat := [0, 1, 2, 19, 20, 21, 28, 61, 6, 3, 4, 5, 7, 8, 9, 25, 26, 27, 11, 12]
noncomputable def b61 : Code := match Tryz.f61.body with | some c => c | none => .skip
theorem t61 : trCode ⟨Tryz.prog, K61, [], 67, none⟩ b61 = some c61 := by kernel_rfl
theorem go61 {args : List AV} {H : AHeap} {Kk : AV → AHeap → Prop} (hn : args.length = 3) (h : AGo ⟨Tryz.prog, K61, [], 67, none⟩ H.length [.code c61] (RetP [.t (.g 6)] H.length Kk) ⟨[], argsG 0 args⟩ H) : ACalls Tryz.prog 61 args H Kk :=
  ACalls_of Tryz.func61 (c := b61) rfl (by kernel_rfl) t61 (rs := [.t (.g 6)]) (by kernel_rfl) (by rw [hn]; exact Nat.le_of_ble_eq_true rfl) (by rw [hn]; rfl) (h.weaken (fun _ _ => RetP.hands) (by simp))

/-- sastrugi/probe.asked -/
def c44 : ACode :=
  (.seq
(.reg [
  ⟨(some (true, 5)), .box (.g 0), none⟩,
  ⟨(some (true, 10)), .new [.slice none 0 0, .int .i64 0, .int .i64 0, .int .i64 0, .slice none 0 0, .slice none 0 0], none⟩,
  ⟨(some (true, 11)), .mv (.c (.lit (.slice none 0 0))), none⟩,
  ⟨(some (true, 12)), .mv (.c (.lit (.slice none 0 0))), none⟩,
  ⟨(some (true, 13)), .mv (.c (.lit (.int .i64 0))), none⟩])
(.seq
(.reg [
  ⟨(some (false, 20)), .ld (some 4) (.g 5), none⟩,
  ⟨(some (false, 21)), .mv (.g 1), none⟩,
  ⟨(some (false, 22)), .call (.c (.fn 40 [])) [.l 20, .l 21], none⟩,
  ⟨(some (false, 19)), .mv (.l 22), none⟩,
  ⟨(some (false, 23)), .ex (.l 19) 0, none⟩,
  ⟨(some (false, 24)), .ex (.l 19) 1, none⟩,
  ⟨none, .st 6 (.g 10) (.l 23), none⟩,
  ⟨(some (true, 13)), .mv (.l 24), none⟩])
(.seq
(.seq
(.reg [
  ⟨(some (false, 25)), .mv (.g 13), none⟩,
  ⟨(some (true, 26)), .bin .neq (.l 25) (.c (.lit (.int .i64 0))), none⟩])
(.cond (.g 26)
(.seq
(.reg [
  ⟨(some (false, 27)), .ld (some 6) (.g 10), none⟩,
  ⟨(some (false, 28)), .mv (.g 13), none⟩,
  ⟨none, .st 6 (.g 10) (.l 27), none⟩,
  ⟨(some (true, 11)), .mv (.c (.lit (.slice none 0 0))), none⟩,
  ⟨(some (true, 12)), .mv (.c (.lit (.slice none 0 0))), none⟩,
  ⟨(some (true, 13)), .mv (.l 28), none⟩])
.ret)
.skip))
(.seq
(.seq
(.reg [
  ⟨(some (false, 29)), .fa (.g 10) 5, none⟩,
  ⟨(some (false, 30)), .ld none (.l 29), none⟩,
  ⟨(some (false, 31)), .len (.l 30), none⟩,
  ⟨(some (false, 32)), .mv (.g 2), none⟩,
  ⟨(some (false, 33)), .call (.c (.fn 60 [])) [.l 31, .l 32], none⟩,
  ⟨(some (true, 14)), .mv (.l 33), none⟩])
(.seq
(.reg [
  ⟨(some (false, 34)), .mv (.g 14), none⟩,
  ⟨(some (true, 35)), .bin .neq (.l 34) (.c (.lit (.int .i64 0))), none⟩])
(.cond (.g 35)
(.seq
(.reg [
  ⟨(some (false, 36)), .ld (some 6) (.g 10), none⟩,
  ⟨(some (false, 37)), .mv (.g 14), none⟩,
  ⟨none, .st 6 (.g 10) (.l 36), none⟩,
  ⟨(some (true, 11)), .mv (.c (.lit (.slice none 0 0))), none⟩,
  ⟨(some (true, 12)), .mv (.c (.lit (.slice none 0 0))), none⟩,
  ⟨(some (true, 13)), .mv (.l 37), none⟩])
.ret)
.skip)))
(.seq
(.seq
(.reg [
  ⟨(some (false, 38)), .mv (.g 3), none⟩,
  ⟨(some (false, 39)), .call (.c (.fn 41 [])) [.l 38, .c (.lit (.int .i64 0)), .c (.lit (.int .i64 3000))], none⟩,
  ⟨(some (false, 40)), .un .not (.l 39), none⟩,
  ⟨(some (false, 41)), .mv (.l 40), none⟩,
  ⟨(some (false, 42)), .mv (.g 4), (some (.l 41, false))⟩,
  ⟨(some (false, 43)), .call (.c (.fn 41 [])) [.l 42, .c (.lit (.int .i64 0)), .c (.lit (.int .i64 10000))], (some (.l 41, false))⟩,
  ⟨(some (false, 44)), .un .not (.l 43), (some (.l 41, false))⟩,
  ⟨(some (true, 45)), .pick (.l 41) (.c (.lit (.bool true))) (.l 44), none⟩])
(.cond (.g 45)
(.seq
(.reg [
  ⟨(some (false, 46)), .ld (some 6) (.g 10), none⟩,
  ⟨none, .st 6 (.g 10) (.l 46), none⟩,
  ⟨(some (true, 11)), .mv (.c (.lit (.slice none 0 0))), none⟩,
  ⟨(some (true, 12)), .mv (.c (.lit (.slice none 0 0))), none⟩,
  ⟨(some (true, 13)), .mv (.c (.lit (.int .i64 2))), none⟩])
.ret)
.skip))
(.seq
(.seq
(.reg [
  ⟨(some (true, 47)), .mv (.g 1), none⟩,
  ⟨(some (true, 48)), .len (.g 47), none⟩,
  ⟨(some (true, 49)), .mv (.c (.lit (.int .i64 0))), none⟩])
(.block 0
(.loop
(.seq
(.reg [
  ⟨(some (true, 50)), .bin .lss (.g 49) (.g 48), none⟩])
(.seq
(.cond (.g 50)
.skip
(.exit 0))
(.seq
(.block 1
(.seq
(.reg [
  ⟨(some (false, 51)), .ia 5 (.g 47) (.g 49), none⟩,
  ⟨(some (false, 52)), .ld (some 5) (.l 51), none⟩,
  ⟨(some (true, 16)), .new [.int .i64 0, .int .i64 0, .int .i64 0, .int .i64 0, .int .i64 0], none⟩,
  ⟨none, .st 5 (.g 16) (.l 52), none⟩])
(.seq
(.reg [
  ⟨(some (false, 53)), .fa (.g 16) 2, none⟩,
  ⟨(some (false, 54)), .ld none (.l 53), none⟩,
  ⟨(some (false, 55)), .mv (.g 4), none⟩,
  ⟨(some (true, 56)), .bin .leq (.l 54) (.l 55), none⟩])
(.cond (.g 56)
(.reg [
  ⟨(some (false, 57)), .mv (.g 11), none⟩,
  ⟨(some (false, 58)), .ld (some 5) (.g 16), none⟩,
  ⟨(some (false, 59)), .mks false 5 [.l 58], none⟩,
  ⟨(some (false, 60)), .app 5 40 (.l 57) (.l 59), none⟩,
  ⟨(some (true, 11)), .mv (.l 60), none⟩])
.skip))))
(.reg [
  ⟨(some (false, 61)), .bin .add (.g 49) (.c (.lit (.int .i64 1))), none⟩,
  ⟨(some (true, 49)), .mv (.l 61), none⟩])))))))
(.seq
(.seq
(.reg [
  ⟨(some (true, 62)), .mv (.g 2), none⟩,
  ⟨(some (true, 63)), .len (.g 62), none⟩,
  ⟨(some (true, 64)), .mv (.c (.lit (.int .i64 0))), none⟩])
(.block 2
(.loop
(.seq
(.reg [
  ⟨(some (true, 65)), .bin .lss (.g 64) (.g 63), none⟩])
(.seq
(.cond (.g 65)
.skip
(.exit 2))
(.seq
(.block 3
(.seq
(.reg [
  ⟨(some (false, 66)), .ia 5 (.g 62) (.g 64), none⟩,
  ⟨(some (false, 67)), .ld (some 5) (.l 66), none⟩,
  ⟨(some (true, 18)), .new [.int .i64 0, .int .i64 0, .int .i64 0, .int .i64 0, .int .i64 0], none⟩,
  ⟨none, .st 5 (.g 18) (.l 67), none⟩])
(.seq
(.reg [
  ⟨(some (false, 68)), .fa (.g 18) 3, none⟩,
  ⟨(some (false, 69)), .ld none (.l 68), none⟩,
  ⟨(some (false, 70)), .mv (.g 4), none⟩,
  ⟨(some (true, 71)), .bin .leq (.l 69) (.l 70), none⟩])
(.cond (.g 71)
(.reg [
  ⟨(some (false, 72)), .mv (.g 12), none⟩,
  ⟨(some (false, 73)), .ld (some 5) (.g 18), none⟩,
  ⟨(some (false, 74)), .mks false 5 [.l 73], none⟩,
  ⟨(some (false, 75)), .app 5 40 (.l 72) (.l 74), none⟩,
  ⟨(some (true, 12)), .mv (.l 75), none⟩])
.skip))))
(.reg [
  ⟨(some (false, 76)), .bin .add (.g 64) (.c (.lit (.int .i64 1))), none⟩,
  ⟨(some (true, 64)), .mv (.l 76), none⟩])))))))
(.seq
(.reg [
  ⟨(some (false, 77)), .ld (some 6) (.g 10), none⟩,
  ⟨(some (false, 78)), .mv (.g 11), none⟩,
  ⟨(some (false, 79)), .mv (.g 12), none⟩,
  ⟨none, .st 6 (.g 10) (.l 77), none⟩,
  ⟨(some (true, 11)), .mv (.l 78), none⟩,
  ⟨(some (true, 12)), .mv (.l 79), none⟩,
  ⟨(some (true, 13)), .mv (.c (.lit (.int .i64 0))), none⟩])
.ret))))))))
def K44 : List Nat := [0, 1, 2, 3, 4, 26, 35, 45, 50, 56, 65, 71, 10, 11, 12, 13, 5, 14, 47, 48, 49, 16, 62, 63, 64, 18]
noncomputable def b44 : Code := match Tryz.f44.body with | some c => c | none => .skip
theorem t44 : trCode ⟨Tryz.prog, K44, [], 80, none⟩ b44 = some c44 := by kernel_rfl
theorem go44 {args : List AV} {H : AHeap} {Kk : AV → AHeap → Prop} (hn : args.length = 5) (h : AGo ⟨Tryz.prog, K44, [], 80, none⟩ H.length [.code c44] (RetP [.cell (.g 10) (some 6), .t (.g 11), .t (.g 12), .t (.g 13)] H.length Kk) ⟨[], argsG 0 args⟩ H) : ACalls Tryz.prog 44 args H Kk :=
  ACalls_of Tryz.func44 (c := b44) rfl (by kernel_rfl) t44 (rs := [.cell (.g 10) (some 6), .t (.g 11), .t (.g 12), .t (.g 13)]) (by kernel_rfl) (by rw [hn]; exact Nat.le_of_ble_eq_true rfl) (by rw [hn]; rfl) (h.weaken (fun _ _ => RetP.hands) (by simp))

/-- sastrugi/probe.joined[int] -/
def c45 : ACode :=
  (.seq
(.reg [
  ⟨(some (true, 4)), .mv (.c (.lit (.int .i64 0))), none⟩])
(.block 0
(.loop
(.seq
(.seq
(.reg [
  ⟨(some (false, 6)), .mv (.g 4), none⟩,
  ⟨(some (false, 7)), .mv (.g 0), none⟩,
  ⟨(some (false, 8)), .len (.l 7), none⟩,
  ⟨(some (true, 9)), .bin .lss (.l 6) (.l 8), none⟩])
(.cond (.g 9)
.skip
(.exit 0)))
(.block 1
(.seq
(.reg [
  ⟨(some (false, 10)), .mv (.g 4), none⟩,
  ⟨(some (true, 5)), .mv (.l 10), none⟩])
(.seq
(.block 2
(.loop
(.seq
(.seq
(.draw [
  ⟨⟨(some (false, 11)), .mv (.g 5), none⟩, 0, true, []⟩,
  ⟨⟨(some (false, 12)), .bin .add (.l 11) (.c (.lit (.int .i64 1))), none⟩, 1, true, []⟩,
  ⟨⟨(some (false, 13)), .mv (.g 0), none⟩, 2, true, []⟩,
  ⟨⟨(some (false, 14)), .len (.l 13), none⟩, 3, true, []⟩,
  ⟨⟨(some (false, 15)), .bin .lss (.l 12) (.l 14), none⟩, 4, true, []⟩,
  ⟨⟨(some (false, 16)), .mv (.l 15), none⟩, 5, true, []⟩,
  ⟨⟨(some (false, 17)), .mv (.g 0), (some (.l 16, true))⟩, 6, true, []⟩,
  ⟨⟨(some (false, 18)), .mv (.g 5), (some (.l 16, true))⟩, 7, true, []⟩,
  ⟨⟨(some (false, 19)), .bin .add (.l 18) (.c (.lit (.int .i64 1))), (some (.l 16, true))⟩, 8, true, []⟩,
  ⟨⟨(some (false, 20)), .ia 1 (.l 17) (.l 19), (some (.l 16, true))⟩, 9, true, []⟩,
  ⟨⟨(some (false, 21)), .ld none (.l 20), (some (.l 16, true))⟩, 10, true, []⟩,
  ⟨⟨(some (false, 22)), .mv (.g 0), (some (.l 16, true))⟩, 11, true, []⟩,
  ⟨⟨(some (false, 23)), .mv (.g 4), (some (.l 16, true))⟩, 12, true, []⟩,
  ⟨⟨(some (false, 24)), .ia 1 (.l 22) (.l 23), (some (.l 16, true))⟩, 13, true, []⟩,
  ⟨⟨(some (false, 25)), .ld none (.l 24), (some (.l 16, true))⟩, 14, true, []⟩,
  ⟨⟨(some (false, 26)), .bin .eql (.l 21) (.l 25), (some (.l 16, true))⟩, 15, true, []⟩,
  ⟨⟨(some (true, 27)), .pick (.l 16) (.l 26) (.c (.lit (.bool false))), none⟩, 16, true, []⟩])
(.cond (.g 27)
.skip
(.exit 2)))
(.block 3
(.reg [
  ⟨(some (false, 28)), .mv (.g 5), none⟩,
  ⟨(some (false, 29)), .bin .add (.l 28) (.c (.lit (.int .i64 1))), none⟩,
  ⟨(some (true, 5)), .mv (.l 29), none⟩])))))
(.seq
(.reg [
  ⟨(some (false, 30)), .mv (.g 1), none⟩,
  ⟨(some (false, 31)), .mv (.g 4), none⟩,
  ⟨(some (false, 32)), .mv (.g 5), none⟩,
  ⟨(some (false, 33)), .mv (.g 0), none⟩,
  ⟨(some (false, 34)), .mv (.g 4), none⟩,
  ⟨(some (false, 35)), .ia 1 (.l 33) (.l 34), none⟩,
  ⟨(some (false, 36)), .ld none (.l 35), none⟩,
  ⟨(some (false, 37)), .call (.l 30) [.l 31, .l 32, .l 36], none⟩])
(.reg [
  ⟨(some (false, 38)), .mv (.g 5), none⟩,
  ⟨(some (false, 39)), .bin .add (.l 38) (.c (.lit (.int .i64 1))), none⟩,
  ⟨(some (true, 4)), .mv (.l 39), none⟩])))))))))
def K45 : List Nat := [0, 1, 9, 27, 4, 5]
noncomputable def b45 : Code := match Tryz.f45.body with | some c => c | none => .skip
theorem t45 : trCode ⟨Tryz.prog, K45, [], 40, none⟩ b45 = some c45 := by kernel_rfl
theorem go45 {args : List AV} {H : AHeap} {Kk : AV → AHeap → Prop} (hn : args.length = 2) (h : AGo ⟨Tryz.prog, K45, [], 40, none⟩ H.length [.code c45] (RetP [] H.length Kk) ⟨[], argsG 0 args⟩ H) : ACalls Tryz.prog 45 args H Kk :=
  ACalls_of Tryz.func45 (c := b45) rfl (by kernel_rfl) t45 (rs := []) (by kernel_rfl) (by rw [hn]; exact Nat.le_of_ble_eq_true rfl) (by rw [hn]; rfl) (h.weaken (fun _ _ => RetP.hands) (by simp))

/-- sastrugi/probe.Close$1 -/
def c47 : ACode :=
  (.seq
(.reg [
  ⟨(some (false, 7)), .mv (.g 2), none⟩,
  ⟨(some (true, 8)), .bin .neq (.l 7) (.c (.lit (.int .i64 0))), none⟩])
(.cond (.g 8)
(.reg [
  ⟨(some (false, 9)), .ld none (.g 3), none⟩,
  ⟨(some (false, 10)), .mv (.g 0), none⟩,
  ⟨(some (false, 11)), .mv (.g 1), none⟩,
  ⟨(some (false, 12)), .mv (.g 2), none⟩,
  ⟨(some (false, 13)), .mk [.int .i64 0, .int .i64 0, .int .i64 0] [(0, 1, .l 10), (1, 1, .l 11), (2, 1, .l 12)], none⟩,
  ⟨(some (false, 14)), .mks false 3 [.l 13], none⟩,
  ⟨(some (false, 15)), .app 3 24 (.l 9) (.l 14), none⟩,
  ⟨none, .st 1 (.g 3) (.l 15), none⟩])
.skip))
def K47 : List Nat := [0, 1, 2, 3, 8]
noncomputable def b47 : Code := match Tryz.f47.body with | some c => c | none => .skip
theorem t47 : trCode ⟨Tryz.prog, K47, [], 16, none⟩ b47 = some c47 := by kernel_rfl
theorem go47 {args : List AV} {H : AHeap} {Kk : AV → AHeap → Prop} (hn : args.length = 4) (h : AGo ⟨Tryz.prog, K47, [], 16, none⟩ H.length [.code c47] (RetP [] H.length Kk) ⟨[], argsG 0 args⟩ H) : ACalls Tryz.prog 47 args H Kk :=
  ACalls_of Tryz.func47 (c := b47) rfl (by kernel_rfl) t47 (rs := []) (by kernel_rfl) (by rw [hn]; exact Nat.le_of_ble_eq_true rfl) (by rw [hn]; rfl) (h.weaken (fun _ _ => RetP.hands) (by simp))

/-- sastrugi/probe.reasons -/
def c46 : ACode :=
  (.seq
(.reg [
  ⟨(some (true, 5)), .box (.g 0), none⟩,
  ⟨(some (true, 10)), .mv (.c (.lit (.slice none 0 0))), none⟩])
(.seq
(.reg [
  ⟨(some (false, 15)), .fa (.g 5) 5, none⟩,
  ⟨(some (false, 16)), .ld none (.l 15), none⟩,
  ⟨(some (false, 17)), .len (.l 16), none⟩,
  ⟨(some (false, 18)), .mksl 1 8 [.int .i64 0] (.l 17) (.l 17), none⟩,
  ⟨(some (true, 11)), .mv (.l 18), none⟩])
(.seq
(.reg [
  ⟨(some (false, 19)), .ld (some 6) (.g 5), none⟩,
  ⟨(some (false, 20)), .mv (.g 1), none⟩,
  ⟨(some (false, 21)), .mv (.g 4), none⟩,
  ⟨(some (false, 22)), .call (.c (.fn 61 [])) [.l 19, .l 20, .l 21], none⟩,
  ⟨(some (true, 12)), .mv (.l 22), none⟩])
(.seq
(.reg [
  ⟨(some (false, 23)), .mv (.g 2), none⟩,
  ⟨(some (false, 24)), .mv (.g 4), none⟩,
  ⟨(some (false, 25)), .mv (.g 11), none⟩,
  ⟨(some (false, 26)), .len (.l 25), none⟩,
  ⟨(some (false, 27)), .call (.c (.fn 62 [])) [.l 23, .l 24, .l 26], none⟩,
  ⟨(some (true, 13)), .mv (.l 27), none⟩])
(.seq
(.seq
(.reg [
  ⟨(some (false, 28)), .mv (.g 11), none⟩,
  ⟨(some (true, 29)), .len (.l 28), none⟩,
  ⟨(some (true, 30)), .mv (.c (.lit (.int .i64 0))), none⟩])
(.block 0
(.loop
(.seq
(.reg [
  ⟨(some (true, 31)), .bin .lss (.g 30) (.g 29), none⟩])
(.seq
(.cond (.g 31)
.skip
(.exit 0))
(.seq
(.block 1
(.seq
(.reg [
  ⟨(some (false, 32)), .mv (.g 30), none⟩,
  ⟨(some (true, 14)), .mv (.l 32), none⟩])
(.block 2
(.seq
(.reg [
  ⟨(some (false, 34)), .ld (some 6) (.g 5), none⟩,
  ⟨(some (false, 35)), .mv (.g 1), none⟩,
  ⟨(some (false, 36)), .mv (.g 14), none⟩,
  ⟨(some (false, 37)), .mv (.g 4), none⟩,
  ⟨(some (false, 38)), .call (.c (.fn 42 [])) [.l 34, .l 35, .l 36, .l 37], none⟩,
  ⟨(some (false, 39)), .fd none (.l 38) 0, none⟩,
  ⟨(some (false, 40)), .mv (.g 3), none⟩,
  ⟨(some (false, 41)), .bin .lss (.l 39) (.l 40), none⟩,
  ⟨(some (true, 33)), .mv (.l 41), none⟩])
(.cond (.g 33)
(.reg [
  ⟨(some (false, 42)), .mv (.g 11), none⟩,
  ⟨(some (false, 43)), .mv (.g 14), none⟩,
  ⟨(some (false, 44)), .ia 1 (.l 42) (.l 43), none⟩,
  ⟨none, .st 1 (.l 44) (.c (.lit (.int .i64 1))), none⟩])
(.seq
(.reg [
  ⟨(some (false, 46)), .mv (.g 13), none⟩,
  ⟨(some (false, 47)), .mv (.g 14), none⟩,
  ⟨(some (false, 48)), .ia 1 (.l 46) (.l 47), none⟩,
  ⟨(some (false, 49)), .ld none (.l 48), none⟩,
  ⟨(some (false, 50)), .bin .neq (.l 49) (.c (.lit (.int .i64 2))), none⟩,
  ⟨(some (true, 45)), .mv (.l 50), none⟩])
(.cond (.g 45)
(.reg [
  ⟨(some (false, 51)), .mv (.g 11), none⟩,
  ⟨(some (false, 52)), .mv (.g 14), none⟩,
  ⟨(some (false, 53)), .ia 1 (.l 51) (.l 52), none⟩,
  ⟨none, .st 1 (.l 53) (.c (.lit (.int .i64 2))), none⟩])
(.seq
(.reg [
  ⟨(some (false, 55)), .mv (.g 12), none⟩,
  ⟨(some (false, 56)), .mv (.g 14), none⟩,
  ⟨(some (false, 57)), .ia 1 (.l 55) (.l 56), none⟩,
  ⟨(some (false, 58)), .ld none (.l 57), none⟩,
  ⟨(some (true, 54)), .mv (.l 58), none⟩])
(.cond (.g 54)
(.reg [
  ⟨(some (false, 59)), .mv (.g 11), none⟩,
  ⟨(some (false, 60)), .mv (.g 14), none⟩,
  ⟨(some (false, 61)), .ia 1 (.l 59) (.l 60), none⟩,
  ⟨none, .st 1 (.l 61) (.c (.lit (.int .i64 3))), none⟩])
.skip)))))))))
(.reg [
  ⟨(some (false, 62)), .bin .add (.g 30) (.c (.lit (.int .i64 1))), none⟩,
  ⟨(some (true, 30)), .mv (.l 62), none⟩])))))))
(.seq
(.reg [
  ⟨(some (false, 63)), .mv (.g 11), none⟩,
  ⟨(some (true, 10)), .mv (.l 63), none⟩])
.ret))))))
def K46 : List Nat := [0, 1, 2, 3, 4, 31, 33, 45, 54, 10, 5, 11, 12, 13, 29, 30, 14]
noncomputable def b46 : Code := match Tryz.f46.body with | some c => c | none => .skip
theorem t46 : trCode ⟨Tryz.prog, K46, [], 64, none⟩ b46 = some c46 := by kernel_rfl
theorem go46 {args : List AV} {H : AHeap} {Kk : AV → AHeap → Prop} (hn : args.length = 5) (h : AGo ⟨Tryz.prog, K46, [], 64, none⟩ H.length [.code c46] (RetP [.t (.g 10)] H.length Kk) ⟨[], argsG 0 args⟩ H) : ACalls Tryz.prog 46 args H Kk :=
  ACalls_of Tryz.func46 (c := b46) rfl (by kernel_rfl) t46 (rs := [.t (.g 10)]) (by kernel_rfl) (by rw [hn]; exact Nat.le_of_ble_eq_true rfl) (by rw [hn]; rfl) (h.weaken (fun _ _ => RetP.hands) (by simp))

/-- sastrugi/probe.Close -/
def c20 : ACode :=
  (.seq
(.reg [
  ⟨(some (true, 5)), .box (.g 0), none⟩,
  ⟨(some (true, 10)), .mv (.c (.lit (.slice none 0 0))), none⟩,
  ⟨(some (true, 11)), .mv (.c (.lit (.int .i64 0))), none⟩])
(.seq
(.reg [
  ⟨(some (false, 18)), .ld (some 4) (.g 5), none⟩,
  ⟨(some (false, 19)), .mv (.g 1), none⟩,
  ⟨(some (false, 20)), .mv (.g 2), none⟩,
  ⟨(some (false, 21)), .mv (.g 3), none⟩,
  ⟨(some (false, 22)), .mv (.g 4), none⟩,
  ⟨(some (false, 23)), .call (.c (.fn 44 [])) [.l 18, .l 19, .l 20, .l 21, .l 22], none⟩,
  ⟨(some (false, 17)), .mv (.l 23), none⟩,
  ⟨(some (false, 24)), .ex (.l 17) 0, none⟩,
  ⟨(some (false, 25)), .ex (.l 17) 1, none⟩,
  ⟨(some (false, 26)), .ex (.l 17) 2, none⟩,
  ⟨(some (false, 27)), .ex (.l 17) 3, none⟩,
  ⟨(some (true, 12)), .new [.slice none 0 0, .int .i64 0, .int .i64 0, .int .i64 0, .slice none 0 0, .slice none 0 0], none⟩,
  ⟨none, .st 6 (.g 12) (.l 24), none⟩,
  ⟨(some (true, 13)), .mv (.l 25), none⟩,
  ⟨(some (true, 14)), .mv (.l 26), none⟩,
  ⟨(some (true, 15)), .mv (.l 27), none⟩])
(.seq
(.seq
(.reg [
  ⟨(some (false, 28)), .mv (.g 15), none⟩,
  ⟨(some (true, 29)), .bin .neq (.l 28) (.c (.lit (.int .i64 0))), none⟩])
(.cond (.g 29)
(.seq
(.reg [
  ⟨(some (false, 30)), .mv (.g 15), none⟩,
  ⟨(some (true, 10)), .mv (.c (.lit (.slice none 0 0))), none⟩,
  ⟨(some (true, 11)), .mv (.l 30), none⟩])
.ret)
.skip))
(.seq
(.reg [
  ⟨(some (true, 16)), .new [.slice none 0 0], none⟩])
(.seq
(.reg [
  ⟨(some (false, 31)), .ld (some 6) (.g 12), none⟩,
  ⟨(some (false, 32)), .mv (.g 13), none⟩,
  ⟨(some (false, 33)), .mv (.g 14), none⟩,
  ⟨(some (false, 34)), .mv (.g 3), none⟩,
  ⟨(some (false, 35)), .mv (.g 4), none⟩,
  ⟨(some (false, 36)), .call (.c (.fn 46 [])) [.l 31, .l 32, .l 33, .l 34, .l 35], none⟩,
  ⟨(some (false, 37)), .mkf 47 [.g 16], none⟩,
  ⟨(some (false, 38)), .call (.c (.fn 45 [])) [.l 36, .l 37], none⟩])
(.seq
(.reg [
  ⟨(some (false, 39)), .ld none (.g 16), none⟩,
  ⟨(some (true, 10)), .mv (.l 39), none⟩,
  ⟨(some (true, 11)), .mv (.c (.lit (.int .i64 0))), none⟩])
.ret))))))
def K20 : List Nat := [0, 1, 2, 3, 4, 29, 10, 11, 5, 12, 13, 14, 15, 16]
noncomputable def b20 : Code := match Tryz.f20.body with | some c => c | none => .skip
theorem t20 : trCode ⟨Tryz.prog, K20, [], 40, none⟩ b20 = some c20 := by kernel_rfl
theorem go20 {args : List AV} {H : AHeap} {Kk : AV → AHeap → Prop} (hn : args.length = 5) (h : AGo ⟨Tryz.prog, K20, [], 40, none⟩ H.length [.code c20] (RetP [.t (.g 10), .t (.g 11)] H.length Kk) ⟨[], argsG 0 args⟩ H) : ACalls Tryz.prog 20 args H Kk :=
  ACalls_of Tryz.func20 (c := b20) rfl (by kernel_rfl) t20 (rs := [.t (.g 10), .t (.g 11)]) (by kernel_rfl) (by rw [hn]; exact Nat.le_of_ble_eq_true rfl) (by rw [hn]; rfl) (h.weaken (fun _ _ => RetP.hands) (by simp))

/-- sastrugi/probe.verdicts -/
def c62 : ACode :=
  (.seq
(.reg [
  ⟨(some (true, 6)), .mv (.c (.lit (.slice none 0 0))), none⟩])
(.seq
(.reg [
  ⟨(some (false, 12)), .mks false 1 [.c (.lit (.int .i64 2))], none⟩,
  ⟨(some (false, 13)), .mv (.g 2), none⟩,
  ⟨(some (false, 14)), .call (.c (.fn 75 [])) [.l 12, .l 13], none⟩,
  ⟨(some (true, 7)), .new [.slice none 0 0], none⟩,
  ⟨none, .st 1 (.g 7) (.l 14), none⟩])
(.seq
(.reg [
  ⟨(some (false, 15)), .mkf 76 [.g 7], none⟩,
  ⟨(some (true, 8)), .mv (.l 15), none⟩])
(.seq
(.seq
(.reg [
  ⟨(some (false, 16)), .mv (.g 0), none⟩,
  ⟨(some (true, 17)), .len (.l 16), none⟩,
  ⟨(some (true, 18)), .mv (.c (.lit (.int .i64 0))), none⟩])
(.block 0
(.loop
(.seq
(.reg [
  ⟨(some (true, 19)), .bin .lss (.g 18) (.g 17), none⟩])
(.seq
(.cond (.g 19)
.skip
(.exit 0))
(.seq
(.block 1
(.seq
(.reg [
  ⟨(some (false, 20)), .mv (.g 18), none⟩,
  ⟨(some (true, 9)), .mv (.l 20), none⟩])
(.seq
(.reg [
  ⟨(some (false, 22)), .mv (.g 0), none⟩,
  ⟨(some (false, 23)), .mv (.g 9), none⟩,
  ⟨(some (false, 24)), .mv (.g 1), none⟩,
  ⟨(some (false, 25)), .mv (.g 2), none⟩,
  ⟨(some (false, 26)), .call (.c (.fn 77 [])) [.l 22, .l 23, .l 24, .l 25], none⟩,
  ⟨(some (false, 21)), .mv (.l 26), none⟩,
  ⟨(some (false, 27)), .ex (.l 21) 0, none⟩,
  ⟨(some (false, 28)), .ex (.l 21) 1, none⟩,
  ⟨(some (true, 10)), .mv (.l 27), none⟩,
  ⟨(some (true, 11)), .mv (.l 28), none⟩])
(.seq
(.reg [
  ⟨(some (false, 29)), .mv (.g 8), none⟩,
  ⟨(some (false, 30)), .mv (.g 10), none⟩,
  ⟨(some (false, 31)), .call (.l 29) [.l 30, .c (.lit (.int .i64 3))], none⟩])
(.reg [
  ⟨(some (false, 32)), .mv (.g 8), none⟩,
  ⟨(some (false, 33)), .mv (.g 11), none⟩,
  ⟨(some (false, 34)), .call (.l 32) [.l 33, .c (.lit (.int .i64 1))], none⟩])))))
(.reg [
  ⟨(some (false, 35)), .bin .add (.g 18) (.c (.lit (.int .i64 1))), none⟩,
  ⟨(some (true, 18)), .mv (.l 35), none⟩])))))))
(.seq
(.reg [
  ⟨(some (false, 36)), .ld none (.g 7), none⟩,
  ⟨(some (true, 6)), .mv (.l 36), none⟩])
.ret)))))
def K62 : List Nat := [0, 1, 2, 19, 6, 7, 8, 17, 18, 9, 10, 11]
noncomputable def b62 : Code := match Tryz.f62.body with | some c => c | none => .skip
theorem t62 : trCode ⟨Tryz.prog, K62, [], 37, none⟩ b62 = some c62 := by kernel_rfl
theorem go62 {args : List AV} {H : AHeap} {Kk : AV → AHeap → Prop} (hn : args.length = 3) (h : AGo ⟨Tryz.prog, K62, [], 37, none⟩ H.length [.code c62] (RetP [.t (.g 6)] H.length Kk) ⟨[], argsG 0 args⟩ H) : ACalls Tryz.prog 62 args H Kk :=
  ACalls_of Tryz.func62 (c := b62) rfl (by kernel_rfl) t62 (rs := [.t (.g 6)]) (by kernel_rfl) (by rw [hn]; exact Nat.le_of_ble_eq_true rfl) (by rw [hn]; rfl) (h.weaken (fun _ _ => RetP.hands) (by simp))

/-- slices.Repeat[[]int,int] -/
def c75 : ACode :=
  (.seq
(.reg [
  ⟨(some (true, 4)), .mv (.c (.lit (.slice none 0 0))), none⟩])
(.seq
(.seq
(.reg [
  ⟨(some (false, 9)), .mv (.g 1), none⟩,
  ⟨(some (true, 10)), .bin .lss (.l 9) (.c (.lit (.int .i64 0))), none⟩])
(.cond (.g 10)
(.other .skip)
.skip))
(.seq
(.reg [
  ⟨(some (false, 13)), .mv (.g 0), none⟩,
  ⟨(some (false, 14)), .len (.l 13), none⟩,
  ⟨(some (false, 15)), .cv .u64 (.l 14), none⟩,
  ⟨(some (false, 16)), .mv (.g 1), none⟩,
  ⟨(some (false, 17)), .cv .u64 (.l 16), none⟩,
  ⟨(some (false, 18)), .call (.c (.fn 94 [])) [.l 15, .l 17], none⟩,
  ⟨(some (false, 12)), .mv (.l 18), none⟩,
  ⟨(some (false, 19)), .ex (.l 12) 0, none⟩,
  ⟨(some (false, 20)), .ex (.l 12) 1, none⟩,
  ⟨(some (true, 5)), .mv (.l 19), none⟩,
  ⟨(some (true, 6)), .mv (.l 20), none⟩])
(.seq
(.seq
(.reg [
  ⟨(some (false, 21)), .mv (.g 5), none⟩,
  ⟨(some (false, 22)), .bin .gtr (.l 21) (.c (.lit (.int .u64 0))), none⟩,
  ⟨(some (false, 23)), .mv (.l 22), none⟩,
  ⟨(some (false, 24)), .mv (.g 6), (some (.l 23, false))⟩,
  ⟨(some (false, 25)), .bin .gtr (.l 24) (.c (.lit (.int .u64 9223372036854775807))), (some (.l 23, false))⟩,
  ⟨(some (true, 26)), .pick (.l 23) (.c (.lit (.bool true))) (.l 25), none⟩])
(.cond (.g 26)
(.other .skip)
.skip))
(.seq
(.reg [
  ⟨(some (false, 28)), .mv (.g 6), none⟩,
  ⟨(some (false, 29)), .cv .i64 (.l 28), none⟩,
  ⟨(some (false, 30)), .mksl 1 8 [.int .i64 0] (.l 29) (.l 29), none⟩,
  ⟨(some (true, 7)), .mv (.l 30), none⟩])
(.seq
(.reg [
  ⟨(some (false, 31)), .mv (.g 7), none⟩,
  ⟨(some (false, 32)), .mv (.g 0), none⟩,
  ⟨(some (false, 33)), .cpy 1 (.l 31) (.l 32), none⟩,
  ⟨(some (true, 8)), .mv (.l 33), none⟩])
(.seq
(.block 0
(.loop
(.seq
(.seq
(.reg [
  ⟨(some (false, 34)), .mv (.g 8), none⟩,
  ⟨(some (false, 35)), .mv (.g 7), none⟩,
  ⟨(some (false, 36)), .len (.l 35), none⟩,
  ⟨(some (true, 37)), .bin .lss (.l 34) (.l 36), none⟩])
(.cond (.g 37)
.skip
(.exit 0)))
(.block 1
(.draw [
  ⟨⟨(some (false, 38)), .mv (.g 8), none⟩, 0, true, []⟩,
  ⟨⟨(some (false, 39)), .mv (.g 7), none⟩, 1, true, []⟩,
  ⟨⟨(some (false, 40)), .mv (.g 8), none⟩, 2, true, []⟩,
  ⟨⟨(some (false, 41)), .sl 1 (.l 39) (some (.l 40)) none none, none⟩, 3, true, []⟩,
  ⟨⟨(some (false, 42)), .mv (.g 7), none⟩, 4, true, []⟩,
  ⟨⟨(some (false, 43)), .mv (.g 8), none⟩, 5, true, []⟩,
  ⟨⟨(some (false, 44)), .sl 1 (.l 42) none (some (.l 43)) none, none⟩, 6, true, []⟩,
  ⟨⟨(some (false, 45)), .cpy 1 (.l 41) (.l 44), none⟩, 7, false, []⟩,
  ⟨⟨(some (false, 46)), .bin .add (.l 38) (.l 45), none⟩, 8, true, []⟩,
  ⟨⟨(some (true, 8)), .mv (.l 46), none⟩, 9, true, []⟩])))))
(.seq
(.reg [
  ⟨(some (false, 47)), .mv (.g 7), none⟩,
  ⟨(some (true, 4)), .mv (.l 47), none⟩])
.ret))))))))
def K75 : List Nat := [0, 1, 10, 26, 37, 4, 5, 6, 7, 8]
noncomputable def b75 : Code := match Tryz.f75.body with | some c => c | none => .skip
theorem t75 : trCode ⟨Tryz.prog, K75, [], 48, none⟩ b75 = some c75 := by kernel_rfl
theorem go75 {args : List AV} {H : AHeap} {Kk : AV → AHeap → Prop} (hn : args.length = 2) (h : AGo ⟨Tryz.prog, K75, [], 48, none⟩ H.length [.code c75] (RetP [.t (.g 4)] H.length Kk) ⟨[], argsG 0 args⟩ H) : ACalls Tryz.prog 75 args H Kk :=
  ACalls_of Tryz.func75 (c := b75) rfl (by kernel_rfl) t75 (rs := [.t (.g 4)]) (by kernel_rfl) (by rw [hn]; exact Nat.le_of_ble_eq_true rfl) (by rw [hn]; rfl) (h.weaken (fun _ _ => RetP.hands) (by simp))

/-- sastrugi/probe.verdicts$1 -/
def c76 : ACode :=
  (.seq
(.reg [
  ⟨(some (true, 8)), .mv (.g 0), none⟩,
  ⟨(some (true, 9)), .len (.g 8), none⟩,
  ⟨(some (true, 10)), .mv (.c (.lit (.int .i64 0))), none⟩])
(.block 0
(.loop
(.seq
(.reg [
  ⟨(some (true, 11)), .bin .lss (.g 10) (.g 9), none⟩])
(.seq
(.cond (.g 11)
.skip
(.exit 0))
(.seq
(.block 1
(.seq
(.reg [
  ⟨(some (false, 12)), .ia 2 (.g 8) (.g 10), none⟩,
  ⟨(some (false, 13)), .ld (some 2) (.l 12), none⟩,
  ⟨(some (true, 6)), .new [.int .i64 0, .int .i64 0], none⟩,
  ⟨none, .st 2 (.g 6) (.l 13), none⟩])
(.seq
(.reg [
  ⟨(some (false, 14)), .fa (.g 6) 0, none⟩,
  ⟨(some (false, 15)), .ld none (.l 14), none⟩,
  ⟨(some (true, 7)), .mv (.l 15), none⟩])
(.block 2
(.loop
(.seq
(.seq
(.reg [
  ⟨(some (false, 16)), .mv (.g 7), none⟩,
  ⟨(some (false, 17)), .fa (.g 6) 1, none⟩,
  ⟨(some (false, 18)), .ld none (.l 17), none⟩,
  ⟨(some (true, 19)), .bin .leq (.l 16) (.l 18), none⟩])
(.cond (.g 19)
.skip
(.exit 2)))
(.seq
(.block 3
(.seq
(.reg [
  ⟨(some (false, 22)), .ld none (.g 2), none⟩,
  ⟨(some (false, 23)), .mv (.g 7), none⟩,
  ⟨(some (false, 24)), .ia 1 (.l 22) (.l 23), none⟩,
  ⟨(some (false, 25)), .ld none (.l 24), none⟩,
  ⟨(some (true, 26)), .bin .neq (.l 25) (.c (.lit (.int .i64 1))), none⟩])
(.cond (.g 26)
(.reg [
  ⟨(some (false, 27)), .ld none (.g 2), none⟩,
  ⟨(some (false, 28)), .mv (.g 7), none⟩,
  ⟨(some (false, 29)), .mv (.g 1), none⟩,
  ⟨(some (false, 30)), .ia 1 (.l 27) (.l 28), none⟩,
  ⟨none, .st 1 (.l 30) (.l 29), none⟩])
.skip)))
(.reg [
  ⟨(some (false, 20)), .mv (.g 7), none⟩,
  ⟨(some (false, 21)), .bin .add (.l 20) (.c (.lit (.int .i64 1))), none⟩,
  ⟨(some (true, 7)), .mv (.l 21), none⟩]))))))))
(.reg [
  ⟨(some (false, 31)), .bin .add (.g 10) (.c (.lit (.int .i64 1))), none⟩,
  ⟨(some (true, 10)), .mv (.l 31), none⟩])))))))
def K76 : List Nat := [0, 1, 2, 11, 19, 26, 8, 9, 10, 6, 7]
noncomputable def b76 : Code := match Tryz.f76.body with | some c => c | none => .skip
theorem t76 : trCode ⟨Tryz.prog, K76, [], 32, none⟩ b76 = some c76 := by kernel_rfl
theorem go76 {args : List AV} {H : AHeap} {Kk : AV → AHeap → Prop} (hn : args.length = 3) (h : AGo ⟨Tryz.prog, K76, [], 32, none⟩ H.length [.code c76] (RetP [] H.length Kk) ⟨[], argsG 0 args⟩ H) : ACalls Tryz.prog 76 args H Kk :=
  ACalls_of Tryz.func76 (c := b76) rfl (by kernel_rfl) t76 (rs := []) (by kernel_rfl) (by rw [hn]; exact Nat.le_of_ble_eq_true rfl) (by rw [hn]; rfl) (h.weaken (fun _ _ => RetP.hands) (by simp))

/-- math/bits.Mul -/
def c94 : ACode :=
  (.seq
(.reg [
  ⟨(some (true, 4)), .mv (.c (.lit (.int .u64 0))), none⟩,
  ⟨(some (true, 5)), .mv (.c (.lit (.int .u64 0))), none⟩])
(.seq
(.cond (.c (.lit (.bool false)))
(.seq
(.reg [
  ⟨(some (false, 11)), .mv (.g 0), none⟩,
  ⟨(some (false, 12)), .cv .u32 (.l 11), none⟩,
  ⟨(some (false, 13)), .mv (.g 1), none⟩,
  ⟨(some (false, 14)), .cv .u32 (.l 13), none⟩,
  ⟨(some (false, 15)), .call (.c (.fn 111 [])) [.l 12, .l 14], none⟩,
  ⟨(some (false, 10)), .mv (.l 15), none⟩,
  ⟨(some (false, 16)), .ex (.l 10) 0, none⟩,
  ⟨(some (false, 17)), .ex (.l 10) 1, none⟩,
  ⟨(some (true, 6)), .mv (.l 16), none⟩,
  ⟨(some (true, 7)), .mv (.l 17), none⟩])
(.seq
(.reg [
  ⟨(some (false, 18)), .mv (.g 6), none⟩,
  ⟨(some (false, 19)), .cv .u64 (.l 18), none⟩,
  ⟨(some (false, 20)), .mv (.g 7), none⟩,
  ⟨(some (false, 21)), .cv .u64 (.l 20), none⟩,
  ⟨(some (true, 4)), .mv (.l 19), none⟩,
  ⟨(some (true, 5)), .mv (.l 21), none⟩])
.ret))
.skip)
(.seq
(.reg [
  ⟨(some (false, 23)), .mv (.g 0), none⟩,
  ⟨(some (false, 24)), .mv (.g 1), none⟩,
  ⟨(some (false, 25)), .call (.c (.fn 112 [])) [.l 23, .l 24], none⟩,
  ⟨(some (false, 22)), .mv (.l 25), none⟩,
  ⟨(some (false, 26)), .ex (.l 22) 0, none⟩,
  ⟨(some (false, 27)), .ex (.l 22) 1, none⟩,
  ⟨(some (true, 8)), .mv (.l 26), none⟩,
  ⟨(some (true, 9)), .mv (.l 27), none⟩])
(.seq
(.reg [
  ⟨(some (false, 28)), .mv (.g 8), none⟩,
  ⟨(some (false, 29)), .mv (.g 9), none⟩,
  ⟨(some (true, 4)), .mv (.l 28), none⟩,
  ⟨(some (true, 5)), .mv (.l 29), none⟩])
.ret))))
def K94 : List Nat := [0, 1, 4, 5, 6, 7, 8, 9]
noncomputable def b94 : Code := match Tryz.f94.body with | some c => c | none => .skip
theorem t94 : trCode ⟨Tryz.prog, K94, [], 30, none⟩ b94 = some c94 := by kernel_rfl
theorem go94 {args : List AV} {H : AHeap} {Kk : AV → AHeap → Prop} (hn : args.length = 2) (h : AGo ⟨Tryz.prog, K94, [], 30, none⟩ H.length [.code c94] (RetP [.t (.g 4), .t (.g 5)] H.length Kk) ⟨[], argsG 0 args⟩ H) : ACalls Tryz.prog 94 args H Kk :=
  ACalls_of Tryz.func94 (c := b94) rfl (by kernel_rfl) t94 (rs := [.t (.g 4), .t (.g 5)]) (by kernel_rfl) (by rw [hn]; exact Nat.le_of_ble_eq_true rfl) (by rw [hn]; rfl) (h.weaken (fun _ _ => RetP.hands) (by simp))

/-- math/bits.Mul64 -/
def c112 : ACode :=
  (.seq
(.reg [
  ⟨(some (true, 4)), .mv (.c (.lit (.int .u64 0))), none⟩,
  ⟨(some (true, 5)), .mv (.c (.lit (.int .u64 0))), none⟩])
(.seq
(.reg [
  ⟨(some (false, 14)), .mv (.g 0), none⟩,
  ⟨(some (false, 15)), .bin .and (.l 14) (.c (.lit (.int .u64 4294967295))), none⟩,
  ⟨(some (true, 6)), .mv (.l 15), none⟩])
(.seq
(.reg [
  ⟨(some (false, 16)), .mv (.g 0), none⟩,
  ⟨(some (false, 17)), .bin .shr (.l 16) (.c (.lit (.int .u64 32))), none⟩,
  ⟨(some (true, 7)), .mv (.l 17), none⟩])
(.seq
(.reg [
  ⟨(some (false, 18)), .mv (.g 1), none⟩,
  ⟨(some (false, 19)), .bin .and (.l 18) (.c (.lit (.int .u64 4294967295))), none⟩,
  ⟨(some (true, 8)), .mv (.l 19), none⟩])
(.seq
(.reg [
  ⟨(some (false, 20)), .mv (.g 1), none⟩,
  ⟨(some (false, 21)), .bin .shr (.l 20) (.c (.lit (.int .u64 32))), none⟩,
  ⟨(some (true, 9)), .mv (.l 21), none⟩])
(.seq
(.reg [
  ⟨(some (false, 22)), .mv (.g 6), none⟩,
  ⟨(some (false, 23)), .mv (.g 8), none⟩,
  ⟨(some (false, 24)), .bin .mul (.l 22) (.l 23), none⟩,
  ⟨(some (true, 10)), .mv (.l 24), none⟩])
(.seq
(.reg [
  ⟨(some (false, 25)), .mv (.g 7), none⟩,
  ⟨(some (false, 26)), .mv (.g 8), none⟩,
  ⟨(some (false, 27)), .bin .mul (.l 25) (.l 26), none⟩,
  ⟨(some (false, 28)), .mv (.g 10), none⟩,
  ⟨(some (false, 29)), .bin .shr (.l 28) (.c (.lit (.int .u64 32))), none⟩,
  ⟨(some (false, 30)), .bin .add (.l 27) (.l 29), none⟩,
  ⟨(some (true, 11)), .mv (.l 30), none⟩])
(.seq
(.reg [
  ⟨(some (false, 31)), .mv (.g 11), none⟩,
  ⟨(some (false, 32)), .bin .and (.l 31) (.c (.lit (.int .u64 4294967295))), none⟩,
  ⟨(some (true, 12)), .mv (.l 32), none⟩])
(.seq
(.reg [
  ⟨(some (false, 33)), .mv (.g 11), none⟩,
  ⟨(some (false, 34)), .bin .shr (.l 33) (.c (.lit (.int .u64 32))), none⟩,
  ⟨(some (true, 13)), .mv (.l 34), none⟩])
(.seq
(.reg [
  ⟨(some (false, 35)), .mv (.g 12), none⟩,
  ⟨(some (false, 36)), .mv (.g 6), none⟩,
  ⟨(some (false, 37)), .mv (.g 9), none⟩,
  ⟨(some (false, 38)), .bin .mul (.l 36) (.l 37), none⟩,
  ⟨(some (false, 39)), .bin .add (.l 35) (.l 38), none⟩,
  ⟨(some (true, 12)), .mv (.l 39), none⟩])
(.seq
(.reg [
  ⟨(some (false, 40)), .mv (.g 7), none⟩,
  ⟨(some (false, 41)), .mv (.g 9), none⟩,
  ⟨(some (false, 42)), .bin .mul (.l 40) (.l 41), none⟩,
  ⟨(some (false, 43)), .mv (.g 13), none⟩,
  ⟨(some (false, 44)), .bin .add (.l 42) (.l 43), none⟩,
  ⟨(some (false, 45)), .mv (.g 12), none⟩,
  ⟨(some (false, 46)), .bin .shr (.l 45) (.c (.lit (.int .u64 32))), none⟩,
  ⟨(some (false, 47)), .bin .add (.l 44) (.l 46), none⟩,
  ⟨(some (true, 4)), .mv (.l 47), none⟩])
(.seq
(.reg [
  ⟨(some (false, 48)), .mv (.g 0), none⟩,
  ⟨(some (false, 49)), .mv (.g 1), none⟩,
  ⟨(some (false, 50)), .bin .mul (.l 48) (.l 49), none⟩,
  ⟨(some (true, 5)), .mv (.l 50), none⟩])
.ret))))))))))))
def K112 : List Nat := [0, 1, 4, 5, 6, 7, 8, 9, 10, 11, 12, 13]
noncomputable def b112 : Code := match Tryz.f112.body with | some c => c | none => .skip
theorem t112 : trCode ⟨Tryz.prog, K112, [], 51, none⟩ b112 = some c112 := by kernel_rfl
theorem go112 {args : List AV} {H : AHeap} {Kk : AV → AHeap → Prop} (hn : args.length = 2) (h : AGo ⟨Tryz.prog, K112, [], 51, none⟩ H.length [.code c112] (RetP [.t (.g 4), .t (.g 5)] H.length Kk) ⟨[], argsG 0 args⟩ H) : ACalls Tryz.prog 112 args H Kk :=
  ACalls_of Tryz.func112 (c := b112) rfl (by kernel_rfl) t112 (rs := [.t (.g 4), .t (.g 5)]) (by kernel_rfl) (by rw [hn]; exact Nat.le_of_ble_eq_true rfl) (by rw [hn]; rfl) (h.weaken (fun _ _ => RetP.hands) (by simp))

/-- slices.swapRangeCmpFunc[sastrugi/api.Mark] -/
def c127 : ACode :=
  (.seq
(.reg [
  ⟨(some (true, 10)), .mv (.c (.lit (.int .i64 0))), none⟩])
(.block 0
(.loop
(.seq
(.seq
(.reg [
  ⟨(some (false, 11)), .mv (.g 10), none⟩,
  ⟨(some (false, 12)), .mv (.g 3), none⟩,
  ⟨(some (true, 13)), .bin .lss (.l 11) (.l 12), none⟩])
(.cond (.g 13)
.skip
(.exit 0)))
(.seq
(.block 1
(.draw [
  ⟨⟨(some (false, 16)), .mv (.g 0), none⟩, 0, true, []⟩,
  ⟨⟨(some (false, 17)), .mv (.g 1), none⟩, 1, true, []⟩,
  ⟨⟨(some (false, 18)), .mv (.g 10), none⟩, 2, true, []⟩,
  ⟨⟨(some (false, 19)), .bin .add (.l 17) (.l 18), none⟩, 3, true, []⟩,
  ⟨⟨(some (false, 20)), .mv (.g 0), none⟩, 4, false, []⟩,
  ⟨⟨(some (false, 21)), .mv (.g 2), none⟩, 5, false, []⟩,
  ⟨⟨(some (false, 22)), .mv (.g 10), none⟩, 6, false, []⟩,
  ⟨⟨(some (false, 23)), .bin .add (.l 21) (.l 22), none⟩, 7, false, []⟩,
  ⟨⟨(some (false, 24)), .mv (.g 0), none⟩, 8, true, []⟩,
  ⟨⟨(some (false, 25)), .mv (.g 2), none⟩, 9, true, []⟩,
  ⟨⟨(some (false, 26)), .mv (.g 10), none⟩, 10, true, []⟩,
  ⟨⟨(some (false, 27)), .bin .add (.l 25) (.l 26), none⟩, 11, true, []⟩,
  ⟨⟨(some (false, 28)), .ia 5 (.l 24) (.l 27), none⟩, 12, true, []⟩,
  ⟨⟨(some (false, 29)), .ld (some 5) (.l 28), none⟩, 13, true, []⟩,
  ⟨⟨(some (false, 30)), .mv (.g 0), none⟩, 14, false, []⟩,
  ⟨⟨(some (false, 31)), .mv (.g 1), none⟩, 15, false, []⟩,
  ⟨⟨(some (false, 32)), .mv (.g 10), none⟩, 16, false, []⟩,
  ⟨⟨(some (false, 33)), .bin .add (.l 31) (.l 32), none⟩, 17, false, []⟩,
  ⟨⟨(some (false, 34)), .ia 5 (.l 30) (.l 33), none⟩, 18, true, []⟩,
  ⟨⟨(some (false, 35)), .ld (some 5) (.l 34), none⟩, 19, true, []⟩,
  ⟨⟨(some (false, 36)), .ia 5 (.l 16) (.l 19), none⟩, 20, true, []⟩,
  ⟨⟨none, .st 5 (.l 36) (.l 29), none⟩, 21, false, []⟩,
  ⟨⟨(some (false, 37)), .ia 5 (.l 20) (.l 23), none⟩, 22, false, []⟩,
  ⟨⟨none, .st 5 (.l 37) (.l 35), none⟩, 23, true, []⟩]))
(.reg [
  ⟨(some (false, 14)), .mv (.g 10), none⟩,
  ⟨(some (false, 15)), .bin .add (.l 14) (.c (.lit (.int .i64 1))), none⟩,
  ⟨(some (true, 10)), .mv (.l 15), none⟩]))))))
def K127 : List Nat := [0, 1, 2, 3, 4, 13, 10]
noncomputable def b127 : Code := match Tryz.f127.body with | some c => c | none => .skip
theorem t127 : trCode ⟨Tryz.prog, K127, [], 38, none⟩ b127 = some c127 := by kernel_rfl
end Go.Sas
