/-
The code of some functions with its types resolved, printed by a program; that it is the code is checked by the kernel.
The code of some functions with its types resolved, printed by a program; that it is the code is checked by the kernel.
Conditions: none.
-/
import Derived.Test.YtpokfjhlilbpfaaDoorP4d
import Derived.Test.YtpokfjhlilbpfaaDoorProg
set_option linter.unusedVariables false
set_option linter.unusedSimpArgs false
namespace Go.Sas
open Go.Proofs
set_option maxRecDepth 100000
/-- sastrugi/probe.stale -/
def c41 : ACode :=
  (.seq
(.reg [
  ⟨(some (true, 3)), .box (.g 0), none⟩,
  ⟨(some (true, 4)), .box (.g 1), none⟩,
  ⟨(some (true, 5)), .box (.g 2), none⟩,
  ⟨(some (true, 6)), .mv (.c (.lit (.slice none 0 0))), none⟩])
(.seq
(.reg [
  ⟨(some (false, 13)), .fa (.g 3) 5, none⟩,
  ⟨(some (false, 14)), .ld none (.l 13), none⟩,
  ⟨(some (false, 15)), .len (.l 14), none⟩,
  ⟨(some (false, 16)), .mksl 1 1 [.bool false] (.l 15) (.l 15), none⟩,
  ⟨(some (true, 7)), .new [.slice none 0 0], none⟩,
  ⟨none, .st 1 (.g 7) (.l 16), none⟩])
(.seq
(.seq
(.reg [
  ⟨(some (false, 17)), .fa (.g 3) 0, none⟩,
  ⟨(some (false, 18)), .ld (some 4) (.l 17), none⟩,
  ⟨(some (true, 19)), .call (.c (.fn 54 [])) [.l 18], none⟩])
(.block 0
(.rng (.g 19) [20, 21]
(.seq
(.reg [
  ⟨(some (true, 8)), .mv (.g 20), none⟩])
(.reg [
  ⟨(some (true, 9)), .new [.int .i64 0, .int .i64 0, .int .i64 0, .int .i64 0, .int .i64 0], none⟩,
  ⟨none, .st 5 (.g 9) (.g 21), none⟩]))
(.block 1
(.seq
(.reg [
  ⟨(some (false, 22)), .ld none (.g 7), none⟩,
  ⟨(some (false, 23)), .mv (.g 8), none⟩,
  ⟨(some (false, 24)), .ia 1 (.l 22) (.l 23), none⟩,
  ⟨none, .st 1 (.l 24) (.c (.lit (.bool true))), none⟩])
(.seq
(.reg [
  ⟨(some (true, 25)), .ld none (.g 4), none⟩,
  ⟨(some (true, 26)), .len (.g 25), none⟩,
  ⟨(some (true, 27)), .mv (.c (.lit (.int .i64 0))), none⟩])
(.block 2
(.loop
(.seq
(.reg [
  ⟨(some (true, 28)), .bin .lss (.g 27) (.g 26), none⟩])
(.seq
(.cond (.g 28)
.skip
(.exit 2))
(.seq
(.block 3
(.seq
(.reg [
  ⟨(some (false, 29)), .ia 5 (.g 25) (.g 27), none⟩,
  ⟨(some (false, 30)), .ld (some 5) (.l 29), none⟩,
  ⟨(some (true, 11)), .new [.int .i64 0, .int .i64 0, .int .i64 0, .int .i64 0, .int .i64 0], none⟩,
  ⟨none, .st 5 (.g 11) (.l 30), none⟩])
(.seq
(.reg [
  ⟨(some (false, 31)), .fa (.g 3) 0, none⟩,
  ⟨(some (false, 32)), .fa (.l 31) 1, none⟩,
  ⟨(some (false, 33)), .ld (some 3) (.l 32), none⟩,
  ⟨(some (true, 12)), .new [.int .i64 0, .int .i64 0, .int .i64 0], none⟩,
  ⟨none, .st 3 (.g 12) (.l 33), none⟩])
(.seq
(.draw [
  ⟨⟨(some (false, 34)), .mv (.g 8), none⟩, 0, true, []⟩,
  ⟨⟨(some (false, 35)), .fa (.g 11) 1, none⟩, 1, true, []⟩,
  ⟨⟨(some (false, 36)), .ld none (.l 35), none⟩, 2, true, []⟩,
  ⟨⟨(some (false, 37)), .fa (.g 11) 0, none⟩, 3, true, []⟩,
  ⟨⟨(some (false, 38)), .ld none (.l 37), none⟩, 4, true, []⟩,
  ⟨⟨(some (false, 39)), .bin .sub (.l 38) (.c (.lit (.int .i64 1))), none⟩, 5, true, []⟩,
  ⟨⟨(some (false, 40)), .iaa 3 1 (.g 12) (.l 39), none⟩, 6, true, []⟩,
  ⟨⟨(some (false, 41)), .ld none (.l 40), none⟩, 7, true, []⟩,
  ⟨⟨(some (false, 42)), .bin .sub (.l 36) (.l 41), none⟩, 8, true, []⟩,
  ⟨⟨(some (false, 43)), .fa (.g 11) 1, none⟩, 9, true, []⟩,
  ⟨⟨(some (false, 44)), .ld none (.l 43), none⟩, 10, true, []⟩,
  ⟨⟨(some (false, 45)), .fa (.g 11) 0, none⟩, 11, true, []⟩,
  ⟨⟨(some (false, 46)), .ld none (.l 45), none⟩, 12, true, []⟩,
  ⟨⟨(some (false, 47)), .bin .sub (.l 46) (.c (.lit (.int .i64 1))), none⟩, 13, true, []⟩,
  ⟨⟨(some (false, 48)), .iaa 3 1 (.g 12) (.l 47), none⟩, 14, true, []⟩,
  ⟨⟨(some (false, 49)), .ld none (.l 48), none⟩, 15, true, []⟩,
  ⟨⟨(some (false, 50)), .bin .add (.l 44) (.l 49), none⟩, 16, true, []⟩,
  ⟨⟨(some (false, 51)), .call (.c (.fn 16 [])) [.l 34, .l 42, .l 50], none⟩, 17, false, []⟩,
  ⟨⟨(some (false, 52)), .mv (.l 51), none⟩, 18, true, []⟩,
  ⟨⟨(some (false, 53)), .fa (.g 11) 2, (some (.l 52, true))⟩, 19, true, []⟩,
  ⟨⟨(some (false, 54)), .ld none (.l 53), (some (.l 52, true))⟩, 20, true, []⟩,
  ⟨⟨(some (false, 55)), .ld none (.g 5), (some (.l 52, true))⟩, 21, true, []⟩,
  ⟨⟨(some (false, 56)), .fa (.g 9) 4, (some (.l 52, true))⟩, 22, true, []⟩,
  ⟨⟨(some (false, 57)), .ld none (.l 56), (some (.l 52, true))⟩, 23, true, []⟩,
  ⟨⟨(some (false, 58)), .bin .sub (.l 55) (.l 57), (some (.l 52, true))⟩, 24, true, []⟩,
  ⟨⟨(some (false, 59)), .ld none (.g 5), (some (.l 52, true))⟩, 25, true, []⟩,
  ⟨⟨(some (false, 60)), .call (.c (.fn 16 [])) [.l 54, .l 58, .l 59], (some (.l 52, true))⟩, 26, false, []⟩,
  ⟨⟨(some (true, 61)), .pick (.l 52) (.l 60) (.c (.lit (.bool false))), none⟩, 27, true, []⟩])
(.cond (.g 61)
(.reg [
  ⟨(some (false, 62)), .ld none (.g 7), none⟩,
  ⟨(some (false, 63)), .mv (.g 8), none⟩,
  ⟨(some (false, 64)), .ia 1 (.l 62) (.l 63), none⟩,
  ⟨none, .st 1 (.l 64) (.c (.lit (.bool false))), none⟩])
.skip)))))
(.reg [
  ⟨(some (false, 65)), .bin .add (.g 27) (.c (.lit (.int .i64 1))), none⟩,
  ⟨(some (true, 27)), .mv (.l 65), none⟩]))))))))))))
(.seq
(.reg [
  ⟨(some (false, 66)), .ld none (.g 7), none⟩,
  ⟨(some (true, 6)), .mv (.l 66), none⟩])
.ret))))
def K41 : List Nat := [0, 1, 2, 19, 20, 21, 28, 61, 6, 3, 4, 5, 7, 8, 9, 25, 26, 27, 11, 12]
noncomputable def b41 : Code := match Tryd.f41.body with | some c => c | none => .skip
theorem t41 : trCode ⟨Tryd.prog, K41, [], 67, none⟩ b41 = some c41 := by kernel_rfl
theorem go41 {args : List AV} {H : AHeap} {Kk : AV → AHeap → Prop} (hn : args.length = 3) (h : AGo ⟨Tryd.prog, K41, [], 67, none⟩ H.length [.code c41] (RetP [.t (.g 6)] H.length Kk) ⟨[], argsG 0 args⟩ H) : ACalls Tryd.prog 41 args H Kk :=
  ACalls_of Tryd.func41 (c := b41) rfl (by kernel_rfl) t41 (rs := [.t (.g 6)]) (by kernel_rfl) (by rw [hn]; exact Nat.le_of_ble_eq_true rfl) (by rw [hn]; rfl) (h.weaken (fun _ _ => RetP.hands) (by simp))

/-- sastrugi/probe.asked -/
def c43 : ACode :=
  (.seq
(.reg [
  ⟨(some (true, 5)), .box (.g 0), none⟩,
  ⟨(some (true, 10)), .new [.slice none 0 0, .int .i64 0, .int .i64 0, .int .i64 0, .slice none 0 0, .slice none 0 0], none⟩,
  ⟨(some (true, 11)), .mv (.c (.lit (.slice none 0 0))), none⟩,
  ⟨(some (true, 12)), .mv (.c (.lit (.slice none 0 0))), none⟩,
  ⟨(some (true, 13)), .mv (.c (.lit (.int .i64 0))), none⟩])
(.seq
(.reg [
  ⟨(some (false, 20)), .ld (some 4) (.g 5), none⟩,
  ⟨(some (false, 21)), .mv (.g 1), none⟩,
  ⟨(some (false, 22)), .call (.c (.fn 15 [])) [.l 20, .l 21], none⟩,
  ⟨(some (false, 19)), .mv (.l 22), none⟩,
  ⟨(some (false, 23)), .ex (.l 19) 0, none⟩,
  ⟨(some (false, 24)), .ex (.l 19) 1, none⟩,
  ⟨none, .st 6 (.g 10) (.l 23), none⟩,
  ⟨(some (true, 13)), .mv (.l 24), none⟩])
(.seq
(.seq
(.reg [
  ⟨(some (false, 25)), .mv (.g 13), none⟩,
  ⟨(some (true, 26)), .bin .neq (.l 25) (.c (.lit (.int .i64 0))), none⟩])
(.cond (.g 26)
(.seq
(.reg [
  ⟨(some (false, 27)), .ld (some 6) (.g 10), none⟩,
  ⟨(some (false, 28)), .mv (.g 13), none⟩,
  ⟨none, .st 6 (.g 10) (.l 27), none⟩,
  ⟨(some (true, 11)), .mv (.c (.lit (.slice none 0 0))), none⟩,
  ⟨(some (true, 12)), .mv (.c (.lit (.slice none 0 0))), none⟩,
  ⟨(some (true, 13)), .mv (.l 28), none⟩])
.ret)
.skip))
(.seq
(.seq
(.reg [
  ⟨(some (false, 29)), .fa (.g 10) 5, none⟩,
  ⟨(some (false, 30)), .ld none (.l 29), none⟩,
  ⟨(some (false, 31)), .len (.l 30), none⟩,
  ⟨(some (false, 32)), .mv (.g 2), none⟩,
  ⟨(some (false, 33)), .call (.c (.fn 58 [])) [.l 31, .l 32], none⟩,
  ⟨(some (true, 14)), .mv (.l 33), none⟩])
(.seq
(.reg [
  ⟨(some (false, 34)), .mv (.g 14), none⟩,
  ⟨(some (true, 35)), .bin .neq (.l 34) (.c (.lit (.int .i64 0))), none⟩])
(.cond (.g 35)
(.seq
(.reg [
  ⟨(some (false, 36)), .ld (some 6) (.g 10), none⟩,
  ⟨(some (false, 37)), .mv (.g 14), none⟩,
  ⟨none, .st 6 (.g 10) (.l 36), none⟩,
  ⟨(some (true, 11)), .mv (.c (.lit (.slice none 0 0))), none⟩,
  ⟨(some (true, 12)), .mv (.c (.lit (.slice none 0 0))), none⟩,
  ⟨(some (true, 13)), .mv (.l 37), none⟩])
.ret)
.skip)))
(.seq
(.seq
(.reg [
  ⟨(some (false, 38)), .mv (.g 3), none⟩,
  ⟨(some (false, 39)), .call (.c (.fn 16 [])) [.l 38, .c (.lit (.int .i64 0)), .c (.lit (.int .i64 3000))], none⟩,
  ⟨(some (false, 40)), .un .not (.l 39), none⟩,
  ⟨(some (false, 41)), .mv (.l 40), none⟩,
  ⟨(some (false, 42)), .mv (.g 4), (some (.l 41, false))⟩,
  ⟨(some (false, 43)), .call (.c (.fn 16 [])) [.l 42, .c (.lit (.int .i64 0)), .c (.lit (.int .i64 10000))], (some (.l 41, false))⟩,
  ⟨(some (false, 44)), .un .not (.l 43), (some (.l 41, false))⟩,
  ⟨(some (true, 45)), .pick (.l 41) (.c (.lit (.bool true))) (.l 44), none⟩])
(.cond (.g 45)
(.seq
(.reg [
  ⟨(some (false, 46)), .ld (some 6) (.g 10), none⟩,
  ⟨none, .st 6 (.g 10) (.l 46), none⟩,
  ⟨(some (true, 11)), .mv (.c (.lit (.slice none 0 0))), none⟩,
  ⟨(some (true, 12)), .mv (.c (.lit (.slice none 0 0))), none⟩,
  ⟨(some (true, 13)), .mv (.c (.lit (.int .i64 2))), none⟩])
.ret)
.skip))
(.seq
(.seq
(.reg [
  ⟨(some (true, 47)), .mv (.g 1), none⟩,
  ⟨(some (true, 48)), .len (.g 47), none⟩,
  ⟨(some (true, 49)), .mv (.c (.lit (.int .i64 0))), none⟩])
(.block 0
(.loop
(.seq
(.reg [
  ⟨(some (true, 50)), .bin .lss (.g 49) (.g 48), none⟩])
(.seq
(.cond (.g 50)
.skip
(.exit 0))
(.seq
(.block 1
(.seq
(.reg [
  ⟨(some (false, 51)), .ia 5 (.g 47) (.g 49), none⟩,
  ⟨(some (false, 52)), .ld (some 5) (.l 51), none⟩,
  ⟨(some (true, 16)), .new [.int .i64 0, .int .i64 0, .int .i64 0, .int .i64 0, .int .i64 0], none⟩,
  ⟨none, .st 5 (.g 16) (.l 52), none⟩])
(.seq
(.reg [
  ⟨(some (false, 53)), .fa (.g 16) 2, none⟩,
  ⟨(some (false, 54)), .ld none (.l 53), none⟩,
  ⟨(some (false, 55)), .mv (.g 4), none⟩,
  ⟨(some (true, 56)), .bin .leq (.l 54) (.l 55), none⟩])
(.cond (.g 56)
(.reg [
  ⟨(some (false, 57)), .mv (.g 11), none⟩,
  ⟨(some (false, 58)), .ld (some 5) (.g 16), none⟩,
  ⟨(some (false, 59)), .mks false 5 [.l 58], none⟩,
  ⟨(some (false, 60)), .app 5 40 (.l 57) (.l 59), none⟩,
  ⟨(some (true, 11)), .mv (.l 60), none⟩])
.skip))))
(.reg [
  ⟨(some (false, 61)), .bin .add (.g 49) (.c (.lit (.int .i64 1))), none⟩,
  ⟨(some (true, 49)), .mv (.l 61), none⟩])))))))
(.seq
(.seq
(.reg [
  ⟨(some (true, 62)), .mv (.g 2), none⟩,
  ⟨(some (true, 63)), .len (.g 62), none⟩,
  ⟨(some (true, 64)), .mv (.c (.lit (.int .i64 0))), none⟩])
(.block 2
(.loop
(.seq
(.reg [
  ⟨(some (true, 65)), .bin .lss (.g 64) (.g 63), none⟩])
(.seq
(.cond (.g 65)
.skip
(.exit 2))
(.seq
(.block 3
(.seq
(.reg [
  ⟨(some (false, 66)), .ia 5 (.g 62) (.g 64), none⟩,
  ⟨(some (false, 67)), .ld (some 5) (.l 66), none⟩,
  ⟨(some (true, 18)), .new [.int .i64 0, .int .i64 0, .int .i64 0, .int .i64 0, .int .i64 0], none⟩,
  ⟨none, .st 5 (.g 18) (.l 67), none⟩])
(.seq
(.reg [
  ⟨(some (false, 68)), .fa (.g 18) 3, none⟩,
  ⟨(some (false, 69)), .ld none (.l 68), none⟩,
  ⟨(some (false, 70)), .mv (.g 4), none⟩,
  ⟨(some (true, 71)), .bin .leq (.l 69) (.l 70), none⟩])
(.cond (.g 71)
(.reg [
  ⟨(some (false, 72)), .mv (.g 12), none⟩,
  ⟨(some (false, 73)), .ld (some 5) (.g 18), none⟩,
  ⟨(some (false, 74)), .mks false 5 [.l 73], none⟩,
  ⟨(some (false, 75)), .app 5 40 (.l 72) (.l 74), none⟩,
  ⟨(some (true, 12)), .mv (.l 75), none⟩])
.skip))))
(.reg [
  ⟨(some (false, 76)), .bin .add (.g 64) (.c (.lit (.int .i64 1))), none⟩,
  ⟨(some (true, 64)), .mv (.l 76), none⟩])))))))
(.seq
(.reg [
  ⟨(some (false, 77)), .ld (some 6) (.g 10), none⟩,
  ⟨(some (false, 78)), .mv (.g 11), none⟩,
  ⟨(some (false, 79)), .mv (.g 12), none⟩,
  ⟨none, .st 6 (.g 10) (.l 77), none⟩,
  ⟨(some (true, 11)), .mv (.l 78), none⟩,
  ⟨(some (true, 12)), .mv (.l 79), none⟩,
  ⟨(some (true, 13)), .mv (.c (.lit (.int .i64 0))), none⟩])
.ret))))))))
def K43 : List Nat := [0, 1, 2, 3, 4, 26, 35, 45, 50, 56, 65, 71, 10, 11, 12, 13, 5, 14, 47, 48, 49, 16, 62, 63, 64, 18]
noncomputable def b43 : Code := match Tryd.f43.body with | some c => c | none => .skip
theorem t43 : trCode ⟨Tryd.prog, K43, [], 80, none⟩ b43 = some c43 := by kernel_rfl
theorem go43 {args : List AV} {H : AHeap} {Kk : AV → AHeap → Prop} (hn : args.length = 5) (h : AGo ⟨Tryd.prog, K43, [], 80, none⟩ H.length [.code c43] (RetP [.cell (.g 10) (some 6), .t (.g 11), .t (.g 12), .t (.g 13)] H.length Kk) ⟨[], argsG 0 args⟩ H) : ACalls Tryd.prog 43 args H Kk :=
  ACalls_of Tryd.func43 (c := b43) rfl (by kernel_rfl) t43 (rs := [.cell (.g 10) (some 6), .t (.g 11), .t (.g 12), .t (.g 13)]) (by kernel_rfl) (by rw [hn]; exact Nat.le_of_ble_eq_true rfl) (by rw [hn]; rfl) (h.weaken (fun _ _ => RetP.hands) (by simp))

/-- sastrugi/probe.joined[int] -/
def c36 : ACode :=
  (.seq
(.reg [
  ⟨(some (true, 4)), .mv (.c (.lit (.int .i64 0))), none⟩])
(.block 0
(.loop
(.seq
(.seq
(.reg [
  ⟨(some (false, 6)), .mv (.g 4), none⟩,
  ⟨(some (false, 7)), .mv (.g 0), none⟩,
  ⟨(some (false, 8)), .len (.l 7), none⟩,
  ⟨(some (true, 9)), .bin .lss (.l 6) (.l 8), none⟩])
(.cond (.g 9)
.skip
(.exit 0)))
(.block 1
(.seq
(.reg [
  ⟨(some (false, 10)), .mv (.g 4), none⟩,
  ⟨(some (true, 5)), .mv (.l 10), none⟩])
(.seq
(.block 2
(.loop
(.seq
(.seq
(.draw [
  ⟨⟨(some (false, 11)), .mv (.g 5), none⟩, 0, true, []⟩,
  ⟨⟨(some (false, 12)), .bin .add (.l 11) (.c (.lit (.int .i64 1))), none⟩, 1, true, []⟩,
  ⟨⟨(some (false, 13)), .mv (.g 0), none⟩, 2, true, []⟩,
  ⟨⟨(some (false, 14)), .len (.l 13), none⟩, 3, true, []⟩,
  ⟨⟨(some (false, 15)), .bin .lss (.l 12) (.l 14), none⟩, 4, true, []⟩,
  ⟨⟨(some (false, 16)), .mv (.l 15), none⟩, 5, true, []⟩,
  ⟨⟨(some (false, 17)), .mv (.g 0), (some (.l 16, true))⟩, 6, true, []⟩,
  ⟨⟨(some (false, 18)), .mv (.g 5), (some (.l 16, true))⟩, 7, true, []⟩,
  ⟨⟨(some (false, 19)), .bin .add (.l 18) (.c (.lit (.int .i64 1))), (some (.l 16, true))⟩, 8, true, []⟩,
  ⟨⟨(some (false, 20)), .ia 1 (.l 17) (.l 19), (some (.l 16, true))⟩, 9, true, []⟩,
  ⟨⟨(some (false, 21)), .ld none (.l 20), (some (.l 16, true))⟩, 10, true, []⟩,
  ⟨⟨(some (false, 22)), .mv (.g 0), (some (.l 16, true))⟩, 11, true, []⟩,
  ⟨⟨(some (false, 23)), .mv (.g 4), (some (.l 16, true))⟩, 12, true, []⟩,
  ⟨⟨(some (false, 24)), .ia 1 (.l 22) (.l 23), (some (.l 16, true))⟩, 13, true, []⟩,
  ⟨⟨(some (false, 25)), .ld none (.l 24), (some (.l 16, true))⟩, 14, true, []⟩,
  ⟨⟨(some (false, 26)), .bin .eql (.l 21) (.l 25), (some (.l 16, true))⟩, 15, true, []⟩,
  ⟨⟨(some (true, 27)), .pick (.l 16) (.l 26) (.c (.lit (.bool false))), none⟩, 16, true, []⟩])
(.cond (.g 27)
.skip
(.exit 2)))
(.block 3
(.reg [
  ⟨(some (false, 28)), .mv (.g 5), none⟩,
  ⟨(some (false, 29)), .bin .add (.l 28) (.c (.lit (.int .i64 1))), none⟩,
  ⟨(some (true, 5)), .mv (.l 29), none⟩])))))
(.seq
(.reg [
  ⟨(some (false, 30)), .mv (.g 1), none⟩,
  ⟨(some (false, 31)), .mv (.g 4), none⟩,
  ⟨(some (false, 32)), .mv (.g 5), none⟩,
  ⟨(some (false, 33)), .mv (.g 0), none⟩,
  ⟨(some (false, 34)), .mv (.g 4), none⟩,
  ⟨(some (false, 35)), .ia 1 (.l 33) (.l 34), none⟩,
  ⟨(some (false, 36)), .ld none (.l 35), none⟩,
  ⟨(some (false, 37)), .call (.l 30) [.l 31, .l 32, .l 36], none⟩])
(.reg [
  ⟨(some (false, 38)), .mv (.g 5), none⟩,
  ⟨(some (false, 39)), .bin .add (.l 38) (.c (.lit (.int .i64 1))), none⟩,
  ⟨(some (true, 4)), .mv (.l 39), none⟩])))))))))
def K36 : List Nat := [0, 1, 9, 27, 4, 5]
noncomputable def b36 : Code := match Tryd.f36.body with | some c => c | none => .skip
theorem t36 : trCode ⟨Tryd.prog, K36, [], 40, none⟩ b36 = some c36 := by kernel_rfl
theorem go36 {args : List AV} {H : AHeap} {Kk : AV → AHeap → Prop} (hn : args.length = 2) (h : AGo ⟨Tryd.prog, K36, [], 40, none⟩ H.length [.code c36] (RetP [] H.length Kk) ⟨[], argsG 0 args⟩ H) : ACalls Tryd.prog 36 args H Kk :=
  ACalls_of Tryd.func36 (c := b36) rfl (by kernel_rfl) t36 (rs := []) (by kernel_rfl) (by rw [hn]; exact Nat.le_of_ble_eq_true rfl) (by rw [hn]; rfl) (h.weaken (fun _ _ => RetP.hands) (by simp))

/-- sastrugi/probe.Close$1 -/
def c45 : ACode :=
  (.seq
(.reg [
  ⟨(some (false, 7)), .mv (.g 2), none⟩,
  ⟨(some (true, 8)), .bin .neq (.l 7) (.c (.lit (.int .i64 0))), none⟩])
(.cond (.g 8)
(.reg [
  ⟨(some (false, 9)), .ld none (.g 3), none⟩,
  ⟨(some (false, 10)), .mv (.g 0), none⟩,
  ⟨(some (false, 11)), .mv (.g 1), none⟩,
  ⟨(some (false, 12)), .mv (.g 2), none⟩,
  ⟨(some (false, 13)), .mk [.int .i64 0, .int .i64 0, .int .i64 0] [(0, 1, .l 10), (1, 1, .l 11), (2, 1, .l 12)], none⟩,
  ⟨(some (false, 14)), .mks false 3 [.l 13], none⟩,
  ⟨(some (false, 15)), .app 3 24 (.l 9) (.l 14), none⟩,
  ⟨none, .st 1 (.g 3) (.l 15), none⟩])
.skip))
def K45 : List Nat := [0, 1, 2, 3, 8]
noncomputable def b45 : Code := match Tryd.f45.body with | some c => c | none => .skip
theorem t45 : trCode ⟨Tryd.prog, K45, [], 16, none⟩ b45 = some c45 := by kernel_rfl
theorem go45 {args : List AV} {H : AHeap} {Kk : AV → AHeap → Prop} (hn : args.length = 4) (h : AGo ⟨Tryd.prog, K45, [], 16, none⟩ H.length [.code c45] (RetP [] H.length Kk) ⟨[], argsG 0 args⟩ H) : ACalls Tryd.prog 45 args H Kk :=
  ACalls_of Tryd.func45 (c := b45) rfl (by kernel_rfl) t45 (rs := []) (by kernel_rfl) (by rw [hn]; exact Nat.le_of_ble_eq_true rfl) (by rw [hn]; rfl) (h.weaken (fun _ _ => RetP.hands) (by simp))

/-- sastrugi/probe.reasons -/
def c44 : ACode :=
  (.seq
(.reg [
  ⟨(some (true, 5)), .box (.g 0), none⟩,
  ⟨(some (true, 10)), .mv (.c (.lit (.slice none 0 0))), none⟩])
(.seq
(.reg [
  ⟨(some (false, 15)), .fa (.g 5) 5, none⟩,
  ⟨(some (false, 16)), .ld none (.l 15), none⟩,
  ⟨(some (false, 17)), .len (.l 16), none⟩,
  ⟨(some (false, 18)), .mksl 1 8 [.int .i64 0] (.l 17) (.l 17), none⟩,
  ⟨(some (true, 11)), .mv (.l 18), none⟩])
(.seq
(.reg [
  ⟨(some (false, 19)), .ld (some 6) (.g 5), none⟩,
  ⟨(some (false, 20)), .mv (.g 1), none⟩,
  ⟨(some (false, 21)), .mv (.g 4), none⟩,
  ⟨(some (false, 22)), .call (.c (.fn 41 [])) [.l 19, .l 20, .l 21], none⟩,
  ⟨(some (true, 12)), .mv (.l 22), none⟩])
(.seq
(.reg [
  ⟨(some (false, 23)), .mv (.g 2), none⟩,
  ⟨(some (false, 24)), .mv (.g 4), none⟩,
  ⟨(some (false, 25)), .mv (.g 11), none⟩,
  ⟨(some (false, 26)), .len (.l 25), none⟩,
  ⟨(some (false, 27)), .call (.c (.fn 37 [])) [.l 23, .l 24, .l 26], none⟩,
  ⟨(some (true, 13)), .mv (.l 27), none⟩])
(.seq
(.seq
(.reg [
  ⟨(some (false, 28)), .mv (.g 11), none⟩,
  ⟨(some (true, 29)), .len (.l 28), none⟩,
  ⟨(some (true, 30)), .mv (.c (.lit (.int .i64 0))), none⟩])
(.block 0
(.loop
(.seq
(.reg [
  ⟨(some (true, 31)), .bin .lss (.g 30) (.g 29), none⟩])
(.seq
(.cond (.g 31)
.skip
(.exit 0))
(.seq
(.block 1
(.seq
(.reg [
  ⟨(some (false, 32)), .mv (.g 30), none⟩,
  ⟨(some (true, 14)), .mv (.l 32), none⟩])
(.block 2
(.seq
(.reg [
  ⟨(some (false, 34)), .ld (some 6) (.g 5), none⟩,
  ⟨(some (false, 35)), .mv (.g 1), none⟩,
  ⟨(some (false, 36)), .mv (.g 14), none⟩,
  ⟨(some (false, 37)), .mv (.g 4), none⟩,
  ⟨(some (false, 38)), .call (.c (.fn 17 [])) [.l 34, .l 35, .l 36, .l 37], none⟩,
  ⟨(some (false, 39)), .fd none (.l 38) 0, none⟩,
  ⟨(some (false, 40)), .mv (.g 3), none⟩,
  ⟨(some (false, 41)), .bin .lss (.l 39) (.l 40), none⟩,
  ⟨(some (true, 33)), .mv (.l 41), none⟩])
(.cond (.g 33)
(.reg [
  ⟨(some (false, 42)), .mv (.g 11), none⟩,
  ⟨(some (false, 43)), .mv (.g 14), none⟩,
  ⟨(some (false, 44)), .ia 1 (.l 42) (.l 43), none⟩,
  ⟨none, .st 1 (.l 44) (.c (.lit (.int .i64 1))), none⟩])
(.seq
(.reg [
  ⟨(some (false, 46)), .mv (.g 13), none⟩,
  ⟨(some (false, 47)), .mv (.g 14), none⟩,
  ⟨(some (false, 48)), .ia 1 (.l 46) (.l 47), none⟩,
  ⟨(some (false, 49)), .ld none (.l 48), none⟩,
  ⟨(some (false, 50)), .bin .neq (.l 49) (.c (.lit (.int .i64 2))), none⟩,
  ⟨(some (true, 45)), .mv (.l 50), none⟩])
(.cond (.g 45)
(.reg [
  ⟨(some (false, 51)), .mv (.g 11), none⟩,
  ⟨(some (false, 52)), .mv (.g 14), none⟩,
  ⟨(some (false, 53)), .ia 1 (.l 51) (.l 52), none⟩,
  ⟨none, .st 1 (.l 53) (.c (.lit (.int .i64 2))), none⟩])
(.seq
(.reg [
  ⟨(some (false, 55)), .mv (.g 12), none⟩,
  ⟨(some (false, 56)), .mv (.g 14), none⟩,
  ⟨(some (false, 57)), .ia 1 (.l 55) (.l 56), none⟩,
  ⟨(some (false, 58)), .ld none (.l 57), none⟩,
  ⟨(some (true, 54)), .mv (.l 58), none⟩])
(.cond (.g 54)
(.reg [
  ⟨(some (false, 59)), .mv (.g 11), none⟩,
  ⟨(some (false, 60)), .mv (.g 14), none⟩,
  ⟨(some (false, 61)), .ia 1 (.l 59) (.l 60), none⟩,
  ⟨none, .st 1 (.l 61) (.c (.lit (.int .i64 3))), none⟩])
.skip)))))))))
(.reg [
  ⟨(some (false, 62)), .bin .add (.g 30) (.c (.lit (.int .i64 1))), none⟩,
  ⟨(some (true, 30)), .mv (.l 62), none⟩])))))))
(.seq
(.reg [
  ⟨(some (false, 63)), .mv (.g 11), none⟩,
  ⟨(some (true, 10)), .mv (.l 63), none⟩])
.ret))))))
def K44 : List Nat := [0, 1, 2, 3, 4, 31, 33, 45, 54, 10, 5, 11, 12, 13, 29, 30, 14]
noncomputable def b44 : Code := match Tryd.f44.body with | some c => c | none => .skip
theorem t44 : trCode ⟨Tryd.prog, K44, [], 64, none⟩ b44 = some c44 := by kernel_rfl
theorem go44 {args : List AV} {H : AHeap} {Kk : AV → AHeap → Prop} (hn : args.length = 5) (h : AGo ⟨Tryd.prog, K44, [], 64, none⟩ H.length [.code c44] (RetP [.t (.g 10)] H.length Kk) ⟨[], argsG 0 args⟩ H) : ACalls Tryd.prog 44 args H Kk :=
  ACalls_of Tryd.func44 (c := b44) rfl (by kernel_rfl) t44 (rs := [.t (.g 10)]) (by kernel_rfl) (by rw [hn]; exact Nat.le_of_ble_eq_true rfl) (by rw [hn]; rfl) (h.weaken (fun _ _ => RetP.hands) (by simp))

/-- sastrugi/probe.Close -/
def c22 : ACode :=
  (.seq
(.reg [
  ⟨(some (true, 5)), .box (.g 0), none⟩,
  ⟨(some (true, 10)), .mv (.c (.lit (.slice none 0 0))), none⟩,
  ⟨(some (true, 11)), .mv (.c (.lit (.int .i64 0))), none⟩])
(.seq
(.reg [
  ⟨(some (false, 18)), .ld (some 4) (.g 5), none⟩,
  ⟨(some (false, 19)), .mv (.g 1), none⟩,
  ⟨(some (false, 20)), .mv (.g 2), none⟩,
  ⟨(some (false, 21)), .mv (.g 3), none⟩,
  ⟨(some (false, 22)), .mv (.g 4), none⟩,
  ⟨(some (false, 23)), .call (.c (.fn 43 [])) [.l 18, .l 19, .l 20, .l 21, .l 22], none⟩,
  ⟨(some (false, 17)), .mv (.l 23), none⟩,
  ⟨(some (false, 24)), .ex (.l 17) 0, none⟩,
  ⟨(some (false, 25)), .ex (.l 17) 1, none⟩,
  ⟨(some (false, 26)), .ex (.l 17) 2, none⟩,
  ⟨(some (false, 27)), .ex (.l 17) 3, none⟩,
  ⟨(some (true, 12)), .new [.slice none 0 0, .int .i64 0, .int .i64 0, .int .i64 0, .slice none 0 0, .slice none 0 0], none⟩,
  ⟨none, .st 6 (.g 12) (.l 24), none⟩,
  ⟨(some (true, 13)), .mv (.l 25), none⟩,
  ⟨(some (true, 14)), .mv (.l 26), none⟩,
  ⟨(some (true, 15)), .mv (.l 27), none⟩])
(.seq
(.seq
(.reg [
  ⟨(some (false, 28)), .mv (.g 15), none⟩,
  ⟨(some (true, 29)), .bin .neq (.l 28) (.c (.lit (.int .i64 0))), none⟩])
(.cond (.g 29)
(.seq
(.reg [
  ⟨(some (false, 30)), .mv (.g 15), none⟩,
  ⟨(some (true, 10)), .mv (.c (.lit (.slice none 0 0))), none⟩,
  ⟨(some (true, 11)), .mv (.l 30), none⟩])
.ret)
.skip))
(.seq
(.reg [
  ⟨(some (true, 16)), .new [.slice none 0 0], none⟩])
(.seq
(.reg [
  ⟨(some (false, 31)), .ld (some 6) (.g 12), none⟩,
  ⟨(some (false, 32)), .mv (.g 13), none⟩,
  ⟨(some (false, 33)), .mv (.g 14), none⟩,
  ⟨(some (false, 34)), .mv (.g 3), none⟩,
  ⟨(some (false, 35)), .mv (.g 4), none⟩,
  ⟨(some (false, 36)), .call (.c (.fn 44 [])) [.l 31, .l 32, .l 33, .l 34, .l 35], none⟩,
  ⟨(some (false, 37)), .mkf 45 [.g 16], none⟩,
  ⟨(some (false, 38)), .call (.c (.fn 36 [])) [.l 36, .l 37], none⟩])
(.seq
(.reg [
  ⟨(some (false, 39)), .ld none (.g 16), none⟩,
  ⟨(some (true, 10)), .mv (.l 39), none⟩,
  ⟨(some (true, 11)), .mv (.c (.lit (.int .i64 0))), none⟩])
.ret))))))
def K22 : List Nat := [0, 1, 2, 3, 4, 29, 10, 11, 5, 12, 13, 14, 15, 16]
noncomputable def b22 : Code := match Tryd.f22.body with | some c => c | none => .skip
theorem t22 : trCode ⟨Tryd.prog, K22, [], 40, none⟩ b22 = some c22 := by kernel_rfl
theorem go22 {args : List AV} {H : AHeap} {Kk : AV → AHeap → Prop} (hn : args.length = 5) (h : AGo ⟨Tryd.prog, K22, [], 40, none⟩ H.length [.code c22] (RetP [.t (.g 10), .t (.g 11)] H.length Kk) ⟨[], argsG 0 args⟩ H) : ACalls Tryd.prog 22 args H Kk :=
  ACalls_of Tryd.func22 (c := b22) rfl (by kernel_rfl) t22 (rs := [.t (.g 10), .t (.g 11)]) (by kernel_rfl) (by rw [hn]; exact Nat.le_of_ble_eq_true rfl) (by rw [hn]; rfl) (h.weaken (fun _ _ => RetP.hands) (by simp))

/-- sastrugi/probe.verdicts -/
def c37 : ACode :=
  (.seq
(.reg [
  ⟨(some (true, 6)), .mv (.c (.lit (.slice none 0 0))), none⟩])
(.seq
(.reg [
  ⟨(some (false, 12)), .mks false 1 [.c (.lit (.int .i64 2))], none⟩,
  ⟨(some (false, 13)), .mv (.g 2), none⟩,
  ⟨(some (false, 14)), .call (.c (.fn 59 [])) [.l 12, .l 13], none⟩,
  ⟨(some (true, 7)), .new [.slice none 0 0], none⟩,
  ⟨none, .st 1 (.g 7) (.l 14), none⟩])
(.seq
(.reg [
  ⟨(some (false, 15)), .mkf 60 [.g 7], none⟩,
  ⟨(some (true, 8)), .mv (.l 15), none⟩])
(.seq
(.seq
(.reg [
  ⟨(some (false, 16)), .mv (.g 0), none⟩,
  ⟨(some (true, 17)), .len (.l 16), none⟩,
  ⟨(some (true, 18)), .mv (.c (.lit (.int .i64 0))), none⟩])
(.block 0
(.loop
(.seq
(.reg [
  ⟨(some (true, 19)), .bin .lss (.g 18) (.g 17), none⟩])
(.seq
(.cond (.g 19)
.skip
(.exit 0))
(.seq
(.block 1
(.seq
(.reg [
  ⟨(some (false, 20)), .mv (.g 18), none⟩,
  ⟨(some (true, 9)), .mv (.l 20), none⟩])
(.seq
(.reg [
  ⟨(some (false, 22)), .mv (.g 0), none⟩,
  ⟨(some (false, 23)), .mv (.g 9), none⟩,
  ⟨(some (false, 24)), .mv (.g 1), none⟩,
  ⟨(some (false, 25)), .mv (.g 2), none⟩,
  ⟨(some (false, 26)), .call (.c (.fn 61 [])) [.l 22, .l 23, .l 24, .l 25], none⟩,
  ⟨(some (false, 21)), .mv (.l 26), none⟩,
  ⟨(some (false, 27)), .ex (.l 21) 0, none⟩,
  ⟨(some (false, 28)), .ex (.l 21) 1, none⟩,
  ⟨(some (true, 10)), .mv (.l 27), none⟩,
  ⟨(some (true, 11)), .mv (.l 28), none⟩])
(.seq
(.reg [
  ⟨(some (false, 29)), .mv (.g 8), none⟩,
  ⟨(some (false, 30)), .mv (.g 10), none⟩,
  ⟨(some (false, 31)), .call (.l 29) [.l 30, .c (.lit (.int .i64 3))], none⟩])
(.reg [
  ⟨(some (false, 32)), .mv (.g 8), none⟩,
  ⟨(some (false, 33)), .mv (.g 11), none⟩,
  ⟨(some (false, 34)), .call (.l 32) [.l 33, .c (.lit (.int .i64 1))], none⟩])))))
(.reg [
  ⟨(some (false, 35)), .bin .add (.g 18) (.c (.lit (.int .i64 1))), none⟩,
  ⟨(some (true, 18)), .mv (.l 35), none⟩])))))))
(.seq
(.reg [
  ⟨(some (false, 36)), .ld none (.g 7), none⟩,
  ⟨(some (true, 6)), .mv (.l 36), none⟩])
.ret)))))
def K37 : List Nat := [0, 1, 2, 19, 6, 7, 8, 17, 18, 9, 10, 11]
noncomputable def b37 : Code := match Tryd.f37.body with | some c => c | none => .skip
theorem t37 : trCode ⟨Tryd.prog, K37, [], 37, none⟩ b37 = some c37 := by kernel_rfl
theorem go37 {args : List AV} {H : AHeap} {Kk : AV → AHeap → Prop} (hn : args.length = 3) (h : AGo ⟨Tryd.prog, K37, [], 37, none⟩ H.length [.code c37] (RetP [.t (.g 6)] H.length Kk) ⟨[], argsG 0 args⟩ H) : ACalls Tryd.prog 37 args H Kk :=
  ACalls_of Tryd.func37 (c := b37) rfl (by kernel_rfl) t37 (rs := [.t (.g 6)]) (by kernel_rfl) (by rw [hn]; exact Nat.le_of_ble_eq_true rfl) (by rw [hn]; rfl) (h.weaken (fun _ _ => RetP.hands) (by simp))

/-- slices.Repeat[[]int,int] -/
def c59 : ACode :=
  (.seq
(.reg [
  ⟨(some (true, 4)), .mv (.c (.lit (.slice none 0 0))), none⟩])
(.seq
(.seq
(.reg [
  ⟨(some (false, 9)), .mv (.g 1), none⟩,
  ⟨(some (true, 10)), .bin .lss (.l 9) (.c (.lit (.int .i64 0))), none⟩])
(.cond (.g 10)
(.other .skip)
.skip))
(.seq
(.reg [
  ⟨(some (false, 13)), .mv (.g 0), none⟩,
  ⟨(some (false, 14)), .len (.l 13), none⟩,
  ⟨(some (false, 15)), .cv .u64 (.l 14), none⟩,
  ⟨(some (false, 16)), .mv (.g 1), none⟩,
  ⟨(some (false, 17)), .cv .u64 (.l 16), none⟩,
  ⟨(some (false, 18)), .call (.c (.fn 67 [])) [.l 15, .l 17], none⟩,
  ⟨(some (false, 12)), .mv (.l 18), none⟩,
  ⟨(some (false, 19)), .ex (.l 12) 0, none⟩,
  ⟨(some (false, 20)), .ex (.l 12) 1, none⟩,
  ⟨(some (true, 5)), .mv (.l 19), none⟩,
  ⟨(some (true, 6)), .mv (.l 20), none⟩])
(.seq
(.seq
(.reg [
  ⟨(some (false, 21)), .mv (.g 5), none⟩,
  ⟨(some (false, 22)), .bin .gtr (.l 21) (.c (.lit (.int .u64 0))), none⟩,
  ⟨(some (false, 23)), .mv (.l 22), none⟩,
  ⟨(some (false, 24)), .mv (.g 6), (some (.l 23, false))⟩,
  ⟨(some (false, 25)), .bin .gtr (.l 24) (.c (.lit (.int .u64 9223372036854775807))), (some (.l 23, false))⟩,
  ⟨(some (true, 26)), .pick (.l 23) (.c (.lit (.bool true))) (.l 25), none⟩])
(.cond (.g 26)
(.other .skip)
.skip))
(.seq
(.reg [
  ⟨(some (false, 28)), .mv (.g 6), none⟩,
  ⟨(some (false, 29)), .cv .i64 (.l 28), none⟩,
  ⟨(some (false, 30)), .mksl 1 8 [.int .i64 0] (.l 29) (.l 29), none⟩,
  ⟨(some (true, 7)), .mv (.l 30), none⟩])
(.seq
(.reg [
  ⟨(some (false, 31)), .mv (.g 7), none⟩,
  ⟨(some (false, 32)), .mv (.g 0), none⟩,
  ⟨(some (false, 33)), .cpy 1 (.l 31) (.l 32), none⟩,
  ⟨(some (true, 8)), .mv (.l 33), none⟩])
(.seq
(.block 0
(.loop
(.seq
(.seq
(.reg [
  ⟨(some (false, 34)), .mv (.g 8), none⟩,
  ⟨(some (false, 35)), .mv (.g 7), none⟩,
  ⟨(some (false, 36)), .len (.l 35), none⟩,
  ⟨(some (true, 37)), .bin .lss (.l 34) (.l 36), none⟩])
(.cond (.g 37)
.skip
(.exit 0)))
(.block 1
(.draw [
  ⟨⟨(some (false, 38)), .mv (.g 8), none⟩, 0, true, []⟩,
  ⟨⟨(some (false, 39)), .mv (.g 7), none⟩, 1, true, []⟩,
  ⟨⟨(some (false, 40)), .mv (.g 8), none⟩, 2, true, []⟩,
  ⟨⟨(some (false, 41)), .sl 1 (.l 39) (some (.l 40)) none none, none⟩, 3, true, []⟩,
  ⟨⟨(some (false, 42)), .mv (.g 7), none⟩, 4, true, []⟩,
  ⟨⟨(some (false, 43)), .mv (.g 8), none⟩, 5, true, []⟩,
  ⟨⟨(some (false, 44)), .sl 1 (.l 42) none (some (.l 43)) none, none⟩, 6, true, []⟩,
  ⟨⟨(some (false, 45)), .cpy 1 (.l 41) (.l 44), none⟩, 7, false, []⟩,
  ⟨⟨(some (false, 46)), .bin .add (.l 38) (.l 45), none⟩, 8, true, []⟩,
  ⟨⟨(some (true, 8)), .mv (.l 46), none⟩, 9, true, []⟩])))))
(.seq
(.reg [
  ⟨(some (false, 47)), .mv (.g 7), none⟩,
  ⟨(some (true, 4)), .mv (.l 47), none⟩])
.ret))))))))
def K59 : List Nat := [0, 1, 10, 26, 37, 4, 5, 6, 7, 8]
noncomputable def b59 : Code := match Tryd.f59.body with | some c => c | none => .skip
theorem t59 : trCode ⟨Tryd.prog, K59, [], 48, none⟩ b59 = some c59 := by kernel_rfl
theorem go59 {args : List AV} {H : AHeap} {Kk : AV → AHeap → Prop} (hn : args.length = 2) (h : AGo ⟨Tryd.prog, K59, [], 48, none⟩ H.length [.code c59] (RetP [.t (.g 4)] H.length Kk) ⟨[], argsG 0 args⟩ H) : ACalls Tryd.prog 59 args H Kk :=
  ACalls_of Tryd.func59 (c := b59) rfl (by kernel_rfl) t59 (rs := [.t (.g 4)]) (by kernel_rfl) (by rw [hn]; exact Nat.le_of_ble_eq_true rfl) (by rw [hn]; rfl) (h.weaken (fun _ _ => RetP.hands) (by simp))

/-- sastrugi/probe.verdicts$1 -/
def c60 : ACode :=
  (.seq
(.reg [
  ⟨(some (true, 8)), .mv (.g 0), none⟩,
  ⟨(some (true, 9)), .len (.g 8), none⟩,
  ⟨(some (true, 10)), .mv (.c (.lit (.int .i64 0))), none⟩])
(.block 0
(.loop
(.seq
(.reg [
  ⟨(some (true, 11)), .bin .lss (.g 10) (.g 9), none⟩])
(.seq
(.cond (.g 11)
.skip
(.exit 0))
(.seq
(.block 1
(.seq
(.reg [
  ⟨(some (false, 12)), .ia 2 (.g 8) (.g 10), none⟩,
  ⟨(some (false, 13)), .ld (some 2) (.l 12), none⟩,
  ⟨(some (true, 6)), .new [.int .i64 0, .int .i64 0], none⟩,
  ⟨none, .st 2 (.g 6) (.l 13), none⟩])
(.seq
(.reg [
  ⟨(some (false, 14)), .fa (.g 6) 0, none⟩,
  ⟨(some (false, 15)), .ld none (.l 14), none⟩,
  ⟨(some (true, 7)), .mv (.l 15), none⟩])
(.block 2
(.loop
(.seq
(.seq
(.reg [
  ⟨(some (false, 16)), .mv (.g 7), none⟩,
  ⟨(some (false, 17)), .fa (.g 6) 1, none⟩,
  ⟨(some (false, 18)), .ld none (.l 17), none⟩,
  ⟨(some (true, 19)), .bin .leq (.l 16) (.l 18), none⟩])
(.cond (.g 19)
.skip
(.exit 2)))
(.seq
(.block 3
(.seq
(.reg [
  ⟨(some (false, 22)), .ld none (.g 2), none⟩,
  ⟨(some (false, 23)), .mv (.g 7), none⟩,
  ⟨(some (false, 24)), .ia 1 (.l 22) (.l 23), none⟩,
  ⟨(some (false, 25)), .ld none (.l 24), none⟩,
  ⟨(some (true, 26)), .bin .neq (.l 25) (.c (.lit (.int .i64 1))), none⟩])
(.cond (.g 26)
(.reg [
  ⟨(some (false, 27)), .ld none (.g 2), none⟩,
  ⟨(some (false, 28)), .mv (.g 7), none⟩,
  ⟨(some (false, 29)), .mv (.g 1), none⟩,
  ⟨(some (false, 30)), .ia 1 (.l 27) (.l 28), none⟩,
  ⟨none, .st 1 (.l 30) (.l 29), none⟩])
.skip)))
(.reg [
  ⟨(some (false, 20)), .mv (.g 7), none⟩,
  ⟨(some (false, 21)), .bin .add (.l 20) (.c (.lit (.int .i64 1))), none⟩,
  ⟨(some (true, 7)), .mv (.l 21), none⟩]))))))))
(.reg [
  ⟨(some (false, 31)), .bin .add (.g 10) (.c (.lit (.int .i64 1))), none⟩,
  ⟨(some (true, 10)), .mv (.l 31), none⟩])))))))
def K60 : List Nat := [0, 1, 2, 11, 19, 26, 8, 9, 10, 6, 7]
noncomputable def b60 : Code := match Tryd.f60.body with | some c => c | none => .skip
theorem t60 : trCode ⟨Tryd.prog, K60, [], 32, none⟩ b60 = some c60 := by kernel_rfl
theorem go60 {args : List AV} {H : AHeap} {Kk : AV → AHeap → Prop} (hn : args.length = 3) (h : AGo ⟨Tryd.prog, K60, [], 32, none⟩ H.length [.code c60] (RetP [] H.length Kk) ⟨[], argsG 0 args⟩ H) : ACalls Tryd.prog 60 args H Kk :=
  ACalls_of Tryd.func60 (c := b60) rfl (by kernel_rfl) t60 (rs := []) (by kernel_rfl) (by rw [hn]; exact Nat.le_of_ble_eq_true rfl) (by rw [hn]; rfl) (h.weaken (fun _ _ => RetP.hands) (by simp))

/-- math/bits.Mul -/
def c67 : ACode :=
  (.seq
(.reg [
  ⟨(some (true, 4)), .mv (.c (.lit (.int .u64 0))), none⟩,
  ⟨(some (true, 5)), .mv (.c (.lit (.int .u64 0))), none⟩])
(.seq
(.cond (.c (.lit (.bool false)))
(.seq
(.reg [
  ⟨(some (false, 11)), .mv (.g 0), none⟩,
  ⟨(some (false, 12)), .cv .u32 (.l 11), none⟩,
  ⟨(some (false, 13)), .mv (.g 1), none⟩,
  ⟨(some (false, 14)), .cv .u32 (.l 13), none⟩,
  ⟨(some (false, 15)), .call (.c (.fn 73 [])) [.l 12, .l 14], none⟩,
  ⟨(some (false, 10)), .mv (.l 15), none⟩,
  ⟨(some (false, 16)), .ex (.l 10) 0, none⟩,
  ⟨(some (false, 17)), .ex (.l 10) 1, none⟩,
  ⟨(some (true, 6)), .mv (.l 16), none⟩,
  ⟨(some (true, 7)), .mv (.l 17), none⟩])
(.seq
(.reg [
  ⟨(some (false, 18)), .mv (.g 6), none⟩,
  ⟨(some (false, 19)), .cv .u64 (.l 18), none⟩,
  ⟨(some (false, 20)), .mv (.g 7), none⟩,
  ⟨(some (false, 21)), .cv .u64 (.l 20), none⟩,
  ⟨(some (true, 4)), .mv (.l 19), none⟩,
  ⟨(some (true, 5)), .mv (.l 21), none⟩])
.ret))
.skip)
(.seq
(.reg [
  ⟨(some (false, 23)), .mv (.g 0), none⟩,
  ⟨(some (false, 24)), .mv (.g 1), none⟩,
  ⟨(some (false, 25)), .call (.c (.fn 74 [])) [.l 23, .l 24], none⟩,
  ⟨(some (false, 22)), .mv (.l 25), none⟩,
  ⟨(some (false, 26)), .ex (.l 22) 0, none⟩,
  ⟨(some (false, 27)), .ex (.l 22) 1, none⟩,
  ⟨(some (true, 8)), .mv (.l 26), none⟩,
  ⟨(some (true, 9)), .mv (.l 27), none⟩])
(.seq
(.reg [
  ⟨(some (false, 28)), .mv (.g 8), none⟩,
  ⟨(some (false, 29)), .mv (.g 9), none⟩,
  ⟨(some (true, 4)), .mv (.l 28), none⟩,
  ⟨(some (true, 5)), .mv (.l 29), none⟩])
.ret))))
def K67 : List Nat := [0, 1, 4, 5, 6, 7, 8, 9]
noncomputable def b67 : Code := match Tryd.f67.body with | some c => c | none => .skip
theorem t67 : trCode ⟨Tryd.prog, K67, [], 30, none⟩ b67 = some c67 := by kernel_rfl
theorem go67 {args : List AV} {H : AHeap} {Kk : AV → AHeap → Prop} (hn : args.length = 2) (h : AGo ⟨Tryd.prog, K67, [], 30, none⟩ H.length [.code c67] (RetP [.t (.g 4), .t (.g 5)] H.length Kk) ⟨[], argsG 0 args⟩ H) : ACalls Tryd.prog 67 args H Kk :=
  ACalls_of Tryd.func67 (c := b67) rfl (by kernel_rfl) t67 (rs := [.t (.g 4), .t (.g 5)]) (by kernel_rfl) (by rw [hn]; exact Nat.le_of_ble_eq_true rfl) (by rw [hn]; rfl) (h.weaken (fun _ _ => RetP.hands) (by simp))

/-- math/bits.Mul64 -/
def c74 : ACode :=
  (.seq
(.reg [
  ⟨(some (true, 4)), .mv (.c (.lit (.int .u64 0))), none⟩,
  ⟨(some (true, 5)), .mv (.c (.lit (.int .u64 0))), none⟩])
(.seq
(.reg [
  ⟨(some (false, 14)), .mv (.g 0), none⟩,
  ⟨(some (false, 15)), .bin .and (.l 14) (.c (.lit (.int .u64 4294967295))), none⟩,
  ⟨(some (true, 6)), .mv (.l 15), none⟩])
(.seq
(.reg [
  ⟨(some (false, 16)), .mv (.g 0), none⟩,
  ⟨(some (false, 17)), .bin .shr (.l 16) (.c (.lit (.int .u64 32))), none⟩,
  ⟨(some (true, 7)), .mv (.l 17), none⟩])
(.seq
(.reg [
  ⟨(some (false, 18)), .mv (.g 1), none⟩,
  ⟨(some (false, 19)), .bin .and (.l 18) (.c (.lit (.int .u64 4294967295))), none⟩,
  ⟨(some (true, 8)), .mv (.l 19), none⟩])
(.seq
(.reg [
  ⟨(some (false, 20)), .mv (.g 1), none⟩,
  ⟨(some (false, 21)), .bin .shr (.l 20) (.c (.lit (.int .u64 32))), none⟩,
  ⟨(some (true, 9)), .mv (.l 21), none⟩])
(.seq
(.reg [
  ⟨(some (false, 22)), .mv (.g 6), none⟩,
  ⟨(some (false, 23)), .mv (.g 8), none⟩,
  ⟨(some (false, 24)), .bin .mul (.l 22) (.l 23), none⟩,
  ⟨(some (true, 10)), .mv (.l 24), none⟩])
(.seq
(.reg [
  ⟨(some (false, 25)), .mv (.g 7), none⟩,
  ⟨(some (false, 26)), .mv (.g 8), none⟩,
  ⟨(some (false, 27)), .bin .mul (.l 25) (.l 26), none⟩,
  ⟨(some (false, 28)), .mv (.g 10), none⟩,
  ⟨(some (false, 29)), .bin .shr (.l 28) (.c (.lit (.int .u64 32))), none⟩,
  ⟨(some (false, 30)), .bin .add (.l 27) (.l 29), none⟩,
  ⟨(some (true, 11)), .mv (.l 30), none⟩])
(.seq
(.reg [
  ⟨(some (false, 31)), .mv (.g 11), none⟩,
  ⟨(some (false, 32)), .bin .and (.l 31) (.c (.lit (.int .u64 4294967295))), none⟩,
  ⟨(some (true, 12)), .mv (.l 32), none⟩])
(.seq
(.reg [
  ⟨(some (false, 33)), .mv (.g 11), none⟩,
  ⟨(some (false, 34)), .bin .shr (.l 33) (.c (.lit (.int .u64 32))), none⟩,
  ⟨(some (true, 13)), .mv (.l 34), none⟩])
(.seq
(.reg [
  ⟨(some (false, 35)), .mv (.g 12), none⟩,
  ⟨(some (false, 36)), .mv (.g 6), none⟩,
  ⟨(some (false, 37)), .mv (.g 9), none⟩,
  ⟨(some (false, 38)), .bin .mul (.l 36) (.l 37), none⟩,
  ⟨(some (false, 39)), .bin .add (.l 35) (.l 38), none⟩,
  ⟨(some (true, 12)), .mv (.l 39), none⟩])
(.seq
(.reg [
  ⟨(some (false, 40)), .mv (.g 7), none⟩,
  ⟨(some (false, 41)), .mv (.g 9), none⟩,
  ⟨(some (false, 42)), .bin .mul (.l 40) (.l 41), none⟩,
  ⟨(some (false, 43)), .mv (.g 13), none⟩,
  ⟨(some (false, 44)), .bin .add (.l 42) (.l 43), none⟩,
  ⟨(some (false, 45)), .mv (.g 12), none⟩,
  ⟨(some (false, 46)), .bin .shr (.l 45) (.c (.lit (.int .u64 32))), none⟩,
  ⟨(some (false, 47)), .bin .add (.l 44) (.l 46), none⟩,
  ⟨(some (true, 4)), .mv (.l 47), none⟩])
(.seq
(.reg [
  ⟨(some (false, 48)), .mv (.g 0), none⟩,
  ⟨(some (false, 49)), .mv (.g 1), none⟩,
  ⟨(some (false, 50)), .bin .mul (.l 48) (.l 49), none⟩,
  ⟨(some (true, 5)), .mv (.l 50), none⟩])
.ret))))))))))))
def K74 : List Nat := [0, 1, 4, 5, 6, 7, 8, 9, 10, 11, 12, 13]
noncomputable def b74 : Code := match Tryd.f74.body with | some c => c | none => .skip
theorem t74 : trCode ⟨Tryd.prog, K74, [], 51, none⟩ b74 = some c74 := by kernel_rfl
theorem go74 {args : List AV} {H : AHeap} {Kk : AV → AHeap → Prop} (hn : args.length = 2) (h : AGo ⟨Tryd.prog, K74, [], 51, none⟩ H.length [.code c74] (RetP [.t (.g 4), .t (.g 5)] H.length Kk) ⟨[], argsG 0 args⟩ H) : ACalls Tryd.prog 74 args H Kk :=
  ACalls_of Tryd.func74 (c := b74) rfl (by kernel_rfl) t74 (rs := [.t (.g 4), .t (.g 5)]) (by kernel_rfl) (by rw [hn]; exact Nat.le_of_ble_eq_true rfl) (by rw [hn]; rfl) (h.weaken (fun _ _ => RetP.hands) (by simp))

/-- sastrugi/probe.covered -/
def c61 : ACode :=
  (.seq
(.reg [
  ⟨(some (true, 7)), .box (.g 3), none⟩,
  ⟨(some (true, 8)), .new [.slice none 0 0], none⟩,
  ⟨(some (true, 9)), .mv (.c (.lit (.slice none 0 0))), none⟩])
(.seq
(.reg [
  ⟨(some (false, 15)), .mv (.g 0), none⟩,
  ⟨(some (false, 16)), .mv (.g 1), none⟩,
  ⟨(some (false, 17)), .ia 5 (.l 15) (.l 16), none⟩,
  ⟨(some (false, 18)), .ld (some 5) (.l 17), none⟩,
  ⟨(some (true, 10)), .new [.int .i64 0, .int .i64 0, .int .i64 0, .int .i64 0, .int .i64 0], none⟩,
  ⟨none, .st 5 (.g 10) (.l 18), none⟩])
(.seq
(.seq
(.reg [
  ⟨(some (false, 19)), .fa (.g 10) 0, none⟩,
  ⟨(some (false, 20)), .ld none (.l 19), none⟩,
  ⟨(some (false, 21)), .bin .eql (.l 20) (.c (.lit (.int .i64 4))), none⟩,
  ⟨(some (false, 22)), .mv (.l 21), none⟩,
  ⟨(some (false, 23)), .fa (.g 10) 3, (some (.l 22, false))⟩,
  ⟨(some (false, 24)), .ld none (.l 23), (some (.l 22, false))⟩,
  ⟨(some (false, 25)), .mv (.g 2), (some (.l 22, false))⟩,
  ⟨(some (false, 26)), .bin .gtr (.l 24) (.l 25), (some (.l 22, false))⟩,
  ⟨(some (true, 27)), .pick (.l 22) (.c (.lit (.bool true))) (.l 26), none⟩])
(.cond (.g 27)
(.seq
(.reg [
  ⟨none, .st 1 (.g 8) (.c (.lit (.slice none 0 0))), none⟩,
  ⟨(some (true, 9)), .mv (.c (.lit (.slice none 0 0))), none⟩])
.ret)
.skip))
(.seq
(.reg [
  ⟨(some (false, 28)), .fa (.g 10) 1, none⟩,
  ⟨(some (false, 29)), .ld none (.l 28), none⟩,
  ⟨(some (false, 30)), .fa (.g 10) 2, none⟩,
  ⟨(some (false, 31)), .ld none (.l 30), none⟩,
  ⟨(some (false, 32)), .mk [.int .i64 0, .int .i64 0] [(0, 1, .l 29), (1, 1, .l 31)], none⟩,
  ⟨(some (false, 33)), .mks false 2 [.l 32], none⟩,
  ⟨none, .st 1 (.g 8) (.l 33), none⟩])
(.seq
(.reg [
  ⟨(some (false, 34)), .ld none (.g 8), none⟩,
  ⟨(some (true, 9)), .mv (.l 34), none⟩])
(.seq
(.reg [
  ⟨(some (false, 35)), .fa (.g 10) 3, none⟩,
  ⟨(some (false, 36)), .ld none (.l 35), none⟩,
  ⟨(some (true, 11)), .new [.int .i64 0], none⟩,
  ⟨none, .st 1 (.g 11) (.l 36), none⟩])
(.seq
(.reg [
  ⟨(some (false, 37)), .mkf 68 [.g 11, .g 10, .g 8, .g 7], none⟩,
  ⟨(some (true, 12)), .mv (.l 37), none⟩])
(.seq
(.seq
(.reg [
  ⟨(some (false, 38)), .mv (.g 0), none⟩,
  ⟨(some (false, 39)), .mv (.g 1), none⟩,
  ⟨(some (false, 40)), .mv (.g 2), none⟩,
  ⟨(some (true, 41)), .call (.c (.fn 69 [])) [.l 38, .l 39, .l 40], none⟩,
  ⟨(some (true, 42)), .len (.g 41), none⟩,
  ⟨(some (true, 43)), .mv (.c (.lit (.int .i64 0))), none⟩])
(.block 0
(.loop
(.seq
(.reg [
  ⟨(some (true, 44)), .bin .lss (.g 43) (.g 42), none⟩])
(.seq
(.cond (.g 44)
.skip
(.exit 0))
(.seq
(.block 1
(.seq
(.reg [
  ⟨(some (false, 45)), .ia 5 (.g 41) (.g 43), none⟩,
  ⟨(some (false, 46)), .ld (some 5) (.l 45), none⟩,
  ⟨(some (true, 14)), .new [.int .i64 0, .int .i64 0, .int .i64 0, .int .i64 0, .int .i64 0], none⟩,
  ⟨none, .st 5 (.g 14) (.l 46), none⟩])
(.seq
(.reg [
  ⟨(some (false, 47)), .mv (.g 12), none⟩,
  ⟨(some (false, 48)), .fa (.g 14) 3, none⟩,
  ⟨(some (false, 49)), .ld none (.l 48), none⟩,
  ⟨(some (false, 50)), .call (.l 47) [.l 49], none⟩])
(.draw [
  ⟨⟨(some (false, 51)), .ld none (.g 8), none⟩, 0, true, []⟩,
  ⟨⟨(some (false, 52)), .fa (.g 14) 1, none⟩, 1, true, []⟩,
  ⟨⟨(some (false, 53)), .ld none (.l 52), none⟩, 2, true, []⟩,
  ⟨⟨(some (false, 54)), .fa (.g 14) 2, none⟩, 3, true, []⟩,
  ⟨⟨(some (false, 55)), .ld none (.l 54), none⟩, 4, true, []⟩,
  ⟨⟨(some (false, 57)), .mv (.g 9), none⟩, 6, true, []⟩,
  ⟨⟨(some (false, 58)), .fa (.g 14) 1, none⟩, 7, false, []⟩,
  ⟨⟨(some (false, 59)), .ld none (.l 58), none⟩, 8, true, []⟩,
  ⟨⟨(some (false, 60)), .fa (.g 14) 2, none⟩, 9, false, []⟩,
  ⟨⟨(some (false, 61)), .ld none (.l 60), none⟩, 10, true, []⟩,
  ⟨⟨(some (false, 56)), .call (.c (.fn 70 [])) [.l 51, .l 53, .l 55], none⟩, 5, false, []⟩,
  ⟨⟨(some (false, 62)), .call (.c (.fn 70 [])) [.l 57, .l 59, .l 61], none⟩, 11, false, []⟩,
  ⟨⟨none, .st 1 (.g 8) (.l 56), none⟩, 12, false, []⟩,
  ⟨⟨(some (true, 9)), .mv (.l 62), none⟩, 13, false, []⟩]))))
(.reg [
  ⟨(some (false, 63)), .bin .add (.g 43) (.c (.lit (.int .i64 1))), none⟩,
  ⟨(some (true, 43)), .mv (.l 63), none⟩])))))))
(.seq
(.reg [
  ⟨(some (false, 64)), .mv (.g 12), none⟩,
  ⟨(some (false, 65)), .mv (.g 2), none⟩,
  ⟨(some (false, 66)), .call (.l 64) [.l 65], none⟩])
(.seq
(.reg [
  ⟨(some (false, 67)), .ld none (.g 8), none⟩,
  ⟨(some (false, 68)), .mv (.g 9), none⟩,
  ⟨none, .st 1 (.g 8) (.l 67), none⟩,
  ⟨(some (true, 9)), .mv (.l 68), none⟩])
.ret))))))))))
def K61 : List Nat := [0, 1, 2, 3, 27, 44, 8, 9, 7, 10, 11, 12, 41, 42, 43, 14]
noncomputable def b61 : Code := match Tryd.f61.body with | some c => c | none => .skip
theorem t61 : trCode ⟨Tryd.prog, K61, [], 69, none⟩ b61 = some c61 := by kernel_rfl
theorem go61 {args : List AV} {H : AHeap} {Kk : AV → AHeap → Prop} (hn : args.length = 4) (h : AGo ⟨Tryd.prog, K61, [], 69, none⟩ H.length [.code c61] (RetP [.cell (.g 8) none, .t (.g 9)] H.length Kk) ⟨[], argsG 0 args⟩ H) : ACalls Tryd.prog 61 args H Kk :=
  ACalls_of Tryd.func61 (c := b61) rfl (by kernel_rfl) t61 (rs := [.cell (.g 8) none, .t (.g 9)]) (by kernel_rfl) (by rw [hn]; exact Nat.le_of_ble_eq_true rfl) (by rw [hn]; rfl) (h.weaken (fun _ _ => RetP.hands) (by simp))

/-- sastrugi/probe.covered$1 -/
def c68 : ACode :=
  (.seq
(.reg [
  ⟨(some (false, 10)), .mv (.g 0), none⟩,
  ⟨(some (false, 11)), .ld none (.g 1), none⟩,
  ⟨(some (false, 12)), .bin .sub (.l 10) (.l 11), none⟩,
  ⟨(some (false, 13)), .fa (.g 2) 4, none⟩,
  ⟨(some (false, 14)), .ld none (.l 13), none⟩,
  ⟨(some (false, 15)), .bin .mul (.l 12) (.l 14), none⟩,
  ⟨(some (true, 6)), .mv (.l 15), none⟩])
(.seq
(.reg [
  ⟨(some (false, 16)), .ld none (.g 3), none⟩,
  ⟨(some (false, 17)), .len (.l 16), none⟩,
  ⟨(some (false, 18)), .mksl 2 16 [.int .i64 0, .int .i64 0] (.c (.lit (.int .i64 0))) (.l 17), none⟩,
  ⟨(some (true, 7)), .mv (.l 18), none⟩])
(.seq
(.seq
(.reg [
  ⟨(some (true, 19)), .ld none (.g 3), none⟩,
  ⟨(some (true, 20)), .len (.g 19), none⟩,
  ⟨(some (true, 21)), .mv (.c (.lit (.int .i64 0))), none⟩])
(.block 0
(.loop
(.seq
(.reg [
  ⟨(some (true, 22)), .bin .lss (.g 21) (.g 20), none⟩])
(.seq
(.cond (.g 22)
.skip
(.exit 0))
(.seq
(.block 1
(.seq
(.reg [
  ⟨(some (false, 23)), .ia 2 (.g 19) (.g 21), none⟩,
  ⟨(some (false, 24)), .ld (some 2) (.l 23), none⟩,
  ⟨(some (true, 9)), .new [.int .i64 0, .int .i64 0], none⟩,
  ⟨none, .st 2 (.g 9) (.l 24), none⟩])
(.reg [
  ⟨(some (false, 25)), .mv (.g 7), none⟩,
  ⟨(some (false, 26)), .fa (.g 9) 0, none⟩,
  ⟨(some (false, 27)), .ld none (.l 26), none⟩,
  ⟨(some (false, 28)), .mv (.g 6), none⟩,
  ⟨(some (false, 29)), .bin .sub (.l 27) (.l 28), none⟩,
  ⟨(some (false, 30)), .mx [.c (.lit (.int .i64 0)), .l 29], none⟩,
  ⟨(some (false, 31)), .ld none (.g 4), none⟩,
  ⟨(some (false, 32)), .bin .sub (.l 31) (.c (.lit (.int .i64 1))), none⟩,
  ⟨(some (false, 33)), .fa (.g 9) 1, none⟩,
  ⟨(some (false, 34)), .ld none (.l 33), none⟩,
  ⟨(some (false, 35)), .mv (.g 6), none⟩,
  ⟨(some (false, 36)), .bin .add (.l 34) (.l 35), none⟩,
  ⟨(some (false, 37)), .mn [.l 32, .l 36], none⟩,
  ⟨(some (false, 38)), .mk [.int .i64 0, .int .i64 0] [(0, 1, .l 30), (1, 1, .l 37)], none⟩,
  ⟨(some (false, 39)), .mks false 2 [.l 38], none⟩,
  ⟨(some (false, 40)), .app 2 16 (.l 25) (.l 39), none⟩,
  ⟨(some (true, 7)), .mv (.l 40), none⟩])))
(.reg [
  ⟨(some (false, 41)), .bin .add (.g 21) (.c (.lit (.int .i64 1))), none⟩,
  ⟨(some (true, 21)), .mv (.l 41), none⟩])))))))
(.reg [
  ⟨(some (false, 42)), .mv (.g 7), none⟩,
  ⟨(some (false, 43)), .mv (.g 0), none⟩,
  ⟨none, .st 1 (.g 3) (.l 42), none⟩,
  ⟨none, .st 1 (.g 1) (.l 43), none⟩]))))
def K68 : List Nat := [0, 1, 2, 3, 4, 22, 6, 7, 19, 20, 21, 9]
noncomputable def b68 : Code := match Tryd.f68.body with | some c => c | none => .skip
theorem t68 : trCode ⟨Tryd.prog, K68, [], 44, none⟩ b68 = some c68 := by kernel_rfl
theorem go68 {args : List AV} {H : AHeap} {Kk : AV → AHeap → Prop} (hn : args.length = 5) (h : AGo ⟨Tryd.prog, K68, [], 44, none⟩ H.length [.code c68] (RetP [] H.length Kk) ⟨[], argsG 0 args⟩ H) : ACalls Tryd.prog 68 args H Kk :=
  ACalls_of Tryd.func68 (c := b68) rfl (by kernel_rfl) t68 (rs := []) (by kernel_rfl) (by rw [hn]; exact Nat.le_of_ble_eq_true rfl) (by rw [hn]; rfl) (h.weaken (fun _ _ => RetP.hands) (by simp))

/-- sastrugi/probe.mends -/
def c69 : ACode :=
  (.seq
(.reg [
  ⟨(some (true, 6)), .mv (.c (.lit (.slice none 0 0))), none⟩])
(.seq
(.reg [
  ⟨(some (true, 7)), .mv (.c (.lit (.slice none 0 0))), none⟩])
(.seq
(.seq
(.reg [
  ⟨(some (true, 10)), .mv (.g 0), none⟩,
  ⟨(some (true, 11)), .len (.g 10), none⟩,
  ⟨(some (true, 12)), .mv (.c (.lit (.int .i64 0))), none⟩])
(.block 0
(.loop
(.seq
(.reg [
  ⟨(some (true, 13)), .bin .lss (.g 12) (.g 11), none⟩])
(.seq
(.cond (.g 13)
.skip
(.exit 0))
(.seq
(.block 1
(.seq
(.reg [
  ⟨(some (false, 14)), .mv (.g 12), none⟩,
  ⟨(some (false, 15)), .ia 5 (.g 10) (.g 12), none⟩,
  ⟨(some (false, 16)), .ld (some 5) (.l 15), none⟩,
  ⟨(some (true, 9)), .new [.int .i64 0, .int .i64 0, .int .i64 0, .int .i64 0, .int .i64 0], none⟩,
  ⟨(some (true, 8)), .mv (.l 14), none⟩,
  ⟨none, .st 5 (.g 9) (.l 16), none⟩])
(.seq
(.draw [
  ⟨⟨(some (false, 17)), .fa (.g 9) 0, none⟩, 0, true, []⟩,
  ⟨⟨(some (false, 18)), .ld none (.l 17), none⟩, 1, true, []⟩,
  ⟨⟨(some (false, 19)), .bin .eql (.l 18) (.c (.lit (.int .i64 4))), none⟩, 2, true, []⟩,
  ⟨⟨(some (false, 20)), .mv (.l 19), none⟩, 3, true, []⟩,
  ⟨⟨(some (false, 21)), .fa (.g 9) 3, (some (.l 20, true))⟩, 4, true, []⟩,
  ⟨⟨(some (false, 22)), .ld none (.l 21), (some (.l 20, true))⟩, 5, true, []⟩,
  ⟨⟨(some (false, 23)), .mv (.g 2), (some (.l 20, true))⟩, 6, true, []⟩,
  ⟨⟨(some (false, 24)), .bin .leq (.l 22) (.l 23), (some (.l 20, true))⟩, 7, true, []⟩,
  ⟨⟨(some (false, 25)), .pick (.l 20) (.l 24) (.c (.lit (.bool false))), none⟩, 8, true, []⟩,
  ⟨⟨(some (false, 26)), .mv (.l 25), none⟩, 9, true, []⟩,
  ⟨⟨(some (false, 27)), .fa (.g 9) 3, (some (.l 26, true))⟩, 10, true, []⟩,
  ⟨⟨(some (false, 28)), .ld none (.l 27), (some (.l 26, true))⟩, 11, true, []⟩,
  ⟨⟨(some (false, 29)), .mv (.g 0), (some (.l 26, true))⟩, 12, true, []⟩,
  ⟨⟨(some (false, 30)), .mv (.g 1), (some (.l 26, true))⟩, 13, true, []⟩,
  ⟨⟨(some (false, 31)), .ia 5 (.l 29) (.l 30), (some (.l 26, true))⟩, 14, true, []⟩,
  ⟨⟨(some (false, 32)), .fa (.l 31) 3, (some (.l 26, true))⟩, 15, true, []⟩,
  ⟨⟨(some (false, 33)), .ld none (.l 32), (some (.l 26, true))⟩, 16, true, []⟩,
  ⟨⟨(some (false, 34)), .bin .gtr (.l 28) (.l 33), (some (.l 26, true))⟩, 17, true, []⟩,
  ⟨⟨(some (false, 35)), .mv (.l 34), (some (.l 26, true))⟩, 18, true, []⟩,
  ⟨⟨(some (false, 36)), .fa (.g 9) 3, (some (.l 35, false))⟩, 19, true, []⟩,
  ⟨⟨(some (false, 37)), .ld none (.l 36), (some (.l 35, false))⟩, 20, true, []⟩,
  ⟨⟨(some (false, 38)), .mv (.g 0), (some (.l 35, false))⟩, 21, true, []⟩,
  ⟨⟨(some (false, 39)), .mv (.g 1), (some (.l 35, false))⟩, 22, true, []⟩,
  ⟨⟨(some (false, 40)), .ia 5 (.l 38) (.l 39), (some (.l 35, false))⟩, 23, true, []⟩,
  ⟨⟨(some (false, 41)), .fa (.l 40) 3, (some (.l 35, false))⟩, 24, true, []⟩,
  ⟨⟨(some (false, 42)), .ld none (.l 41), (some (.l 35, false))⟩, 25, true, []⟩,
  ⟨⟨(some (false, 43)), .bin .eql (.l 37) (.l 42), (some (.l 35, false))⟩, 26, true, []⟩,
  ⟨⟨(some (false, 44)), .mv (.l 43), (some (.l 35, false))⟩, 27, true, []⟩,
  ⟨⟨(some (false, 45)), .mv (.g 8), (some (.l 44, true))⟩, 28, true, []⟩,
  ⟨⟨(some (false, 46)), .mv (.g 1), (some (.l 44, true))⟩, 29, true, []⟩,
  ⟨⟨(some (false, 47)), .bin .gtr (.l 45) (.l 46), (some (.l 44, true))⟩, 30, true, []⟩,
  ⟨⟨(some (false, 48)), .pick (.l 44) (.l 47) (.c (.lit (.bool false))), (some (.l 35, false))⟩, 31, true, []⟩,
  ⟨⟨(some (false, 49)), .pick (.l 35) (.c (.lit (.bool true))) (.l 48), (some (.l 26, true))⟩, 32, true, []⟩,
  ⟨⟨(some (true, 50)), .pick (.l 26) (.l 49) (.c (.lit (.bool false))), none⟩, 33, true, []⟩])
(.cond (.g 50)
(.reg [
  ⟨(some (false, 51)), .mv (.g 7), none⟩,
  ⟨(some (false, 52)), .ld (some 5) (.g 9), none⟩,
  ⟨(some (false, 53)), .mks false 5 [.l 52], none⟩,
  ⟨(some (false, 54)), .app 5 40 (.l 51) (.l 53), none⟩,
  ⟨(some (true, 7)), .mv (.l 54), none⟩])
.skip))))
(.reg [
  ⟨(some (false, 55)), .bin .add (.g 12) (.c (.lit (.int .i64 1))), none⟩,
  ⟨(some (true, 12)), .mv (.l 55), none⟩])))))))
(.seq
(.reg [
  ⟨(some (false, 56)), .mv (.g 7), none⟩,
  ⟨(some (false, 57)), .call (.c (.fn 75 [])) [.l 56, .c (.fn 76 [])], none⟩])
(.seq
(.reg [
  ⟨(some (false, 58)), .mv (.g 7), none⟩,
  ⟨(some (true, 6)), .mv (.l 58), none⟩])
.ret)))))
def K69 : List Nat := [0, 1, 2, 13, 50, 6, 7, 10, 11, 12, 9, 8]
noncomputable def b69 : Code := match Tryd.f69.body with | some c => c | none => .skip
theorem t69 : trCode ⟨Tryd.prog, K69, [], 59, none⟩ b69 = some c69 := by kernel_rfl
theorem go69 {args : List AV} {H : AHeap} {Kk : AV → AHeap → Prop} (hn : args.length = 3) (h : AGo ⟨Tryd.prog, K69, [], 59, none⟩ H.length [.code c69] (RetP [.t (.g 6)] H.length Kk) ⟨[], argsG 0 args⟩ H) : ACalls Tryd.prog 69 args H Kk :=
  ACalls_of Tryd.func69 (c := b69) rfl (by kernel_rfl) t69 (rs := [.t (.g 6)]) (by kernel_rfl) (by rw [hn]; exact Nat.le_of_ble_eq_true rfl) (by rw [hn]; rfl) (h.weaken (fun _ _ => RetP.hands) (by simp))

/-- sastrugi/probe.without -/
def c70 : ACode :=
  (.seq
(.reg [
  ⟨(some (true, 6)), .mv (.c (.lit (.slice none 0 0))), none⟩])
(.seq
(.reg [
  ⟨(some (true, 7)), .mv (.c (.lit (.slice none 0 0))), none⟩])
(.seq
(.seq
(.reg [
  ⟨(some (true, 12)), .mv (.g 0), none⟩,
  ⟨(some (true, 13)), .len (.g 12), none⟩,
  ⟨(some (true, 14)), .mv (.c (.lit (.int .i64 0))), none⟩])
(.block 0
(.loop
(.seq
(.reg [
  ⟨(some (true, 15)), .bin .lss (.g 14) (.g 13), none⟩])
(.seq
(.cond (.g 15)
.skip
(.exit 0))
(.seq
(.block 1
(.seq
(.reg [
  ⟨(some (false, 16)), .ia 2 (.g 12) (.g 14), none⟩,
  ⟨(some (false, 17)), .ld (some 2) (.l 16), none⟩,
  ⟨(some (true, 9)), .new [.int .i64 0, .int .i64 0], none⟩,
  ⟨none, .st 2 (.g 9) (.l 17), none⟩])
(.seq
(.seq
(.reg [
  ⟨(some (false, 18)), .fa (.g 9) 0, none⟩,
  ⟨(some (false, 19)), .ld none (.l 18), none⟩,
  ⟨(some (false, 20)), .fa (.g 9) 1, none⟩,
  ⟨(some (false, 21)), .ld none (.l 20), none⟩,
  ⟨(some (false, 22)), .mv (.g 1), none⟩,
  ⟨(some (false, 23)), .bin .sub (.l 22) (.c (.lit (.int .i64 1))), none⟩,
  ⟨(some (false, 24)), .mn [.l 21, .l 23], none⟩,
  ⟨(some (false, 25)), .mk [.int .i64 0, .int .i64 0] [(0, 1, .l 19), (1, 1, .l 24)], none⟩,
  ⟨(some (true, 10)), .new [.int .i64 0, .int .i64 0], none⟩,
  ⟨none, .st 2 (.g 10) (.l 25), none⟩])
(.seq
(.reg [
  ⟨(some (false, 26)), .fa (.g 10) 0, none⟩,
  ⟨(some (false, 27)), .ld none (.l 26), none⟩,
  ⟨(some (false, 28)), .fa (.g 10) 1, none⟩,
  ⟨(some (false, 29)), .ld none (.l 28), none⟩,
  ⟨(some (true, 30)), .bin .leq (.l 27) (.l 29), none⟩])
(.cond (.g 30)
(.reg [
  ⟨(some (false, 31)), .mv (.g 7), none⟩,
  ⟨(some (false, 32)), .ld (some 2) (.g 10), none⟩,
  ⟨(some (false, 33)), .mks false 2 [.l 32], none⟩,
  ⟨(some (false, 34)), .app 2 16 (.l 31) (.l 33), none⟩,
  ⟨(some (true, 7)), .mv (.l 34), none⟩])
.skip)))
(.seq
(.reg [
  ⟨(some (false, 35)), .fa (.g 9) 0, none⟩,
  ⟨(some (false, 36)), .ld none (.l 35), none⟩,
  ⟨(some (false, 37)), .mv (.g 2), none⟩,
  ⟨(some (false, 38)), .bin .add (.l 37) (.c (.lit (.int .i64 1))), none⟩,
  ⟨(some (false, 39)), .mx [.l 36, .l 38], none⟩,
  ⟨(some (false, 40)), .fa (.g 9) 1, none⟩,
  ⟨(some (false, 41)), .ld none (.l 40), none⟩,
  ⟨(some (false, 42)), .mk [.int .i64 0, .int .i64 0] [(0, 1, .l 39), (1, 1, .l 41)], none⟩,
  ⟨(some (true, 11)), .new [.int .i64 0, .int .i64 0], none⟩,
  ⟨none, .st 2 (.g 11) (.l 42), none⟩])
(.seq
(.reg [
  ⟨(some (false, 43)), .fa (.g 11) 0, none⟩,
  ⟨(some (false, 44)), .ld none (.l 43), none⟩,
  ⟨(some (false, 45)), .fa (.g 11) 1, none⟩,
  ⟨(some (false, 46)), .ld none (.l 45), none⟩,
  ⟨(some (true, 47)), .bin .leq (.l 44) (.l 46), none⟩])
(.cond (.g 47)
(.reg [
  ⟨(some (false, 48)), .mv (.g 7), none⟩,
  ⟨(some (false, 49)), .ld (some 2) (.g 11), none⟩,
  ⟨(some (false, 50)), .mks false 2 [.l 49], none⟩,
  ⟨(some (false, 51)), .app 2 16 (.l 48) (.l 50), none⟩,
  ⟨(some (true, 7)), .mv (.l 51), none⟩])
.skip))))))
(.reg [
  ⟨(some (false, 52)), .bin .add (.g 14) (.c (.lit (.int .i64 1))), none⟩,
  ⟨(some (true, 14)), .mv (.l 52), none⟩])))))))
(.seq
(.reg [
  ⟨(some (false, 53)), .mv (.g 7), none⟩,
  ⟨(some (true, 6)), .mv (.l 53), none⟩])
.ret))))
def K70 : List Nat := [0, 1, 2, 15, 30, 47, 6, 7, 12, 13, 14, 9, 10, 11]
noncomputable def b70 : Code := match Tryd.f70.body with | some c => c | none => .skip
theorem t70 : trCode ⟨Tryd.prog, K70, [], 54, none⟩ b70 = some c70 := by kernel_rfl
theorem go70 {args : List AV} {H : AHeap} {Kk : AV → AHeap → Prop} (hn : args.length = 3) (h : AGo ⟨Tryd.prog, K70, [], 54, none⟩ H.length [.code c70] (RetP [.t (.g 6)] H.length Kk) ⟨[], argsG 0 args⟩ H) : ACalls Tryd.prog 70 args H Kk :=
  ACalls_of Tryd.func70 (c := b70) rfl (by kernel_rfl) t70 (rs := [.t (.g 6)]) (by kernel_rfl) (by rw [hn]; exact Nat.le_of_ble_eq_true rfl) (by rw [hn]; rfl) (h.weaken (fun _ _ => RetP.hands) (by simp))

/-- slices.SortStableFunc[[]sastrugi/api.Mark,sastrugi/api.Mark] -/
def c75 : ACode :=
  (.reg [
  ⟨(some (false, 4)), .mv (.g 0), none⟩,
  ⟨(some (false, 5)), .mv (.g 0), none⟩,
  ⟨(some (false, 6)), .len (.l 5), none⟩,
  ⟨(some (false, 7)), .mv (.g 1), none⟩,
  ⟨(some (false, 8)), .call (.c (.fn 82 [])) [.l 4, .l 6, .l 7], none⟩])
def K75 : List Nat := [0, 1]
noncomputable def b75 : Code := match Tryd.f75.body with | some c => c | none => .skip
theorem t75 : trCode ⟨Tryd.prog, K75, [], 9, none⟩ b75 = some c75 := by kernel_rfl
theorem go75 {args : List AV} {H : AHeap} {Kk : AV → AHeap → Prop} (hn : args.length = 2) (h : AGo ⟨Tryd.prog, K75, [], 9, none⟩ H.length [.code c75] (RetP [] H.length Kk) ⟨[], argsG 0 args⟩ H) : ACalls Tryd.prog 75 args H Kk :=
  ACalls_of Tryd.func75 (c := b75) rfl (by kernel_rfl) t75 (rs := []) (by kernel_rfl) (by rw [hn]; exact Nat.le_of_ble_eq_true rfl) (by rw [hn]; rfl) (h.weaken (fun _ _ => RetP.hands) (by simp))

/-- sastrugi/probe.mends$1 -/
def c76 : ACode :=
  (.seq
(.reg [
  ⟨(some (true, 2)), .box (.g 0), none⟩,
  ⟨(some (true, 3)), .box (.g 1), none⟩,
  ⟨(some (true, 4)), .mv (.c (.lit (.int .i64 0))), none⟩])
(.seq
(.reg [
  ⟨(some (false, 5)), .fa (.g 2) 3, none⟩,
  ⟨(some (false, 6)), .ld none (.l 5), none⟩,
  ⟨(some (false, 7)), .fa (.g 3) 3, none⟩,
  ⟨(some (false, 8)), .ld none (.l 7), none⟩,
  ⟨(some (false, 9)), .call (.c (.fn 77 [])) [.l 6, .l 8], none⟩,
  ⟨(some (true, 4)), .mv (.l 9), none⟩])
.ret))
def K76 : List Nat := [0, 1, 4, 2, 3]
noncomputable def b76 : Code := match Tryd.f76.body with | some c => c | none => .skip
theorem t76 : trCode ⟨Tryd.prog, K76, [], 10, none⟩ b76 = some c76 := by kernel_rfl
theorem go76 {args : List AV} {H : AHeap} {Kk : AV → AHeap → Prop} (hn : args.length = 2) (h : AGo ⟨Tryd.prog, K76, [], 10, none⟩ H.length [.code c76] (RetP [.t (.g 4)] H.length Kk) ⟨[], argsG 0 args⟩ H) : ACalls Tryd.prog 76 args H Kk :=
  ACalls_of Tryd.func76 (c := b76) rfl (by kernel_rfl) t76 (rs := [.t (.g 4)]) (by kernel_rfl) (by rw [hn]; exact Nat.le_of_ble_eq_true rfl) (by rw [hn]; rfl) (h.weaken (fun _ _ => RetP.hands) (by simp))

/-- cmp.Compare[int] -/
def c77 : ACode :=
  (.seq
(.reg [
  ⟨(some (true, 4)), .mv (.c (.lit (.int .i64 0))), none⟩])
(.seq
(.reg [
  ⟨(some (false, 7)), .mv (.g 0), none⟩,
  ⟨(some (false, 8)), .call (.c (.fn 83 [])) [.l 7], none⟩,
  ⟨(some (true, 5)), .mv (.l 8), none⟩])
(.seq
(.reg [
  ⟨(some (false, 9)), .mv (.g 1), none⟩,
  ⟨(some (false, 10)), .call (.c (.fn 83 [])) [.l 9], none⟩,
  ⟨(some (true, 6)), .mv (.l 10), none⟩])
(.seq
(.seq
(.reg [
  ⟨(some (true, 11)), .mv (.g 5), none⟩])
(.cond (.g 11)
(.seq
(.seq
(.reg [
  ⟨(some (true, 12)), .mv (.g 6), none⟩])
(.cond (.g 12)
(.seq
(.reg [
  ⟨(some (true, 4)), .mv (.c (.lit (.int .i64 0))), none⟩])
.ret)
.skip))
(.seq
(.reg [
  ⟨(some (true, 4)), .mv (.c (.lit (.int .i64 (-1)))), none⟩])
.ret))
.skip))
(.seq
(.seq
(.reg [
  ⟨(some (true, 13)), .mv (.g 6), none⟩])
(.cond (.g 13)
(.seq
(.reg [
  ⟨(some (true, 4)), .mv (.c (.lit (.int .i64 1))), none⟩])
.ret)
.skip))
(.seq
(.seq
(.reg [
  ⟨(some (false, 14)), .mv (.g 0), none⟩,
  ⟨(some (false, 15)), .mv (.g 1), none⟩,
  ⟨(some (true, 16)), .bin .lss (.l 14) (.l 15), none⟩])
(.cond (.g 16)
(.seq
(.reg [
  ⟨(some (true, 4)), .mv (.c (.lit (.int .i64 (-1)))), none⟩])
.ret)
.skip))
(.seq
(.seq
(.reg [
  ⟨(some (false, 17)), .mv (.g 0), none⟩,
  ⟨(some (false, 18)), .mv (.g 1), none⟩,
  ⟨(some (true, 19)), .bin .gtr (.l 17) (.l 18), none⟩])
(.cond (.g 19)
(.seq
(.reg [
  ⟨(some (true, 4)), .mv (.c (.lit (.int .i64 1))), none⟩])
.ret)
.skip))
(.seq
(.reg [
  ⟨(some (true, 4)), .mv (.c (.lit (.int .i64 0))), none⟩])
.ret))))))))
def K77 : List Nat := [0, 1, 11, 12, 13, 16, 19, 4, 5, 6]
noncomputable def b77 : Code := match Tryd.f77.body with | some c => c | none => .skip
theorem t77 : trCode ⟨Tryd.prog, K77, [], 20, none⟩ b77 = some c77 := by kernel_rfl
theorem go77 {args : List AV} {H : AHeap} {Kk : AV → AHeap → Prop} (hn : args.length = 2) (h : AGo ⟨Tryd.prog, K77, [], 20, none⟩ H.length [.code c77] (RetP [.t (.g 4)] H.length Kk) ⟨[], argsG 0 args⟩ H) : ACalls Tryd.prog 77 args H Kk :=
  ACalls_of Tryd.func77 (c := b77) rfl (by kernel_rfl) t77 (rs := [.t (.g 4)]) (by kernel_rfl) (by rw [hn]; exact Nat.le_of_ble_eq_true rfl) (by rw [hn]; rfl) (h.weaken (fun _ _ => RetP.hands) (by simp))

/-- slices.stableCmpFunc[sastrugi/api.Mark] -/
def c82 : ACode :=
  (.seq
(.reg [
  ⟨(some (true, 6)), .mv (.c (.lit (.int .i64 20))), none⟩])
(.seq
(.reg [
  ⟨(some (false, 10)), .mv (.g 6), none⟩,
  ⟨(some (true, 7)), .mv (.c (.lit (.int .i64 0))), none⟩,
  ⟨(some (true, 8)), .mv (.l 10), none⟩])
(.seq
(.block 0
(.loop
(.seq
(.seq
(.reg [
  ⟨(some (false, 11)), .mv (.g 8), none⟩,
  ⟨(some (false, 12)), .mv (.g 1), none⟩,
  ⟨(some (true, 13)), .bin .leq (.l 11) (.l 12), none⟩])
(.cond (.g 13)
.skip
(.exit 0)))
(.block 1
(.seq
(.reg [
  ⟨(some (false, 14)), .mv (.g 0), none⟩,
  ⟨(some (false, 15)), .mv (.g 7), none⟩,
  ⟨(some (false, 16)), .mv (.g 8), none⟩,
  ⟨(some (false, 17)), .mv (.g 2), none⟩,
  ⟨(some (false, 18)), .call (.c (.fn 89 [])) [.l 14, .l 15, .l 16, .l 17], none⟩])
(.seq
(.reg [
  ⟨(some (false, 19)), .mv (.g 8), none⟩,
  ⟨(some (true, 7)), .mv (.l 19), none⟩])
(.reg [
  ⟨(some (false, 20)), .mv (.g 8), none⟩,
  ⟨(some (false, 21)), .mv (.g 6), none⟩,
  ⟨(some (false, 22)), .bin .add (.l 20) (.l 21), none⟩,
  ⟨(some (true, 8)), .mv (.l 22), none⟩])))))))
(.seq
(.reg [
  ⟨(some (false, 23)), .mv (.g 0), none⟩,
  ⟨(some (false, 24)), .mv (.g 7), none⟩,
  ⟨(some (false, 25)), .mv (.g 1), none⟩,
  ⟨(some (false, 26)), .mv (.g 2), none⟩,
  ⟨(some (false, 27)), .call (.c (.fn 89 [])) [.l 23, .l 24, .l 25, .l 26], none⟩])
(.block 2
(.loop
(.seq
(.seq
(.reg [
  ⟨(some (false, 28)), .mv (.g 6), none⟩,
  ⟨(some (false, 29)), .mv (.g 1), none⟩,
  ⟨(some (true, 30)), .bin .lss (.l 28) (.l 29), none⟩])
(.cond (.g 30)
.skip
(.exit 2)))
(.block 3
(.seq
(.reg [
  ⟨(some (false, 31)), .mv (.g 6), none⟩,
  ⟨(some (false, 32)), .bin .mul (.c (.lit (.int .i64 2))) (.l 31), none⟩,
  ⟨(some (true, 7)), .mv (.c (.lit (.int .i64 0))), none⟩,
  ⟨(some (true, 8)), .mv (.l 32), none⟩])
(.seq
(.block 4
(.loop
(.seq
(.seq
(.reg [
  ⟨(some (false, 33)), .mv (.g 8), none⟩,
  ⟨(some (false, 34)), .mv (.g 1), none⟩,
  ⟨(some (true, 35)), .bin .leq (.l 33) (.l 34), none⟩])
(.cond (.g 35)
.skip
(.exit 4)))
(.block 5
(.seq
(.reg [
  ⟨(some (false, 36)), .mv (.g 0), none⟩,
  ⟨(some (false, 37)), .mv (.g 7), none⟩,
  ⟨(some (false, 38)), .mv (.g 7), none⟩,
  ⟨(some (false, 39)), .mv (.g 6), none⟩,
  ⟨(some (false, 40)), .bin .add (.l 38) (.l 39), none⟩,
  ⟨(some (false, 41)), .mv (.g 8), none⟩,
  ⟨(some (false, 42)), .mv (.g 2), none⟩,
  ⟨(some (false, 43)), .call (.c (.fn 90 [])) [.l 36, .l 37, .l 40, .l 41, .l 42], none⟩])
(.seq
(.reg [
  ⟨(some (false, 44)), .mv (.g 8), none⟩,
  ⟨(some (true, 7)), .mv (.l 44), none⟩])
(.reg [
  ⟨(some (false, 45)), .mv (.g 8), none⟩,
  ⟨(some (false, 46)), .mv (.g 6), none⟩,
  ⟨(some (false, 47)), .bin .mul (.c (.lit (.int .i64 2))) (.l 46), none⟩,
  ⟨(some (false, 48)), .bin .add (.l 45) (.l 47), none⟩,
  ⟨(some (true, 8)), .mv (.l 48), none⟩])))))))
(.seq
(.seq
(.reg [
  ⟨(some (false, 49)), .mv (.g 7), none⟩,
  ⟨(some (false, 50)), .mv (.g 6), none⟩,
  ⟨(some (false, 51)), .bin .add (.l 49) (.l 50), none⟩,
  ⟨(some (true, 9)), .mv (.l 51), none⟩])
(.seq
(.reg [
  ⟨(some (false, 52)), .mv (.g 9), none⟩,
  ⟨(some (false, 53)), .mv (.g 1), none⟩,
  ⟨(some (true, 54)), .bin .lss (.l 52) (.l 53), none⟩])
(.cond (.g 54)
(.reg [
  ⟨(some (false, 55)), .mv (.g 0), none⟩,
  ⟨(some (false, 56)), .mv (.g 7), none⟩,
  ⟨(some (false, 57)), .mv (.g 9), none⟩,
  ⟨(some (false, 58)), .mv (.g 1), none⟩,
  ⟨(some (false, 59)), .mv (.g 2), none⟩,
  ⟨(some (false, 60)), .call (.c (.fn 90 [])) [.l 55, .l 56, .l 57, .l 58, .l 59], none⟩])
.skip)))
(.reg [
  ⟨(some (false, 61)), .mv (.g 6), none⟩,
  ⟨(some (false, 62)), .bin .mul (.l 61) (.c (.lit (.int .i64 2))), none⟩,
  ⟨(some (true, 6)), .mv (.l 62), none⟩]))))))))))))
def K82 : List Nat := [0, 1, 2, 13, 30, 35, 54, 6, 7, 8, 9]
noncomputable def b82 : Code := match Tryd.f82.body with | some c => c | none => .skip
theorem t82 : trCode ⟨Tryd.prog, K82, [], 63, none⟩ b82 = some c82 := by kernel_rfl
theorem go82 {args : List AV} {H : AHeap} {Kk : AV → AHeap → Prop} (hn : args.length = 3) (h : AGo ⟨Tryd.prog, K82, [], 63, none⟩ H.length [.code c82] (RetP [] H.length Kk) ⟨[], argsG 0 args⟩ H) : ACalls Tryd.prog 82 args H Kk :=
  ACalls_of Tryd.func82 (c := b82) rfl (by kernel_rfl) t82 (rs := []) (by kernel_rfl) (by rw [hn]; exact Nat.le_of_ble_eq_true rfl) (by rw [hn]; rfl) (h.weaken (fun _ _ => RetP.hands) (by simp))

/-- cmp.isNaN[int] -/
def c83 : ACode :=
  (.seq
(.reg [
  ⟨(some (true, 2)), .mv (.c (.lit (.bool false))), none⟩])
(.seq
(.reg [
  ⟨(some (false, 3)), .mv (.g 0), none⟩,
  ⟨(some (false, 4)), .mv (.g 0), none⟩,
  ⟨(some (false, 5)), .bin .neq (.l 3) (.l 4), none⟩,
  ⟨(some (true, 2)), .mv (.l 5), none⟩])
.ret))
def K83 : List Nat := [0, 2]
noncomputable def b83 : Code := match Tryd.f83.body with | some c => c | none => .skip
theorem t83 : trCode ⟨Tryd.prog, K83, [], 6, none⟩ b83 = some c83 := by kernel_rfl
theorem go83 {args : List AV} {H : AHeap} {Kk : AV → AHeap → Prop} (hn : args.length = 1) (h : AGo ⟨Tryd.prog, K83, [], 6, none⟩ H.length [.code c83] (RetP [.t (.g 2)] H.length Kk) ⟨[], argsG 0 args⟩ H) : ACalls Tryd.prog 83 args H Kk :=
  ACalls_of Tryd.func83 (c := b83) rfl (by kernel_rfl) t83 (rs := [.t (.g 2)]) (by kernel_rfl) (by rw [hn]; exact Nat.le_of_ble_eq_true rfl) (by rw [hn]; rfl) (h.weaken (fun _ _ => RetP.hands) (by simp))

/-- slices.insertionSortCmpFunc[sastrugi/api.Mark] -/
def c89 : ACode :=
  (.seq
(.reg [
  ⟨(some (false, 10)), .mv (.g 1), none⟩,
  ⟨(some (false, 11)), .bin .add (.l 10) (.c (.lit (.int .i64 1))), none⟩,
  ⟨(some (true, 8)), .mv (.l 11), none⟩])
(.block 0
(.loop
(.seq
(.seq
(.reg [
  ⟨(some (false, 12)), .mv (.g 8), none⟩,
  ⟨(some (false, 13)), .mv (.g 2), none⟩,
  ⟨(some (true, 14)), .bin .lss (.l 12) (.l 13), none⟩])
(.cond (.g 14)
.skip
(.exit 0)))
(.seq
(.block 1
(.seq
(.reg [
  ⟨(some (false, 17)), .mv (.g 8), none⟩,
  ⟨(some (true, 9)), .mv (.l 17), none⟩])
(.block 2
(.loop
(.seq
(.seq
(.draw [
  ⟨⟨(some (false, 18)), .mv (.g 9), none⟩, 0, true, []⟩,
  ⟨⟨(some (false, 19)), .mv (.g 1), none⟩, 1, true, []⟩,
  ⟨⟨(some (false, 20)), .bin .gtr (.l 18) (.l 19), none⟩, 2, true, []⟩,
  ⟨⟨(some (false, 21)), .mv (.l 20), none⟩, 3, true, []⟩,
  ⟨⟨(some (false, 22)), .mv (.g 3), (some (.l 21, true))⟩, 4, true, []⟩,
  ⟨⟨(some (false, 23)), .mv (.g 0), (some (.l 21, true))⟩, 5, true, []⟩,
  ⟨⟨(some (false, 24)), .mv (.g 9), (some (.l 21, true))⟩, 6, true, []⟩,
  ⟨⟨(some (false, 25)), .ia 5 (.l 23) (.l 24), (some (.l 21, true))⟩, 7, true, []⟩,
  ⟨⟨(some (false, 26)), .ld (some 5) (.l 25), (some (.l 21, true))⟩, 8, true, []⟩,
  ⟨⟨(some (false, 27)), .mv (.g 0), (some (.l 21, true))⟩, 9, true, []⟩,
  ⟨⟨(some (false, 28)), .mv (.g 9), (some (.l 21, true))⟩, 10, true, []⟩,
  ⟨⟨(some (false, 29)), .bin .sub (.l 28) (.c (.lit (.int .i64 1))), (some (.l 21, true))⟩, 11, true, []⟩,
  ⟨⟨(some (false, 30)), .ia 5 (.l 27) (.l 29), (some (.l 21, true))⟩, 12, true, []⟩,
  ⟨⟨(some (false, 31)), .ld (some 5) (.l 30), (some (.l 21, true))⟩, 13, true, []⟩,
  ⟨⟨(some (false, 32)), .call (.l 22) [.l 26, .l 31], (some (.l 21, true))⟩, 14, false, []⟩,
  ⟨⟨(some (false, 33)), .bin .lss (.l 32) (.c (.lit (.int .i64 0))), (some (.l 21, true))⟩, 15, true, []⟩,
  ⟨⟨(some (true, 34)), .pick (.l 21) (.l 33) (.c (.lit (.bool false))), none⟩, 16, true, []⟩])
(.cond (.g 34)
.skip
(.exit 2)))
(.seq
(.block 3
(.draw [
  ⟨⟨(some (false, 37)), .mv (.g 0), none⟩, 0, true, []⟩,
  ⟨⟨(some (false, 38)), .mv (.g 9), none⟩, 1, true, []⟩,
  ⟨⟨(some (false, 39)), .mv (.g 0), none⟩, 2, false, []⟩,
  ⟨⟨(some (false, 40)), .mv (.g 9), none⟩, 3, false, []⟩,
  ⟨⟨(some (false, 41)), .bin .sub (.l 40) (.c (.lit (.int .i64 1))), none⟩, 4, false, []⟩,
  ⟨⟨(some (false, 42)), .mv (.g 0), none⟩, 5, true, []⟩,
  ⟨⟨(some (false, 43)), .mv (.g 9), none⟩, 6, true, []⟩,
  ⟨⟨(some (false, 44)), .bin .sub (.l 43) (.c (.lit (.int .i64 1))), none⟩, 7, true, []⟩,
  ⟨⟨(some (false, 45)), .ia 5 (.l 42) (.l 44), none⟩, 8, true, []⟩,
  ⟨⟨(some (false, 46)), .ld (some 5) (.l 45), none⟩, 9, true, []⟩,
  ⟨⟨(some (false, 47)), .mv (.g 0), none⟩, 10, false, []⟩,
  ⟨⟨(some (false, 48)), .mv (.g 9), none⟩, 11, false, []⟩,
  ⟨⟨(some (false, 49)), .ia 5 (.l 47) (.l 48), none⟩, 12, true, []⟩,
  ⟨⟨(some (false, 50)), .ld (some 5) (.l 49), none⟩, 13, true, []⟩,
  ⟨⟨(some (false, 51)), .ia 5 (.l 37) (.l 38), none⟩, 14, true, []⟩,
  ⟨⟨none, .st 5 (.l 51) (.l 46), none⟩, 15, false, []⟩,
  ⟨⟨(some (false, 52)), .ia 5 (.l 39) (.l 41), none⟩, 16, false, []⟩,
  ⟨⟨none, .st 5 (.l 52) (.l 50), none⟩, 17, true, []⟩]))
(.reg [
  ⟨(some (false, 35)), .mv (.g 9), none⟩,
  ⟨(some (false, 36)), .bin .sub (.l 35) (.c (.lit (.int .i64 1))), none⟩,
  ⟨(some (true, 9)), .mv (.l 36), none⟩])))))))
(.reg [
  ⟨(some (false, 15)), .mv (.g 8), none⟩,
  ⟨(some (false, 16)), .bin .add (.l 15) (.c (.lit (.int .i64 1))), none⟩,
  ⟨(some (true, 8)), .mv (.l 16), none⟩]))))))
def K89 : List Nat := [0, 1, 2, 3, 14, 34, 8, 9]
noncomputable def b89 : Code := match Tryd.f89.body with | some c => c | none => .skip
theorem t89 : trCode ⟨Tryd.prog, K89, [], 53, none⟩ b89 = some c89 := by kernel_rfl
theorem go89 {args : List AV} {H : AHeap} {Kk : AV → AHeap → Prop} (hn : args.length = 4) (h : AGo ⟨Tryd.prog, K89, [], 53, none⟩ H.length [.code c89] (RetP [] H.length Kk) ⟨[], argsG 0 args⟩ H) : ACalls Tryd.prog 89 args H Kk :=
  ACalls_of Tryd.func89 (c := b89) rfl (by kernel_rfl) t89 (rs := []) (by kernel_rfl) (by rw [hn]; exact Nat.le_of_ble_eq_true rfl) (by rw [hn]; rfl) (h.weaken (fun _ _ => RetP.hands) (by simp))

end Go.Sas
namespace Go.Sas
open Go.Proofs
set_option maxRecDepth 100000
/-- sastrugi/probe.Lasts -/
def c23 : ACode :=
  (.seq
(.reg [
  ⟨(some (true, 6)), .box (.g 0), none⟩,
  ⟨(some (true, 9)), .box (.g 3), none⟩,
  ⟨(some (true, 10)), .box (.g 4), none⟩,
  ⟨(some (true, 11)), .box (.g 5), none⟩,
  ⟨(some (true, 12)), .mv (.c (.lit (.int .i64 0))), none⟩,
  ⟨(some (true, 13)), .mv (.c (.lit (.int .i64 0))), none⟩])
(.seq
(.reg [
  ⟨(some (false, 20)), .ld (some 4) (.g 6), none⟩,
  ⟨(some (false, 21)), .mv (.g 1), none⟩,
  ⟨(some (false, 22)), .mv (.g 2), none⟩,
  ⟨(some (false, 23)), .ld none (.g 9), none⟩,
  ⟨(some (false, 24)), .ld none (.g 10), none⟩,
  ⟨(some (false, 25)), .call (.c (.fn 43 [])) [.l 20, .l 21, .l 22, .l 23, .l 24], none⟩,
  ⟨(some (false, 19)), .mv (.l 25), none⟩,
  ⟨(some (false, 26)), .ex (.l 19) 0, none⟩,
  ⟨(some (false, 27)), .ex (.l 19) 1, none⟩,
  ⟨(some (false, 28)), .ex (.l 19) 2, none⟩,
  ⟨(some (false, 29)), .ex (.l 19) 3, none⟩,
  ⟨(some (true, 14)), .new [.slice none 0 0, .int .i64 0, .int .i64 0, .int .i64 0, .slice none 0 0, .slice none 0 0], none⟩,
  ⟨(some (true, 15)), .new [.slice none 0 0], none⟩,
  ⟨(some (true, 16)), .new [.slice none 0 0], none⟩,
  ⟨none, .st 6 (.g 14) (.l 26), none⟩,
  ⟨none, .st 1 (.g 15) (.l 27), none⟩,
  ⟨none, .st 1 (.g 16) (.l 28), none⟩,
  ⟨(some (true, 17)), .mv (.l 29), none⟩])
(.seq
(.seq
(.reg [
  ⟨(some (false, 30)), .mv (.g 17), none⟩,
  ⟨(some (true, 31)), .bin .neq (.l 30) (.c (.lit (.int .i64 0))), none⟩])
(.cond (.g 31)
(.seq
(.reg [
  ⟨(some (false, 32)), .mv (.g 17), none⟩,
  ⟨(some (true, 12)), .mv (.c (.lit (.int .i64 0))), none⟩,
  ⟨(some (true, 13)), .mv (.l 32), none⟩])
.ret)
.skip))
(.seq
(.seq
(.reg [
  ⟨(some (false, 33)), .ld none (.g 11), none⟩,
  ⟨(some (false, 34)), .fa (.g 14) 5, none⟩,
  ⟨(some (false, 35)), .ld none (.l 34), none⟩,
  ⟨(some (false, 36)), .len (.l 35), none⟩,
  ⟨(some (false, 37)), .bin .sub (.l 36) (.c (.lit (.int .i64 1))), none⟩,
  ⟨(some (false, 38)), .call (.c (.fn 16 [])) [.l 33, .c (.lit (.int .i64 0)), .l 37], none⟩,
  ⟨(some (true, 39)), .un .not (.l 38), none⟩])
(.cond (.g 39)
(.seq
(.reg [
  ⟨(some (true, 12)), .mv (.c (.lit (.int .i64 0))), none⟩,
  ⟨(some (true, 13)), .mv (.c (.lit (.int .i64 7))), none⟩])
.ret)
.skip))
(.seq
(.reg [
  ⟨(some (false, 40)), .ld none (.g 10), none⟩,
  ⟨(some (false, 41)), .bin .sub (.c (.lit (.int .i64 10000))) (.l 40), none⟩,
  ⟨(some (false, 42)), .bin .add (.l 41) (.c (.lit (.int .i64 1))), none⟩,
  ⟨(some (false, 43)), .mkf 47 [.g 14, .g 15, .g 16, .g 9, .g 10, .g 11], none⟩,
  ⟨(some (false, 44)), .call (.c (.fn 46 [])) [.l 42, .l 43], none⟩,
  ⟨(some (true, 18)), .mv (.l 44), none⟩])
(.seq
(.seq
(.reg [
  ⟨(some (false, 45)), .mv (.g 18), none⟩,
  ⟨(some (true, 46)), .bin .eql (.l 45) (.c (.lit (.int .i64 0))), none⟩])
(.cond (.g 46)
(.seq
(.reg [
  ⟨(some (true, 12)), .mv (.c (.lit (.int .i64 (-1)))), none⟩,
  ⟨(some (true, 13)), .mv (.c (.lit (.int .i64 0))), none⟩])
.ret)
.skip))
(.seq
(.reg [
  ⟨(some (false, 47)), .ld none (.g 10), none⟩,
  ⟨(some (false, 48)), .mv (.g 18), none⟩,
  ⟨(some (false, 49)), .bin .add (.l 47) (.l 48), none⟩,
  ⟨(some (false, 50)), .bin .sub (.l 49) (.c (.lit (.int .i64 1))), none⟩,
  ⟨(some (true, 12)), .mv (.l 50), none⟩,
  ⟨(some (true, 13)), .mv (.c (.lit (.int .i64 0))), none⟩])
.ret)))))))
def K23 : List Nat := [0, 1, 2, 3, 4, 5, 31, 39, 46, 12, 13, 6, 9, 10, 11, 14, 15, 16, 17, 18]
noncomputable def b23 : Code := match Tryd.f23.body with | some c => c | none => .skip
theorem t23 : trCode ⟨Tryd.prog, K23, [], 51, none⟩ b23 = some c23 := by kernel_rfl
theorem go23 {args : List AV} {H : AHeap} {Kk : AV → AHeap → Prop} (hn : args.length = 6) (h : AGo ⟨Tryd.prog, K23, [], 51, none⟩ H.length [.code c23] (RetP [.t (.g 12), .t (.g 13)] H.length Kk) ⟨[], argsG 0 args⟩ H) : ACalls Tryd.prog 23 args H Kk :=
  ACalls_of Tryd.func23 (c := b23) rfl (by kernel_rfl) t23 (rs := [.t (.g 12), .t (.g 13)]) (by kernel_rfl) (by rw [hn]; exact Nat.le_of_ble_eq_true rfl) (by rw [hn]; rfl) (h.weaken (fun _ _ => RetP.hands) (by simp))

/-- sort.Search -/
def c46 : ACode :=
  (.seq
(.reg [
  ⟨(some (true, 4)), .mv (.c (.lit (.int .i64 0))), none⟩])
(.seq
(.reg [
  ⟨(some (false, 8)), .mv (.g 0), none⟩,
  ⟨(some (true, 5)), .mv (.c (.lit (.int .i64 0))), none⟩,
  ⟨(some (true, 6)), .mv (.l 8), none⟩])
(.seq
(.block 0
(.loop
(.seq
(.seq
(.reg [
  ⟨(some (false, 9)), .mv (.g 5), none⟩,
  ⟨(some (false, 10)), .mv (.g 6), none⟩,
  ⟨(some (true, 11)), .bin .lss (.l 9) (.l 10), none⟩])
(.cond (.g 11)
.skip
(.exit 0)))
(.block 1
(.seq
(.reg [
  ⟨(some (false, 12)), .mv (.g 5), none⟩,
  ⟨(some (false, 13)), .mv (.g 6), none⟩,
  ⟨(some (false, 14)), .bin .add (.l 12) (.l 13), none⟩,
  ⟨(some (false, 15)), .cv .u64 (.l 14), none⟩,
  ⟨(some (false, 16)), .bin .shr (.l 15) (.c (.lit (.int .u64 1))), none⟩,
  ⟨(some (false, 17)), .cv .i64 (.l 16), none⟩,
  ⟨(some (true, 7)), .mv (.l 17), none⟩])
(.seq
(.reg [
  ⟨(some (false, 18)), .mv (.g 1), none⟩,
  ⟨(some (false, 19)), .mv (.g 7), none⟩,
  ⟨(some (false, 20)), .call (.l 18) [.l 19], none⟩,
  ⟨(some (true, 21)), .un .not (.l 20), none⟩])
(.cond (.g 21)
(.reg [
  ⟨(some (false, 22)), .mv (.g 7), none⟩,
  ⟨(some (false, 23)), .bin .add (.l 22) (.c (.lit (.int .i64 1))), none⟩,
  ⟨(some (true, 5)), .mv (.l 23), none⟩])
(.reg [
  ⟨(some (false, 24)), .mv (.g 7), none⟩,
  ⟨(some (true, 6)), .mv (.l 24), none⟩]))))))))
(.seq
(.reg [
  ⟨(some (false, 25)), .mv (.g 5), none⟩,
  ⟨(some (true, 4)), .mv (.l 25), none⟩])
.ret))))
def K46 : List Nat := [0, 1, 11, 21, 4, 5, 6, 7]
noncomputable def b46 : Code := match Tryd.f46.body with | some c => c | none => .skip
theorem t46 : trCode ⟨Tryd.prog, K46, [], 26, none⟩ b46 = some c46 := by kernel_rfl
theorem go46 {args : List AV} {H : AHeap} {Kk : AV → AHeap → Prop} (hn : args.length = 2) (h : AGo ⟨Tryd.prog, K46, [], 26, none⟩ H.length [.code c46] (RetP [.t (.g 4)] H.length Kk) ⟨[], argsG 0 args⟩ H) : ACalls Tryd.prog 46 args H Kk :=
  ACalls_of Tryd.func46 (c := b46) rfl (by kernel_rfl) t46 (rs := [.t (.g 4)]) (by kernel_rfl) (by rw [hn]; exact Nat.le_of_ble_eq_true rfl) (by rw [hn]; rfl) (h.weaken (fun _ _ => RetP.hands) (by simp))

/-- sastrugi/probe.Lasts$1 -/
def c47 : ACode :=
  (.seq
(.reg [
  ⟨(some (true, 8)), .mv (.c (.lit (.bool false))), none⟩])
(.seq
(.draw [
  ⟨⟨(some (false, 9)), .ld (some 6) (.g 1), none⟩, 0, true, []⟩,
  ⟨⟨(some (false, 10)), .ld none (.g 2), none⟩, 1, true, []⟩,
  ⟨⟨(some (false, 11)), .ld none (.g 3), none⟩, 2, true, []⟩,
  ⟨⟨(some (false, 12)), .ld none (.g 4), none⟩, 3, true, []⟩,
  ⟨⟨(some (false, 13)), .ld none (.g 5), none⟩, 4, true, []⟩,
  ⟨⟨(some (false, 14)), .mv (.g 0), none⟩, 5, true, []⟩,
  ⟨⟨(some (false, 15)), .bin .add (.l 13) (.l 14), none⟩, 6, true, []⟩,
  ⟨⟨(some (false, 17)), .ld none (.g 6), none⟩, 8, true, []⟩,
  ⟨⟨(some (false, 16)), .call (.c (.fn 44 [])) [.l 9, .l 10, .l 11, .l 12, .l 15], none⟩, 7, false, []⟩,
  ⟨⟨(some (false, 18)), .ia 1 (.l 16) (.l 17), none⟩, 9, true, []⟩,
  ⟨⟨(some (false, 19)), .ld none (.l 18), none⟩, 10, true, []⟩,
  ⟨⟨(some (false, 20)), .bin .neq (.l 19) (.c (.lit (.int .i64 0))), none⟩, 11, true, []⟩,
  ⟨⟨(some (true, 8)), .mv (.l 20), none⟩, 12, true, []⟩])
.ret))
def K47 : List Nat := [0, 1, 2, 3, 4, 5, 6, 8]
noncomputable def b47 : Code := match Tryd.f47.body with | some c => c | none => .skip
theorem t47 : trCode ⟨Tryd.prog, K47, [], 21, none⟩ b47 = some c47 := by kernel_rfl
theorem go47 {args : List AV} {H : AHeap} {Kk : AV → AHeap → Prop} (hn : args.length = 7) (h : AGo ⟨Tryd.prog, K47, [], 21, none⟩ H.length [.code c47] (RetP [.t (.g 8)] H.length Kk) ⟨[], argsG 0 args⟩ H) : ACalls Tryd.prog 47 args H Kk :=
  ACalls_of Tryd.func47 (c := b47) rfl (by kernel_rfl) t47 (rs := [.t (.g 8)]) (by kernel_rfl) (by rw [hn]; exact Nat.le_of_ble_eq_true rfl) (by rw [hn]; rfl) (h.weaken (fun _ _ => RetP.hands) (by simp))

end Go.Sas
