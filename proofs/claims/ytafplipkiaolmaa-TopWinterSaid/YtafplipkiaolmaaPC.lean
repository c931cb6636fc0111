/-
The code of some functions with its types resolved, printed by a program; that it is the code is checked by the kernel.

Conditions: none.
-/
import Derived.Test.YtafplipkiaolmaaP4
import Derived.Test.YtafplipkiaolmaaProg
set_option linter.unusedVariables false
set_option linter.unusedSimpArgs false
namespace Go.Sas
open Go.Proofs
set_option maxRecDepth 100000
/-- sastrugi/probe.stale -/
def c54 : ACode :=
  (.seq
(.reg [
  ⟨(some (true, 3)), .box (.g 0), none⟩,
  ⟨(some (true, 4)), .box (.g 1), none⟩,
  ⟨(some (true, 5)), .box (.g 2), none⟩,
  ⟨(some (true, 6)), .mv (.c (.lit (.slice none 0 0))), none⟩])
(.seq
(.reg [
  ⟨(some (false, 13)), .fa (.g 3) 5, none⟩,
  ⟨(some (false, 14)), .ld none (.l 13), none⟩,
  ⟨(some (false, 15)), .len (.l 14), none⟩,
  ⟨(some (false, 16)), .mksl 1 1 [.bool false] (.l 15) (.l 15), none⟩,
  ⟨(some (true, 7)), .new [.slice none 0 0], none⟩,
  ⟨none, .st 1 (.g 7) (.l 16), none⟩])
(.seq
(.seq
(.reg [
  ⟨(some (false, 17)), .fa (.g 3) 0, none⟩,
  ⟨(some (false, 18)), .ld (some 4) (.l 17), none⟩,
  ⟨(some (true, 19)), .call (.c (.fn 68 [])) [.l 18], none⟩])
(.block 0
(.rng (.g 19) [20, 21]
(.seq
(.reg [
  ⟨(some (true, 8)), .mv (.g 20), none⟩])
(.reg [
  ⟨(some (true, 9)), .new [.int .i64 0, .int .i64 0, .int .i64 0, .int .i64 0, .int .i64 0], none⟩,
  ⟨none, .st 5 (.g 9) (.g 21), none⟩]))
(.block 1
(.seq
(.reg [
  ⟨(some (false, 22)), .ld none (.g 7), none⟩,
  ⟨(some (false, 23)), .mv (.g 8), none⟩,
  ⟨(some (false, 24)), .ia 1 (.l 22) (.l 23), none⟩,
  ⟨none, .st 1 (.l 24) (.c (.lit (.bool true))), none⟩])
(.seq
(.reg [
  ⟨(some (true, 25)), .ld none (.g 4), none⟩,
  ⟨(some (true, 26)), .len (.g 25), none⟩,
  ⟨(some (true, 27)), .mv (.c (.lit (.int .i64 0))), none⟩])
(.block 2
(.loop
(.seq
(.reg [
  ⟨(some (true, 28)), .bin .lss (.g 27) (.g 26), none⟩])
(.seq
(.cond (.g 28)
.skip
(.exit 2))
(.seq
(.block 3
(.seq
(.reg [
  ⟨(some (false, 29)), .ia 5 (.g 25) (.g 27), none⟩,
  ⟨(some (false, 30)), .ld (some 5) (.l 29), none⟩,
  ⟨(some (true, 11)), .new [.int .i64 0, .int .i64 0, .int .i64 0, .int .i64 0, .int .i64 0], none⟩,
  ⟨none, .st 5 (.g 11) (.l 30), none⟩])
(.seq
(.reg [
  ⟨(some (false, 31)), .fa (.g 3) 0, none⟩,
  ⟨(some (false, 32)), .fa (.l 31) 1, none⟩,
  ⟨(some (false, 33)), .ld (some 3) (.l 32), none⟩,
  ⟨(some (true, 12)), .new [.int .i64 0, .int .i64 0, .int .i64 0], none⟩,
  ⟨none, .st 3 (.g 12) (.l 33), none⟩])
(.seq
(.draw [
  ⟨⟨(some (false, 34)), .mv (.g 8), none⟩, 0, true, []⟩,
  ⟨⟨(some (false, 35)), .fa (.g 11) 1, none⟩, 1, true, []⟩,
  ⟨⟨(some (false, 36)), .ld none (.l 35), none⟩, 2, true, []⟩,
  ⟨⟨(some (false, 37)), .fa (.g 11) 0, none⟩, 3, true, []⟩,
  ⟨⟨(some (false, 38)), .ld none (.l 37), none⟩, 4, true, []⟩,
  ⟨⟨(some (false, 39)), .bin .sub (.l 38) (.c (.lit (.int .i64 1))), none⟩, 5, true, []⟩,
  ⟨⟨(some (false, 40)), .iaa 3 1 (.g 12) (.l 39), none⟩, 6, true, []⟩,
  ⟨⟨(some (false, 41)), .ld none (.l 40), none⟩, 7, true, []⟩,
  ⟨⟨(some (false, 42)), .bin .sub (.l 36) (.l 41), none⟩, 8, true, []⟩,
  ⟨⟨(some (false, 43)), .fa (.g 11) 1, none⟩, 9, true, []⟩,
  ⟨⟨(some (false, 44)), .ld none (.l 43), none⟩, 10, true, []⟩,
  ⟨⟨(some (false, 45)), .fa (.g 11) 0, none⟩, 11, true, []⟩,
  ⟨⟨(some (false, 46)), .ld none (.l 45), none⟩, 12, true, []⟩,
  ⟨⟨(some (false, 47)), .bin .sub (.l 46) (.c (.lit (.int .i64 1))), none⟩, 13, true, []⟩,
  ⟨⟨(some (false, 48)), .iaa 3 1 (.g 12) (.l 47), none⟩, 14, true, []⟩,
  ⟨⟨(some (false, 49)), .ld none (.l 48), none⟩, 15, true, []⟩,
  ⟨⟨(some (false, 50)), .bin .add (.l 44) (.l 49), none⟩, 16, true, []⟩,
  ⟨⟨(some (false, 51)), .call (.c (.fn 46 [])) [.l 34, .l 42, .l 50], none⟩, 17, false, []⟩,
  ⟨⟨(some (false, 52)), .mv (.l 51), none⟩, 18, true, []⟩,
  ⟨⟨(some (false, 53)), .fa (.g 11) 2, (some (.l 52, true))⟩, 19, true, []⟩,
  ⟨⟨(some (false, 54)), .ld none (.l 53), (some (.l 52, true))⟩, 20, true, []⟩,
  ⟨⟨(some (false, 55)), .ld none (.g 5), (some (.l 52, true))⟩, 21, true, []⟩,
  ⟨⟨(some (false, 56)), .fa (.g 9) 4, (some (.l 52, true))⟩, 22, true, []⟩,
  ⟨⟨(some (false, 57)), .ld none (.l 56), (some (.l 52, true))⟩, 23, true, []⟩,
  ⟨⟨(some (false, 58)), .bin .sub (.l 55) (.l 57), (some (.l 52, true))⟩, 24, true, []⟩,
  ⟨⟨(some (false, 59)), .ld none (.g 5), (some (.l 52, true))⟩, 25, true, []⟩,
  ⟨⟨(some (false, 60)), .call (.c (.fn 46 [])) [.l 54, .l 58, .l 59], (some (.l 52, true))⟩, 26, false, []⟩,
  ⟨⟨(some (true, 61)), .pick (.l 52) (.l 60) (.c (.lit (.bool false))), none⟩, 27, true, []⟩])
(.cond (.g 61)
(.reg [
  ⟨(some (false, 62)), .ld none (.g 7), none⟩,
  ⟨(some (false, 63)), .mv (.g 8), none⟩,
  ⟨(some (false, 64)), .ia 1 (.l 62) (.l 63), none⟩,
  ⟨none, .st 1 (.l 64) (.c (.lit (.bool false))), none⟩])
.skip)))))
(.reg [
  ⟨(some (false, 65)), .bin .add (.g 27) (.c (.lit (.int .i64 1))), none⟩,
  ⟨(some (true, 27)), .mv (.l 65), none⟩]))))))))))))
(.seq
(.reg [
  ⟨(some (false, 66)), .ld none (.g 7), none⟩,
  ⟨(some (true, 6)), .mv (.l 66), none⟩])
.ret))))
def K54 : List Nat := [0, 1, 2, 19, 20, 21, 28, 61, 6, 3, 4, 5, 7, 8, 9, 25, 26, 27, 11, 12]
noncomputable def b54 : Code := match Try.f54.body with | some c => c | none => .skip
theorem t54 : trCode ⟨Try.prog, K54, [], 67, none⟩ b54 = some c54 := by kernel_rfl
theorem go54 {args : List AV} {H : AHeap} {Kk : AV → AHeap → Prop} (hn : args.length = 3) (h : AGo ⟨Try.prog, K54, [], 67, none⟩ H.length [.code c54] (RetP [.t (.g 6)] H.length Kk) ⟨[], argsG 0 args⟩ H) : ACalls Try.prog 54 args H Kk :=
  ACalls_of Try.func54 (c := b54) rfl (by kernel_rfl) t54 (rs := [.t (.g 6)]) (by kernel_rfl) (by rw [hn]; exact Nat.le_of_ble_eq_true rfl) (by rw [hn]; rfl) (h.weaken (fun _ _ => RetP.hands) (by simp))

/-- sastrugi/probe.asked -/
def c35 : ACode :=
  (.seq
(.reg [
  ⟨(some (true, 5)), .box (.g 0), none⟩,
  ⟨(some (true, 10)), .new [.slice none 0 0, .int .i64 0, .int .i64 0, .int .i64 0, .slice none 0 0, .slice none 0 0], none⟩,
  ⟨(some (true, 11)), .mv (.c (.lit (.slice none 0 0))), none⟩,
  ⟨(some (true, 12)), .mv (.c (.lit (.slice none 0 0))), none⟩,
  ⟨(some (true, 13)), .mv (.c (.lit (.int .i64 0))), none⟩])
(.seq
(.reg [
  ⟨(some (false, 20)), .ld (some 4) (.g 5), none⟩,
  ⟨(some (false, 21)), .mv (.g 1), none⟩,
  ⟨(some (false, 22)), .call (.c (.fn 45 [])) [.l 20, .l 21], none⟩,
  ⟨(some (false, 19)), .mv (.l 22), none⟩,
  ⟨(some (false, 23)), .ex (.l 19) 0, none⟩,
  ⟨(some (false, 24)), .ex (.l 19) 1, none⟩,
  ⟨none, .st 6 (.g 10) (.l 23), none⟩,
  ⟨(some (true, 13)), .mv (.l 24), none⟩])
(.seq
(.seq
(.reg [
  ⟨(some (false, 25)), .mv (.g 13), none⟩,
  ⟨(some (true, 26)), .bin .neq (.l 25) (.c (.lit (.int .i64 0))), none⟩])
(.cond (.g 26)
(.seq
(.reg [
  ⟨(some (false, 27)), .ld (some 6) (.g 10), none⟩,
  ⟨(some (false, 28)), .mv (.g 13), none⟩,
  ⟨none, .st 6 (.g 10) (.l 27), none⟩,
  ⟨(some (true, 11)), .mv (.c (.lit (.slice none 0 0))), none⟩,
  ⟨(some (true, 12)), .mv (.c (.lit (.slice none 0 0))), none⟩,
  ⟨(some (true, 13)), .mv (.l 28), none⟩])
.ret)
.skip))
(.seq
(.seq
(.reg [
  ⟨(some (false, 29)), .fa (.g 10) 5, none⟩,
  ⟨(some (false, 30)), .ld none (.l 29), none⟩,
  ⟨(some (false, 31)), .len (.l 30), none⟩,
  ⟨(some (false, 32)), .mv (.g 2), none⟩,
  ⟨(some (false, 33)), .call (.c (.fn 53 [])) [.l 31, .l 32], none⟩,
  ⟨(some (true, 14)), .mv (.l 33), none⟩])
(.seq
(.reg [
  ⟨(some (false, 34)), .mv (.g 14), none⟩,
  ⟨(some (true, 35)), .bin .neq (.l 34) (.c (.lit (.int .i64 0))), none⟩])
(.cond (.g 35)
(.seq
(.reg [
  ⟨(some (false, 36)), .ld (some 6) (.g 10), none⟩,
  ⟨(some (false, 37)), .mv (.g 14), none⟩,
  ⟨none, .st 6 (.g 10) (.l 36), none⟩,
  ⟨(some (true, 11)), .mv (.c (.lit (.slice none 0 0))), none⟩,
  ⟨(some (true, 12)), .mv (.c (.lit (.slice none 0 0))), none⟩,
  ⟨(some (true, 13)), .mv (.l 37), none⟩])
.ret)
.skip)))
(.seq
(.seq
(.reg [
  ⟨(some (false, 38)), .mv (.g 3), none⟩,
  ⟨(some (false, 39)), .call (.c (.fn 46 [])) [.l 38, .c (.lit (.int .i64 0)), .c (.lit (.int .i64 3000))], none⟩,
  ⟨(some (false, 40)), .un .not (.l 39), none⟩,
  ⟨(some (false, 41)), .mv (.l 40), none⟩,
  ⟨(some (false, 42)), .mv (.g 4), (some (.l 41, false))⟩,
  ⟨(some (false, 43)), .call (.c (.fn 46 [])) [.l 42, .c (.lit (.int .i64 0)), .c (.lit (.int .i64 10000))], (some (.l 41, false))⟩,
  ⟨(some (false, 44)), .un .not (.l 43), (some (.l 41, false))⟩,
  ⟨(some (true, 45)), .pick (.l 41) (.c (.lit (.bool true))) (.l 44), none⟩])
(.cond (.g 45)
(.seq
(.reg [
  ⟨(some (false, 46)), .ld (some 6) (.g 10), none⟩,
  ⟨none, .st 6 (.g 10) (.l 46), none⟩,
  ⟨(some (true, 11)), .mv (.c (.lit (.slice none 0 0))), none⟩,
  ⟨(some (true, 12)), .mv (.c (.lit (.slice none 0 0))), none⟩,
  ⟨(some (true, 13)), .mv (.c (.lit (.int .i64 2))), none⟩])
.ret)
.skip))
(.seq
(.seq
(.reg [
  ⟨(some (true, 47)), .mv (.g 1), none⟩,
  ⟨(some (true, 48)), .len (.g 47), none⟩,
  ⟨(some (true, 49)), .mv (.c (.lit (.int .i64 0))), none⟩])
(.block 0
(.loop
(.seq
(.reg [
  ⟨(some (true, 50)), .bin .lss (.g 49) (.g 48), none⟩])
(.seq
(.cond (.g 50)
.skip
(.exit 0))
(.seq
(.block 1
(.seq
(.reg [
  ⟨(some (false, 51)), .ia 5 (.g 47) (.g 49), none⟩,
  ⟨(some (false, 52)), .ld (some 5) (.l 51), none⟩,
  ⟨(some (true, 16)), .new [.int .i64 0, .int .i64 0, .int .i64 0, .int .i64 0, .int .i64 0], none⟩,
  ⟨none, .st 5 (.g 16) (.l 52), none⟩])
(.seq
(.reg [
  ⟨(some (false, 53)), .fa (.g 16) 2, none⟩,
  ⟨(some (false, 54)), .ld none (.l 53), none⟩,
  ⟨(some (false, 55)), .mv (.g 4), none⟩,
  ⟨(some (true, 56)), .bin .leq (.l 54) (.l 55), none⟩])
(.cond (.g 56)
(.reg [
  ⟨(some (false, 57)), .mv (.g 11), none⟩,
  ⟨(some (false, 58)), .ld (some 5) (.g 16), none⟩,
  ⟨(some (false, 59)), .mks false 5 [.l 58], none⟩,
  ⟨(some (false, 60)), .app 5 40 (.l 57) (.l 59), none⟩,
  ⟨(some (true, 11)), .mv (.l 60), none⟩])
.skip))))
(.reg [
  ⟨(some (false, 61)), .bin .add (.g 49) (.c (.lit (.int .i64 1))), none⟩,
  ⟨(some (true, 49)), .mv (.l 61), none⟩])))))))
(.seq
(.seq
(.reg [
  ⟨(some (true, 62)), .mv (.g 2), none⟩,
  ⟨(some (true, 63)), .len (.g 62), none⟩,
  ⟨(some (true, 64)), .mv (.c (.lit (.int .i64 0))), none⟩])
(.block 2
(.loop
(.seq
(.reg [
  ⟨(some (true, 65)), .bin .lss (.g 64) (.g 63), none⟩])
(.seq
(.cond (.g 65)
.skip
(.exit 2))
(.seq
(.block 3
(.seq
(.reg [
  ⟨(some (false, 66)), .ia 5 (.g 62) (.g 64), none⟩,
  ⟨(some (false, 67)), .ld (some 5) (.l 66), none⟩,
  ⟨(some (true, 18)), .new [.int .i64 0, .int .i64 0, .int .i64 0, .int .i64 0, .int .i64 0], none⟩,
  ⟨none, .st 5 (.g 18) (.l 67), none⟩])
(.seq
(.reg [
  ⟨(some (false, 68)), .fa (.g 18) 3, none⟩,
  ⟨(some (false, 69)), .ld none (.l 68), none⟩,
  ⟨(some (false, 70)), .mv (.g 4), none⟩,
  ⟨(some (true, 71)), .bin .leq (.l 69) (.l 70), none⟩])
(.cond (.g 71)
(.reg [
  ⟨(some (false, 72)), .mv (.g 12), none⟩,
  ⟨(some (false, 73)), .ld (some 5) (.g 18), none⟩,
  ⟨(some (false, 74)), .mks false 5 [.l 73], none⟩,
  ⟨(some (false, 75)), .app 5 40 (.l 72) (.l 74), none⟩,
  ⟨(some (true, 12)), .mv (.l 75), none⟩])
.skip))))
(.reg [
  ⟨(some (false, 76)), .bin .add (.g 64) (.c (.lit (.int .i64 1))), none⟩,
  ⟨(some (true, 64)), .mv (.l 76), none⟩])))))))
(.seq
(.reg [
  ⟨(some (false, 77)), .ld (some 6) (.g 10), none⟩,
  ⟨(some (false, 78)), .mv (.g 11), none⟩,
  ⟨(some (false, 79)), .mv (.g 12), none⟩,
  ⟨none, .st 6 (.g 10) (.l 77), none⟩,
  ⟨(some (true, 11)), .mv (.l 78), none⟩,
  ⟨(some (true, 12)), .mv (.l 79), none⟩,
  ⟨(some (true, 13)), .mv (.c (.lit (.int .i64 0))), none⟩])
.ret))))))))
def K35 : List Nat := [0, 1, 2, 3, 4, 26, 35, 45, 50, 56, 65, 71, 10, 11, 12, 13, 5, 14, 47, 48, 49, 16, 62, 63, 64, 18]
noncomputable def b35 : Code := match Try.f35.body with | some c => c | none => .skip
theorem t35 : trCode ⟨Try.prog, K35, [], 80, none⟩ b35 = some c35 := by kernel_rfl
theorem go35 {args : List AV} {H : AHeap} {Kk : AV → AHeap → Prop} (hn : args.length = 5) (h : AGo ⟨Try.prog, K35, [], 80, none⟩ H.length [.code c35] (RetP [.cell (.g 10) (some 6), .t (.g 11), .t (.g 12), .t (.g 13)] H.length Kk) ⟨[], argsG 0 args⟩ H) : ACalls Try.prog 35 args H Kk :=
  ACalls_of Try.func35 (c := b35) rfl (by kernel_rfl) t35 (rs := [.cell (.g 10) (some 6), .t (.g 11), .t (.g 12), .t (.g 13)]) (by kernel_rfl) (by rw [hn]; exact Nat.le_of_ble_eq_true rfl) (by rw [hn]; rfl) (h.weaken (fun _ _ => RetP.hands) (by simp))

/-- sastrugi/probe.joined[int] -/
def c36 : ACode :=
  (.seq
(.reg [
  ⟨(some (true, 4)), .mv (.c (.lit (.int .i64 0))), none⟩])
(.block 0
(.loop
(.seq
(.seq
(.reg [
  ⟨(some (false, 6)), .mv (.g 4), none⟩,
  ⟨(some (false, 7)), .mv (.g 0), none⟩,
  ⟨(some (false, 8)), .len (.l 7), none⟩,
  ⟨(some (true, 9)), .bin .lss (.l 6) (.l 8), none⟩])
(.cond (.g 9)
.skip
(.exit 0)))
(.block 1
(.seq
(.reg [
  ⟨(some (false, 10)), .mv (.g 4), none⟩,
  ⟨(some (true, 5)), .mv (.l 10), none⟩])
(.seq
(.block 2
(.loop
(.seq
(.seq
(.draw [
  ⟨⟨(some (false, 11)), .mv (.g 5), none⟩, 0, true, []⟩,
  ⟨⟨(some (false, 12)), .bin .add (.l 11) (.c (.lit (.int .i64 1))), none⟩, 1, true, []⟩,
  ⟨⟨(some (false, 13)), .mv (.g 0), none⟩, 2, true, []⟩,
  ⟨⟨(some (false, 14)), .len (.l 13), none⟩, 3, true, []⟩,
  ⟨⟨(some (false, 15)), .bin .lss (.l 12) (.l 14), none⟩, 4, true, []⟩,
  ⟨⟨(some (false, 16)), .mv (.l 15), none⟩, 5, true, []⟩,
  ⟨⟨(some (false, 17)), .mv (.g 0), (some (.l 16, true))⟩, 6, true, []⟩,
  ⟨⟨(some (false, 18)), .mv (.g 5), (some (.l 16, true))⟩, 7, true, []⟩,
  ⟨⟨(some (false, 19)), .bin .add (.l 18) (.c (.lit (.int .i64 1))), (some (.l 16, true))⟩, 8, true, []⟩,
  ⟨⟨(some (false, 20)), .ia 1 (.l 17) (.l 19), (some (.l 16, true))⟩, 9, true, []⟩,
  ⟨⟨(some (false, 21)), .ld none (.l 20), (some (.l 16, true))⟩, 10, true, []⟩,
  ⟨⟨(some (false, 22)), .mv (.g 0), (some (.l 16, true))⟩, 11, true, []⟩,
  ⟨⟨(some (false, 23)), .mv (.g 4), (some (.l 16, true))⟩, 12, true, []⟩,
  ⟨⟨(some (false, 24)), .ia 1 (.l 22) (.l 23), (some (.l 16, true))⟩, 13, true, []⟩,
  ⟨⟨(some (false, 25)), .ld none (.l 24), (some (.l 16, true))⟩, 14, true, []⟩,
  ⟨⟨(some (false, 26)), .bin .eql (.l 21) (.l 25), (some (.l 16, true))⟩, 15, true, []⟩,
  ⟨⟨(some (true, 27)), .pick (.l 16) (.l 26) (.c (.lit (.bool false))), none⟩, 16, true, []⟩])
(.cond (.g 27)
.skip
(.exit 2)))
(.block 3
(.reg [
  ⟨(some (false, 28)), .mv (.g 5), none⟩,
  ⟨(some (false, 29)), .bin .add (.l 28) (.c (.lit (.int .i64 1))), none⟩,
  ⟨(some (true, 5)), .mv (.l 29), none⟩])))))
(.seq
(.reg [
  ⟨(some (false, 30)), .mv (.g 1), none⟩,
  ⟨(some (false, 31)), .mv (.g 4), none⟩,
  ⟨(some (false, 32)), .mv (.g 5), none⟩,
  ⟨(some (false, 33)), .mv (.g 0), none⟩,
  ⟨(some (false, 34)), .mv (.g 4), none⟩,
  ⟨(some (false, 35)), .ia 1 (.l 33) (.l 34), none⟩,
  ⟨(some (false, 36)), .ld none (.l 35), none⟩,
  ⟨(some (false, 37)), .call (.l 30) [.l 31, .l 32, .l 36], none⟩])
(.reg [
  ⟨(some (false, 38)), .mv (.g 5), none⟩,
  ⟨(some (false, 39)), .bin .add (.l 38) (.c (.lit (.int .i64 1))), none⟩,
  ⟨(some (true, 4)), .mv (.l 39), none⟩])))))))))
def K36 : List Nat := [0, 1, 9, 27, 4, 5]
noncomputable def b36 : Code := match Try.f36.body with | some c => c | none => .skip
theorem t36 : trCode ⟨Try.prog, K36, [], 40, none⟩ b36 = some c36 := by kernel_rfl
theorem go36 {args : List AV} {H : AHeap} {Kk : AV → AHeap → Prop} (hn : args.length = 2) (h : AGo ⟨Try.prog, K36, [], 40, none⟩ H.length [.code c36] (RetP [] H.length Kk) ⟨[], argsG 0 args⟩ H) : ACalls Try.prog 36 args H Kk :=
  ACalls_of Try.func36 (c := b36) rfl (by kernel_rfl) t36 (rs := []) (by kernel_rfl) (by rw [hn]; exact Nat.le_of_ble_eq_true rfl) (by rw [hn]; rfl) (h.weaken (fun _ _ => RetP.hands) (by simp))

/-- sastrugi/probe.Close$1 -/
def c38 : ACode :=
  (.seq
(.reg [
  ⟨(some (false, 7)), .mv (.g 2), none⟩,
  ⟨(some (true, 8)), .bin .neq (.l 7) (.c (.lit (.int .i64 0))), none⟩])
(.cond (.g 8)
(.reg [
  ⟨(some (false, 9)), .ld none (.g 3), none⟩,
  ⟨(some (false, 10)), .mv (.g 0), none⟩,
  ⟨(some (false, 11)), .mv (.g 1), none⟩,
  ⟨(some (false, 12)), .mv (.g 2), none⟩,
  ⟨(some (false, 13)), .mk [.int .i64 0, .int .i64 0, .int .i64 0] [(0, 1, .l 10), (1, 1, .l 11), (2, 1, .l 12)], none⟩,
  ⟨(some (false, 14)), .mks false 3 [.l 13], none⟩,
  ⟨(some (false, 15)), .app 3 24 (.l 9) (.l 14), none⟩,
  ⟨none, .st 1 (.g 3) (.l 15), none⟩])
.skip))
def K38 : List Nat := [0, 1, 2, 3, 8]
noncomputable def b38 : Code := match Try.f38.body with | some c => c | none => .skip
theorem t38 : trCode ⟨Try.prog, K38, [], 16, none⟩ b38 = some c38 := by kernel_rfl
theorem go38 {args : List AV} {H : AHeap} {Kk : AV → AHeap → Prop} (hn : args.length = 4) (h : AGo ⟨Try.prog, K38, [], 16, none⟩ H.length [.code c38] (RetP [] H.length Kk) ⟨[], argsG 0 args⟩ H) : ACalls Try.prog 38 args H Kk :=
  ACalls_of Try.func38 (c := b38) rfl (by kernel_rfl) t38 (rs := []) (by kernel_rfl) (by rw [hn]; exact Nat.le_of_ble_eq_true rfl) (by rw [hn]; rfl) (h.weaken (fun _ _ => RetP.hands) (by simp))

/-- sastrugi/probe.reasons -/
def c37 : ACode :=
  (.seq
(.reg [
  ⟨(some (true, 5)), .box (.g 0), none⟩,
  ⟨(some (true, 10)), .mv (.c (.lit (.slice none 0 0))), none⟩])
(.seq
(.reg [
  ⟨(some (false, 15)), .fa (.g 5) 5, none⟩,
  ⟨(some (false, 16)), .ld none (.l 15), none⟩,
  ⟨(some (false, 17)), .len (.l 16), none⟩,
  ⟨(some (false, 18)), .mksl 1 8 [.int .i64 0] (.l 17) (.l 17), none⟩,
  ⟨(some (true, 11)), .mv (.l 18), none⟩])
(.seq
(.reg [
  ⟨(some (false, 19)), .ld (some 6) (.g 5), none⟩,
  ⟨(some (false, 20)), .mv (.g 1), none⟩,
  ⟨(some (false, 21)), .mv (.g 4), none⟩,
  ⟨(some (false, 22)), .call (.c (.fn 54 [])) [.l 19, .l 20, .l 21], none⟩,
  ⟨(some (true, 12)), .mv (.l 22), none⟩])
(.seq
(.reg [
  ⟨(some (false, 23)), .mv (.g 2), none⟩,
  ⟨(some (false, 24)), .mv (.g 4), none⟩,
  ⟨(some (false, 25)), .mv (.g 11), none⟩,
  ⟨(some (false, 26)), .len (.l 25), none⟩,
  ⟨(some (false, 27)), .call (.c (.fn 55 [])) [.l 23, .l 24, .l 26], none⟩,
  ⟨(some (true, 13)), .mv (.l 27), none⟩])
(.seq
(.seq
(.reg [
  ⟨(some (false, 28)), .mv (.g 11), none⟩,
  ⟨(some (true, 29)), .len (.l 28), none⟩,
  ⟨(some (true, 30)), .mv (.c (.lit (.int .i64 0))), none⟩])
(.block 0
(.loop
(.seq
(.reg [
  ⟨(some (true, 31)), .bin .lss (.g 30) (.g 29), none⟩])
(.seq
(.cond (.g 31)
.skip
(.exit 0))
(.seq
(.block 1
(.seq
(.reg [
  ⟨(some (false, 32)), .mv (.g 30), none⟩,
  ⟨(some (true, 14)), .mv (.l 32), none⟩])
(.block 2
(.seq
(.reg [
  ⟨(some (false, 34)), .ld (some 6) (.g 5), none⟩,
  ⟨(some (false, 35)), .mv (.g 1), none⟩,
  ⟨(some (false, 36)), .mv (.g 14), none⟩,
  ⟨(some (false, 37)), .mv (.g 4), none⟩,
  ⟨(some (false, 38)), .call (.c (.fn 47 [])) [.l 34, .l 35, .l 36, .l 37], none⟩,
  ⟨(some (false, 39)), .fd none (.l 38) 0, none⟩,
  ⟨(some (false, 40)), .mv (.g 3), none⟩,
  ⟨(some (false, 41)), .bin .lss (.l 39) (.l 40), none⟩,
  ⟨(some (true, 33)), .mv (.l 41), none⟩])
(.cond (.g 33)
(.reg [
  ⟨(some (false, 42)), .mv (.g 11), none⟩,
  ⟨(some (false, 43)), .mv (.g 14), none⟩,
  ⟨(some (false, 44)), .ia 1 (.l 42) (.l 43), none⟩,
  ⟨none, .st 1 (.l 44) (.c (.lit (.int .i64 1))), none⟩])
(.seq
(.reg [
  ⟨(some (false, 46)), .mv (.g 13), none⟩,
  ⟨(some (false, 47)), .mv (.g 14), none⟩,
  ⟨(some (false, 48)), .ia 1 (.l 46) (.l 47), none⟩,
  ⟨(some (false, 49)), .ld none (.l 48), none⟩,
  ⟨(some (false, 50)), .bin .neq (.l 49) (.c (.lit (.int .i64 2))), none⟩,
  ⟨(some (true, 45)), .mv (.l 50), none⟩])
(.cond (.g 45)
(.reg [
  ⟨(some (false, 51)), .mv (.g 11), none⟩,
  ⟨(some (false, 52)), .mv (.g 14), none⟩,
  ⟨(some (false, 53)), .ia 1 (.l 51) (.l 52), none⟩,
  ⟨none, .st 1 (.l 53) (.c (.lit (.int .i64 2))), none⟩])
(.seq
(.reg [
  ⟨(some (false, 55)), .mv (.g 12), none⟩,
  ⟨(some (false, 56)), .mv (.g 14), none⟩,
  ⟨(some (false, 57)), .ia 1 (.l 55) (.l 56), none⟩,
  ⟨(some (false, 58)), .ld none (.l 57), none⟩,
  ⟨(some (true, 54)), .mv (.l 58), none⟩])
(.cond (.g 54)
(.reg [
  ⟨(some (false, 59)), .mv (.g 11), none⟩,
  ⟨(some (false, 60)), .mv (.g 14), none⟩,
  ⟨(some (false, 61)), .ia 1 (.l 59) (.l 60), none⟩,
  ⟨none, .st 1 (.l 61) (.c (.lit (.int .i64 3))), none⟩])
.skip)))))))))
(.reg [
  ⟨(some (false, 62)), .bin .add (.g 30) (.c (.lit (.int .i64 1))), none⟩,
  ⟨(some (true, 30)), .mv (.l 62), none⟩])))))))
(.seq
(.reg [
  ⟨(some (false, 63)), .mv (.g 11), none⟩,
  ⟨(some (true, 10)), .mv (.l 63), none⟩])
.ret))))))
def K37 : List Nat := [0, 1, 2, 3, 4, 31, 33, 45, 54, 10, 5, 11, 12, 13, 29, 30, 14]
noncomputable def b37 : Code := match Try.f37.body with | some c => c | none => .skip
theorem t37 : trCode ⟨Try.prog, K37, [], 64, none⟩ b37 = some c37 := by kernel_rfl
theorem go37 {args : List AV} {H : AHeap} {Kk : AV → AHeap → Prop} (hn : args.length = 5) (h : AGo ⟨Try.prog, K37, [], 64, none⟩ H.length [.code c37] (RetP [.t (.g 10)] H.length Kk) ⟨[], argsG 0 args⟩ H) : ACalls Try.prog 37 args H Kk :=
  ACalls_of Try.func37 (c := b37) rfl (by kernel_rfl) t37 (rs := [.t (.g 10)]) (by kernel_rfl) (by rw [hn]; exact Nat.le_of_ble_eq_true rfl) (by rw [hn]; rfl) (h.weaken (fun _ _ => RetP.hands) (by simp))

/-- sastrugi/probe.Close -/
def c24 : ACode :=
  (.seq
(.reg [
  ⟨(some (true, 5)), .box (.g 0), none⟩,
  ⟨(some (true, 10)), .mv (.c (.lit (.slice none 0 0))), none⟩,
  ⟨(some (true, 11)), .mv (.c (.lit (.int .i64 0))), none⟩])
(.seq
(.reg [
  ⟨(some (false, 18)), .ld (some 4) (.g 5), none⟩,
  ⟨(some (false, 19)), .mv (.g 1), none⟩,
  ⟨(some (false, 20)), .mv (.g 2), none⟩,
  ⟨(some (false, 21)), .mv (.g 3), none⟩,
  ⟨(some (false, 22)), .mv (.g 4), none⟩,
  ⟨(some (false, 23)), .call (.c (.fn 35 [])) [.l 18, .l 19, .l 20, .l 21, .l 22], none⟩,
  ⟨(some (false, 17)), .mv (.l 23), none⟩,
  ⟨(some (false, 24)), .ex (.l 17) 0, none⟩,
  ⟨(some (false, 25)), .ex (.l 17) 1, none⟩,
  ⟨(some (false, 26)), .ex (.l 17) 2, none⟩,
  ⟨(some (false, 27)), .ex (.l 17) 3, none⟩,
  ⟨(some (true, 12)), .new [.slice none 0 0, .int .i64 0, .int .i64 0, .int .i64 0, .slice none 0 0, .slice none 0 0], none⟩,
  ⟨none, .st 6 (.g 12) (.l 24), none⟩,
  ⟨(some (true, 13)), .mv (.l 25), none⟩,
  ⟨(some (true, 14)), .mv (.l 26), none⟩,
  ⟨(some (true, 15)), .mv (.l 27), none⟩])
(.seq
(.seq
(.reg [
  ⟨(some (false, 28)), .mv (.g 15), none⟩,
  ⟨(some (true, 29)), .bin .neq (.l 28) (.c (.lit (.int .i64 0))), none⟩])
(.cond (.g 29)
(.seq
(.reg [
  ⟨(some (false, 30)), .mv (.g 15), none⟩,
  ⟨(some (true, 10)), .mv (.c (.lit (.slice none 0 0))), none⟩,
  ⟨(some (true, 11)), .mv (.l 30), none⟩])
.ret)
.skip))
(.seq
(.reg [
  ⟨(some (true, 16)), .new [.slice none 0 0], none⟩])
(.seq
(.reg [
  ⟨(some (false, 31)), .ld (some 6) (.g 12), none⟩,
  ⟨(some (false, 32)), .mv (.g 13), none⟩,
  ⟨(some (false, 33)), .mv (.g 14), none⟩,
  ⟨(some (false, 34)), .mv (.g 3), none⟩,
  ⟨(some (false, 35)), .mv (.g 4), none⟩,
  ⟨(some (false, 36)), .call (.c (.fn 37 [])) [.l 31, .l 32, .l 33, .l 34, .l 35], none⟩,
  ⟨(some (false, 37)), .mkf 38 [.g 16], none⟩,
  ⟨(some (false, 38)), .call (.c (.fn 36 [])) [.l 36, .l 37], none⟩])
(.seq
(.reg [
  ⟨(some (false, 39)), .ld none (.g 16), none⟩,
  ⟨(some (true, 10)), .mv (.l 39), none⟩,
  ⟨(some (true, 11)), .mv (.c (.lit (.int .i64 0))), none⟩])
.ret))))))
def K24 : List Nat := [0, 1, 2, 3, 4, 29, 10, 11, 5, 12, 13, 14, 15, 16]
noncomputable def b24 : Code := match Try.f24.body with | some c => c | none => .skip
theorem t24 : trCode ⟨Try.prog, K24, [], 40, none⟩ b24 = some c24 := by kernel_rfl
theorem go24 {args : List AV} {H : AHeap} {Kk : AV → AHeap → Prop} (hn : args.length = 5) (h : AGo ⟨Try.prog, K24, [], 40, none⟩ H.length [.code c24] (RetP [.t (.g 10), .t (.g 11)] H.length Kk) ⟨[], argsG 0 args⟩ H) : ACalls Try.prog 24 args H Kk :=
  ACalls_of Try.func24 (c := b24) rfl (by kernel_rfl) t24 (rs := [.t (.g 10), .t (.g 11)]) (by kernel_rfl) (by rw [hn]; exact Nat.le_of_ble_eq_true rfl) (by rw [hn]; rfl) (h.weaken (fun _ _ => RetP.hands) (by simp))

/-- sastrugi/probe.verdicts -/
def c55 : ACode :=
  (.seq
(.reg [
  ⟨(some (true, 6)), .mv (.c (.lit (.slice none 0 0))), none⟩])
(.seq
(.reg [
  ⟨(some (false, 12)), .mks false 1 [.c (.lit (.int .i64 2))], none⟩,
  ⟨(some (false, 13)), .mv (.g 2), none⟩,
  ⟨(some (false, 14)), .call (.c (.fn 64 [])) [.l 12, .l 13], none⟩,
  ⟨(some (true, 7)), .new [.slice none 0 0], none⟩,
  ⟨none, .st 1 (.g 7) (.l 14), none⟩])
(.seq
(.reg [
  ⟨(some (false, 15)), .mkf 69 [.g 7], none⟩,
  ⟨(some (true, 8)), .mv (.l 15), none⟩])
(.seq
(.seq
(.reg [
  ⟨(some (false, 16)), .mv (.g 0), none⟩,
  ⟨(some (true, 17)), .len (.l 16), none⟩,
  ⟨(some (true, 18)), .mv (.c (.lit (.int .i64 0))), none⟩])
(.block 0
(.loop
(.seq
(.reg [
  ⟨(some (true, 19)), .bin .lss (.g 18) (.g 17), none⟩])
(.seq
(.cond (.g 19)
.skip
(.exit 0))
(.seq
(.block 1
(.seq
(.reg [
  ⟨(some (false, 20)), .mv (.g 18), none⟩,
  ⟨(some (true, 9)), .mv (.l 20), none⟩])
(.seq
(.reg [
  ⟨(some (false, 22)), .mv (.g 0), none⟩,
  ⟨(some (false, 23)), .mv (.g 9), none⟩,
  ⟨(some (false, 24)), .mv (.g 1), none⟩,
  ⟨(some (false, 25)), .mv (.g 2), none⟩,
  ⟨(some (false, 26)), .call (.c (.fn 70 [])) [.l 22, .l 23, .l 24, .l 25], none⟩,
  ⟨(some (false, 21)), .mv (.l 26), none⟩,
  ⟨(some (false, 27)), .ex (.l 21) 0, none⟩,
  ⟨(some (false, 28)), .ex (.l 21) 1, none⟩,
  ⟨(some (true, 10)), .mv (.l 27), none⟩,
  ⟨(some (true, 11)), .mv (.l 28), none⟩])
(.seq
(.reg [
  ⟨(some (false, 29)), .mv (.g 8), none⟩,
  ⟨(some (false, 30)), .mv (.g 10), none⟩,
  ⟨(some (false, 31)), .call (.l 29) [.l 30, .c (.lit (.int .i64 3))], none⟩])
(.reg [
  ⟨(some (false, 32)), .mv (.g 8), none⟩,
  ⟨(some (false, 33)), .mv (.g 11), none⟩,
  ⟨(some (false, 34)), .call (.l 32) [.l 33, .c (.lit (.int .i64 1))], none⟩])))))
(.reg [
  ⟨(some (false, 35)), .bin .add (.g 18) (.c (.lit (.int .i64 1))), none⟩,
  ⟨(some (true, 18)), .mv (.l 35), none⟩])))))))
(.seq
(.reg [
  ⟨(some (false, 36)), .ld none (.g 7), none⟩,
  ⟨(some (true, 6)), .mv (.l 36), none⟩])
.ret)))))
def K55 : List Nat := [0, 1, 2, 19, 6, 7, 8, 17, 18, 9, 10, 11]
noncomputable def b55 : Code := match Try.f55.body with | some c => c | none => .skip
theorem t55 : trCode ⟨Try.prog, K55, [], 37, none⟩ b55 = some c55 := by kernel_rfl
theorem go55 {args : List AV} {H : AHeap} {Kk : AV → AHeap → Prop} (hn : args.length = 3) (h : AGo ⟨Try.prog, K55, [], 37, none⟩ H.length [.code c55] (RetP [.t (.g 6)] H.length Kk) ⟨[], argsG 0 args⟩ H) : ACalls Try.prog 55 args H Kk :=
  ACalls_of Try.func55 (c := b55) rfl (by kernel_rfl) t55 (rs := [.t (.g 6)]) (by kernel_rfl) (by rw [hn]; exact Nat.le_of_ble_eq_true rfl) (by rw [hn]; rfl) (h.weaken (fun _ _ => RetP.hands) (by simp))

/-- slices.Repeat[[]int,int] -/
def c64 : ACode :=
  (.seq
(.reg [
  ⟨(some (true, 4)), .mv (.c (.lit (.slice none 0 0))), none⟩])
(.seq
(.seq
(.reg [
  ⟨(some (false, 9)), .mv (.g 1), none⟩,
  ⟨(some (true, 10)), .bin .lss (.l 9) (.c (.lit (.int .i64 0))), none⟩])
(.cond (.g 10)
(.other .skip)
.skip))
(.seq
(.reg [
  ⟨(some (false, 13)), .mv (.g 0), none⟩,
  ⟨(some (false, 14)), .len (.l 13), none⟩,
  ⟨(some (false, 15)), .cv .u64 (.l 14), none⟩,
  ⟨(some (false, 16)), .mv (.g 1), none⟩,
  ⟨(some (false, 17)), .cv .u64 (.l 16), none⟩,
  ⟨(some (false, 18)), .call (.c (.fn 75 [])) [.l 15, .l 17], none⟩,
  ⟨(some (false, 12)), .mv (.l 18), none⟩,
  ⟨(some (false, 19)), .ex (.l 12) 0, none⟩,
  ⟨(some (false, 20)), .ex (.l 12) 1, none⟩,
  ⟨(some (true, 5)), .mv (.l 19), none⟩,
  ⟨(some (true, 6)), .mv (.l 20), none⟩])
(.seq
(.seq
(.reg [
  ⟨(some (false, 21)), .mv (.g 5), none⟩,
  ⟨(some (false, 22)), .bin .gtr (.l 21) (.c (.lit (.int .u64 0))), none⟩,
  ⟨(some (false, 23)), .mv (.l 22), none⟩,
  ⟨(some (false, 24)), .mv (.g 6), (some (.l 23, false))⟩,
  ⟨(some (false, 25)), .bin .gtr (.l 24) (.c (.lit (.int .u64 9223372036854775807))), (some (.l 23, false))⟩,
  ⟨(some (true, 26)), .pick (.l 23) (.c (.lit (.bool true))) (.l 25), none⟩])
(.cond (.g 26)
(.other .skip)
.skip))
(.seq
(.reg [
  ⟨(some (false, 28)), .mv (.g 6), none⟩,
  ⟨(some (false, 29)), .cv .i64 (.l 28), none⟩,
  ⟨(some (false, 30)), .mksl 1 8 [.int .i64 0] (.l 29) (.l 29), none⟩,
  ⟨(some (true, 7)), .mv (.l 30), none⟩])
(.seq
(.reg [
  ⟨(some (false, 31)), .mv (.g 7), none⟩,
  ⟨(some (false, 32)), .mv (.g 0), none⟩,
  ⟨(some (false, 33)), .cpy 1 (.l 31) (.l 32), none⟩,
  ⟨(some (true, 8)), .mv (.l 33), none⟩])
(.seq
(.block 0
(.loop
(.seq
(.seq
(.reg [
  ⟨(some (false, 34)), .mv (.g 8), none⟩,
  ⟨(some (false, 35)), .mv (.g 7), none⟩,
  ⟨(some (false, 36)), .len (.l 35), none⟩,
  ⟨(some (true, 37)), .bin .lss (.l 34) (.l 36), none⟩])
(.cond (.g 37)
.skip
(.exit 0)))
(.block 1
(.draw [
  ⟨⟨(some (false, 38)), .mv (.g 8), none⟩, 0, true, []⟩,
  ⟨⟨(some (false, 39)), .mv (.g 7), none⟩, 1, true, []⟩,
  ⟨⟨(some (false, 40)), .mv (.g 8), none⟩, 2, true, []⟩,
  ⟨⟨(some (false, 41)), .sl 1 (.l 39) (some (.l 40)) none none, none⟩, 3, true, []⟩,
  ⟨⟨(some (false, 42)), .mv (.g 7), none⟩, 4, true, []⟩,
  ⟨⟨(some (false, 43)), .mv (.g 8), none⟩, 5, true, []⟩,
  ⟨⟨(some (false, 44)), .sl 1 (.l 42) none (some (.l 43)) none, none⟩, 6, true, []⟩,
  ⟨⟨(some (false, 45)), .cpy 1 (.l 41) (.l 44), none⟩, 7, false, []⟩,
  ⟨⟨(some (false, 46)), .bin .add (.l 38) (.l 45), none⟩, 8, true, []⟩,
  ⟨⟨(some (true, 8)), .mv (.l 46), none⟩, 9, true, []⟩])))))
(.seq
(.reg [
  ⟨(some (false, 47)), .mv (.g 7), none⟩,
  ⟨(some (true, 4)), .mv (.l 47), none⟩])
.ret))))))))
def K64 : List Nat := [0, 1, 10, 26, 37, 4, 5, 6, 7, 8]
noncomputable def b64 : Code := match Try.f64.body with | some c => c | none => .skip
theorem t64 : trCode ⟨Try.prog, K64, [], 48, none⟩ b64 = some c64 := by kernel_rfl
theorem go64 {args : List AV} {H : AHeap} {Kk : AV → AHeap → Prop} (hn : args.length = 2) (h : AGo ⟨Try.prog, K64, [], 48, none⟩ H.length [.code c64] (RetP [.t (.g 4)] H.length Kk) ⟨[], argsG 0 args⟩ H) : ACalls Try.prog 64 args H Kk :=
  ACalls_of Try.func64 (c := b64) rfl (by kernel_rfl) t64 (rs := [.t (.g 4)]) (by kernel_rfl) (by rw [hn]; exact Nat.le_of_ble_eq_true rfl) (by rw [hn]; rfl) (h.weaken (fun _ _ => RetP.hands) (by simp))

/-- sastrugi/probe.verdicts$1 -/
def c69 : ACode :=
  (.seq
(.reg [
  ⟨(some (true, 8)), .mv (.g 0), none⟩,
  ⟨(some (true, 9)), .len (.g 8), none⟩,
  ⟨(some (true, 10)), .mv (.c (.lit (.int .i64 0))), none⟩])
(.block 0
(.loop
(.seq
(.reg [
  ⟨(some (true, 11)), .bin .lss (.g 10) (.g 9), none⟩])
(.seq
(.cond (.g 11)
.skip
(.exit 0))
(.seq
(.block 1
(.seq
(.reg [
  ⟨(some (false, 12)), .ia 2 (.g 8) (.g 10), none⟩,
  ⟨(some (false, 13)), .ld (some 2) (.l 12), none⟩,
  ⟨(some (true, 6)), .new [.int .i64 0, .int .i64 0], none⟩,
  ⟨none, .st 2 (.g 6) (.l 13), none⟩])
(.seq
(.reg [
  ⟨(some (false, 14)), .fa (.g 6) 0, none⟩,
  ⟨(some (false, 15)), .ld none (.l 14), none⟩,
  ⟨(some (true, 7)), .mv (.l 15), none⟩])
(.block 2
(.loop
(.seq
(.seq
(.reg [
  ⟨(some (false, 16)), .mv (.g 7), none⟩,
  ⟨(some (false, 17)), .fa (.g 6) 1, none⟩,
  ⟨(some (false, 18)), .ld none (.l 17), none⟩,
  ⟨(some (true, 19)), .bin .leq (.l 16) (.l 18), none⟩])
(.cond (.g 19)
.skip
(.exit 2)))
(.seq
(.block 3
(.seq
(.reg [
  ⟨(some (false, 22)), .ld none (.g 2), none⟩,
  ⟨(some (false, 23)), .mv (.g 7), none⟩,
  ⟨(some (false, 24)), .ia 1 (.l 22) (.l 23), none⟩,
  ⟨(some (false, 25)), .ld none (.l 24), none⟩,
  ⟨(some (true, 26)), .bin .neq (.l 25) (.c (.lit (.int .i64 1))), none⟩])
(.cond (.g 26)
(.reg [
  ⟨(some (false, 27)), .ld none (.g 2), none⟩,
  ⟨(some (false, 28)), .mv (.g 7), none⟩,
  ⟨(some (false, 29)), .mv (.g 1), none⟩,
  ⟨(some (false, 30)), .ia 1 (.l 27) (.l 28), none⟩,
  ⟨none, .st 1 (.l 30) (.l 29), none⟩])
.skip)))
(.reg [
  ⟨(some (false, 20)), .mv (.g 7), none⟩,
  ⟨(some (false, 21)), .bin .add (.l 20) (.c (.lit (.int .i64 1))), none⟩,
  ⟨(some (true, 7)), .mv (.l 21), none⟩]))))))))
(.reg [
  ⟨(some (false, 31)), .bin .add (.g 10) (.c (.lit (.int .i64 1))), none⟩,
  ⟨(some (true, 10)), .mv (.l 31), none⟩])))))))
def K69 : List Nat := [0, 1, 2, 11, 19, 26, 8, 9, 10, 6, 7]
noncomputable def b69 : Code := match Try.f69.body with | some c => c | none => .skip
theorem t69 : trCode ⟨Try.prog, K69, [], 32, none⟩ b69 = some c69 := by kernel_rfl
theorem go69 {args : List AV} {H : AHeap} {Kk : AV → AHeap → Prop} (hn : args.length = 3) (h : AGo ⟨Try.prog, K69, [], 32, none⟩ H.length [.code c69] (RetP [] H.length Kk) ⟨[], argsG 0 args⟩ H) : ACalls Try.prog 69 args H Kk :=
  ACalls_of Try.func69 (c := b69) rfl (by kernel_rfl) t69 (rs := []) (by kernel_rfl) (by rw [hn]; exact Nat.le_of_ble_eq_true rfl) (by rw [hn]; rfl) (h.weaken (fun _ _ => RetP.hands) (by simp))

/-- math/bits.Mul -/
def c75 : ACode :=
  (.seq
(.reg [
  ⟨(some (true, 4)), .mv (.c (.lit (.int .u64 0))), none⟩,
  ⟨(some (true, 5)), .mv (.c (.lit (.int .u64 0))), none⟩])
(.seq
(.cond (.c (.lit (.bool false)))
(.seq
(.reg [
  ⟨(some (false, 11)), .mv (.g 0), none⟩,
  ⟨(some (false, 12)), .cv .u32 (.l 11), none⟩,
  ⟨(some (false, 13)), .mv (.g 1), none⟩,
  ⟨(some (false, 14)), .cv .u32 (.l 13), none⟩,
  ⟨(some (false, 15)), .call (.c (.fn 84 [])) [.l 12, .l 14], none⟩,
  ⟨(some (false, 10)), .mv (.l 15), none⟩,
  ⟨(some (false, 16)), .ex (.l 10) 0, none⟩,
  ⟨(some (false, 17)), .ex (.l 10) 1, none⟩,
  ⟨(some (true, 6)), .mv (.l 16), none⟩,
  ⟨(some (true, 7)), .mv (.l 17), none⟩])
(.seq
(.reg [
  ⟨(some (false, 18)), .mv (.g 6), none⟩,
  ⟨(some (false, 19)), .cv .u64 (.l 18), none⟩,
  ⟨(some (false, 20)), .mv (.g 7), none⟩,
  ⟨(some (false, 21)), .cv .u64 (.l 20), none⟩,
  ⟨(some (true, 4)), .mv (.l 19), none⟩,
  ⟨(some (true, 5)), .mv (.l 21), none⟩])
.ret))
.skip)
(.seq
(.reg [
  ⟨(some (false, 23)), .mv (.g 0), none⟩,
  ⟨(some (false, 24)), .mv (.g 1), none⟩,
  ⟨(some (false, 25)), .call (.c (.fn 85 [])) [.l 23, .l 24], none⟩,
  ⟨(some (false, 22)), .mv (.l 25), none⟩,
  ⟨(some (false, 26)), .ex (.l 22) 0, none⟩,
  ⟨(some (false, 27)), .ex (.l 22) 1, none⟩,
  ⟨(some (true, 8)), .mv (.l 26), none⟩,
  ⟨(some (true, 9)), .mv (.l 27), none⟩])
(.seq
(.reg [
  ⟨(some (false, 28)), .mv (.g 8), none⟩,
  ⟨(some (false, 29)), .mv (.g 9), none⟩,
  ⟨(some (true, 4)), .mv (.l 28), none⟩,
  ⟨(some (true, 5)), .mv (.l 29), none⟩])
.ret))))
def K75 : List Nat := [0, 1, 4, 5, 6, 7, 8, 9]
noncomputable def b75 : Code := match Try.f75.body with | some c => c | none => .skip
theorem t75 : trCode ⟨Try.prog, K75, [], 30, none⟩ b75 = some c75 := by kernel_rfl
theorem go75 {args : List AV} {H : AHeap} {Kk : AV → AHeap → Prop} (hn : args.length = 2) (h : AGo ⟨Try.prog, K75, [], 30, none⟩ H.length [.code c75] (RetP [.t (.g 4), .t (.g 5)] H.length Kk) ⟨[], argsG 0 args⟩ H) : ACalls Try.prog 75 args H Kk :=
  ACalls_of Try.func75 (c := b75) rfl (by kernel_rfl) t75 (rs := [.t (.g 4), .t (.g 5)]) (by kernel_rfl) (by rw [hn]; exact Nat.le_of_ble_eq_true rfl) (by rw [hn]; rfl) (h.weaken (fun _ _ => RetP.hands) (by simp))

/-- math/bits.Mul64 -/
def c85 : ACode :=
  (.seq
(.reg [
  ⟨(some (true, 4)), .mv (.c (.lit (.int .u64 0))), none⟩,
  ⟨(some (true, 5)), .mv (.c (.lit (.int .u64 0))), none⟩])
(.seq
(.reg [
  ⟨(some (false, 14)), .mv (.g 0), none⟩,
  ⟨(some (false, 15)), .bin .and (.l 14) (.c (.lit (.int .u64 4294967295))), none⟩,
  ⟨(some (true, 6)), .mv (.l 15), none⟩])
(.seq
(.reg [
  ⟨(some (false, 16)), .mv (.g 0), none⟩,
  ⟨(some (false, 17)), .bin .shr (.l 16) (.c (.lit (.int .u64 32))), none⟩,
  ⟨(some (true, 7)), .mv (.l 17), none⟩])
(.seq
(.reg [
  ⟨(some (false, 18)), .mv (.g 1), none⟩,
  ⟨(some (false, 19)), .bin .and (.l 18) (.c (.lit (.int .u64 4294967295))), none⟩,
  ⟨(some (true, 8)), .mv (.l 19), none⟩])
(.seq
(.reg [
  ⟨(some (false, 20)), .mv (.g 1), none⟩,
  ⟨(some (false, 21)), .bin .shr (.l 20) (.c (.lit (.int .u64 32))), none⟩,
  ⟨(some (true, 9)), .mv (.l 21), none⟩])
(.seq
(.reg [
  ⟨(some (false, 22)), .mv (.g 6), none⟩,
  ⟨(some (false, 23)), .mv (.g 8), none⟩,
  ⟨(some (false, 24)), .bin .mul (.l 22) (.l 23), none⟩,
  ⟨(some (true, 10)), .mv (.l 24), none⟩])
(.seq
(.reg [
  ⟨(some (false, 25)), .mv (.g 7), none⟩,
  ⟨(some (false, 26)), .mv (.g 8), none⟩,
  ⟨(some (false, 27)), .bin .mul (.l 25) (.l 26), none⟩,
  ⟨(some (false, 28)), .mv (.g 10), none⟩,
  ⟨(some (false, 29)), .bin .shr (.l 28) (.c (.lit (.int .u64 32))), none⟩,
  ⟨(some (false, 30)), .bin .add (.l 27) (.l 29), none⟩,
  ⟨(some (true, 11)), .mv (.l 30), none⟩])
(.seq
(.reg [
  ⟨(some (false, 31)), .mv (.g 11), none⟩,
  ⟨(some (false, 32)), .bin .and (.l 31) (.c (.lit (.int .u64 4294967295))), none⟩,
  ⟨(some (true, 12)), .mv (.l 32), none⟩])
(.seq
(.reg [
  ⟨(some (false, 33)), .mv (.g 11), none⟩,
  ⟨(some (false, 34)), .bin .shr (.l 33) (.c (.lit (.int .u64 32))), none⟩,
  ⟨(some (true, 13)), .mv (.l 34), none⟩])
(.seq
(.reg [
  ⟨(some (false, 35)), .mv (.g 12), none⟩,
  ⟨(some (false, 36)), .mv (.g 6), none⟩,
  ⟨(some (false, 37)), .mv (.g 9), none⟩,
  ⟨(some (false, 38)), .bin .mul (.l 36) (.l 37), none⟩,
  ⟨(some (false, 39)), .bin .add (.l 35) (.l 38), none⟩,
  ⟨(some (true, 12)), .mv (.l 39), none⟩])
(.seq
(.reg [
  ⟨(some (false, 40)), .mv (.g 7), none⟩,
  ⟨(some (false, 41)), .mv (.g 9), none⟩,
  ⟨(some (false, 42)), .bin .mul (.l 40) (.l 41), none⟩,
  ⟨(some (false, 43)), .mv (.g 13), none⟩,
  ⟨(some (false, 44)), .bin .add (.l 42) (.l 43), none⟩,
  ⟨(some (false, 45)), .mv (.g 12), none⟩,
  ⟨(some (false, 46)), .bin .shr (.l 45) (.c (.lit (.int .u64 32))), none⟩,
  ⟨(some (false, 47)), .bin .add (.l 44) (.l 46), none⟩,
  ⟨(some (true, 4)), .mv (.l 47), none⟩])
(.seq
(.reg [
  ⟨(some (false, 48)), .mv (.g 0), none⟩,
  ⟨(some (false, 49)), .mv (.g 1), none⟩,
  ⟨(some (false, 50)), .bin .mul (.l 48) (.l 49), none⟩,
  ⟨(some (true, 5)), .mv (.l 50), none⟩])
.ret))))))))))))
def K85 : List Nat := [0, 1, 4, 5, 6, 7, 8, 9, 10, 11, 12, 13]
noncomputable def b85 : Code := match Try.f85.body with | some c => c | none => .skip
theorem t85 : trCode ⟨Try.prog, K85, [], 51, none⟩ b85 = some c85 := by kernel_rfl
theorem go85 {args : List AV} {H : AHeap} {Kk : AV → AHeap → Prop} (hn : args.length = 2) (h : AGo ⟨Try.prog, K85, [], 51, none⟩ H.length [.code c85] (RetP [.t (.g 4), .t (.g 5)] H.length Kk) ⟨[], argsG 0 args⟩ H) : ACalls Try.prog 85 args H Kk :=
  ACalls_of Try.func85 (c := b85) rfl (by kernel_rfl) t85 (rs := [.t (.g 4), .t (.g 5)]) (by kernel_rfl) (by rw [hn]; exact Nat.le_of_ble_eq_true rfl) (by rw [hn]; rfl) (h.weaken (fun _ _ => RetP.hands) (by simp))

/-- sastrugi/probe.covered -/
def c70 : ACode :=
  (.seq
(.reg [
  ⟨(some (true, 7)), .box (.g 3), none⟩,
  ⟨(some (true, 8)), .new [.slice none 0 0], none⟩,
  ⟨(some (true, 9)), .mv (.c (.lit (.slice none 0 0))), none⟩])
(.seq
(.reg [
  ⟨(some (false, 15)), .mv (.g 0), none⟩,
  ⟨(some (false, 16)), .mv (.g 1), none⟩,
  ⟨(some (false, 17)), .ia 5 (.l 15) (.l 16), none⟩,
  ⟨(some (false, 18)), .ld (some 5) (.l 17), none⟩,
  ⟨(some (true, 10)), .new [.int .i64 0, .int .i64 0, .int .i64 0, .int .i64 0, .int .i64 0], none⟩,
  ⟨none, .st 5 (.g 10) (.l 18), none⟩])
(.seq
(.seq
(.reg [
  ⟨(some (false, 19)), .fa (.g 10) 0, none⟩,
  ⟨(some (false, 20)), .ld none (.l 19), none⟩,
  ⟨(some (false, 21)), .bin .eql (.l 20) (.c (.lit (.int .i64 4))), none⟩,
  ⟨(some (false, 22)), .mv (.l 21), none⟩,
  ⟨(some (false, 23)), .fa (.g 10) 3, (some (.l 22, false))⟩,
  ⟨(some (false, 24)), .ld none (.l 23), (some (.l 22, false))⟩,
  ⟨(some (false, 25)), .mv (.g 2), (some (.l 22, false))⟩,
  ⟨(some (false, 26)), .bin .gtr (.l 24) (.l 25), (some (.l 22, false))⟩,
  ⟨(some (true, 27)), .pick (.l 22) (.c (.lit (.bool true))) (.l 26), none⟩])
(.cond (.g 27)
(.seq
(.reg [
  ⟨none, .st 1 (.g 8) (.c (.lit (.slice none 0 0))), none⟩,
  ⟨(some (true, 9)), .mv (.c (.lit (.slice none 0 0))), none⟩])
.ret)
.skip))
(.seq
(.reg [
  ⟨(some (false, 28)), .fa (.g 10) 1, none⟩,
  ⟨(some (false, 29)), .ld none (.l 28), none⟩,
  ⟨(some (false, 30)), .fa (.g 10) 2, none⟩,
  ⟨(some (false, 31)), .ld none (.l 30), none⟩,
  ⟨(some (false, 32)), .mk [.int .i64 0, .int .i64 0] [(0, 1, .l 29), (1, 1, .l 31)], none⟩,
  ⟨(some (false, 33)), .mks false 2 [.l 32], none⟩,
  ⟨none, .st 1 (.g 8) (.l 33), none⟩])
(.seq
(.reg [
  ⟨(some (false, 34)), .ld none (.g 8), none⟩,
  ⟨(some (true, 9)), .mv (.l 34), none⟩])
(.seq
(.reg [
  ⟨(some (false, 35)), .fa (.g 10) 3, none⟩,
  ⟨(some (false, 36)), .ld none (.l 35), none⟩,
  ⟨(some (true, 11)), .new [.int .i64 0], none⟩,
  ⟨none, .st 1 (.g 11) (.l 36), none⟩])
(.seq
(.reg [
  ⟨(some (false, 37)), .mkf 79 [.g 11, .g 10, .g 8, .g 7], none⟩,
  ⟨(some (true, 12)), .mv (.l 37), none⟩])
(.seq
(.seq
(.reg [
  ⟨(some (false, 38)), .mv (.g 0), none⟩,
  ⟨(some (false, 39)), .mv (.g 1), none⟩,
  ⟨(some (false, 40)), .mv (.g 2), none⟩,
  ⟨(some (true, 41)), .call (.c (.fn 80 [])) [.l 38, .l 39, .l 40], none⟩,
  ⟨(some (true, 42)), .len (.g 41), none⟩,
  ⟨(some (true, 43)), .mv (.c (.lit (.int .i64 0))), none⟩])
(.block 0
(.loop
(.seq
(.reg [
  ⟨(some (true, 44)), .bin .lss (.g 43) (.g 42), none⟩])
(.seq
(.cond (.g 44)
.skip
(.exit 0))
(.seq
(.block 1
(.seq
(.reg [
  ⟨(some (false, 45)), .ia 5 (.g 41) (.g 43), none⟩,
  ⟨(some (false, 46)), .ld (some 5) (.l 45), none⟩,
  ⟨(some (true, 14)), .new [.int .i64 0, .int .i64 0, .int .i64 0, .int .i64 0, .int .i64 0], none⟩,
  ⟨none, .st 5 (.g 14) (.l 46), none⟩])
(.seq
(.reg [
  ⟨(some (false, 47)), .mv (.g 12), none⟩,
  ⟨(some (false, 48)), .fa (.g 14) 3, none⟩,
  ⟨(some (false, 49)), .ld none (.l 48), none⟩,
  ⟨(some (false, 50)), .call (.l 47) [.l 49], none⟩])
(.draw [
  ⟨⟨(some (false, 51)), .ld none (.g 8), none⟩, 0, true, []⟩,
  ⟨⟨(some (false, 52)), .fa (.g 14) 1, none⟩, 1, true, []⟩,
  ⟨⟨(some (false, 53)), .ld none (.l 52), none⟩, 2, true, []⟩,
  ⟨⟨(some (false, 54)), .fa (.g 14) 2, none⟩, 3, true, []⟩,
  ⟨⟨(some (false, 55)), .ld none (.l 54), none⟩, 4, true, []⟩,
  ⟨⟨(some (false, 57)), .mv (.g 9), none⟩, 6, true, []⟩,
  ⟨⟨(some (false, 58)), .fa (.g 14) 1, none⟩, 7, false, []⟩,
  ⟨⟨(some (false, 59)), .ld none (.l 58), none⟩, 8, true, []⟩,
  ⟨⟨(some (false, 60)), .fa (.g 14) 2, none⟩, 9, false, []⟩,
  ⟨⟨(some (false, 61)), .ld none (.l 60), none⟩, 10, true, []⟩,
  ⟨⟨(some (false, 56)), .call (.c (.fn 81 [])) [.l 51, .l 53, .l 55], none⟩, 5, false, []⟩,
  ⟨⟨(some (false, 62)), .call (.c (.fn 81 [])) [.l 57, .l 59, .l 61], none⟩, 11, false, []⟩,
  ⟨⟨none, .st 1 (.g 8) (.l 56), none⟩, 12, false, []⟩,
  ⟨⟨(some (true, 9)), .mv (.l 62), none⟩, 13, false, []⟩]))))
(.reg [
  ⟨(some (false, 63)), .bin .add (.g 43) (.c (.lit (.int .i64 1))), none⟩,
  ⟨(some (true, 43)), .mv (.l 63), none⟩])))))))
(.seq
(.reg [
  ⟨(some (false, 64)), .mv (.g 12), none⟩,
  ⟨(some (false, 65)), .mv (.g 2), none⟩,
  ⟨(some (false, 66)), .call (.l 64) [.l 65], none⟩])
(.seq
(.reg [
  ⟨(some (false, 67)), .ld none (.g 8), none⟩,
  ⟨(some (false, 68)), .mv (.g 9), none⟩,
  ⟨none, .st 1 (.g 8) (.l 67), none⟩,
  ⟨(some (true, 9)), .mv (.l 68), none⟩])
.ret))))))))))
def K70 : List Nat := [0, 1, 2, 3, 27, 44, 8, 9, 7, 10, 11, 12, 41, 42, 43, 14]
noncomputable def b70 : Code := match Try.f70.body with | some c => c | none => .skip
theorem t70 : trCode ⟨Try.prog, K70, [], 69, none⟩ b70 = some c70 := by kernel_rfl
theorem go70 {args : List AV} {H : AHeap} {Kk : AV → AHeap → Prop} (hn : args.length = 4) (h : AGo ⟨Try.prog, K70, [], 69, none⟩ H.length [.code c70] (RetP [.cell (.g 8) none, .t (.g 9)] H.length Kk) ⟨[], argsG 0 args⟩ H) : ACalls Try.prog 70 args H Kk :=
  ACalls_of Try.func70 (c := b70) rfl (by kernel_rfl) t70 (rs := [.cell (.g 8) none, .t (.g 9)]) (by kernel_rfl) (by rw [hn]; exact Nat.le_of_ble_eq_true rfl) (by rw [hn]; rfl) (h.weaken (fun _ _ => RetP.hands) (by simp))

/-- sastrugi/probe.covered$1 -/
def c79 : ACode :=
  (.seq
(.reg [
  ⟨(some (false, 10)), .mv (.g 0), none⟩,
  ⟨(some (false, 11)), .ld none (.g 1), none⟩,
  ⟨(some (false, 12)), .bin .sub (.l 10) (.l 11), none⟩,
  ⟨(some (false, 13)), .fa (.g 2) 4, none⟩,
  ⟨(some (false, 14)), .ld none (.l 13), none⟩,
  ⟨(some (false, 15)), .bin .mul (.l 12) (.l 14), none⟩,
  ⟨(some (true, 6)), .mv (.l 15), none⟩])
(.seq
(.reg [
  ⟨(some (false, 16)), .ld none (.g 3), none⟩,
  ⟨(some (false, 17)), .len (.l 16), none⟩,
  ⟨(some (false, 18)), .mksl 2 16 [.int .i64 0, .int .i64 0] (.c (.lit (.int .i64 0))) (.l 17), none⟩,
  ⟨(some (true, 7)), .mv (.l 18), none⟩])
(.seq
(.seq
(.reg [
  ⟨(some (true, 19)), .ld none (.g 3), none⟩,
  ⟨(some (true, 20)), .len (.g 19), none⟩,
  ⟨(some (true, 21)), .mv (.c (.lit (.int .i64 0))), none⟩])
(.block 0
(.loop
(.seq
(.reg [
  ⟨(some (true, 22)), .bin .lss (.g 21) (.g 20), none⟩])
(.seq
(.cond (.g 22)
.skip
(.exit 0))
(.seq
(.block 1
(.seq
(.reg [
  ⟨(some (false, 23)), .ia 2 (.g 19) (.g 21), none⟩,
  ⟨(some (false, 24)), .ld (some 2) (.l 23), none⟩,
  ⟨(some (true, 9)), .new [.int .i64 0, .int .i64 0], none⟩,
  ⟨none, .st 2 (.g 9) (.l 24), none⟩])
(.reg [
  ⟨(some (false, 25)), .mv (.g 7), none⟩,
  ⟨(some (false, 26)), .fa (.g 9) 0, none⟩,
  ⟨(some (false, 27)), .ld none (.l 26), none⟩,
  ⟨(some (false, 28)), .mv (.g 6), none⟩,
  ⟨(some (false, 29)), .bin .sub (.l 27) (.l 28), none⟩,
  ⟨(some (false, 30)), .mx [.c (.lit (.int .i64 0)), .l 29], none⟩,
  ⟨(some (false, 31)), .ld none (.g 4), none⟩,
  ⟨(some (false, 32)), .bin .sub (.l 31) (.c (.lit (.int .i64 1))), none⟩,
  ⟨(some (false, 33)), .fa (.g 9) 1, none⟩,
  ⟨(some (false, 34)), .ld none (.l 33), none⟩,
  ⟨(some (false, 35)), .mv (.g 6), none⟩,
  ⟨(some (false, 36)), .bin .add (.l 34) (.l 35), none⟩,
  ⟨(some (false, 37)), .mn [.l 32, .l 36], none⟩,
  ⟨(some (false, 38)), .mk [.int .i64 0, .int .i64 0] [(0, 1, .l 30), (1, 1, .l 37)], none⟩,
  ⟨(some (false, 39)), .mks false 2 [.l 38], none⟩,
  ⟨(some (false, 40)), .app 2 16 (.l 25) (.l 39), none⟩,
  ⟨(some (true, 7)), .mv (.l 40), none⟩])))
(.reg [
  ⟨(some (false, 41)), .bin .add (.g 21) (.c (.lit (.int .i64 1))), none⟩,
  ⟨(some (true, 21)), .mv (.l 41), none⟩])))))))
(.reg [
  ⟨(some (false, 42)), .mv (.g 7), none⟩,
  ⟨(some (false, 43)), .mv (.g 0), none⟩,
  ⟨none, .st 1 (.g 3) (.l 42), none⟩,
  ⟨none, .st 1 (.g 1) (.l 43), none⟩]))))
def K79 : List Nat := [0, 1, 2, 3, 4, 22, 6, 7, 19, 20, 21, 9]
noncomputable def b79 : Code := match Try.f79.body with | some c => c | none => .skip
theorem t79 : trCode ⟨Try.prog, K79, [], 44, none⟩ b79 = some c79 := by kernel_rfl
theorem go79 {args : List AV} {H : AHeap} {Kk : AV → AHeap → Prop} (hn : args.length = 5) (h : AGo ⟨Try.prog, K79, [], 44, none⟩ H.length [.code c79] (RetP [] H.length Kk) ⟨[], argsG 0 args⟩ H) : ACalls Try.prog 79 args H Kk :=
  ACalls_of Try.func79 (c := b79) rfl (by kernel_rfl) t79 (rs := []) (by kernel_rfl) (by rw [hn]; exact Nat.le_of_ble_eq_true rfl) (by rw [hn]; rfl) (h.weaken (fun _ _ => RetP.hands) (by simp))

/-- sastrugi/probe.mends -/
def c80 : ACode :=
  (.seq
(.reg [
  ⟨(some (true, 6)), .mv (.c (.lit (.slice none 0 0))), none⟩])
(.seq
(.reg [
  ⟨(some (true, 7)), .mv (.c (.lit (.slice none 0 0))), none⟩])
(.seq
(.seq
(.reg [
  ⟨(some (true, 10)), .mv (.g 0), none⟩,
  ⟨(some (true, 11)), .len (.g 10), none⟩,
  ⟨(some (true, 12)), .mv (.c (.lit (.int .i64 0))), none⟩])
(.block 0
(.loop
(.seq
(.reg [
  ⟨(some (true, 13)), .bin .lss (.g 12) (.g 11), none⟩])
(.seq
(.cond (.g 13)
.skip
(.exit 0))
(.seq
(.block 1
(.seq
(.reg [
  ⟨(some (false, 14)), .mv (.g 12), none⟩,
  ⟨(some (false, 15)), .ia 5 (.g 10) (.g 12), none⟩,
  ⟨(some (false, 16)), .ld (some 5) (.l 15), none⟩,
  ⟨(some (true, 9)), .new [.int .i64 0, .int .i64 0, .int .i64 0, .int .i64 0, .int .i64 0], none⟩,
  ⟨(some (true, 8)), .mv (.l 14), none⟩,
  ⟨none, .st 5 (.g 9) (.l 16), none⟩])
(.seq
(.draw [
  ⟨⟨(some (false, 17)), .fa (.g 9) 0, none⟩, 0, true, []⟩,
  ⟨⟨(some (false, 18)), .ld none (.l 17), none⟩, 1, true, []⟩,
  ⟨⟨(some (false, 19)), .bin .eql (.l 18) (.c (.lit (.int .i64 4))), none⟩, 2, true, []⟩,
  ⟨⟨(some (false, 20)), .mv (.l 19), none⟩, 3, true, []⟩,
  ⟨⟨(some (false, 21)), .fa (.g 9) 3, (some (.l 20, true))⟩, 4, true, []⟩,
  ⟨⟨(some (false, 22)), .ld none (.l 21), (some (.l 20, true))⟩, 5, true, []⟩,
  ⟨⟨(some (false, 23)), .mv (.g 2), (some (.l 20, true))⟩, 6, true, []⟩,
  ⟨⟨(some (false, 24)), .bin .leq (.l 22) (.l 23), (some (.l 20, true))⟩, 7, true, []⟩,
  ⟨⟨(some (false, 25)), .pick (.l 20) (.l 24) (.c (.lit (.bool false))), none⟩, 8, true, []⟩,
  ⟨⟨(some (false, 26)), .mv (.l 25), none⟩, 9, true, []⟩,
  ⟨⟨(some (false, 27)), .fa (.g 9) 3, (some (.l 26, true))⟩, 10, true, []⟩,
  ⟨⟨(some (false, 28)), .ld none (.l 27), (some (.l 26, true))⟩, 11, true, []⟩,
  ⟨⟨(some (false, 29)), .mv (.g 0), (some (.l 26, true))⟩, 12, true, []⟩,
  ⟨⟨(some (false, 30)), .mv (.g 1), (some (.l 26, true))⟩, 13, true, []⟩,
  ⟨⟨(some (false, 31)), .ia 5 (.l 29) (.l 30), (some (.l 26, true))⟩, 14, true, []⟩,
  ⟨⟨(some (false, 32)), .fa (.l 31) 3, (some (.l 26, true))⟩, 15, true, []⟩,
  ⟨⟨(some (false, 33)), .ld none (.l 32), (some (.l 26, true))⟩, 16, true, []⟩,
  ⟨⟨(some (false, 34)), .bin .gtr (.l 28) (.l 33), (some (.l 26, true))⟩, 17, true, []⟩,
  ⟨⟨(some (false, 35)), .mv (.l 34), (some (.l 26, true))⟩, 18, true, []⟩,
  ⟨⟨(some (false, 36)), .fa (.g 9) 3, (some (.l 35, false))⟩, 19, true, []⟩,
  ⟨⟨(some (false, 37)), .ld none (.l 36), (some (.l 35, false))⟩, 20, true, []⟩,
  ⟨⟨(some (false, 38)), .mv (.g 0), (some (.l 35, false))⟩, 21, true, []⟩,
  ⟨⟨(some (false, 39)), .mv (.g 1), (some (.l 35, false))⟩, 22, true, []⟩,
  ⟨⟨(some (false, 40)), .ia 5 (.l 38) (.l 39), (some (.l 35, false))⟩, 23, true, []⟩,
  ⟨⟨(some (false, 41)), .fa (.l 40) 3, (some (.l 35, false))⟩, 24, true, []⟩,
  ⟨⟨(some (false, 42)), .ld none (.l 41), (some (.l 35, false))⟩, 25, true, []⟩,
  ⟨⟨(some (false, 43)), .bin .eql (.l 37) (.l 42), (some (.l 35, false))⟩, 26, true, []⟩,
  ⟨⟨(some (false, 44)), .mv (.l 43), (some (.l 35, false))⟩, 27, true, []⟩,
  ⟨⟨(some (false, 45)), .mv (.g 8), (some (.l 44, true))⟩, 28, true, []⟩,
  ⟨⟨(some (false, 46)), .mv (.g 1), (some (.l 44, true))⟩, 29, true, []⟩,
  ⟨⟨(some (false, 47)), .bin .gtr (.l 45) (.l 46), (some (.l 44, true))⟩, 30, true, []⟩,
  ⟨⟨(some (false, 48)), .pick (.l 44) (.l 47) (.c (.lit (.bool false))), (some (.l 35, false))⟩, 31, true, []⟩,
  ⟨⟨(some (false, 49)), .pick (.l 35) (.c (.lit (.bool true))) (.l 48), (some (.l 26, true))⟩, 32, true, []⟩,
  ⟨⟨(some (true, 50)), .pick (.l 26) (.l 49) (.c (.lit (.bool false))), none⟩, 33, true, []⟩])
(.cond (.g 50)
(.reg [
  ⟨(some (false, 51)), .mv (.g 7), none⟩,
  ⟨(some (false, 52)), .ld (some 5) (.g 9), none⟩,
  ⟨(some (false, 53)), .mks false 5 [.l 52], none⟩,
  ⟨(some (false, 54)), .app 5 40 (.l 51) (.l 53), none⟩,
  ⟨(some (true, 7)), .mv (.l 54), none⟩])
.skip))))
(.reg [
  ⟨(some (false, 55)), .bin .add (.g 12) (.c (.lit (.int .i64 1))), none⟩,
  ⟨(some (true, 12)), .mv (.l 55), none⟩])))))))
(.seq
(.reg [
  ⟨(some (false, 56)), .mv (.g 7), none⟩,
  ⟨(some (false, 57)), .call (.c (.fn 88 [])) [.l 56, .c (.fn 89 [])], none⟩])
(.seq
(.reg [
  ⟨(some (false, 58)), .mv (.g 7), none⟩,
  ⟨(some (true, 6)), .mv (.l 58), none⟩])
.ret)))))
def K80 : List Nat := [0, 1, 2, 13, 50, 6, 7, 10, 11, 12, 9, 8]
noncomputable def b80 : Code := match Try.f80.body with | some c => c | none => .skip
theorem t80 : trCode ⟨Try.prog, K80, [], 59, none⟩ b80 = some c80 := by kernel_rfl
theorem go80 {args : List AV} {H : AHeap} {Kk : AV → AHeap → Prop} (hn : args.length = 3) (h : AGo ⟨Try.prog, K80, [], 59, none⟩ H.length [.code c80] (RetP [.t (.g 6)] H.length Kk) ⟨[], argsG 0 args⟩ H) : ACalls Try.prog 80 args H Kk :=
  ACalls_of Try.func80 (c := b80) rfl (by kernel_rfl) t80 (rs := [.t (.g 6)]) (by kernel_rfl) (by rw [hn]; exact Nat.le_of_ble_eq_true rfl) (by rw [hn]; rfl) (h.weaken (fun _ _ => RetP.hands) (by simp))

/-- sastrugi/probe.without -/
def c81 : ACode :=
  (.seq
(.reg [
  ⟨(some (true, 6)), .mv (.c (.lit (.slice none 0 0))), none⟩])
(.seq
(.reg [
  ⟨(some (true, 7)), .mv (.c (.lit (.slice none 0 0))), none⟩])
(.seq
(.seq
(.reg [
  ⟨(some (true, 12)), .mv (.g 0), none⟩,
  ⟨(some (true, 13)), .len (.g 12), none⟩,
  ⟨(some (true, 14)), .mv (.c (.lit (.int .i64 0))), none⟩])
(.block 0
(.loop
(.seq
(.reg [
  ⟨(some (true, 15)), .bin .lss (.g 14) (.g 13), none⟩])
(.seq
(.cond (.g 15)
.skip
(.exit 0))
(.seq
(.block 1
(.seq
(.reg [
  ⟨(some (false, 16)), .ia 2 (.g 12) (.g 14), none⟩,
  ⟨(some (false, 17)), .ld (some 2) (.l 16), none⟩,
  ⟨(some (true, 9)), .new [.int .i64 0, .int .i64 0], none⟩,
  ⟨none, .st 2 (.g 9) (.l 17), none⟩])
(.seq
(.seq
(.reg [
  ⟨(some (false, 18)), .fa (.g 9) 0, none⟩,
  ⟨(some (false, 19)), .ld none (.l 18), none⟩,
  ⟨(some (false, 20)), .fa (.g 9) 1, none⟩,
  ⟨(some (false, 21)), .ld none (.l 20), none⟩,
  ⟨(some (false, 22)), .mv (.g 1), none⟩,
  ⟨(some (false, 23)), .bin .sub (.l 22) (.c (.lit (.int .i64 1))), none⟩,
  ⟨(some (false, 24)), .mn [.l 21, .l 23], none⟩,
  ⟨(some (false, 25)), .mk [.int .i64 0, .int .i64 0] [(0, 1, .l 19), (1, 1, .l 24)], none⟩,
  ⟨(some (true, 10)), .new [.int .i64 0, .int .i64 0], none⟩,
  ⟨none, .st 2 (.g 10) (.l 25), none⟩])
(.seq
(.reg [
  ⟨(some (false, 26)), .fa (.g 10) 0, none⟩,
  ⟨(some (false, 27)), .ld none (.l 26), none⟩,
  ⟨(some (false, 28)), .fa (.g 10) 1, none⟩,
  ⟨(some (false, 29)), .ld none (.l 28), none⟩,
  ⟨(some (true, 30)), .bin .leq (.l 27) (.l 29), none⟩])
(.cond (.g 30)
(.reg [
  ⟨(some (false, 31)), .mv (.g 7), none⟩,
  ⟨(some (false, 32)), .ld (some 2) (.g 10), none⟩,
  ⟨(some (false, 33)), .mks false 2 [.l 32], none⟩,
  ⟨(some (false, 34)), .app 2 16 (.l 31) (.l 33), none⟩,
  ⟨(some (true, 7)), .mv (.l 34), none⟩])
.skip)))
(.seq
(.reg [
  ⟨(some (false, 35)), .fa (.g 9) 0, none⟩,
  ⟨(some (false, 36)), .ld none (.l 35), none⟩,
  ⟨(some (false, 37)), .mv (.g 2), none⟩,
  ⟨(some (false, 38)), .bin .add (.l 37) (.c (.lit (.int .i64 1))), none⟩,
  ⟨(some (false, 39)), .mx [.l 36, .l 38], none⟩,
  ⟨(some (false, 40)), .fa (.g 9) 1, none⟩,
  ⟨(some (false, 41)), .ld none (.l 40), none⟩,
  ⟨(some (false, 42)), .mk [.int .i64 0, .int .i64 0] [(0, 1, .l 39), (1, 1, .l 41)], none⟩,
  ⟨(some (true, 11)), .new [.int .i64 0, .int .i64 0], none⟩,
  ⟨none, .st 2 (.g 11) (.l 42), none⟩])
(.seq
(.reg [
  ⟨(some (false, 43)), .fa (.g 11) 0, none⟩,
  ⟨(some (false, 44)), .ld none (.l 43), none⟩,
  ⟨(some (false, 45)), .fa (.g 11) 1, none⟩,
  ⟨(some (false, 46)), .ld none (.l 45), none⟩,
  ⟨(some (true, 47)), .bin .leq (.l 44) (.l 46), none⟩])
(.cond (.g 47)
(.reg [
  ⟨(some (false, 48)), .mv (.g 7), none⟩,
  ⟨(some (false, 49)), .ld (some 2) (.g 11), none⟩,
  ⟨(some (false, 50)), .mks false 2 [.l 49], none⟩,
  ⟨(some (false, 51)), .app 2 16 (.l 48) (.l 50), none⟩,
  ⟨(some (true, 7)), .mv (.l 51), none⟩])
.skip))))))
(.reg [
  ⟨(some (false, 52)), .bin .add (.g 14) (.c (.lit (.int .i64 1))), none⟩,
  ⟨(some (true, 14)), .mv (.l 52), none⟩])))))))
(.seq
(.reg [
  ⟨(some (false, 53)), .mv (.g 7), none⟩,
  ⟨(some (true, 6)), .mv (.l 53), none⟩])
.ret))))
def K81 : List Nat := [0, 1, 2, 15, 30, 47, 6, 7, 12, 13, 14, 9, 10, 11]
noncomputable def b81 : Code := match Try.f81.body with | some c => c | none => .skip
theorem t81 : trCode ⟨Try.prog, K81, [], 54, none⟩ b81 = some c81 := by kernel_rfl
theorem go81 {args : List AV} {H : AHeap} {Kk : AV → AHeap → Prop} (hn : args.length = 3) (h : AGo ⟨Try.prog, K81, [], 54, none⟩ H.length [.code c81] (RetP [.t (.g 6)] H.length Kk) ⟨[], argsG 0 args⟩ H) : ACalls Try.prog 81 args H Kk :=
  ACalls_of Try.func81 (c := b81) rfl (by kernel_rfl) t81 (rs := [.t (.g 6)]) (by kernel_rfl) (by rw [hn]; exact Nat.le_of_ble_eq_true rfl) (by rw [hn]; rfl) (h.weaken (fun _ _ => RetP.hands) (by simp))

/-- slices.SortStableFunc[[]sastrugi/api.Mark,sastrugi/api.Mark] -/
def c88 : ACode :=
  (.reg [
  ⟨(some (false, 4)), .mv (.g 0), none⟩,
  ⟨(some (false, 5)), .mv (.g 0), none⟩,
  ⟨(some (false, 6)), .len (.l 5), none⟩,
  ⟨(some (false, 7)), .mv (.g 1), none⟩,
  ⟨(some (false, 8)), .call (.c (.fn 91 [])) [.l 4, .l 6, .l 7], none⟩])
def K88 : List Nat := [0, 1]
noncomputable def b88 : Code := match Try.f88.body with | some c => c | none => .skip
theorem t88 : trCode ⟨Try.prog, K88, [], 9, none⟩ b88 = some c88 := by kernel_rfl
theorem go88 {args : List AV} {H : AHeap} {Kk : AV → AHeap → Prop} (hn : args.length = 2) (h : AGo ⟨Try.prog, K88, [], 9, none⟩ H.length [.code c88] (RetP [] H.length Kk) ⟨[], argsG 0 args⟩ H) : ACalls Try.prog 88 args H Kk :=
  ACalls_of Try.func88 (c := b88) rfl (by kernel_rfl) t88 (rs := []) (by kernel_rfl) (by rw [hn]; exact Nat.le_of_ble_eq_true rfl) (by rw [hn]; rfl) (h.weaken (fun _ _ => RetP.hands) (by simp))

/-- sastrugi/probe.mends$1 -/
def c89 : ACode :=
  (.seq
(.reg [
  ⟨(some (true, 2)), .box (.g 0), none⟩,
  ⟨(some (true, 3)), .box (.g 1), none⟩,
  ⟨(some (true, 4)), .mv (.c (.lit (.int .i64 0))), none⟩])
(.seq
(.reg [
  ⟨(some (false, 5)), .fa (.g 2) 3, none⟩,
  ⟨(some (false, 6)), .ld none (.l 5), none⟩,
  ⟨(some (false, 7)), .fa (.g 3) 3, none⟩,
  ⟨(some (false, 8)), .ld none (.l 7), none⟩,
  ⟨(some (false, 9)), .call (.c (.fn 67 [])) [.l 6, .l 8], none⟩,
  ⟨(some (true, 4)), .mv (.l 9), none⟩])
.ret))
def K89 : List Nat := [0, 1, 4, 2, 3]
noncomputable def b89 : Code := match Try.f89.body with | some c => c | none => .skip
theorem t89 : trCode ⟨Try.prog, K89, [], 10, none⟩ b89 = some c89 := by kernel_rfl
theorem go89 {args : List AV} {H : AHeap} {Kk : AV → AHeap → Prop} (hn : args.length = 2) (h : AGo ⟨Try.prog, K89, [], 10, none⟩ H.length [.code c89] (RetP [.t (.g 4)] H.length Kk) ⟨[], argsG 0 args⟩ H) : ACalls Try.prog 89 args H Kk :=
  ACalls_of Try.func89 (c := b89) rfl (by kernel_rfl) t89 (rs := [.t (.g 4)]) (by kernel_rfl) (by rw [hn]; exact Nat.le_of_ble_eq_true rfl) (by rw [hn]; rfl) (h.weaken (fun _ _ => RetP.hands) (by simp))

/-- cmp.Compare[int] -/
def c67 : ACode :=
  (.seq
(.reg [
  ⟨(some (true, 4)), .mv (.c (.lit (.int .i64 0))), none⟩])
(.seq
(.reg [
  ⟨(some (false, 7)), .mv (.g 0), none⟩,
  ⟨(some (false, 8)), .call (.c (.fn 77 [])) [.l 7], none⟩,
  ⟨(some (true, 5)), .mv (.l 8), none⟩])
(.seq
(.reg [
  ⟨(some (false, 9)), .mv (.g 1), none⟩,
  ⟨(some (false, 10)), .call (.c (.fn 77 [])) [.l 9], none⟩,
  ⟨(some (true, 6)), .mv (.l 10), none⟩])
(.seq
(.seq
(.reg [
  ⟨(some (true, 11)), .mv (.g 5), none⟩])
(.cond (.g 11)
(.seq
(.seq
(.reg [
  ⟨(some (true, 12)), .mv (.g 6), none⟩])
(.cond (.g 12)
(.seq
(.reg [
  ⟨(some (true, 4)), .mv (.c (.lit (.int .i64 0))), none⟩])
.ret)
.skip))
(.seq
(.reg [
  ⟨(some (true, 4)), .mv (.c (.lit (.int .i64 (-1)))), none⟩])
.ret))
.skip))
(.seq
(.seq
(.reg [
  ⟨(some (true, 13)), .mv (.g 6), none⟩])
(.cond (.g 13)
(.seq
(.reg [
  ⟨(some (true, 4)), .mv (.c (.lit (.int .i64 1))), none⟩])
.ret)
.skip))
(.seq
(.seq
(.reg [
  ⟨(some (false, 14)), .mv (.g 0), none⟩,
  ⟨(some (false, 15)), .mv (.g 1), none⟩,
  ⟨(some (true, 16)), .bin .lss (.l 14) (.l 15), none⟩])
(.cond (.g 16)
(.seq
(.reg [
  ⟨(some (true, 4)), .mv (.c (.lit (.int .i64 (-1)))), none⟩])
.ret)
.skip))
(.seq
(.seq
(.reg [
  ⟨(some (false, 17)), .mv (.g 0), none⟩,
  ⟨(some (false, 18)), .mv (.g 1), none⟩,
  ⟨(some (true, 19)), .bin .gtr (.l 17) (.l 18), none⟩])
(.cond (.g 19)
(.seq
(.reg [
  ⟨(some (true, 4)), .mv (.c (.lit (.int .i64 1))), none⟩])
.ret)
.skip))
(.seq
(.reg [
  ⟨(some (true, 4)), .mv (.c (.lit (.int .i64 0))), none⟩])
.ret))))))))
def K67 : List Nat := [0, 1, 11, 12, 13, 16, 19, 4, 5, 6]
noncomputable def b67 : Code := match Try.f67.body with | some c => c | none => .skip
theorem t67 : trCode ⟨Try.prog, K67, [], 20, none⟩ b67 = some c67 := by kernel_rfl
theorem go67 {args : List AV} {H : AHeap} {Kk : AV → AHeap → Prop} (hn : args.length = 2) (h : AGo ⟨Try.prog, K67, [], 20, none⟩ H.length [.code c67] (RetP [.t (.g 4)] H.length Kk) ⟨[], argsG 0 args⟩ H) : ACalls Try.prog 67 args H Kk :=
  ACalls_of Try.func67 (c := b67) rfl (by kernel_rfl) t67 (rs := [.t (.g 4)]) (by kernel_rfl) (by rw [hn]; exact Nat.le_of_ble_eq_true rfl) (by rw [hn]; rfl) (h.weaken (fun _ _ => RetP.hands) (by simp))

/-- slices.stableCmpFunc[sastrugi/api.Mark] -/
def c91 : ACode :=
  (.seq
(.reg [
  ⟨(some (true, 6)), .mv (.c (.lit (.int .i64 20))), none⟩])
(.seq
(.reg [
  ⟨(some (false, 10)), .mv (.g 6), none⟩,
  ⟨(some (true, 7)), .mv (.c (.lit (.int .i64 0))), none⟩,
  ⟨(some (true, 8)), .mv (.l 10), none⟩])
(.seq
(.block 0
(.loop
(.seq
(.seq
(.reg [
  ⟨(some (false, 11)), .mv (.g 8), none⟩,
  ⟨(some (false, 12)), .mv (.g 1), none⟩,
  ⟨(some (true, 13)), .bin .leq (.l 11) (.l 12), none⟩])
(.cond (.g 13)
.skip
(.exit 0)))
(.block 1
(.seq
(.reg [
  ⟨(some (false, 14)), .mv (.g 0), none⟩,
  ⟨(some (false, 15)), .mv (.g 7), none⟩,
  ⟨(some (false, 16)), .mv (.g 8), none⟩,
  ⟨(some (false, 17)), .mv (.g 2), none⟩,
  ⟨(some (false, 18)), .call (.c (.fn 93 [])) [.l 14, .l 15, .l 16, .l 17], none⟩])
(.seq
(.reg [
  ⟨(some (false, 19)), .mv (.g 8), none⟩,
  ⟨(some (true, 7)), .mv (.l 19), none⟩])
(.reg [
  ⟨(some (false, 20)), .mv (.g 8), none⟩,
  ⟨(some (false, 21)), .mv (.g 6), none⟩,
  ⟨(some (false, 22)), .bin .add (.l 20) (.l 21), none⟩,
  ⟨(some (true, 8)), .mv (.l 22), none⟩])))))))
(.seq
(.reg [
  ⟨(some (false, 23)), .mv (.g 0), none⟩,
  ⟨(some (false, 24)), .mv (.g 7), none⟩,
  ⟨(some (false, 25)), .mv (.g 1), none⟩,
  ⟨(some (false, 26)), .mv (.g 2), none⟩,
  ⟨(some (false, 27)), .call (.c (.fn 93 [])) [.l 23, .l 24, .l 25, .l 26], none⟩])
(.block 2
(.loop
(.seq
(.seq
(.reg [
  ⟨(some (false, 28)), .mv (.g 6), none⟩,
  ⟨(some (false, 29)), .mv (.g 1), none⟩,
  ⟨(some (true, 30)), .bin .lss (.l 28) (.l 29), none⟩])
(.cond (.g 30)
.skip
(.exit 2)))
(.block 3
(.seq
(.reg [
  ⟨(some (false, 31)), .mv (.g 6), none⟩,
  ⟨(some (false, 32)), .bin .mul (.c (.lit (.int .i64 2))) (.l 31), none⟩,
  ⟨(some (true, 7)), .mv (.c (.lit (.int .i64 0))), none⟩,
  ⟨(some (true, 8)), .mv (.l 32), none⟩])
(.seq
(.block 4
(.loop
(.seq
(.seq
(.reg [
  ⟨(some (false, 33)), .mv (.g 8), none⟩,
  ⟨(some (false, 34)), .mv (.g 1), none⟩,
  ⟨(some (true, 35)), .bin .leq (.l 33) (.l 34), none⟩])
(.cond (.g 35)
.skip
(.exit 4)))
(.block 5
(.seq
(.reg [
  ⟨(some (false, 36)), .mv (.g 0), none⟩,
  ⟨(some (false, 37)), .mv (.g 7), none⟩,
  ⟨(some (false, 38)), .mv (.g 7), none⟩,
  ⟨(some (false, 39)), .mv (.g 6), none⟩,
  ⟨(some (false, 40)), .bin .add (.l 38) (.l 39), none⟩,
  ⟨(some (false, 41)), .mv (.g 8), none⟩,
  ⟨(some (false, 42)), .mv (.g 2), none⟩,
  ⟨(some (false, 43)), .call (.c (.fn 94 [])) [.l 36, .l 37, .l 40, .l 41, .l 42], none⟩])
(.seq
(.reg [
  ⟨(some (false, 44)), .mv (.g 8), none⟩,
  ⟨(some (true, 7)), .mv (.l 44), none⟩])
(.reg [
  ⟨(some (false, 45)), .mv (.g 8), none⟩,
  ⟨(some (false, 46)), .mv (.g 6), none⟩,
  ⟨(some (false, 47)), .bin .mul (.c (.lit (.int .i64 2))) (.l 46), none⟩,
  ⟨(some (false, 48)), .bin .add (.l 45) (.l 47), none⟩,
  ⟨(some (true, 8)), .mv (.l 48), none⟩])))))))
(.seq
(.seq
(.reg [
  ⟨(some (false, 49)), .mv (.g 7), none⟩,
  ⟨(some (false, 50)), .mv (.g 6), none⟩,
  ⟨(some (false, 51)), .bin .add (.l 49) (.l 50), none⟩,
  ⟨(some (true, 9)), .mv (.l 51), none⟩])
(.seq
(.reg [
  ⟨(some (false, 52)), .mv (.g 9), none⟩,
  ⟨(some (false, 53)), .mv (.g 1), none⟩,
  ⟨(some (true, 54)), .bin .lss (.l 52) (.l 53), none⟩])
(.cond (.g 54)
(.reg [
  ⟨(some (false, 55)), .mv (.g 0), none⟩,
  ⟨(some (false, 56)), .mv (.g 7), none⟩,
  ⟨(some (false, 57)), .mv (.g 9), none⟩,
  ⟨(some (false, 58)), .mv (.g 1), none⟩,
  ⟨(some (false, 59)), .mv (.g 2), none⟩,
  ⟨(some (false, 60)), .call (.c (.fn 94 [])) [.l 55, .l 56, .l 57, .l 58, .l 59], none⟩])
.skip)))
(.reg [
  ⟨(some (false, 61)), .mv (.g 6), none⟩,
  ⟨(some (false, 62)), .bin .mul (.l 61) (.c (.lit (.int .i64 2))), none⟩,
  ⟨(some (true, 6)), .mv (.l 62), none⟩]))))))))))))
def K91 : List Nat := [0, 1, 2, 13, 30, 35, 54, 6, 7, 8, 9]
noncomputable def b91 : Code := match Try.f91.body with | some c => c | none => .skip
theorem t91 : trCode ⟨Try.prog, K91, [], 63, none⟩ b91 = some c91 := by kernel_rfl
theorem go91 {args : List AV} {H : AHeap} {Kk : AV → AHeap → Prop} (hn : args.length = 3) (h : AGo ⟨Try.prog, K91, [], 63, none⟩ H.length [.code c91] (RetP [] H.length Kk) ⟨[], argsG 0 args⟩ H) : ACalls Try.prog 91 args H Kk :=
  ACalls_of Try.func91 (c := b91) rfl (by kernel_rfl) t91 (rs := []) (by kernel_rfl) (by rw [hn]; exact Nat.le_of_ble_eq_true rfl) (by rw [hn]; rfl) (h.weaken (fun _ _ => RetP.hands) (by simp))

/-- cmp.isNaN[int] -/
def c77 : ACode :=
  (.seq
(.reg [
  ⟨(some (true, 2)), .mv (.c (.lit (.bool false))), none⟩])
(.seq
(.reg [
  ⟨(some (false, 3)), .mv (.g 0), none⟩,
  ⟨(some (false, 4)), .mv (.g 0), none⟩,
  ⟨(some (false, 5)), .bin .neq (.l 3) (.l 4), none⟩,
  ⟨(some (true, 2)), .mv (.l 5), none⟩])
.ret))
def K77 : List Nat := [0, 2]
noncomputable def b77 : Code := match Try.f77.body with | some c => c | none => .skip
theorem t77 : trCode ⟨Try.prog, K77, [], 6, none⟩ b77 = some c77 := by kernel_rfl
theorem go77 {args : List AV} {H : AHeap} {Kk : AV → AHeap → Prop} (hn : args.length = 1) (h : AGo ⟨Try.prog, K77, [], 6, none⟩ H.length [.code c77] (RetP [.t (.g 2)] H.length Kk) ⟨[], argsG 0 args⟩ H) : ACalls Try.prog 77 args H Kk :=
  ACalls_of Try.func77 (c := b77) rfl (by kernel_rfl) t77 (rs := [.t (.g 2)]) (by kernel_rfl) (by rw [hn]; exact Nat.le_of_ble_eq_true rfl) (by rw [hn]; rfl) (h.weaken (fun _ _ => RetP.hands) (by simp))

/-- slices.insertionSortCmpFunc[sastrugi/api.Mark] -/
def c93 : ACode :=
  (.seq
(.reg [
  ⟨(some (false, 10)), .mv (.g 1), none⟩,
  ⟨(some (false, 11)), .bin .add (.l 10) (.c (.lit (.int .i64 1))), none⟩,
  ⟨(some (true, 8)), .mv (.l 11), none⟩])
(.block 0
(.loop
(.seq
(.seq
(.reg [
  ⟨(some (false, 12)), .mv (.g 8), none⟩,
  ⟨(some (false, 13)), .mv (.g 2), none⟩,
  ⟨(some (true, 14)), .bin .lss (.l 12) (.l 13), none⟩])
(.cond (.g 14)
.skip
(.exit 0)))
(.seq
(.block 1
(.seq
(.reg [
  ⟨(some (false, 17)), .mv (.g 8), none⟩,
  ⟨(some (true, 9)), .mv (.l 17), none⟩])
(.block 2
(.loop
(.seq
(.seq
(.draw [
  ⟨⟨(some (false, 18)), .mv (.g 9), none⟩, 0, true, []⟩,
  ⟨⟨(some (false, 19)), .mv (.g 1), none⟩, 1, true, []⟩,
  ⟨⟨(some (false, 20)), .bin .gtr (.l 18) (.l 19), none⟩, 2, true, []⟩,
  ⟨⟨(some (false, 21)), .mv (.l 20), none⟩, 3, true, []⟩,
  ⟨⟨(some (false, 22)), .mv (.g 3), (some (.l 21, true))⟩, 4, true, []⟩,
  ⟨⟨(some (false, 23)), .mv (.g 0), (some (.l 21, true))⟩, 5, true, []⟩,
  ⟨⟨(some (false, 24)), .mv (.g 9), (some (.l 21, true))⟩, 6, true, []⟩,
  ⟨⟨(some (false, 25)), .ia 5 (.l 23) (.l 24), (some (.l 21, true))⟩, 7, true, []⟩,
  ⟨⟨(some (false, 26)), .ld (some 5) (.l 25), (some (.l 21, true))⟩, 8, true, []⟩,
  ⟨⟨(some (false, 27)), .mv (.g 0), (some (.l 21, true))⟩, 9, true, []⟩,
  ⟨⟨(some (false, 28)), .mv (.g 9), (some (.l 21, true))⟩, 10, true, []⟩,
  ⟨⟨(some (false, 29)), .bin .sub (.l 28) (.c (.lit (.int .i64 1))), (some (.l 21, true))⟩, 11, true, []⟩,
  ⟨⟨(some (false, 30)), .ia 5 (.l 27) (.l 29), (some (.l 21, true))⟩, 12, true, []⟩,
  ⟨⟨(some (false, 31)), .ld (some 5) (.l 30), (some (.l 21, true))⟩, 13, true, []⟩,
  ⟨⟨(some (false, 32)), .call (.l 22) [.l 26, .l 31], (some (.l 21, true))⟩, 14, false, []⟩,
  ⟨⟨(some (false, 33)), .bin .lss (.l 32) (.c (.lit (.int .i64 0))), (some (.l 21, true))⟩, 15, true, []⟩,
  ⟨⟨(some (true, 34)), .pick (.l 21) (.l 33) (.c (.lit (.bool false))), none⟩, 16, true, []⟩])
(.cond (.g 34)
.skip
(.exit 2)))
(.seq
(.block 3
(.draw [
  ⟨⟨(some (false, 37)), .mv (.g 0), none⟩, 0, true, []⟩,
  ⟨⟨(some (false, 38)), .mv (.g 9), none⟩, 1, true, []⟩,
  ⟨⟨(some (false, 39)), .mv (.g 0), none⟩, 2, false, []⟩,
  ⟨⟨(some (false, 40)), .mv (.g 9), none⟩, 3, false, []⟩,
  ⟨⟨(some (false, 41)), .bin .sub (.l 40) (.c (.lit (.int .i64 1))), none⟩, 4, false, []⟩,
  ⟨⟨(some (false, 42)), .mv (.g 0), none⟩, 5, true, []⟩,
  ⟨⟨(some (false, 43)), .mv (.g 9), none⟩, 6, true, []⟩,
  ⟨⟨(some (false, 44)), .bin .sub (.l 43) (.c (.lit (.int .i64 1))), none⟩, 7, true, []⟩,
  ⟨⟨(some (false, 45)), .ia 5 (.l 42) (.l 44), none⟩, 8, true, []⟩,
  ⟨⟨(some (false, 46)), .ld (some 5) (.l 45), none⟩, 9, true, []⟩,
  ⟨⟨(some (false, 47)), .mv (.g 0), none⟩, 10, false, []⟩,
  ⟨⟨(some (false, 48)), .mv (.g 9), none⟩, 11, false, []⟩,
  ⟨⟨(some (false, 49)), .ia 5 (.l 47) (.l 48), none⟩, 12, true, []⟩,
  ⟨⟨(some (false, 50)), .ld (some 5) (.l 49), none⟩, 13, true, []⟩,
  ⟨⟨(some (false, 51)), .ia 5 (.l 37) (.l 38), none⟩, 14, true, []⟩,
  ⟨⟨none, .st 5 (.l 51) (.l 46), none⟩, 15, false, []⟩,
  ⟨⟨(some (false, 52)), .ia 5 (.l 39) (.l 41), none⟩, 16, false, []⟩,
  ⟨⟨none, .st 5 (.l 52) (.l 50), none⟩, 17, true, []⟩]))
(.reg [
  ⟨(some (false, 35)), .mv (.g 9), none⟩,
  ⟨(some (false, 36)), .bin .sub (.l 35) (.c (.lit (.int .i64 1))), none⟩,
  ⟨(some (true, 9)), .mv (.l 36), none⟩])))))))
(.reg [
  ⟨(some (false, 15)), .mv (.g 8), none⟩,
  ⟨(some (false, 16)), .bin .add (.l 15) (.c (.lit (.int .i64 1))), none⟩,
  ⟨(some (true, 8)), .mv (.l 16), none⟩]))))))
def K93 : List Nat := [0, 1, 2, 3, 14, 34, 8, 9]
noncomputable def b93 : Code := match Try.f93.body with | some c => c | none => .skip
theorem t93 : trCode ⟨Try.prog, K93, [], 53, none⟩ b93 = some c93 := by kernel_rfl
theorem go93 {args : List AV} {H : AHeap} {Kk : AV → AHeap → Prop} (hn : args.length = 4) (h : AGo ⟨Try.prog, K93, [], 53, none⟩ H.length [.code c93] (RetP [] H.length Kk) ⟨[], argsG 0 args⟩ H) : ACalls Try.prog 93 args H Kk :=
  ACalls_of Try.func93 (c := b93) rfl (by kernel_rfl) t93 (rs := []) (by kernel_rfl) (by rw [hn]; exact Nat.le_of_ble_eq_true rfl) (by rw [hn]; rfl) (h.weaken (fun _ _ => RetP.hands) (by simp))

end Go.Sas

