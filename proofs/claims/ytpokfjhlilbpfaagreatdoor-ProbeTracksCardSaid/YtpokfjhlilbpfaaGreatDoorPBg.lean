/-
The code of some functions with its types resolved, printed by a program; that it is the code is checked by the kernel.

The code of some functions with its types resolved, printed by a program; that it is the code is checked by the kernel.
Conditions: none.
-/
import Derived.Test.YtpokfjhlilbpfaaGreatDoorP4g
import Derived.Test.YtpokfjhlilbpfaaGreatDoorProg
set_option linter.unusedVariables false
set_option linter.unusedSimpArgs false
namespace Go.Sas
open Go.Proofs
set_option maxRecDepth 100000
/-- sastrugi/probe.Check -/
def c55 : ACode :=
  (.seq
(.reg [
  ⟨(some (true, 1)), .box (.g 0), none⟩,
  ⟨(some (true, 2)), .mv (.c (.lit (.int .i64 0))), none⟩])
(.seq
(.block 0
(.seq
(.reg [
  ⟨(some (false, 8)), .fa (.g 1) 0, none⟩,
  ⟨(some (false, 9)), .ld none (.l 8), none⟩,
  ⟨(some (false, 10)), .len (.l 9), none⟩,
  ⟨(some (false, 11)), .bin .eql (.l 10) (.c (.lit (.int .i64 0))), none⟩,
  ⟨(some (true, 7)), .mv (.l 11), none⟩])
(.cond (.g 7)
(.seq
(.reg [
  ⟨(some (true, 2)), .mv (.c (.lit (.int .i64 6))), none⟩])
.ret)
(.seq
(.reg [
  ⟨(some (false, 13)), .fa (.g 1) 0, none⟩,
  ⟨(some (false, 14)), .ld none (.l 13), none⟩,
  ⟨(some (false, 15)), .len (.l 14), none⟩,
  ⟨(some (false, 16)), .bin .gtr (.l 15) (.c (.lit (.int .i64 20))), none⟩,
  ⟨(some (true, 12)), .mv (.l 16), none⟩])
(.cond (.g 12)
(.seq
(.reg [
  ⟨(some (true, 2)), .mv (.c (.lit (.int .i64 8))), none⟩])
.ret)
.skip)))))
(.seq
(.seq
(.reg [
  ⟨(some (false, 17)), .fa (.g 1) 0, none⟩,
  ⟨(some (true, 18)), .ld none (.l 17), none⟩,
  ⟨(some (true, 19)), .len (.g 18), none⟩,
  ⟨(some (true, 20)), .mv (.c (.lit (.int .i64 0))), none⟩])
(.block 1
(.loop
(.seq
(.reg [
  ⟨(some (true, 21)), .bin .lss (.g 20) (.g 19), none⟩])
(.seq
(.cond (.g 21)
.skip
(.exit 1))
(.seq
(.block 2
(.seq
(.reg [
  ⟨(some (false, 22)), .ia 5 (.g 18) (.g 20), none⟩,
  ⟨(some (false, 23)), .ld (some 5) (.l 22), none⟩,
  ⟨(some (true, 4)), .new [.int .i64 0, .int .i64 0, .int .i64 0, .int .i64 0, .int .i64 0], none⟩,
  ⟨none, .st 5 (.g 4) (.l 23), none⟩])
(.seq
(.reg [
  ⟨(some (false, 24)), .fa (.g 4) 0, none⟩,
  ⟨(some (false, 25)), .ld none (.l 24), none⟩,
  ⟨(some (false, 26)), .call (.c (.fn 41 [])) [.l 25, .c (.lit (.int .i64 1)), .c (.lit (.int .i64 1000))], none⟩,
  ⟨(some (false, 27)), .un .not (.l 26), none⟩,
  ⟨(some (false, 28)), .mv (.l 27), none⟩,
  ⟨(some (false, 29)), .fa (.g 4) 1, (some (.l 28, false))⟩,
  ⟨(some (false, 30)), .ld none (.l 29), (some (.l 28, false))⟩,
  ⟨(some (false, 31)), .call (.c (.fn 41 [])) [.l 30, .c (.lit (.int .i64 0)), .c (.lit (.int .i64 3000))], (some (.l 28, false))⟩,
  ⟨(some (false, 32)), .un .not (.l 31), (some (.l 28, false))⟩,
  ⟨(some (false, 33)), .pick (.l 28) (.c (.lit (.bool true))) (.l 32), none⟩,
  ⟨(some (false, 34)), .mv (.l 33), none⟩,
  ⟨(some (false, 35)), .fa (.g 4) 2, (some (.l 34, false))⟩,
  ⟨(some (false, 36)), .ld none (.l 35), (some (.l 34, false))⟩,
  ⟨(some (false, 37)), .call (.c (.fn 41 [])) [.l 36, .c (.lit (.int .i64 0)), .c (.lit (.int .i64 1000))], (some (.l 34, false))⟩,
  ⟨(some (false, 38)), .un .not (.l 37), (some (.l 34, false))⟩,
  ⟨(some (false, 39)), .pick (.l 34) (.c (.lit (.bool true))) (.l 38), none⟩,
  ⟨(some (false, 40)), .mv (.l 39), none⟩,
  ⟨(some (false, 41)), .fa (.g 4) 3, (some (.l 40, false))⟩,
  ⟨(some (false, 42)), .ld none (.l 41), (some (.l 40, false))⟩,
  ⟨(some (false, 43)), .call (.c (.fn 41 [])) [.l 42, .c (.lit (.int .i64 0)), .c (.lit (.int .i64 1000))], (some (.l 40, false))⟩,
  ⟨(some (false, 44)), .un .not (.l 43), (some (.l 40, false))⟩,
  ⟨(some (false, 45)), .pick (.l 40) (.c (.lit (.bool true))) (.l 44), none⟩,
  ⟨(some (false, 46)), .mv (.l 45), none⟩,
  ⟨(some (false, 47)), .fa (.g 4) 4, (some (.l 46, false))⟩,
  ⟨(some (false, 48)), .ld none (.l 47), (some (.l 46, false))⟩,
  ⟨(some (false, 49)), .call (.c (.fn 41 [])) [.l 48, .c (.lit (.int .i64 0)), .c (.lit (.int .i64 10000))], (some (.l 46, false))⟩,
  ⟨(some (false, 50)), .un .not (.l 49), (some (.l 46, false))⟩,
  ⟨(some (true, 51)), .pick (.l 46) (.c (.lit (.bool true))) (.l 50), none⟩])
(.cond (.g 51)
(.seq
(.reg [
  ⟨(some (true, 2)), .mv (.c (.lit (.int .i64 2))), none⟩])
.ret)
.skip))))
(.reg [
  ⟨(some (false, 52)), .bin .add (.g 20) (.c (.lit (.int .i64 1))), none⟩,
  ⟨(some (true, 20)), .mv (.l 52), none⟩])))))))
(.seq
(.seq
(.reg [
  ⟨(some (false, 53)), .ld (some 4) (.g 1), none⟩,
  ⟨(some (false, 54)), .call (.c (.fn 70 [])) [.l 53], none⟩,
  ⟨(some (true, 55)), .bin .gtr (.l 54) (.c (.lit (.int .i64 1000))), none⟩])
(.cond (.g 55)
(.seq
(.reg [
  ⟨(some (true, 2)), .mv (.c (.lit (.int .i64 8))), none⟩])
.ret)
.skip))
(.seq
(.seq
(.reg [
  ⟨(some (false, 56)), .fa (.g 1) 1, none⟩,
  ⟨(some (true, 57)), .ld (some 3) (.l 56), none⟩,
  ⟨(some (true, 58)), .mv (.c (.lit (.int .i64 0))), none⟩])
(.block 3
(.loop
(.seq
(.reg [
  ⟨(some (true, 59)), .bin .lss (.g 58) (.c (.lit (.int .i64 3))), none⟩])
(.seq
(.cond (.g 59)
.skip
(.exit 3))
(.seq
(.block 4
(.seq
(.reg [
  ⟨(some (false, 60)), .ix 3 1 none (.g 57) (.g 58), none⟩,
  ⟨(some (true, 6)), .mv (.l 60), none⟩])
(.seq
(.reg [
  ⟨(some (false, 61)), .mv (.g 6), none⟩,
  ⟨(some (false, 62)), .call (.c (.fn 41 [])) [.l 61, .c (.lit (.int .i64 0)), .c (.lit (.int .i64 50))], none⟩,
  ⟨(some (true, 63)), .un .not (.l 62), none⟩])
(.cond (.g 63)
(.seq
(.reg [
  ⟨(some (true, 2)), .mv (.c (.lit (.int .i64 2))), none⟩])
.ret)
.skip))))
(.reg [
  ⟨(some (false, 64)), .bin .add (.g 58) (.c (.lit (.int .i64 1))), none⟩,
  ⟨(some (true, 58)), .mv (.l 64), none⟩])))))))
(.seq
(.reg [
  ⟨(some (true, 2)), .mv (.c (.lit (.int .i64 0))), none⟩])
.ret))))))
def K55 : List Nat := [0, 7, 12, 21, 51, 55, 59, 63, 2, 1, 18, 19, 20, 4, 57, 58, 6]
noncomputable def b55 : Code := match Tryz.f55.body with | some c => c | none => .skip
theorem t55 : trCode ⟨Tryz.prog, K55, [], 65, none⟩ b55 = some c55 := by kernel_rfl
theorem go55 {args : List AV} {H : AHeap} {Kk : AV → AHeap → Prop} (hn : args.length = 1) (h : AGo ⟨Tryz.prog, K55, [], 65, none⟩ H.length [.code c55] (RetP [.t (.g 2)] H.length Kk) ⟨[], argsG 0 args⟩ H) : ACalls Tryz.prog 55 args H Kk :=
  ACalls_of Tryz.func55 (c := b55) rfl (by kernel_rfl) t55 (rs := [.t (.g 2)]) (by kernel_rfl) (by rw [hn]; exact Nat.le_of_ble_eq_true rfl) (by rw [hn]; rfl) (h.weaken (fun _ _ => RetP.hands) (by simp))

/-- sastrugi/probe.looked -/
def c40 : ACode :=
  (.seq
(.reg [
  ⟨(some (true, 2)), .box (.g 0), none⟩,
  ⟨(some (true, 4)), .new [.slice none 0 0, .int .i64 0, .int .i64 0, .int .i64 0, .slice none 0 0, .slice none 0 0], none⟩,
  ⟨(some (true, 5)), .mv (.c (.lit (.int .i64 0))), none⟩])
(.seq
(.seq
(.reg [
  ⟨(some (false, 8)), .ld (some 4) (.g 2), none⟩,
  ⟨(some (false, 9)), .call (.c (.fn 55 [])) [.l 8], none⟩,
  ⟨(some (true, 6)), .mv (.l 9), none⟩])
(.seq
(.reg [
  ⟨(some (false, 10)), .mv (.g 6), none⟩,
  ⟨(some (true, 11)), .bin .neq (.l 10) (.c (.lit (.int .i64 0))), none⟩])
(.cond (.g 11)
(.seq
(.reg [
  ⟨(some (false, 12)), .mk [.slice none 0 0, .int .i64 0, .int .i64 0, .int .i64 0, .slice none 0 0, .slice none 0 0] [], none⟩,
  ⟨(some (false, 13)), .mv (.g 6), none⟩,
  ⟨none, .st 6 (.g 4) (.l 12), none⟩,
  ⟨(some (true, 5)), .mv (.l 13), none⟩])
.ret)
.skip)))
(.seq
(.reg [
  ⟨(some (false, 14)), .ld (some 4) (.g 2), none⟩,
  ⟨(some (false, 15)), .call (.c (.fn 56 [])) [.l 14], none⟩,
  ⟨(some (true, 7)), .new [.slice none 0 0, .int .i64 0, .int .i64 0, .int .i64 0, .slice none 0 0, .slice none 0 0], none⟩,
  ⟨none, .st 6 (.g 7) (.l 15), none⟩])
(.seq
(.draw [
  ⟨⟨(some (false, 16)), .ld (some 6) (.g 7), none⟩, 0, true, []⟩,
  ⟨⟨(some (false, 17)), .ld (some 6) (.g 7), none⟩, 1, true, []⟩,
  ⟨⟨(some (false, 18)), .mv (.g 1), none⟩, 2, true, []⟩,
  ⟨⟨(some (false, 19)), .call (.c (.fn 57 [])) [.l 17, .l 18], none⟩, 3, false, []⟩,
  ⟨⟨none, .st 6 (.g 4) (.l 16), none⟩, 4, false, []⟩,
  ⟨⟨(some (true, 5)), .mv (.l 19), none⟩, 5, false, []⟩])
.ret))))
def K40 : List Nat := [0, 1, 11, 4, 5, 2, 6, 7]
noncomputable def b40 : Code := match Tryz.f40.body with | some c => c | none => .skip
theorem t40 : trCode ⟨Tryz.prog, K40, [], 20, none⟩ b40 = some c40 := by kernel_rfl
theorem go40 {args : List AV} {H : AHeap} {Kk : AV → AHeap → Prop} (hn : args.length = 2) (h : AGo ⟨Tryz.prog, K40, [], 20, none⟩ H.length [.code c40] (RetP [.cell (.g 4) (some 6), .t (.g 5)] H.length Kk) ⟨[], argsG 0 args⟩ H) : ACalls Tryz.prog 40 args H Kk :=
  ACalls_of Tryz.func40 (c := b40) rfl (by kernel_rfl) t40 (rs := [.cell (.g 4) (some 6), .t (.g 5)]) (by kernel_rfl) (by rw [hn]; exact Nat.le_of_ble_eq_true rfl) (by rw [hn]; rfl) (h.weaken (fun _ _ => RetP.hands) (by simp))

/-- sastrugi/probe.in -/
def c41 : ACode :=
  (.seq
(.reg [
  ⟨(some (true, 6)), .mv (.c (.lit (.bool false))), none⟩])
(.seq
(.reg [
  ⟨(some (false, 7)), .mv (.g 1), none⟩,
  ⟨(some (false, 8)), .mv (.g 0), none⟩,
  ⟨(some (false, 9)), .bin .leq (.l 7) (.l 8), none⟩,
  ⟨(some (false, 10)), .mv (.l 9), none⟩,
  ⟨(some (false, 11)), .mv (.g 0), (some (.l 10, true))⟩,
  ⟨(some (false, 12)), .mv (.g 2), (some (.l 10, true))⟩,
  ⟨(some (false, 13)), .bin .leq (.l 11) (.l 12), (some (.l 10, true))⟩,
  ⟨(some (false, 14)), .pick (.l 10) (.l 13) (.c (.lit (.bool false))), none⟩,
  ⟨(some (true, 6)), .mv (.l 14), none⟩])
.ret))
def K41 : List Nat := [0, 1, 2, 6]
noncomputable def b41 : Code := match Tryz.f41.body with | some c => c | none => .skip
theorem t41 : trCode ⟨Tryz.prog, K41, [], 15, none⟩ b41 = some c41 := by kernel_rfl
theorem go41 {args : List AV} {H : AHeap} {Kk : AV → AHeap → Prop} (hn : args.length = 3) (h : AGo ⟨Tryz.prog, K41, [], 15, none⟩ H.length [.code c41] (RetP [.t (.g 6)] H.length Kk) ⟨[], argsG 0 args⟩ H) : ACalls Tryz.prog 41 args H Kk :=
  ACalls_of Tryz.func41 (c := b41) rfl (by kernel_rfl) t41 (rs := [.t (.g 6)]) (by kernel_rfl) (by rw [hn]; exact Nat.le_of_ble_eq_true rfl) (by rw [hn]; rfl) (h.weaken (fun _ _ => RetP.hands) (by simp))

/-- sastrugi/probe.places -/
def c70 : ACode :=
  (.seq
(.reg [
  ⟨(some (true, 1)), .box (.g 0), none⟩,
  ⟨(some (true, 2)), .mv (.c (.lit (.int .i64 0))), none⟩])
(.seq
(.reg [
  ⟨(some (true, 3)), .mv (.c (.lit (.int .i64 0))), none⟩])
(.seq
(.seq
(.reg [
  ⟨(some (false, 6)), .fa (.g 1) 0, none⟩,
  ⟨(some (true, 7)), .ld none (.l 6), none⟩,
  ⟨(some (true, 8)), .len (.g 7), none⟩,
  ⟨(some (true, 9)), .mv (.c (.lit (.int .i64 0))), none⟩])
(.block 0
(.loop
(.seq
(.reg [
  ⟨(some (true, 10)), .bin .lss (.g 9) (.g 8), none⟩])
(.seq
(.cond (.g 10)
.skip
(.exit 0))
(.seq
(.block 1
(.seq
(.reg [
  ⟨(some (false, 11)), .ia 5 (.g 7) (.g 9), none⟩,
  ⟨(some (false, 12)), .ld (some 5) (.l 11), none⟩,
  ⟨(some (true, 5)), .new [.int .i64 0, .int .i64 0, .int .i64 0, .int .i64 0, .int .i64 0], none⟩,
  ⟨none, .st 5 (.g 5) (.l 12), none⟩])
(.reg [
  ⟨(some (false, 13)), .mv (.g 3), none⟩,
  ⟨(some (false, 14)), .fa (.g 5) 0, none⟩,
  ⟨(some (false, 15)), .ld none (.l 14), none⟩,
  ⟨(some (false, 16)), .bin .add (.l 13) (.l 15), none⟩,
  ⟨(some (true, 3)), .mv (.l 16), none⟩])))
(.reg [
  ⟨(some (false, 17)), .bin .add (.g 9) (.c (.lit (.int .i64 1))), none⟩,
  ⟨(some (true, 9)), .mv (.l 17), none⟩])))))))
(.seq
(.reg [
  ⟨(some (false, 18)), .mv (.g 3), none⟩,
  ⟨(some (true, 2)), .mv (.l 18), none⟩])
.ret))))
def K70 : List Nat := [0, 10, 2, 1, 3, 7, 8, 9, 5]
noncomputable def b70 : Code := match Tryz.f70.body with | some c => c | none => .skip
theorem t70 : trCode ⟨Tryz.prog, K70, [], 19, none⟩ b70 = some c70 := by kernel_rfl
theorem go70 {args : List AV} {H : AHeap} {Kk : AV → AHeap → Prop} (hn : args.length = 1) (h : AGo ⟨Tryz.prog, K70, [], 19, none⟩ H.length [.code c70] (RetP [.t (.g 2)] H.length Kk) ⟨[], argsG 0 args⟩ H) : ACalls Tryz.prog 70 args H Kk :=
  ACalls_of Tryz.func70 (c := b70) rfl (by kernel_rfl) t70 (rs := [.t (.g 2)]) (by kernel_rfl) (by rw [hn]; exact Nat.le_of_ble_eq_true rfl) (by rw [hn]; rfl) (h.weaken (fun _ _ => RetP.hands) (by simp))

/-- sastrugi/probe.groundOf -/
def c56 : ACode :=
  (.seq
(.reg [
  ⟨(some (true, 1)), .box (.g 0), none⟩,
  ⟨(some (true, 2)), .new [.slice none 0 0, .int .i64 0, .int .i64 0, .int .i64 0, .slice none 0 0, .slice none 0 0], none⟩])
(.seq
(.reg [
  ⟨(some (false, 7)), .ld (some 4) (.g 1), none⟩,
  ⟨(some (false, 8)), .mk [.slice none 0 0, .int .i64 0, .int .i64 0, .int .i64 0, .slice none 0 0, .slice none 0 0] [(0, 4, .l 7)], none⟩,
  ⟨(some (true, 3)), .new [.slice none 0 0, .int .i64 0, .int .i64 0, .int .i64 0, .slice none 0 0, .slice none 0 0], none⟩,
  ⟨none, .st 6 (.g 3) (.l 8), none⟩])
(.seq
(.reg [
  ⟨(some (true, 4)), .new [.int .i64 0], none⟩,
  ⟨none, .st 1 (.g 4) (.c (.lit (.int .i64 0))), none⟩])
(.seq
(.seq
(.reg [
  ⟨(some (false, 9)), .ld (some 4) (.g 1), none⟩,
  ⟨(some (true, 10)), .call (.c (.fn 71 [])) [.l 9], none⟩])
(.block 0
(.rng (.g 10) [11, 12]
(.reg [
  ⟨(some (true, 6)), .new [.int .i64 0, .int .i64 0, .int .i64 0, .int .i64 0, .int .i64 0], none⟩,
  ⟨none, .st 5 (.g 6) (.g 12), none⟩])
(.block 1
(.seq
(.draw [
  ⟨⟨(some (false, 13)), .fa (.g 3) 4, none⟩, 0, true, []⟩,
  ⟨⟨(some (false, 14)), .ld none (.l 13), none⟩, 1, true, []⟩,
  ⟨⟨(some (false, 15)), .ld none (.g 4), none⟩, 2, true, []⟩,
  ⟨⟨(some (false, 16)), .mks false 1 [.l 15], none⟩, 3, true, []⟩,
  ⟨⟨(some (false, 18)), .fa (.g 3) 5, none⟩, 5, true, []⟩,
  ⟨⟨(some (false, 19)), .ld none (.l 18), none⟩, 6, true, []⟩,
  ⟨⟨(some (false, 20)), .ld (some 5) (.g 6), none⟩, 7, false, []⟩,
  ⟨⟨(some (false, 21)), .mks false 5 [.l 20], none⟩, 8, true, []⟩,
  ⟨⟨(some (false, 17)), .app 1 8 (.l 14) (.l 16), none⟩, 4, false, []⟩,
  ⟨⟨(some (false, 23)), .fa (.g 3) 4, none⟩, 10, true, []⟩,
  ⟨⟨(some (false, 22)), .app 5 40 (.l 19) (.l 21), none⟩, 9, false, []⟩,
  ⟨⟨none, .st 1 (.l 23) (.l 17), none⟩, 11, false, []⟩,
  ⟨⟨(some (false, 24)), .fa (.g 3) 5, none⟩, 12, false, []⟩,
  ⟨⟨none, .st 1 (.l 24) (.l 22), none⟩, 13, true, []⟩])
(.reg [
  ⟨(some (false, 25)), .ld none (.g 4), none⟩,
  ⟨(some (false, 26)), .fa (.g 6) 1, none⟩,
  ⟨(some (false, 27)), .ld none (.l 26), none⟩,
  ⟨(some (false, 28)), .bin .add (.l 25) (.l 27), none⟩,
  ⟨none, .st 1 (.g 4) (.l 28), none⟩]))))))
(.seq
(.reg [
  ⟨(some (false, 29)), .ld (some 6) (.g 3), none⟩,
  ⟨none, .st 6 (.g 2) (.l 29), none⟩])
.ret)))))
def K56 : List Nat := [0, 10, 11, 12, 2, 1, 3, 4, 6]
noncomputable def b56 : Code := match Tryz.f56.body with | some c => c | none => .skip
theorem t56 : trCode ⟨Tryz.prog, K56, [], 30, none⟩ b56 = some c56 := by kernel_rfl
theorem go56 {args : List AV} {H : AHeap} {Kk : AV → AHeap → Prop} (hn : args.length = 1) (h : AGo ⟨Tryz.prog, K56, [], 30, none⟩ H.length [.code c56] (RetP [.cell (.g 2) (some 6)] H.length Kk) ⟨[], argsG 0 args⟩ H) : ACalls Tryz.prog 56 args H Kk :=
  ACalls_of Tryz.func56 (c := b56) rfl (by kernel_rfl) t56 (rs := [.cell (.g 2) (some 6)]) (by kernel_rfl) (by rw [hn]; exact Nat.le_of_ble_eq_true rfl) (by rw [hn]; rfl) (h.weaken (fun _ _ => RetP.hands) (by simp))

/-- sastrugi/probe.checkLooks -/
def c57 : ACode :=
  (.seq
(.reg [
  ⟨(some (true, 2)), .box (.g 0), none⟩,
  ⟨(some (true, 4)), .mv (.c (.lit (.int .i64 0))), none⟩])
(.seq
(.seq
(.reg [
  ⟨(some (false, 11)), .mv (.g 1), none⟩,
  ⟨(some (false, 12)), .len (.l 11), none⟩,
  ⟨(some (true, 13)), .bin .gtr (.l 12) (.c (.lit (.int .i64 200))), none⟩])
(.cond (.g 13)
(.seq
(.reg [
  ⟨(some (true, 4)), .mv (.c (.lit (.int .i64 8))), none⟩])
.ret)
.skip))
(.seq
(.seq
(.reg [
  ⟨(some (true, 14)), .mv (.g 1), none⟩,
  ⟨(some (true, 15)), .len (.g 14), none⟩,
  ⟨(some (true, 16)), .mv (.c (.lit (.int .i64 0))), none⟩])
(.block 0
(.loop
(.seq
(.reg [
  ⟨(some (true, 17)), .bin .lss (.g 16) (.g 15), none⟩])
(.seq
(.cond (.g 17)
.skip
(.exit 0))
(.seq
(.block 1
(.seq
(.reg [
  ⟨(some (false, 18)), .ia 5 (.g 14) (.g 16), none⟩,
  ⟨(some (false, 19)), .ld (some 5) (.l 18), none⟩,
  ⟨(some (true, 6)), .new [.int .i64 0, .int .i64 0, .int .i64 0, .int .i64 0, .int .i64 0], none⟩,
  ⟨none, .st 5 (.g 6) (.l 19), none⟩])
(.block 2
(.seq
(.reg [
  ⟨(some (false, 21)), .fa (.g 6) 0, none⟩,
  ⟨(some (false, 22)), .ld none (.l 21), none⟩,
  ⟨(some (false, 23)), .call (.c (.fn 41 [])) [.l 22, .c (.lit (.int .i64 1)), .c (.lit (.int .i64 3))], none⟩,
  ⟨(some (false, 24)), .un .not (.l 23), none⟩,
  ⟨(some (true, 20)), .mv (.l 24), none⟩])
(.cond (.g 20)
(.seq
(.reg [
  ⟨(some (true, 4)), .mv (.c (.lit (.int .i64 4))), none⟩])
.ret)
(.seq
(.reg [
  ⟨(some (false, 26)), .fa (.g 6) 1, none⟩,
  ⟨(some (false, 27)), .ld none (.l 26), none⟩,
  ⟨(some (false, 28)), .fa (.g 2) 5, none⟩,
  ⟨(some (false, 29)), .ld none (.l 28), none⟩,
  ⟨(some (false, 30)), .len (.l 29), none⟩,
  ⟨(some (false, 31)), .bin .sub (.l 30) (.c (.lit (.int .i64 1))), none⟩,
  ⟨(some (false, 32)), .call (.c (.fn 41 [])) [.l 27, .c (.lit (.int .i64 0)), .l 31], none⟩,
  ⟨(some (false, 33)), .un .not (.l 32), none⟩,
  ⟨(some (true, 25)), .mv (.l 33), none⟩])
(.cond (.g 25)
(.seq
(.reg [
  ⟨(some (true, 4)), .mv (.c (.lit (.int .i64 7))), none⟩])
.ret)
(.seq
(.reg [
  ⟨(some (false, 35)), .fa (.g 6) 2, none⟩,
  ⟨(some (false, 36)), .ld none (.l 35), none⟩,
  ⟨(some (false, 37)), .call (.c (.fn 41 [])) [.l 36, .c (.lit (.int .i64 0)), .c (.lit (.int .i64 10000))], none⟩,
  ⟨(some (false, 38)), .un .not (.l 37), none⟩,
  ⟨(some (false, 39)), .mv (.l 38), none⟩,
  ⟨(some (false, 40)), .fa (.g 6) 3, (some (.l 39, false))⟩,
  ⟨(some (false, 41)), .fa (.l 40) 0, (some (.l 39, false))⟩,
  ⟨(some (false, 42)), .ld none (.l 41), (some (.l 39, false))⟩,
  ⟨(some (false, 43)), .call (.c (.fn 41 [])) [.l 42, .c (.lit (.int .i64 0)), .c (.lit (.int .i64 3000))], (some (.l 39, false))⟩,
  ⟨(some (false, 44)), .un .not (.l 43), (some (.l 39, false))⟩,
  ⟨(some (false, 45)), .pick (.l 39) (.c (.lit (.bool true))) (.l 44), none⟩,
  ⟨(some (false, 46)), .mv (.l 45), none⟩,
  ⟨(some (false, 47)), .fa (.g 6) 3, (some (.l 46, false))⟩,
  ⟨(some (false, 48)), .fa (.l 47) 1, (some (.l 46, false))⟩,
  ⟨(some (false, 49)), .ld none (.l 48), (some (.l 46, false))⟩,
  ⟨(some (false, 50)), .call (.c (.fn 41 [])) [.l 49, .c (.lit (.int .i64 0)), .c (.lit (.int .i64 3000))], (some (.l 46, false))⟩,
  ⟨(some (false, 51)), .un .not (.l 50), (some (.l 46, false))⟩,
  ⟨(some (false, 52)), .pick (.l 46) (.c (.lit (.bool true))) (.l 51), none⟩,
  ⟨(some (true, 34)), .mv (.l 52), none⟩])
(.cond (.g 34)
(.seq
(.reg [
  ⟨(some (true, 4)), .mv (.c (.lit (.int .i64 2))), none⟩])
.ret)
(.seq
(.reg [
  ⟨(some (false, 54)), .fa (.g 6) 3, none⟩,
  ⟨(some (false, 55)), .fa (.l 54) 0, none⟩,
  ⟨(some (false, 56)), .ld none (.l 55), none⟩,
  ⟨(some (false, 57)), .fa (.g 6) 3, none⟩,
  ⟨(some (false, 58)), .fa (.l 57) 1, none⟩,
  ⟨(some (false, 59)), .ld none (.l 58), none⟩,
  ⟨(some (false, 60)), .bin .gtr (.l 56) (.l 59), none⟩,
  ⟨(some (true, 53)), .mv (.l 60), none⟩])
(.cond (.g 53)
(.seq
(.reg [
  ⟨(some (true, 4)), .mv (.c (.lit (.int .i64 11))), none⟩])
.ret)
.skip)))))))))))
(.reg [
  ⟨(some (false, 61)), .bin .add (.g 16) (.c (.lit (.int .i64 1))), none⟩,
  ⟨(some (true, 16)), .mv (.l 61), none⟩])))))))
(.seq
(.seq
(.reg [
  ⟨(some (true, 62)), .mv (.g 1), none⟩,
  ⟨(some (true, 63)), .len (.g 62), none⟩,
  ⟨(some (true, 64)), .mv (.c (.lit (.int .i64 0))), none⟩])
(.block 3
(.loop
(.seq
(.reg [
  ⟨(some (true, 65)), .bin .lss (.g 64) (.g 63), none⟩])
(.seq
(.cond (.g 65)
.skip
(.exit 3))
(.seq
(.block 4
(.seq
(.reg [
  ⟨(some (false, 66)), .ia 5 (.g 62) (.g 64), none⟩,
  ⟨(some (false, 67)), .ld (some 5) (.l 66), none⟩,
  ⟨(some (true, 8)), .new [.int .i64 0, .int .i64 0, .int .i64 0, .int .i64 0, .int .i64 0], none⟩,
  ⟨none, .st 5 (.g 8) (.l 67), none⟩])
(.seq
(.reg [
  ⟨(some (true, 68)), .mv (.g 1), none⟩,
  ⟨(some (true, 69)), .len (.g 68), none⟩,
  ⟨(some (true, 70)), .mv (.c (.lit (.int .i64 0))), none⟩])
(.block 5
(.loop
(.seq
(.reg [
  ⟨(some (true, 71)), .bin .lss (.g 70) (.g 69), none⟩])
(.seq
(.cond (.g 71)
.skip
(.exit 5))
(.seq
(.block 6
(.seq
(.reg [
  ⟨(some (false, 72)), .ia 5 (.g 68) (.g 70), none⟩,
  ⟨(some (false, 73)), .ld (some 5) (.l 72), none⟩,
  ⟨(some (true, 10)), .new [.int .i64 0, .int .i64 0, .int .i64 0, .int .i64 0, .int .i64 0], none⟩,
  ⟨none, .st 5 (.g 10) (.l 73), none⟩])
(.seq
(.draw [
  ⟨⟨(some (false, 74)), .fa (.g 10) 3, none⟩, 0, true, []⟩,
  ⟨⟨(some (false, 75)), .fa (.l 74) 0, none⟩, 1, true, []⟩,
  ⟨⟨(some (false, 76)), .ld none (.l 75), none⟩, 2, true, []⟩,
  ⟨⟨(some (false, 77)), .fa (.g 8) 3, none⟩, 3, true, []⟩,
  ⟨⟨(some (false, 78)), .fa (.l 77) 1, none⟩, 4, true, []⟩,
  ⟨⟨(some (false, 79)), .ld none (.l 78), none⟩, 5, true, []⟩,
  ⟨⟨(some (false, 80)), .ld (some 6) (.g 2), none⟩, 6, true, []⟩,
  ⟨⟨(some (false, 81)), .ld (some 5) (.g 8), none⟩, 7, true, []⟩,
  ⟨⟨(some (false, 82)), .fa (.g 10) 1, none⟩, 8, true, []⟩,
  ⟨⟨(some (false, 83)), .ld none (.l 82), none⟩, 9, true, []⟩,
  ⟨⟨(some (false, 84)), .fa (.g 10) 2, none⟩, 10, true, []⟩,
  ⟨⟨(some (false, 85)), .ld none (.l 84), none⟩, 11, true, []⟩,
  ⟨⟨(some (false, 86)), .call (.c (.fn 59 [])) [.l 80, .l 81, .l 83, .l 85], none⟩, 12, false, []⟩,
  ⟨⟨(some (false, 87)), .bin .add (.l 79) (.l 86), none⟩, 13, true, []⟩,
  ⟨⟨(some (true, 88)), .bin .gtr (.l 76) (.l 87), none⟩, 14, true, []⟩])
(.cond (.g 88)
(.seq
(.reg [
  ⟨(some (true, 4)), .mv (.c (.lit (.int .i64 12))), none⟩])
.ret)
.skip))))
(.reg [
  ⟨(some (false, 89)), .bin .add (.g 70) (.c (.lit (.int .i64 1))), none⟩,
  ⟨(some (true, 70)), .mv (.l 89), none⟩])))))))))
(.reg [
  ⟨(some (false, 90)), .bin .add (.g 64) (.c (.lit (.int .i64 1))), none⟩,
  ⟨(some (true, 64)), .mv (.l 90), none⟩])))))))
(.seq
(.reg [
  ⟨(some (true, 4)), .mv (.c (.lit (.int .i64 0))), none⟩])
.ret)))))
def K57 : List Nat := [0, 1, 13, 17, 20, 25, 34, 53, 65, 71, 88, 4, 2, 14, 15, 16, 6, 62, 63, 64, 8, 68, 69, 70, 10]
noncomputable def b57 : Code := match Tryz.f57.body with | some c => c | none => .skip
theorem t57 : trCode ⟨Tryz.prog, K57, [], 91, none⟩ b57 = some c57 := by kernel_rfl
theorem go57 {args : List AV} {H : AHeap} {Kk : AV → AHeap → Prop} (hn : args.length = 2) (h : AGo ⟨Tryz.prog, K57, [], 91, none⟩ H.length [.code c57] (RetP [.t (.g 4)] H.length Kk) ⟨[], argsG 0 args⟩ H) : ACalls Tryz.prog 57 args H Kk :=
  ACalls_of Tryz.func57 (c := b57) rfl (by kernel_rfl) t57 (rs := [.t (.g 4)]) (by kernel_rfl) (by rw [hn]; exact Nat.le_of_ble_eq_true rfl) (by rw [hn]; rfl) (h.weaken (fun _ _ => RetP.hands) (by simp))

/-- (sastrugi/probe.ground).below -/
def c58 : ACode :=
  (.seq
(.reg [
  ⟨(some (true, 4)), .box (.g 0), none⟩,
  ⟨(some (true, 5)), .box (.g 1), none⟩,
  ⟨(some (true, 8)), .mv (.c (.lit (.int .i64 0))), none⟩])
(.seq
(.seq
(.reg [
  ⟨(some (false, 9)), .mv (.g 3), none⟩,
  ⟨(some (false, 10)), .fa (.g 5) 2, none⟩,
  ⟨(some (false, 11)), .ld none (.l 10), none⟩,
  ⟨(some (true, 12)), .bin .geq (.l 9) (.l 11), none⟩])
(.cond (.g 12)
(.seq
(.reg [
  ⟨(some (false, 13)), .ld (some 6) (.g 4), none⟩,
  ⟨(some (false, 14)), .fa (.g 5) 1, none⟩,
  ⟨(some (false, 15)), .ld none (.l 14), none⟩,
  ⟨(some (false, 16)), .mv (.g 2), none⟩,
  ⟨(some (false, 17)), .mv (.g 3), none⟩,
  ⟨(some (false, 18)), .fa (.g 5) 2, none⟩,
  ⟨(some (false, 19)), .ld none (.l 18), none⟩,
  ⟨(some (false, 20)), .bin .sub (.l 17) (.l 19), none⟩,
  ⟨(some (false, 21)), .call (.c (.fn 72 [])) [.l 13, .l 15, .l 16, .l 20, .c (.fn 73 [])], none⟩,
  ⟨(some (true, 8)), .mv (.l 21), none⟩])
.ret)
.skip))
(.seq
(.reg [
  ⟨(some (false, 22)), .ld (some 6) (.g 4), none⟩,
  ⟨(some (false, 23)), .fa (.g 5) 1, none⟩,
  ⟨(some (false, 24)), .ld none (.l 23), none⟩,
  ⟨(some (false, 25)), .mv (.g 2), none⟩,
  ⟨(some (false, 26)), .fa (.g 5) 2, none⟩,
  ⟨(some (false, 27)), .ld none (.l 26), none⟩,
  ⟨(some (false, 28)), .mv (.g 3), none⟩,
  ⟨(some (false, 29)), .bin .sub (.l 27) (.l 28), none⟩,
  ⟨(some (false, 30)), .call (.c (.fn 72 [])) [.l 22, .l 24, .l 25, .l 29, .c (.fn 74 [])], none⟩,
  ⟨(some (true, 8)), .mv (.l 30), none⟩])
.ret)))
def K58 : List Nat := [0, 1, 2, 3, 12, 8, 4, 5]
noncomputable def b58 : Code := match Tryz.f58.body with | some c => c | none => .skip
theorem t58 : trCode ⟨Tryz.prog, K58, [], 31, none⟩ b58 = some c58 := by kernel_rfl
theorem go58 {args : List AV} {H : AHeap} {Kk : AV → AHeap → Prop} (hn : args.length = 4) (h : AGo ⟨Tryz.prog, K58, [], 31, none⟩ H.length [.code c58] (RetP [.t (.g 8)] H.length Kk) ⟨[], argsG 0 args⟩ H) : ACalls Tryz.prog 58 args H Kk :=
  ACalls_of Tryz.func58 (c := b58) rfl (by kernel_rfl) t58 (rs := [.t (.g 8)]) (by kernel_rfl) (by rw [hn]; exact Nat.le_of_ble_eq_true rfl) (by rw [hn]; rfl) (h.weaken (fun _ _ => RetP.hands) (by simp))

/-- (sastrugi/probe.ground).above -/
def c59 : ACode :=
  (.seq
(.reg [
  ⟨(some (true, 4)), .box (.g 0), none⟩,
  ⟨(some (true, 5)), .box (.g 1), none⟩,
  ⟨(some (true, 8)), .mv (.c (.lit (.int .i64 0))), none⟩])
(.seq
(.seq
(.reg [
  ⟨(some (false, 9)), .mv (.g 3), none⟩,
  ⟨(some (false, 10)), .fa (.g 5) 2, none⟩,
  ⟨(some (false, 11)), .ld none (.l 10), none⟩,
  ⟨(some (true, 12)), .bin .geq (.l 9) (.l 11), none⟩])
(.cond (.g 12)
(.seq
(.reg [
  ⟨(some (false, 13)), .ld (some 6) (.g 4), none⟩,
  ⟨(some (false, 14)), .fa (.g 5) 1, none⟩,
  ⟨(some (false, 15)), .ld none (.l 14), none⟩,
  ⟨(some (false, 16)), .mv (.g 2), none⟩,
  ⟨(some (false, 17)), .mv (.g 3), none⟩,
  ⟨(some (false, 18)), .fa (.g 5) 2, none⟩,
  ⟨(some (false, 19)), .ld none (.l 18), none⟩,
  ⟨(some (false, 20)), .bin .sub (.l 17) (.l 19), none⟩,
  ⟨(some (false, 21)), .call (.c (.fn 72 [])) [.l 13, .l 15, .l 16, .l 20, .c (.fn 74 [])], none⟩,
  ⟨(some (true, 8)), .mv (.l 21), none⟩])
.ret)
.skip))
(.seq
(.reg [
  ⟨(some (false, 22)), .ld (some 6) (.g 4), none⟩,
  ⟨(some (false, 23)), .fa (.g 5) 1, none⟩,
  ⟨(some (false, 24)), .ld none (.l 23), none⟩,
  ⟨(some (false, 25)), .mv (.g 2), none⟩,
  ⟨(some (false, 26)), .fa (.g 5) 2, none⟩,
  ⟨(some (false, 27)), .ld none (.l 26), none⟩,
  ⟨(some (false, 28)), .mv (.g 3), none⟩,
  ⟨(some (false, 29)), .bin .sub (.l 27) (.l 28), none⟩,
  ⟨(some (false, 30)), .call (.c (.fn 72 [])) [.l 22, .l 24, .l 25, .l 29, .c (.fn 73 [])], none⟩,
  ⟨(some (true, 8)), .mv (.l 30), none⟩])
.ret)))
def K59 : List Nat := [0, 1, 2, 3, 12, 8, 4, 5]
noncomputable def b59 : Code := match Tryz.f59.body with | some c => c | none => .skip
theorem t59 : trCode ⟨Tryz.prog, K59, [], 31, none⟩ b59 = some c59 := by kernel_rfl
theorem go59 {args : List AV} {H : AHeap} {Kk : AV → AHeap → Prop} (hn : args.length = 4) (h : AGo ⟨Tryz.prog, K59, [], 31, none⟩ H.length [.code c59] (RetP [.t (.g 8)] H.length Kk) ⟨[], argsG 0 args⟩ H) : ACalls Tryz.prog 59 args H Kk :=
  ACalls_of Tryz.func59 (c := b59) rfl (by kernel_rfl) t59 (rs := [.t (.g 8)]) (by kernel_rfl) (by rw [hn]; exact Nat.le_of_ble_eq_true rfl) (by rw [hn]; rfl) (h.weaken (fun _ _ => RetP.hands) (by simp))

/-- sastrugi/probe.road -/
def c71 : ACode :=
  (.seq
(.reg [
  ⟨(some (true, 1)), .box (.g 0), none⟩,
  ⟨(some (true, 2)), .mv (.c (.lit (.nilFunc))), none⟩])
(.seq
(.reg [
  ⟨(some (false, 3)), .mkf 91 [.g 1], none⟩,
  ⟨(some (true, 2)), .mv (.l 3), none⟩])
.ret))
def K71 : List Nat := [0, 2, 1]
noncomputable def b71 : Code := match Tryz.f71.body with | some c => c | none => .skip
theorem t71 : trCode ⟨Tryz.prog, K71, [], 4, none⟩ b71 = some c71 := by kernel_rfl
theorem go71 {args : List AV} {H : AHeap} {Kk : AV → AHeap → Prop} (hn : args.length = 1) (h : AGo ⟨Tryz.prog, K71, [], 4, none⟩ H.length [.code c71] (RetP [.t (.g 2)] H.length Kk) ⟨[], argsG 0 args⟩ H) : ACalls Tryz.prog 71 args H Kk :=
  ACalls_of Tryz.func71 (c := b71) rfl (by kernel_rfl) t71 (rs := [.t (.g 2)]) (by kernel_rfl) (by rw [hn]; exact Nat.le_of_ble_eq_true rfl) (by rw [hn]; rfl) (h.weaken (fun _ _ => RetP.hands) (by simp))

/-- (sastrugi/probe.ground).cost -/
def c72 : ACode :=
  (.seq
(.reg [
  ⟨(some (true, 5)), .box (.g 0), none⟩,
  ⟨(some (true, 6)), .box (.g 1), none⟩,
  ⟨(some (true, 7)), .box (.g 2), none⟩,
  ⟨(some (true, 8)), .box (.g 3), none⟩,
  ⟨(some (true, 9)), .box (.g 4), none⟩,
  ⟨(some (true, 10)), .mv (.c (.lit (.int .i64 0))), none⟩])
(.seq
(.reg [
  ⟨(some (false, 17)), .ld none (.g 6), none⟩,
  ⟨(some (false, 18)), .ld none (.g 7), none⟩,
  ⟨(some (false, 19)), .mn [.l 17, .l 18], none⟩,
  ⟨(some (true, 11)), .mv (.l 19), none⟩])
(.seq
(.reg [
  ⟨(some (false, 20)), .mkf 92 [.g 5, .g 6, .g 7, .g 8, .g 9], none⟩,
  ⟨(some (true, 12)), .mv (.l 20), none⟩])
(.seq
(.reg [
  ⟨(some (false, 21)), .mv (.g 12), none⟩,
  ⟨(some (false, 22)), .ld none (.g 6), none⟩,
  ⟨(some (false, 23)), .call (.l 21) [.l 22], none⟩,
  ⟨(some (true, 13)), .mv (.l 23), none⟩])
(.seq
(.reg [
  ⟨(some (true, 14)), .mv (.c (.lit (.int .i64 0))), none⟩])
(.seq
(.seq
(.reg [
  ⟨(some (false, 24)), .fa (.g 5) 0, none⟩,
  ⟨(some (false, 25)), .fa (.l 24) 0, none⟩,
  ⟨(some (true, 26)), .ld none (.l 25), none⟩,
  ⟨(some (true, 27)), .len (.g 26), none⟩,
  ⟨(some (true, 28)), .mv (.c (.lit (.int .i64 0))), none⟩])
(.block 0
(.loop
(.seq
(.reg [
  ⟨(some (true, 29)), .bin .lss (.g 28) (.g 27), none⟩])
(.seq
(.cond (.g 29)
.skip
(.exit 0))
(.seq
(.block 1
(.seq
(.reg [
  ⟨(some (false, 30)), .ia 5 (.g 26) (.g 28), none⟩,
  ⟨(some (false, 31)), .ld (some 5) (.l 30), none⟩,
  ⟨(some (true, 16)), .new [.int .i64 0, .int .i64 0, .int .i64 0, .int .i64 0, .int .i64 0], none⟩,
  ⟨none, .st 5 (.g 16) (.l 31), none⟩])
(.seq
(.reg [
  ⟨(some (false, 32)), .mv (.g 13), none⟩,
  ⟨(some (false, 33)), .mv (.g 12), none⟩,
  ⟨(some (false, 34)), .mv (.g 11), none⟩,
  ⟨(some (false, 35)), .mv (.g 14), none⟩,
  ⟨(some (false, 36)), .mx [.l 34, .l 35], none⟩,
  ⟨(some (false, 37)), .mv (.g 14), none⟩,
  ⟨(some (false, 38)), .fa (.g 16) 0, none⟩,
  ⟨(some (false, 39)), .ld none (.l 38), none⟩,
  ⟨(some (false, 40)), .bin .add (.l 37) (.l 39), none⟩,
  ⟨(some (false, 41)), .bin .sub (.l 40) (.c (.lit (.int .i64 1))), none⟩,
  ⟨(some (false, 42)), .mn [.l 36, .l 41], none⟩,
  ⟨(some (false, 43)), .call (.l 33) [.l 42], none⟩,
  ⟨(some (false, 44)), .mn [.l 32, .l 43], none⟩,
  ⟨(some (true, 13)), .mv (.l 44), none⟩])
(.reg [
  ⟨(some (false, 45)), .mv (.g 14), none⟩,
  ⟨(some (false, 46)), .fa (.g 16) 0, none⟩,
  ⟨(some (false, 47)), .ld none (.l 46), none⟩,
  ⟨(some (false, 48)), .bin .add (.l 45) (.l 47), none⟩,
  ⟨(some (true, 14)), .mv (.l 48), none⟩]))))
(.reg [
  ⟨(some (false, 49)), .bin .add (.g 28) (.c (.lit (.int .i64 1))), none⟩,
  ⟨(some (true, 28)), .mv (.l 49), none⟩])))))))
(.seq
(.reg [
  ⟨(some (false, 50)), .mv (.g 13), none⟩,
  ⟨(some (true, 10)), .mv (.l 50), none⟩])
.ret)))))))
def K72 : List Nat := [0, 1, 2, 3, 4, 29, 10, 5, 6, 7, 8, 9, 11, 12, 13, 14, 26, 27, 28, 16]
noncomputable def b72 : Code := match Tryz.f72.body with | some c => c | none => .skip
theorem t72 : trCode ⟨Tryz.prog, K72, [], 51, none⟩ b72 = some c72 := by kernel_rfl
theorem go72 {args : List AV} {H : AHeap} {Kk : AV → AHeap → Prop} (hn : args.length = 5) (h : AGo ⟨Tryz.prog, K72, [], 51, none⟩ H.length [.code c72] (RetP [.t (.g 10)] H.length Kk) ⟨[], argsG 0 args⟩ H) : ACalls Tryz.prog 72 args H Kk :=
  ACalls_of Tryz.func72 (c := b72) rfl (by kernel_rfl) t72 (rs := [.t (.g 10)]) (by kernel_rfl) (by rw [hn]; exact Nat.le_of_ble_eq_true rfl) (by rw [hn]; rfl) (h.weaken (fun _ _ => RetP.hands) (by simp))

/-- sastrugi/probe.thin -/
def c73 : ACode :=
  (.seq
(.reg [
  ⟨(some (true, 1)), .box (.g 0), none⟩,
  ⟨(some (true, 2)), .mv (.c (.lit (.int .i64 0))), none⟩])
(.seq
(.reg [
  ⟨(some (false, 3)), .fa (.g 1) 2, none⟩,
  ⟨(some (false, 4)), .ld none (.l 3), none⟩,
  ⟨(some (true, 2)), .mv (.l 4), none⟩])
.ret))
def K73 : List Nat := [0, 2, 1]
noncomputable def b73 : Code := match Tryz.f73.body with | some c => c | none => .skip
theorem t73 : trCode ⟨Tryz.prog, K73, [], 5, none⟩ b73 = some c73 := by kernel_rfl
theorem go73 {args : List AV} {H : AHeap} {Kk : AV → AHeap → Prop} (hn : args.length = 1) (h : AGo ⟨Tryz.prog, K73, [], 5, none⟩ H.length [.code c73] (RetP [.t (.g 2)] H.length Kk) ⟨[], argsG 0 args⟩ H) : ACalls Tryz.prog 73 args H Kk :=
  ACalls_of Tryz.func73 (c := b73) rfl (by kernel_rfl) t73 (rs := [.t (.g 2)]) (by kernel_rfl) (by rw [hn]; exact Nat.le_of_ble_eq_true rfl) (by rw [hn]; rfl) (h.weaken (fun _ _ => RetP.hands) (by simp))

/-- sastrugi/probe.grow -/
def c74 : ACode :=
  (.seq
(.reg [
  ⟨(some (true, 1)), .box (.g 0), none⟩,
  ⟨(some (true, 2)), .mv (.c (.lit (.int .i64 0))), none⟩])
(.seq
(.reg [
  ⟨(some (false, 3)), .fa (.g 1) 3, none⟩,
  ⟨(some (false, 4)), .ld none (.l 3), none⟩,
  ⟨(some (true, 2)), .mv (.l 4), none⟩])
.ret))
def K74 : List Nat := [0, 2, 1]
noncomputable def b74 : Code := match Tryz.f74.body with | some c => c | none => .skip
theorem t74 : trCode ⟨Tryz.prog, K74, [], 5, none⟩ b74 = some c74 := by kernel_rfl
theorem go74 {args : List AV} {H : AHeap} {Kk : AV → AHeap → Prop} (hn : args.length = 1) (h : AGo ⟨Tryz.prog, K74, [], 5, none⟩ H.length [.code c74] (RetP [.t (.g 2)] H.length Kk) ⟨[], argsG 0 args⟩ H) : ACalls Tryz.prog 74 args H Kk :=
  ACalls_of Tryz.func74 (c := b74) rfl (by kernel_rfl) t74 (rs := [.t (.g 2)]) (by kernel_rfl) (by rw [hn]; exact Nat.le_of_ble_eq_true rfl) (by rw [hn]; rfl) (h.weaken (fun _ _ => RetP.hands) (by simp))

/-- sastrugi/probe.road$1 -/
def c91 : ACode :=
  (.seq
(.reg [
  ⟨(some (true, 3)), .mv (.c (.lit (.int .i64 0))), none⟩])
(.seq
(.reg [
  ⟨(some (false, 6)), .fa (.g 1) 0, none⟩,
  ⟨(some (true, 7)), .ld none (.l 6), none⟩,
  ⟨(some (true, 8)), .len (.g 7), none⟩,
  ⟨(some (true, 9)), .mv (.c (.lit (.int .i64 0))), none⟩])
(.block 0
(.loop
(.seq
(.reg [
  ⟨(some (true, 10)), .bin .lss (.g 9) (.g 8), none⟩])
(.seq
(.cond (.g 10)
.skip
(.exit 0))
(.seq
(.block 1
(.seq
(.reg [
  ⟨(some (false, 11)), .ia 5 (.g 7) (.g 9), none⟩,
  ⟨(some (false, 12)), .ld (some 5) (.l 11), none⟩,
  ⟨(some (true, 5)), .new [.int .i64 0, .int .i64 0, .int .i64 0, .int .i64 0, .int .i64 0], none⟩,
  ⟨none, .st 5 (.g 5) (.l 12), none⟩])
(.seq
(.reg [
  ⟨(some (false, 13)), .fa (.g 5) 0, none⟩,
  ⟨(some (true, 14)), .ld none (.l 13), none⟩,
  ⟨(some (true, 15)), .mv (.c (.lit (.int .i64 0))), none⟩])
(.block 2
(.loop
(.seq
(.reg [
  ⟨(some (true, 16)), .bin .lss (.g 15) (.g 14), none⟩])
(.seq
(.cond (.g 16)
.skip
(.exit 2))
(.seq
(.block 3
(.seq
(.seq
(.reg [
  ⟨(some (false, 17)), .mv (.g 0), none⟩,
  ⟨(some (false, 18)), .mv (.g 3), none⟩,
  ⟨(some (false, 19)), .ld (some 5) (.g 5), none⟩,
  ⟨(some (false, 20)), .call (.l 17) [.l 18, .l 19], none⟩,
  ⟨(some (true, 21)), .un .not (.l 20), none⟩])
(.cond (.g 21)
.ret
.skip))
(.reg [
  ⟨(some (false, 22)), .mv (.g 3), none⟩,
  ⟨(some (false, 23)), .bin .add (.l 22) (.c (.lit (.int .i64 1))), none⟩,
  ⟨(some (true, 3)), .mv (.l 23), none⟩])))
(.reg [
  ⟨(some (false, 24)), .bin .add (.g 15) (.c (.lit (.int .i64 1))), none⟩,
  ⟨(some (true, 15)), .mv (.l 24), none⟩])))))))))
(.reg [
  ⟨(some (false, 25)), .bin .add (.g 9) (.c (.lit (.int .i64 1))), none⟩,
  ⟨(some (true, 9)), .mv (.l 25), none⟩]))))))))
def K91 : List Nat := [0, 1, 10, 16, 21, 3, 7, 8, 9, 5, 14, 15]
noncomputable def b91 : Code := match Tryz.f91.body with | some c => c | none => .skip
theorem t91 : trCode ⟨Tryz.prog, K91, [], 26, none⟩ b91 = some c91 := by kernel_rfl
theorem go91 {args : List AV} {H : AHeap} {Kk : AV → AHeap → Prop} (hn : args.length = 2) (h : AGo ⟨Tryz.prog, K91, [], 26, none⟩ H.length [.code c91] (RetP [] H.length Kk) ⟨[], argsG 0 args⟩ H) : ACalls Tryz.prog 91 args H Kk :=
  ACalls_of Tryz.func91 (c := b91) rfl (by kernel_rfl) t91 (rs := []) (by kernel_rfl) (by rw [hn]; exact Nat.le_of_ble_eq_true rfl) (by rw [hn]; rfl) (h.weaken (fun _ _ => RetP.hands) (by simp))

/-- (sastrugi/probe.ground).cost$1 -/
def c92 : ACode :=
  (.seq
(.reg [
  ⟨(some (true, 7)), .mv (.c (.lit (.int .i64 0))), none⟩])
(.seq
(.draw [
  ⟨⟨(some (false, 8)), .ld (some 6) (.g 1), none⟩, 0, true, []⟩,
  ⟨⟨(some (false, 9)), .ld none (.g 2), none⟩, 1, true, []⟩,
  ⟨⟨(some (false, 10)), .mv (.g 0), none⟩, 2, true, []⟩,
  ⟨⟨(some (false, 12)), .ld (some 6) (.g 1), none⟩, 4, true, []⟩,
  ⟨⟨(some (false, 13)), .mv (.g 0), none⟩, 5, true, []⟩,
  ⟨⟨(some (false, 14)), .ld none (.g 3), none⟩, 6, true, []⟩,
  ⟨⟨(some (false, 17)), .ld none (.g 4), none⟩, 9, true, []⟩,
  ⟨⟨(some (false, 18)), .ld none (.g 5), none⟩, 10, true, []⟩,
  ⟨⟨(some (false, 19)), .fa (.g 1) 5, none⟩, 11, true, []⟩,
  ⟨⟨(some (false, 20)), .ld none (.l 19), none⟩, 12, true, []⟩,
  ⟨⟨(some (false, 21)), .mv (.g 0), none⟩, 13, true, []⟩,
  ⟨⟨(some (false, 22)), .ia 5 (.l 20) (.l 21), none⟩, 14, true, []⟩,
  ⟨⟨(some (false, 23)), .ld (some 5) (.l 22), none⟩, 15, true, []⟩,
  ⟨⟨(some (false, 11)), .call (.c (.fn 93 [])) [.l 8, .l 9, .l 10], none⟩, 3, false, []⟩,
  ⟨⟨(some (false, 15)), .call (.c (.fn 93 [])) [.l 12, .l 13, .l 14], none⟩, 7, false, []⟩,
  ⟨⟨(some (false, 16)), .bin .add (.l 11) (.l 15), none⟩, 8, true, []⟩,
  ⟨⟨(some (false, 24)), .call (.l 18) [.l 23], none⟩, 16, false, []⟩,
  ⟨⟨(some (false, 25)), .bin .mul (.l 17) (.l 24), none⟩, 17, true, []⟩,
  ⟨⟨(some (false, 26)), .bin .add (.l 16) (.l 25), none⟩, 18, true, []⟩,
  ⟨⟨(some (true, 7)), .mv (.l 26), none⟩, 19, true, []⟩])
.ret))
def K92 : List Nat := [0, 1, 2, 3, 4, 5, 7]
noncomputable def b92 : Code := match Tryz.f92.body with | some c => c | none => .skip
theorem t92 : trCode ⟨Tryz.prog, K92, [], 27, none⟩ b92 = some c92 := by kernel_rfl
theorem go92 {args : List AV} {H : AHeap} {Kk : AV → AHeap → Prop} (hn : args.length = 6) (h : AGo ⟨Tryz.prog, K92, [], 27, none⟩ H.length [.code c92] (RetP [.t (.g 7)] H.length Kk) ⟨[], argsG 0 args⟩ H) : ACalls Tryz.prog 92 args H Kk :=
  ACalls_of Tryz.func92 (c := b92) rfl (by kernel_rfl) t92 (rs := [.t (.g 7)]) (by kernel_rfl) (by rw [hn]; exact Nat.le_of_ble_eq_true rfl) (by rw [hn]; rfl) (h.weaken (fun _ _ => RetP.hands) (by simp))

/-- (sastrugi/probe.ground).apart -/
def c93 : ACode :=
  (.seq
(.reg [
  ⟨(some (true, 3)), .box (.g 0), none⟩,
  ⟨(some (true, 6)), .mv (.c (.lit (.int .i64 0))), none⟩])
(.seq
(.draw [
  ⟨⟨(some (false, 7)), .fa (.g 3) 4, none⟩, 0, true, []⟩,
  ⟨⟨(some (false, 8)), .ld none (.l 7), none⟩, 1, true, []⟩,
  ⟨⟨(some (false, 9)), .mv (.g 1), none⟩, 2, true, []⟩,
  ⟨⟨(some (false, 10)), .ia 1 (.l 8) (.l 9), none⟩, 3, true, []⟩,
  ⟨⟨(some (false, 11)), .ld none (.l 10), none⟩, 4, true, []⟩,
  ⟨⟨(some (false, 12)), .fa (.g 3) 4, none⟩, 5, true, []⟩,
  ⟨⟨(some (false, 13)), .ld none (.l 12), none⟩, 6, true, []⟩,
  ⟨⟨(some (false, 14)), .mv (.g 2), none⟩, 7, true, []⟩,
  ⟨⟨(some (false, 15)), .ia 1 (.l 13) (.l 14), none⟩, 8, true, []⟩,
  ⟨⟨(some (false, 16)), .ld none (.l 15), none⟩, 9, true, []⟩,
  ⟨⟨(some (false, 17)), .bin .sub (.l 11) (.l 16), none⟩, 10, true, []⟩,
  ⟨⟨(some (false, 18)), .fa (.g 3) 4, none⟩, 11, true, []⟩,
  ⟨⟨(some (false, 19)), .ld none (.l 18), none⟩, 12, true, []⟩,
  ⟨⟨(some (false, 20)), .mv (.g 2), none⟩, 13, true, []⟩,
  ⟨⟨(some (false, 21)), .ia 1 (.l 19) (.l 20), none⟩, 14, true, []⟩,
  ⟨⟨(some (false, 22)), .ld none (.l 21), none⟩, 15, true, []⟩,
  ⟨⟨(some (false, 23)), .fa (.g 3) 4, none⟩, 16, true, []⟩,
  ⟨⟨(some (false, 24)), .ld none (.l 23), none⟩, 17, true, []⟩,
  ⟨⟨(some (false, 25)), .mv (.g 1), none⟩, 18, true, []⟩,
  ⟨⟨(some (false, 26)), .ia 1 (.l 24) (.l 25), none⟩, 19, true, []⟩,
  ⟨⟨(some (false, 27)), .ld none (.l 26), none⟩, 20, true, []⟩,
  ⟨⟨(some (false, 28)), .bin .sub (.l 22) (.l 27), none⟩, 21, true, []⟩,
  ⟨⟨(some (false, 29)), .mx [.l 17, .l 28], none⟩, 22, true, []⟩,
  ⟨⟨(some (true, 6)), .mv (.l 29), none⟩, 23, true, []⟩])
.ret))
def K93 : List Nat := [0, 1, 2, 6, 3]
noncomputable def b93 : Code := match Tryz.f93.body with | some c => c | none => .skip
theorem t93 : trCode ⟨Tryz.prog, K93, [], 30, none⟩ b93 = some c93 := by kernel_rfl
theorem go93 {args : List AV} {H : AHeap} {Kk : AV → AHeap → Prop} (hn : args.length = 3) (h : AGo ⟨Tryz.prog, K93, [], 30, none⟩ H.length [.code c93] (RetP [.t (.g 6)] H.length Kk) ⟨[], argsG 0 args⟩ H) : ACalls Tryz.prog 93 args H Kk :=
  ACalls_of Tryz.func93 (c := b93) rfl (by kernel_rfl) t93 (rs := [.t (.g 6)]) (by kernel_rfl) (by rw [hn]; exact Nat.le_of_ble_eq_true rfl) (by rw [hn]; rfl) (h.weaken (fun _ _ => RetP.hands) (by simp))

/-- (sastrugi/probe.ground).known -/
def c42 : ACode :=
  (.seq
(.reg [
  ⟨(some (true, 4)), .box (.g 0), none⟩,
  ⟨(some (true, 8)), .new [.int .i64 0, .int .i64 0], none⟩])
(.seq
(.reg [
  ⟨(some (false, 12)), .mk [.int .i64 0, .int .i64 0] [(1, 1, .c (.lit (.int .i64 3000)))], none⟩,
  ⟨(some (true, 9)), .new [.int .i64 0, .int .i64 0], none⟩,
  ⟨none, .st 2 (.g 9) (.l 12), none⟩])
(.seq
(.seq
(.reg [
  ⟨(some (true, 13)), .mv (.g 1), none⟩,
  ⟨(some (true, 14)), .len (.g 13), none⟩,
  ⟨(some (true, 15)), .mv (.c (.lit (.int .i64 0))), none⟩])
(.block 0
(.loop
(.seq
(.reg [
  ⟨(some (true, 16)), .bin .lss (.g 15) (.g 14), none⟩])
(.seq
(.cond (.g 16)
.skip
(.exit 0))
(.seq
(.block 1
(.seq
(.reg [
  ⟨(some (false, 17)), .ia 5 (.g 13) (.g 15), none⟩,
  ⟨(some (false, 18)), .ld (some 5) (.l 17), none⟩,
  ⟨(some (true, 11)), .new [.int .i64 0, .int .i64 0, .int .i64 0, .int .i64 0, .int .i64 0], none⟩,
  ⟨none, .st 5 (.g 11) (.l 18), none⟩])
(.seq
(.draw [
  ⟨⟨(some (false, 19)), .fa (.g 9) 0, none⟩, 0, true, []⟩,
  ⟨⟨(some (false, 20)), .ld none (.l 19), none⟩, 1, true, []⟩,
  ⟨⟨(some (false, 21)), .fa (.g 11) 3, none⟩, 2, true, []⟩,
  ⟨⟨(some (false, 22)), .fa (.l 21) 0, none⟩, 3, true, []⟩,
  ⟨⟨(some (false, 23)), .ld none (.l 22), none⟩, 4, true, []⟩,
  ⟨⟨(some (false, 24)), .ld (some 6) (.g 4), none⟩, 5, true, []⟩,
  ⟨⟨(some (false, 25)), .ld (some 5) (.g 11), none⟩, 6, true, []⟩,
  ⟨⟨(some (false, 26)), .mv (.g 2), none⟩, 7, true, []⟩,
  ⟨⟨(some (false, 27)), .mv (.g 3), none⟩, 8, true, []⟩,
  ⟨⟨(some (false, 28)), .call (.c (.fn 58 [])) [.l 24, .l 25, .l 26, .l 27], none⟩, 9, false, []⟩,
  ⟨⟨(some (false, 29)), .bin .sub (.l 23) (.l 28), none⟩, 10, true, []⟩,
  ⟨⟨(some (false, 30)), .mx [.l 20, .l 29], none⟩, 11, true, []⟩,
  ⟨⟨(some (false, 31)), .fa (.g 9) 0, none⟩, 12, true, []⟩,
  ⟨⟨none, .st 1 (.l 31) (.l 30), none⟩, 13, true, []⟩])
(.draw [
  ⟨⟨(some (false, 32)), .fa (.g 9) 1, none⟩, 0, true, []⟩,
  ⟨⟨(some (false, 33)), .ld none (.l 32), none⟩, 1, true, []⟩,
  ⟨⟨(some (false, 34)), .fa (.g 11) 3, none⟩, 2, true, []⟩,
  ⟨⟨(some (false, 35)), .fa (.l 34) 1, none⟩, 3, true, []⟩,
  ⟨⟨(some (false, 36)), .ld none (.l 35), none⟩, 4, true, []⟩,
  ⟨⟨(some (false, 37)), .ld (some 6) (.g 4), none⟩, 5, true, []⟩,
  ⟨⟨(some (false, 38)), .ld (some 5) (.g 11), none⟩, 6, true, []⟩,
  ⟨⟨(some (false, 39)), .mv (.g 2), none⟩, 7, true, []⟩,
  ⟨⟨(some (false, 40)), .mv (.g 3), none⟩, 8, true, []⟩,
  ⟨⟨(some (false, 41)), .call (.c (.fn 59 [])) [.l 37, .l 38, .l 39, .l 40], none⟩, 9, false, []⟩,
  ⟨⟨(some (false, 42)), .bin .add (.l 36) (.l 41), none⟩, 10, true, []⟩,
  ⟨⟨(some (false, 43)), .mn [.l 33, .l 42], none⟩, 11, true, []⟩,
  ⟨⟨(some (false, 44)), .fa (.g 9) 1, none⟩, 12, true, []⟩,
  ⟨⟨none, .st 1 (.l 44) (.l 43), none⟩, 13, true, []⟩]))))
(.reg [
  ⟨(some (false, 45)), .bin .add (.g 15) (.c (.lit (.int .i64 1))), none⟩,
  ⟨(some (true, 15)), .mv (.l 45), none⟩])))))))
(.seq
(.reg [
  ⟨(some (false, 46)), .ld (some 2) (.g 9), none⟩,
  ⟨none, .st 2 (.g 8) (.l 46), none⟩])
.ret))))
def K42 : List Nat := [0, 1, 2, 3, 16, 8, 4, 9, 13, 14, 15, 11]
noncomputable def b42 : Code := match Tryz.f42.body with | some c => c | none => .skip
theorem t42 : trCode ⟨Tryz.prog, K42, [], 47, none⟩ b42 = some c42 := by kernel_rfl
theorem go42 {args : List AV} {H : AHeap} {Kk : AV → AHeap → Prop} (hn : args.length = 4) (h : AGo ⟨Tryz.prog, K42, [], 47, none⟩ H.length [.code c42] (RetP [.cell (.g 8) (some 2)] H.length Kk) ⟨[], argsG 0 args⟩ H) : ACalls Tryz.prog 42 args H Kk :=
  ACalls_of Tryz.func42 (c := b42) rfl (by kernel_rfl) t42 (rs := [.cell (.g 8) (some 2)]) (by kernel_rfl) (by rw [hn]; exact Nat.le_of_ble_eq_true rfl) (by rw [hn]; rfl) (h.weaken (fun _ _ => RetP.hands) (by simp))

/-- sastrugi/probe.Known -/
def c17 : ACode :=
  (.seq
(.reg [
  ⟨(some (true, 4)), .box (.g 0), none⟩,
  ⟨(some (true, 8)), .new [.int .i64 0, .int .i64 0], none⟩,
  ⟨(some (true, 9)), .mv (.c (.lit (.int .i64 0))), none⟩])
(.seq
(.reg [
  ⟨(some (false, 13)), .ld (some 4) (.g 4), none⟩,
  ⟨(some (false, 14)), .mv (.g 1), none⟩,
  ⟨(some (false, 15)), .call (.c (.fn 40 [])) [.l 13, .l 14], none⟩,
  ⟨(some (false, 12)), .mv (.l 15), none⟩,
  ⟨(some (false, 16)), .ex (.l 12) 0, none⟩,
  ⟨(some (false, 17)), .ex (.l 12) 1, none⟩,
  ⟨(some (true, 10)), .new [.slice none 0 0, .int .i64 0, .int .i64 0, .int .i64 0, .slice none 0 0, .slice none 0 0], none⟩,
  ⟨none, .st 6 (.g 10) (.l 16), none⟩,
  ⟨(some (true, 11)), .mv (.l 17), none⟩])
(.seq
(.block 0
(.seq
(.reg [
  ⟨(some (false, 19)), .mv (.g 11), none⟩,
  ⟨(some (false, 20)), .bin .neq (.l 19) (.c (.lit (.int .i64 0))), none⟩,
  ⟨(some (true, 18)), .mv (.l 20), none⟩])
(.cond (.g 18)
(.seq
(.reg [
  ⟨(some (false, 21)), .mk [.int .i64 0, .int .i64 0] [], none⟩,
  ⟨(some (false, 22)), .mv (.g 11), none⟩,
  ⟨none, .st 2 (.g 8) (.l 21), none⟩,
  ⟨(some (true, 9)), .mv (.l 22), none⟩])
.ret)
(.seq
(.reg [
  ⟨(some (false, 24)), .mv (.g 2), none⟩,
  ⟨(some (false, 25)), .fa (.g 10) 5, none⟩,
  ⟨(some (false, 26)), .ld none (.l 25), none⟩,
  ⟨(some (false, 27)), .len (.l 26), none⟩,
  ⟨(some (false, 28)), .bin .sub (.l 27) (.c (.lit (.int .i64 1))), none⟩,
  ⟨(some (false, 29)), .call (.c (.fn 41 [])) [.l 24, .c (.lit (.int .i64 0)), .l 28], none⟩,
  ⟨(some (false, 30)), .un .not (.l 29), none⟩,
  ⟨(some (true, 23)), .mv (.l 30), none⟩])
(.cond (.g 23)
(.seq
(.reg [
  ⟨(some (false, 31)), .mk [.int .i64 0, .int .i64 0] [], none⟩,
  ⟨none, .st 2 (.g 8) (.l 31), none⟩,
  ⟨(some (true, 9)), .mv (.c (.lit (.int .i64 7))), none⟩])
.ret)
(.seq
(.reg [
  ⟨(some (false, 33)), .mv (.g 3), none⟩,
  ⟨(some (false, 34)), .call (.c (.fn 41 [])) [.l 33, .c (.lit (.int .i64 0)), .c (.lit (.int .i64 10000))], none⟩,
  ⟨(some (false, 35)), .un .not (.l 34), none⟩,
  ⟨(some (true, 32)), .mv (.l 35), none⟩])
(.cond (.g 32)
(.seq
(.reg [
  ⟨(some (false, 36)), .mk [.int .i64 0, .int .i64 0] [], none⟩,
  ⟨none, .st 2 (.g 8) (.l 36), none⟩,
  ⟨(some (true, 9)), .mv (.c (.lit (.int .i64 2))), none⟩])
.ret)
.skip)))))))
(.seq
(.reg [
  ⟨(some (false, 37)), .ld (some 6) (.g 10), none⟩,
  ⟨(some (false, 38)), .mv (.g 1), none⟩,
  ⟨(some (false, 39)), .mv (.g 2), none⟩,
  ⟨(some (false, 40)), .mv (.g 3), none⟩,
  ⟨(some (false, 41)), .call (.c (.fn 42 [])) [.l 37, .l 38, .l 39, .l 40], none⟩,
  ⟨none, .st 2 (.g 8) (.l 41), none⟩,
  ⟨(some (true, 9)), .mv (.c (.lit (.int .i64 0))), none⟩])
.ret))))
def K17 : List Nat := [0, 1, 2, 3, 18, 23, 32, 8, 9, 4, 10, 11]
noncomputable def b17 : Code := match Tryz.f17.body with | some c => c | none => .skip
theorem t17 : trCode ⟨Tryz.prog, K17, [], 42, none⟩ b17 = some c17 := by kernel_rfl
theorem go17 {args : List AV} {H : AHeap} {Kk : AV → AHeap → Prop} (hn : args.length = 4) (h : AGo ⟨Tryz.prog, K17, [], 42, none⟩ H.length [.code c17] (RetP [.cell (.g 8) (some 2), .t (.g 9)] H.length Kk) ⟨[], argsG 0 args⟩ H) : ACalls Tryz.prog 17 args H Kk :=
  ACalls_of Tryz.func17 (c := b17) rfl (by kernel_rfl) t17 (rs := [.cell (.g 8) (some 2), .t (.g 9)]) (by kernel_rfl) (by rw [hn]; exact Nat.le_of_ble_eq_true rfl) (by rw [hn]; rfl) (h.weaken (fun _ _ => RetP.hands) (by simp))

/-- sastrugi/probe.checkMarks -/
def c60 : ACode :=
  (.seq
(.reg [
  ⟨(some (true, 4)), .mv (.c (.lit (.int .i64 0))), none⟩])
(.seq
(.seq
(.reg [
  ⟨(some (false, 7)), .mv (.g 1), none⟩,
  ⟨(some (false, 8)), .len (.l 7), none⟩,
  ⟨(some (true, 9)), .bin .gtr (.l 8) (.c (.lit (.int .i64 100))), none⟩])
(.cond (.g 9)
(.seq
(.reg [
  ⟨(some (true, 4)), .mv (.c (.lit (.int .i64 8))), none⟩])
.ret)
.skip))
(.seq
(.seq
(.reg [
  ⟨(some (true, 10)), .mv (.g 1), none⟩,
  ⟨(some (true, 11)), .len (.g 10), none⟩,
  ⟨(some (true, 12)), .mv (.c (.lit (.int .i64 0))), none⟩])
(.block 0
(.loop
(.seq
(.reg [
  ⟨(some (true, 13)), .bin .lss (.g 12) (.g 11), none⟩])
(.seq
(.cond (.g 13)
.skip
(.exit 0))
(.seq
(.block 1
(.seq
(.reg [
  ⟨(some (false, 14)), .ia 5 (.g 10) (.g 12), none⟩,
  ⟨(some (false, 15)), .ld (some 5) (.l 14), none⟩,
  ⟨(some (true, 6)), .new [.int .i64 0, .int .i64 0, .int .i64 0, .int .i64 0, .int .i64 0], none⟩,
  ⟨none, .st 5 (.g 6) (.l 15), none⟩])
(.block 2
(.seq
(.reg [
  ⟨(some (false, 17)), .fa (.g 6) 0, none⟩,
  ⟨(some (false, 18)), .ld none (.l 17), none⟩,
  ⟨(some (false, 19)), .call (.c (.fn 41 [])) [.l 18, .c (.lit (.int .i64 1)), .c (.lit (.int .i64 4))], none⟩,
  ⟨(some (false, 20)), .un .not (.l 19), none⟩,
  ⟨(some (true, 16)), .mv (.l 20), none⟩])
(.cond (.g 16)
(.seq
(.reg [
  ⟨(some (true, 4)), .mv (.c (.lit (.int .i64 4))), none⟩])
.ret)
(.seq
(.reg [
  ⟨(some (false, 22)), .fa (.g 6) 1, none⟩,
  ⟨(some (false, 23)), .ld none (.l 22), none⟩,
  ⟨(some (false, 24)), .mv (.g 0), none⟩,
  ⟨(some (false, 25)), .bin .sub (.l 24) (.c (.lit (.int .i64 1))), none⟩,
  ⟨(some (false, 26)), .call (.c (.fn 41 [])) [.l 23, .c (.lit (.int .i64 0)), .l 25], none⟩,
  ⟨(some (false, 27)), .un .not (.l 26), none⟩,
  ⟨(some (false, 28)), .mv (.l 27), none⟩,
  ⟨(some (false, 29)), .fa (.g 6) 2, (some (.l 28, false))⟩,
  ⟨(some (false, 30)), .ld none (.l 29), (some (.l 28, false))⟩,
  ⟨(some (false, 31)), .mv (.g 0), (some (.l 28, false))⟩,
  ⟨(some (false, 32)), .bin .sub (.l 31) (.c (.lit (.int .i64 1))), (some (.l 28, false))⟩,
  ⟨(some (false, 33)), .call (.c (.fn 41 [])) [.l 30, .c (.lit (.int .i64 0)), .l 32], (some (.l 28, false))⟩,
  ⟨(some (false, 34)), .un .not (.l 33), (some (.l 28, false))⟩,
  ⟨(some (false, 35)), .pick (.l 28) (.c (.lit (.bool true))) (.l 34), none⟩,
  ⟨(some (true, 21)), .mv (.l 35), none⟩])
(.cond (.g 21)
(.seq
(.reg [
  ⟨(some (true, 4)), .mv (.c (.lit (.int .i64 7))), none⟩])
.ret)
(.seq
(.reg [
  ⟨(some (false, 37)), .fa (.g 6) 1, none⟩,
  ⟨(some (false, 38)), .ld none (.l 37), none⟩,
  ⟨(some (false, 39)), .fa (.g 6) 2, none⟩,
  ⟨(some (false, 40)), .ld none (.l 39), none⟩,
  ⟨(some (false, 41)), .bin .gtr (.l 38) (.l 40), none⟩,
  ⟨(some (true, 36)), .mv (.l 41), none⟩])
(.cond (.g 36)
(.seq
(.reg [
  ⟨(some (true, 4)), .mv (.c (.lit (.int .i64 11))), none⟩])
.ret)
(.seq
(.reg [
  ⟨(some (false, 43)), .fa (.g 6) 3, none⟩,
  ⟨(some (false, 44)), .ld none (.l 43), none⟩,
  ⟨(some (false, 45)), .call (.c (.fn 41 [])) [.l 44, .c (.lit (.int .i64 0)), .c (.lit (.int .i64 10000))], none⟩,
  ⟨(some (false, 46)), .un .not (.l 45), none⟩,
  ⟨(some (false, 47)), .mv (.l 46), none⟩,
  ⟨(some (false, 48)), .fa (.g 6) 4, (some (.l 47, false))⟩,
  ⟨(some (false, 49)), .ld none (.l 48), (some (.l 47, false))⟩,
  ⟨(some (false, 50)), .call (.c (.fn 41 [])) [.l 49, .c (.lit (.int .i64 0)), .c (.lit (.int .i64 100))], (some (.l 47, false))⟩,
  ⟨(some (false, 51)), .un .not (.l 50), (some (.l 47, false))⟩,
  ⟨(some (false, 52)), .pick (.l 47) (.c (.lit (.bool true))) (.l 51), none⟩,
  ⟨(some (true, 42)), .mv (.l 52), none⟩])
(.cond (.g 42)
(.seq
(.reg [
  ⟨(some (true, 4)), .mv (.c (.lit (.int .i64 2))), none⟩])
.ret)
.skip)))))))))))
(.reg [
  ⟨(some (false, 53)), .bin .add (.g 12) (.c (.lit (.int .i64 1))), none⟩,
  ⟨(some (true, 12)), .mv (.l 53), none⟩])))))))
(.seq
(.reg [
  ⟨(some (true, 4)), .mv (.c (.lit (.int .i64 0))), none⟩])
.ret))))
def K60 : List Nat := [0, 1, 9, 13, 16, 21, 36, 42, 4, 10, 11, 12, 6]
noncomputable def b60 : Code := match Tryz.f60.body with | some c => c | none => .skip
theorem t60 : trCode ⟨Tryz.prog, K60, [], 54, none⟩ b60 = some c60 := by kernel_rfl
theorem go60 {args : List AV} {H : AHeap} {Kk : AV → AHeap → Prop} (hn : args.length = 2) (h : AGo ⟨Tryz.prog, K60, [], 54, none⟩ H.length [.code c60] (RetP [.t (.g 4)] H.length Kk) ⟨[], argsG 0 args⟩ H) : ACalls Tryz.prog 60 args H Kk :=
  ACalls_of Tryz.func60 (c := b60) rfl (by kernel_rfl) t60 (rs := [.t (.g 4)]) (by kernel_rfl) (by rw [hn]; exact Nat.le_of_ble_eq_true rfl) (by rw [hn]; rfl) (h.weaken (fun _ _ => RetP.hands) (by simp))

end Go.Sas

namespace Go.Sas
open Go.Proofs
set_option maxRecDepth 100000
/-- sastrugi/sastrugilaw02.awake -/
def c5 : ACode :=
  (.seq
(.reg [
  ⟨(some (true, 0)), .mv (.c (.lit (.bool false))), none⟩])
(.seq
(.reg [
  ⟨(some (false, 6)), .call (.c (.fn 18 [])) [], none⟩,
  ⟨(some (false, 7)), .call (.c (.fn 19 [])) [], none⟩,
  ⟨(some (false, 8)), .call (.c (.fn 17 [])) [.l 6, .l 7, .c (.lit (.int .i64 4)), .c (.lit (.int .i64 14))], none⟩,
  ⟨(some (false, 5)), .mv (.l 8), none⟩,
  ⟨(some (false, 9)), .ex (.l 5) 0, none⟩,
  ⟨(some (false, 10)), .ex (.l 5) 1, none⟩,
  ⟨(some (true, 1)), .new [.int .i64 0, .int .i64 0], none⟩,
  ⟨none, .st 2 (.g 1) (.l 9), none⟩,
  ⟨(some (true, 2)), .mv (.l 10), none⟩])
(.seq
(.reg [
  ⟨(some (false, 12)), .call (.c (.fn 18 [])) [], none⟩,
  ⟨(some (false, 13)), .call (.c (.fn 19 [])) [], none⟩,
  ⟨(some (false, 14)), .call (.c (.fn 20 [])) [.l 12, .l 13, .c (.lit (.slice none 0 0)), .c (.lit (.int .i64 450)), .c (.lit (.int .i64 10))], none⟩,
  ⟨(some (false, 11)), .mv (.l 14), none⟩,
  ⟨(some (false, 15)), .ex (.l 11) 0, none⟩,
  ⟨(some (false, 16)), .ex (.l 11) 1, none⟩,
  ⟨(some (true, 3)), .mv (.l 15), none⟩,
  ⟨(some (true, 4)), .mv (.l 16), none⟩])
(.seq
(.draw [
  ⟨⟨(some (false, 17)), .mv (.g 2), none⟩, 0, true, []⟩,
  ⟨⟨(some (false, 18)), .bin .eql (.l 17) (.c (.lit (.int .i64 0))), none⟩, 1, true, []⟩,
  ⟨⟨(some (false, 19)), .mv (.l 18), none⟩, 2, true, []⟩,
  ⟨⟨(some (false, 20)), .mv (.g 4), (some (.l 19, true))⟩, 3, true, []⟩,
  ⟨⟨(some (false, 21)), .bin .eql (.l 20) (.c (.lit (.int .i64 0))), (some (.l 19, true))⟩, 4, true, []⟩,
  ⟨⟨(some (false, 22)), .pick (.l 19) (.l 21) (.c (.lit (.bool false))), none⟩, 5, true, []⟩,
  ⟨⟨(some (false, 23)), .mv (.l 22), none⟩, 6, true, []⟩,
  ⟨⟨(some (false, 24)), .ld (some 2) (.g 1), (some (.l 23, true))⟩, 7, true, []⟩,
  ⟨⟨(some (false, 25)), .call (.c (.fn 21 [])) [.c (.lit (.int .i64 412)), .c (.lit (.int .i64 580))], (some (.l 23, true))⟩, 8, false, []⟩,
  ⟨⟨(some (false, 26)), .eqs false (.fld 0 none .i (.fld 1 none .i .nil)) (.l 24) (.l 25), (some (.l 23, true))⟩, 9, true, []⟩,
  ⟨⟨(some (false, 27)), .pick (.l 23) (.l 26) (.c (.lit (.bool false))), none⟩, 10, true, []⟩,
  ⟨⟨(some (false, 28)), .mv (.l 27), none⟩, 11, true, []⟩,
  ⟨⟨(some (false, 29)), .mv (.g 3), (some (.l 28, true))⟩, 12, true, []⟩,
  ⟨⟨(some (false, 30)), .mk [.int .i64 0, .int .i64 0, .int .i64 0] [(0, 1, .c (.lit (.int .i64 1))), (1, 1, .c (.lit (.int .i64 3))), (2, 1, .c (.lit (.int .i64 3)))], (some (.l 28, true))⟩, 13, true, []⟩,
  ⟨⟨(some (false, 31)), .mk [.int .i64 0, .int .i64 0, .int .i64 0] [(0, 1, .c (.lit (.int .i64 4))), (1, 1, .c (.lit (.int .i64 4))), (2, 1, .c (.lit (.int .i64 1)))], (some (.l 28, true))⟩, 14, true, []⟩,
  ⟨⟨(some (false, 32)), .mks false 3 [.l 30, .l 31], (some (.l 28, true))⟩, 15, true, []⟩,
  ⟨⟨(some (false, 33)), .call (.c (.fn 22 [])) [.l 29, .l 32], (some (.l 28, true))⟩, 16, false, []⟩,
  ⟨⟨(some (false, 34)), .pick (.l 28) (.l 33) (.c (.lit (.bool false))), none⟩, 17, true, []⟩,
  ⟨⟨(some (true, 0)), .mv (.l 34), none⟩, 18, true, []⟩])
.ret))))
def K5 : List Nat := [0, 1, 2, 3, 4]
noncomputable def b5 : Code := match Tryz.f5.body with | some c => c | none => .skip
theorem t5 : trCode ⟨Tryz.prog, K5, [], 35, none⟩ b5 = some c5 := by kernel_rfl
theorem go5 {args : List AV} {H : AHeap} {Kk : AV → AHeap → Prop} (hn : args.length = 0) (h : AGo ⟨Tryz.prog, K5, [], 35, none⟩ H.length [.code c5] (RetP [.t (.g 0)] H.length Kk) ⟨[], argsG 0 args⟩ H) : ACalls Tryz.prog 5 args H Kk :=
  ACalls_of Tryz.func5 (c := b5) rfl (by kernel_rfl) t5 (rs := [.t (.g 0)]) (by kernel_rfl) (by rw [hn]; exact Nat.le_of_ble_eq_true rfl) (by rw [hn]; rfl) (h.weaken (fun _ _ => RetP.hands) (by simp))

/-- sastrugi/sastrugilaw02.road -/
def c18 : ACode :=
  (.seq
(.reg [
  ⟨(some (true, 0)), .new [.slice none 0 0, .int .i64 0, .int .i64 0, .int .i64 0], none⟩])
(.seq
(.reg [
  ⟨(some (false, 1)), .mk [.int .i64 0, .int .i64 0, .int .i64 0, .int .i64 0, .int .i64 0] [(0, 1, .c (.lit (.int .i64 3))), (1, 1, .c (.lit (.int .i64 10))), (2, 1, .c (.lit (.int .i64 2))), (3, 1, .c (.lit (.int .i64 1))), (4, 1, .c (.lit (.int .i64 24)))], none⟩,
  ⟨(some (false, 2)), .mk [.int .i64 0, .int .i64 0, .int .i64 0, .int .i64 0, .int .i64 0] [(0, 1, .c (.lit (.int .i64 2))), (1, 1, .c (.lit (.int .i64 50))), (2, 1, .c (.lit (.int .i64 5))), (4, 1, .c (.lit (.int .i64 12)))], none⟩,
  ⟨(some (false, 3)), .mks false 5 [.l 1, .l 2], none⟩,
  ⟨(some (false, 4)), .mk [.int .i64 0, .int .i64 0, .int .i64 0] [(0, 1, .c (.lit (.int .i64 0))), (1, 1, .c (.lit (.int .i64 1))), (2, 1, .c (.lit (.int .i64 2)))], none⟩,
  ⟨(some (false, 5)), .mk [.slice none 0 0, .int .i64 0, .int .i64 0, .int .i64 0] [(0, 1, .l 3), (1, 3, .l 4)], none⟩,
  ⟨none, .st 4 (.g 0) (.l 5), none⟩])
.ret))
def K18 : List Nat := [0]
noncomputable def b18 : Code := match Tryz.f18.body with | some c => c | none => .skip
theorem t18 : trCode ⟨Tryz.prog, K18, [], 6, none⟩ b18 = some c18 := by kernel_rfl
theorem go18 {args : List AV} {H : AHeap} {Kk : AV → AHeap → Prop} (hn : args.length = 0) (h : AGo ⟨Tryz.prog, K18, [], 6, none⟩ H.length [.code c18] (RetP [.cell (.g 0) (some 4)] H.length Kk) ⟨[], argsG 0 args⟩ H) : ACalls Tryz.prog 18 args H Kk :=
  ACalls_of Tryz.func18 (c := b18) rfl (by kernel_rfl) t18 (rs := [.cell (.g 0) (some 4)]) (by kernel_rfl) (by rw [hn]; exact Nat.le_of_ble_eq_true rfl) (by rw [hn]; rfl) (h.weaken (fun _ _ => RetP.hands) (by simp))

/-- sastrugi/sastrugilaw02.looked -/
def c19 : ACode :=
  (.seq
(.reg [
  ⟨(some (true, 0)), .mv (.c (.lit (.slice none 0 0))), none⟩])
(.seq
(.reg [
  ⟨(some (false, 1)), .call (.c (.fn 43 [])) [.c (.lit (.int .i64 0)), .c (.lit (.int .i64 10)), .c (.lit (.int .i64 500))], none⟩,
  ⟨(some (false, 2)), .mks false 5 [.l 1], none⟩,
  ⟨(some (true, 0)), .mv (.l 2), none⟩])
.ret))
def K19 : List Nat := [0]
noncomputable def b19 : Code := match Tryz.f19.body with | some c => c | none => .skip
theorem t19 : trCode ⟨Tryz.prog, K19, [], 3, none⟩ b19 = some c19 := by kernel_rfl
theorem go19 {args : List AV} {H : AHeap} {Kk : AV → AHeap → Prop} (hn : args.length = 0) (h : AGo ⟨Tryz.prog, K19, [], 3, none⟩ H.length [.code c19] (RetP [.t (.g 0)] H.length Kk) ⟨[], argsG 0 args⟩ H) : ACalls Tryz.prog 19 args H Kk :=
  ACalls_of Tryz.func19 (c := b19) rfl (by kernel_rfl) t19 (rs := [.t (.g 0)]) (by kernel_rfl) (by rw [hn]; exact Nat.le_of_ble_eq_true rfl) (by rw [hn]; rfl) (h.weaken (fun _ _ => RetP.hands) (by simp))

/-- sastrugi/sastrugilaw02.core -/
def c43 : ACode :=
  (.seq
(.reg [
  ⟨(some (true, 6)), .new [.int .i64 0, .int .i64 0, .int .i64 0, .int .i64 0, .int .i64 0], none⟩])
(.seq
(.reg [
  ⟨(some (false, 7)), .mv (.g 0), none⟩,
  ⟨(some (false, 8)), .mv (.g 1), none⟩,
  ⟨(some (false, 9)), .mv (.g 2), none⟩,
  ⟨(some (false, 10)), .mv (.g 2), none⟩,
  ⟨(some (false, 11)), .call (.c (.fn 21 [])) [.l 9, .l 10], none⟩,
  ⟨(some (false, 12)), .mk [.int .i64 0, .int .i64 0, .int .i64 0, .int .i64 0, .int .i64 0] [(0, 1, .c (.lit (.int .i64 1))), (1, 1, .l 7), (2, 1, .l 8), (3, 2, .l 11)], none⟩,
  ⟨none, .st 5 (.g 6) (.l 12), none⟩])
.ret))
def K43 : List Nat := [0, 1, 2, 6]
noncomputable def b43 : Code := match Tryz.f43.body with | some c => c | none => .skip
theorem t43 : trCode ⟨Tryz.prog, K43, [], 13, none⟩ b43 = some c43 := by kernel_rfl
theorem go43 {args : List AV} {H : AHeap} {Kk : AV → AHeap → Prop} (hn : args.length = 3) (h : AGo ⟨Tryz.prog, K43, [], 13, none⟩ H.length [.code c43] (RetP [.cell (.g 6) (some 5)] H.length Kk) ⟨[], argsG 0 args⟩ H) : ACalls Tryz.prog 43 args H Kk :=
  ACalls_of Tryz.func43 (c := b43) rfl (by kernel_rfl) t43 (rs := [.cell (.g 6) (some 5)]) (by kernel_rfl) (by rw [hn]; exact Nat.le_of_ble_eq_true rfl) (by rw [hn]; rfl) (h.weaken (fun _ _ => RetP.hands) (by simp))

/-- sastrugi/sastrugilaw02.span -/
def c21 : ACode :=
  (.seq
(.reg [
  ⟨(some (true, 4)), .new [.int .i64 0, .int .i64 0], none⟩])
(.seq
(.reg [
  ⟨(some (false, 5)), .mv (.g 0), none⟩,
  ⟨(some (false, 6)), .mv (.g 1), none⟩,
  ⟨(some (false, 7)), .mk [.int .i64 0, .int .i64 0] [(0, 1, .l 5), (1, 1, .l 6)], none⟩,
  ⟨none, .st 2 (.g 4) (.l 7), none⟩])
.ret))
def K21 : List Nat := [0, 1, 4]
noncomputable def b21 : Code := match Tryz.f21.body with | some c => c | none => .skip
theorem t21 : trCode ⟨Tryz.prog, K21, [], 8, none⟩ b21 = some c21 := by kernel_rfl
theorem go21 {args : List AV} {H : AHeap} {Kk : AV → AHeap → Prop} (hn : args.length = 2) (h : AGo ⟨Tryz.prog, K21, [], 8, none⟩ H.length [.code c21] (RetP [.cell (.g 4) (some 2)] H.length Kk) ⟨[], argsG 0 args⟩ H) : ACalls Tryz.prog 21 args H Kk :=
  ACalls_of Tryz.func21 (c := b21) rfl (by kernel_rfl) t21 (rs := [.cell (.g 4) (some 2)]) (by kernel_rfl) (by rw [hn]; exact Nat.le_of_ble_eq_true rfl) (by rw [hn]; rfl) (h.weaken (fun _ _ => RetP.hands) (by simp))

/-- sastrugi/sastrugikit.SameClosures -/
def c22 : ACode :=
  (.seq
(.reg [
  ⟨(some (true, 4)), .mv (.c (.lit (.bool false))), none⟩])
(.seq
(.seq
(.reg [
  ⟨(some (false, 6)), .mv (.g 0), none⟩,
  ⟨(some (false, 7)), .len (.l 6), none⟩,
  ⟨(some (false, 8)), .mv (.g 1), none⟩,
  ⟨(some (false, 9)), .len (.l 8), none⟩,
  ⟨(some (true, 10)), .bin .neq (.l 7) (.l 9), none⟩])
(.cond (.g 10)
(.seq
(.reg [
  ⟨(some (true, 4)), .mv (.c (.lit (.bool false))), none⟩])
.ret)
.skip))
(.seq
(.seq
(.reg [
  ⟨(some (true, 5)), .mv (.c (.lit (.int .i64 0))), none⟩])
(.block 0
(.loop
(.seq
(.seq
(.reg [
  ⟨(some (false, 11)), .mv (.g 5), none⟩,
  ⟨(some (false, 12)), .mv (.g 0), none⟩,
  ⟨(some (false, 13)), .len (.l 12), none⟩,
  ⟨(some (true, 14)), .bin .lss (.l 11) (.l 13), none⟩])
(.cond (.g 14)
.skip
(.exit 0)))
(.seq
(.block 1
(.seq
(.draw [
  ⟨⟨(some (false, 17)), .mv (.g 0), none⟩, 0, true, []⟩,
  ⟨⟨(some (false, 18)), .mv (.g 5), none⟩, 1, true, []⟩,
  ⟨⟨(some (false, 19)), .ia 3 (.l 17) (.l 18), none⟩, 2, true, []⟩,
  ⟨⟨(some (false, 20)), .ld (some 3) (.l 19), none⟩, 3, true, []⟩,
  ⟨⟨(some (false, 21)), .mv (.g 1), none⟩, 4, true, []⟩,
  ⟨⟨(some (false, 22)), .mv (.g 5), none⟩, 5, true, []⟩,
  ⟨⟨(some (false, 23)), .ia 3 (.l 21) (.l 22), none⟩, 6, true, []⟩,
  ⟨⟨(some (false, 24)), .ld (some 3) (.l 23), none⟩, 7, true, []⟩,
  ⟨⟨(some (true, 25)), .eqs true (.fld 0 none .i (.fld 1 none .i (.fld 2 none .i .nil))) (.l 20) (.l 24), none⟩, 8, true, []⟩])
(.cond (.g 25)
(.seq
(.reg [
  ⟨(some (true, 4)), .mv (.c (.lit (.bool false))), none⟩])
.ret)
.skip)))
(.reg [
  ⟨(some (false, 15)), .mv (.g 5), none⟩,
  ⟨(some (false, 16)), .bin .add (.l 15) (.c (.lit (.int .i64 1))), none⟩,
  ⟨(some (true, 5)), .mv (.l 16), none⟩]))))))
(.seq
(.reg [
  ⟨(some (true, 4)), .mv (.c (.lit (.bool true))), none⟩])
.ret))))
def K22 : List Nat := [0, 1, 10, 14, 25, 4, 5]
noncomputable def b22 : Code := match Tryz.f22.body with | some c => c | none => .skip
theorem t22 : trCode ⟨Tryz.prog, K22, [], 26, none⟩ b22 = some c22 := by kernel_rfl
theorem go22 {args : List AV} {H : AHeap} {Kk : AV → AHeap → Prop} (hn : args.length = 2) (h : AGo ⟨Tryz.prog, K22, [], 26, none⟩ H.length [.code c22] (RetP [.t (.g 4)] H.length Kk) ⟨[], argsG 0 args⟩ H) : ACalls Tryz.prog 22 args H Kk :=
  ACalls_of Tryz.func22 (c := b22) rfl (by kernel_rfl) t22 (rs := [.t (.g 4)]) (by kernel_rfl) (by rw [hn]; exact Nat.le_of_ble_eq_true rfl) (by rw [hn]; rfl) (h.weaken (fun _ _ => RetP.hands) (by simp))

end Go.Sas
