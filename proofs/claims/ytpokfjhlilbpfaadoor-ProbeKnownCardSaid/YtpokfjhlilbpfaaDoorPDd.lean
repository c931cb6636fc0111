/-
The code of some functions with its types resolved, printed by a program; that it is the code is checked by the kernel.
Conditions: none.
-/
import Derived.Test.YtpokfjhlilbpfaaDoorP4d
import Derived.Test.YtpokfjhlilbpfaaDoorProg
set_option linter.unusedVariables false
set_option linter.unusedSimpArgs false
namespace Go.Sas
open Go.Proofs
set_option maxRecDepth 100000
/-- sastrugi/probe.Stale -/
def c20 : ACode :=
  (.seq
(.reg [
  ⟨(some (true, 3)), .box (.g 0), none⟩,
  ⟨(some (true, 6)), .mv (.c (.lit (.slice none 0 0))), none⟩,
  ⟨(some (true, 7)), .mv (.c (.lit (.int .i64 0))), none⟩])
(.seq
(.reg [
  ⟨(some (false, 12)), .ld (some 4) (.g 3), none⟩,
  ⟨(some (false, 13)), .mv (.g 1), none⟩,
  ⟨(some (false, 14)), .call (.c (.fn 15 [])) [.l 12, .l 13], none⟩,
  ⟨(some (false, 11)), .mv (.l 14), none⟩,
  ⟨(some (false, 15)), .ex (.l 11) 0, none⟩,
  ⟨(some (false, 16)), .ex (.l 11) 1, none⟩,
  ⟨(some (true, 8)), .new [.slice none 0 0, .int .i64 0, .int .i64 0, .int .i64 0, .slice none 0 0, .slice none 0 0], none⟩,
  ⟨none, .st 6 (.g 8) (.l 15), none⟩,
  ⟨(some (true, 9)), .mv (.l 16), none⟩])
(.seq
(.block 0
(.seq
(.reg [
  ⟨(some (false, 18)), .mv (.g 9), none⟩,
  ⟨(some (false, 19)), .bin .neq (.l 18) (.c (.lit (.int .i64 0))), none⟩,
  ⟨(some (true, 17)), .mv (.l 19), none⟩])
(.cond (.g 17)
(.seq
(.reg [
  ⟨(some (false, 20)), .mv (.g 9), none⟩,
  ⟨(some (true, 6)), .mv (.c (.lit (.slice none 0 0))), none⟩,
  ⟨(some (true, 7)), .mv (.l 20), none⟩])
.ret)
(.seq
(.reg [
  ⟨(some (false, 22)), .mv (.g 2), none⟩,
  ⟨(some (false, 23)), .call (.c (.fn 16 [])) [.l 22, .c (.lit (.int .i64 0)), .c (.lit (.int .i64 10000))], none⟩,
  ⟨(some (false, 24)), .un .not (.l 23), none⟩,
  ⟨(some (true, 21)), .mv (.l 24), none⟩])
(.cond (.g 21)
(.seq
(.reg [
  ⟨(some (true, 6)), .mv (.c (.lit (.slice none 0 0))), none⟩,
  ⟨(some (true, 7)), .mv (.c (.lit (.int .i64 2))), none⟩])
.ret)
.skip)))))
(.seq
(.reg [
  ⟨(some (true, 10)), .new [.slice none 0 0], none⟩])
(.seq
(.reg [
  ⟨(some (false, 25)), .ld (some 6) (.g 8), none⟩,
  ⟨(some (false, 26)), .mv (.g 1), none⟩,
  ⟨(some (false, 27)), .mv (.g 2), none⟩,
  ⟨(some (false, 28)), .call (.c (.fn 41 [])) [.l 25, .l 26, .l 27], none⟩,
  ⟨(some (false, 29)), .mkf 42 [.g 10], none⟩,
  ⟨(some (false, 30)), .call (.c (.fn 40 [])) [.l 28, .l 29], none⟩])
(.seq
(.reg [
  ⟨(some (false, 31)), .ld none (.g 10), none⟩,
  ⟨(some (true, 6)), .mv (.l 31), none⟩,
  ⟨(some (true, 7)), .mv (.c (.lit (.int .i64 0))), none⟩])
.ret))))))
def K20 : List Nat := [0, 1, 2, 17, 21, 6, 7, 3, 8, 9, 10]
noncomputable def b20 : Code := match Tryd.f20.body with | some c => c | none => .skip
theorem t20 : trCode ⟨Tryd.prog, K20, [], 32, none⟩ b20 = some c20 := by kernel_rfl
theorem go20 {args : List AV} {H : AHeap} {Kk : AV → AHeap → Prop} (hn : args.length = 3) (h : AGo ⟨Tryd.prog, K20, [], 32, none⟩ H.length [.code c20] (RetP [.t (.g 6), .t (.g 7)] H.length Kk) ⟨[], argsG 0 args⟩ H) : ACalls Tryd.prog 20 args H Kk :=
  ACalls_of Tryd.func20 (c := b20) rfl (by kernel_rfl) t20 (rs := [.t (.g 6), .t (.g 7)]) (by kernel_rfl) (by rw [hn]; exact Nat.le_of_ble_eq_true rfl) (by rw [hn]; rfl) (h.weaken (fun _ _ => RetP.hands) (by simp))

/-- sastrugi/probe.joined[bool] -/
def c40 : ACode :=
  (.seq
(.reg [
  ⟨(some (true, 4)), .mv (.c (.lit (.int .i64 0))), none⟩])
(.block 0
(.loop
(.seq
(.seq
(.reg [
  ⟨(some (false, 6)), .mv (.g 4), none⟩,
  ⟨(some (false, 7)), .mv (.g 0), none⟩,
  ⟨(some (false, 8)), .len (.l 7), none⟩,
  ⟨(some (true, 9)), .bin .lss (.l 6) (.l 8), none⟩])
(.cond (.g 9)
.skip
(.exit 0)))
(.block 1
(.seq
(.reg [
  ⟨(some (false, 10)), .mv (.g 4), none⟩,
  ⟨(some (true, 5)), .mv (.l 10), none⟩])
(.seq
(.block 2
(.loop
(.seq
(.seq
(.draw [
  ⟨⟨(some (false, 11)), .mv (.g 5), none⟩, 0, true, []⟩,
  ⟨⟨(some (false, 12)), .bin .add (.l 11) (.c (.lit (.int .i64 1))), none⟩, 1, true, []⟩,
  ⟨⟨(some (false, 13)), .mv (.g 0), none⟩, 2, true, []⟩,
  ⟨⟨(some (false, 14)), .len (.l 13), none⟩, 3, true, []⟩,
  ⟨⟨(some (false, 15)), .bin .lss (.l 12) (.l 14), none⟩, 4, true, []⟩,
  ⟨⟨(some (false, 16)), .mv (.l 15), none⟩, 5, true, []⟩,
  ⟨⟨(some (false, 17)), .mv (.g 0), (some (.l 16, true))⟩, 6, true, []⟩,
  ⟨⟨(some (false, 18)), .mv (.g 5), (some (.l 16, true))⟩, 7, true, []⟩,
  ⟨⟨(some (false, 19)), .bin .add (.l 18) (.c (.lit (.int .i64 1))), (some (.l 16, true))⟩, 8, true, []⟩,
  ⟨⟨(some (false, 20)), .ia 1 (.l 17) (.l 19), (some (.l 16, true))⟩, 9, true, []⟩,
  ⟨⟨(some (false, 21)), .ld none (.l 20), (some (.l 16, true))⟩, 10, true, []⟩,
  ⟨⟨(some (false, 22)), .mv (.g 0), (some (.l 16, true))⟩, 11, true, []⟩,
  ⟨⟨(some (false, 23)), .mv (.g 4), (some (.l 16, true))⟩, 12, true, []⟩,
  ⟨⟨(some (false, 24)), .ia 1 (.l 22) (.l 23), (some (.l 16, true))⟩, 13, true, []⟩,
  ⟨⟨(some (false, 25)), .ld none (.l 24), (some (.l 16, true))⟩, 14, true, []⟩,
  ⟨⟨(some (false, 26)), .binb false (.l 21) (.l 25), (some (.l 16, true))⟩, 15, true, []⟩,
  ⟨⟨(some (true, 27)), .pick (.l 16) (.l 26) (.c (.lit (.bool false))), none⟩, 16, true, []⟩])
(.cond (.g 27)
.skip
(.exit 2)))
(.block 3
(.reg [
  ⟨(some (false, 28)), .mv (.g 5), none⟩,
  ⟨(some (false, 29)), .bin .add (.l 28) (.c (.lit (.int .i64 1))), none⟩,
  ⟨(some (true, 5)), .mv (.l 29), none⟩])))))
(.seq
(.reg [
  ⟨(some (false, 30)), .mv (.g 1), none⟩,
  ⟨(some (false, 31)), .mv (.g 4), none⟩,
  ⟨(some (false, 32)), .mv (.g 5), none⟩,
  ⟨(some (false, 33)), .mv (.g 0), none⟩,
  ⟨(some (false, 34)), .mv (.g 4), none⟩,
  ⟨(some (false, 35)), .ia 1 (.l 33) (.l 34), none⟩,
  ⟨(some (false, 36)), .ld none (.l 35), none⟩,
  ⟨(some (false, 37)), .call (.l 30) [.l 31, .l 32, .l 36], none⟩])
(.reg [
  ⟨(some (false, 38)), .mv (.g 5), none⟩,
  ⟨(some (false, 39)), .bin .add (.l 38) (.c (.lit (.int .i64 1))), none⟩,
  ⟨(some (true, 4)), .mv (.l 39), none⟩])))))))))
def K40 : List Nat := [0, 1, 9, 27, 4, 5]
noncomputable def b40 : Code := match Tryd.f40.body with | some c => c | none => .skip
theorem t40 : trCode ⟨Tryd.prog, K40, [], 40, none⟩ b40 = some c40 := by kernel_rfl
theorem go40 {args : List AV} {H : AHeap} {Kk : AV → AHeap → Prop} (hn : args.length = 2) (h : AGo ⟨Tryd.prog, K40, [], 40, none⟩ H.length [.code c40] (RetP [] H.length Kk) ⟨[], argsG 0 args⟩ H) : ACalls Tryd.prog 40 args H Kk :=
  ACalls_of Tryd.func40 (c := b40) rfl (by kernel_rfl) t40 (rs := []) (by kernel_rfl) (by rw [hn]; exact Nat.le_of_ble_eq_true rfl) (by rw [hn]; rfl) (h.weaken (fun _ _ => RetP.hands) (by simp))

/-- sastrugi/probe.Stale$1 -/
def c42 : ACode :=
  (.seq
(.reg [
  ⟨(some (true, 7)), .mv (.g 2), none⟩])
(.cond (.g 7)
(.reg [
  ⟨(some (false, 8)), .ld none (.g 3), none⟩,
  ⟨(some (false, 9)), .mv (.g 0), none⟩,
  ⟨(some (false, 10)), .mv (.g 1), none⟩,
  ⟨(some (false, 11)), .mk [.int .i64 0, .int .i64 0] [(0, 1, .l 9), (1, 1, .l 10)], none⟩,
  ⟨(some (false, 12)), .mks false 2 [.l 11], none⟩,
  ⟨(some (false, 13)), .app 2 16 (.l 8) (.l 12), none⟩,
  ⟨none, .st 1 (.g 3) (.l 13), none⟩])
.skip))
def K42 : List Nat := [0, 1, 2, 3, 7]
noncomputable def b42 : Code := match Tryd.f42.body with | some c => c | none => .skip
theorem t42 : trCode ⟨Tryd.prog, K42, [], 14, none⟩ b42 = some c42 := by kernel_rfl
theorem go42 {args : List AV} {H : AHeap} {Kk : AV → AHeap → Prop} (hn : args.length = 4) (h : AGo ⟨Tryd.prog, K42, [], 14, none⟩ H.length [.code c42] (RetP [] H.length Kk) ⟨[], argsG 0 args⟩ H) : ACalls Tryd.prog 42 args H Kk :=
  ACalls_of Tryd.func42 (c := b42) rfl (by kernel_rfl) t42 (rs := []) (by kernel_rfl) (by rw [hn]; exact Nat.le_of_ble_eq_true rfl) (by rw [hn]; rfl) (h.weaken (fun _ _ => RetP.hands) (by simp))

/-- sastrugi/probe.Plan -/
def c21 : ACode :=
  (.seq
(.reg [
  ⟨(some (true, 4)), .box (.g 0), none⟩,
  ⟨(some (true, 8)), .mv (.c (.lit (.slice none 0 0))), none⟩,
  ⟨(some (true, 9)), .mv (.c (.lit (.slice none 0 0))), none⟩,
  ⟨(some (true, 10)), .mv (.c (.lit (.int .i64 0))), none⟩])
(.seq
(.reg [
  ⟨(some (false, 17)), .ld (some 4) (.g 4), none⟩,
  ⟨(some (false, 18)), .mv (.g 1), none⟩,
  ⟨(some (false, 19)), .call (.c (.fn 15 [])) [.l 17, .l 18], none⟩,
  ⟨(some (false, 16)), .mv (.l 19), none⟩,
  ⟨(some (false, 20)), .ex (.l 16) 0, none⟩,
  ⟨(some (false, 21)), .ex (.l 16) 1, none⟩,
  ⟨(some (true, 11)), .new [.slice none 0 0, .int .i64 0, .int .i64 0, .int .i64 0, .slice none 0 0, .slice none 0 0], none⟩,
  ⟨none, .st 6 (.g 11) (.l 20), none⟩,
  ⟨(some (true, 10)), .mv (.l 21), none⟩])
(.seq
(.block 0
(.seq
(.reg [
  ⟨(some (false, 23)), .mv (.g 10), none⟩,
  ⟨(some (false, 24)), .bin .neq (.l 23) (.c (.lit (.int .i64 0))), none⟩,
  ⟨(some (true, 22)), .mv (.l 24), none⟩])
(.cond (.g 22)
(.seq
(.reg [
  ⟨(some (false, 25)), .mv (.g 10), none⟩,
  ⟨(some (true, 8)), .mv (.c (.lit (.slice none 0 0))), none⟩,
  ⟨(some (true, 9)), .mv (.c (.lit (.slice none 0 0))), none⟩,
  ⟨(some (true, 10)), .mv (.l 25), none⟩])
.ret)
(.seq
(.reg [
  ⟨(some (false, 27)), .mv (.g 2), none⟩,
  ⟨(some (false, 28)), .call (.c (.fn 16 [])) [.l 27, .c (.lit (.int .i64 0)), .c (.lit (.int .i64 10000))], none⟩,
  ⟨(some (false, 29)), .un .not (.l 28), none⟩,
  ⟨(some (true, 26)), .mv (.l 29), none⟩])
(.cond (.g 26)
(.seq
(.reg [
  ⟨(some (true, 8)), .mv (.c (.lit (.slice none 0 0))), none⟩,
  ⟨(some (true, 9)), .mv (.c (.lit (.slice none 0 0))), none⟩,
  ⟨(some (true, 10)), .mv (.c (.lit (.int .i64 2))), none⟩])
.ret)
(.seq
(.reg [
  ⟨(some (false, 31)), .mv (.g 3), none⟩,
  ⟨(some (false, 32)), .call (.c (.fn 16 [])) [.l 31, .c (.lit (.int .i64 1)), .c (.lit (.int .i64 3))], none⟩,
  ⟨(some (false, 33)), .un .not (.l 32), none⟩,
  ⟨(some (true, 30)), .mv (.l 33), none⟩])
(.cond (.g 30)
(.seq
(.reg [
  ⟨(some (true, 8)), .mv (.c (.lit (.slice none 0 0))), none⟩,
  ⟨(some (true, 9)), .mv (.c (.lit (.slice none 0 0))), none⟩,
  ⟨(some (true, 10)), .mv (.c (.lit (.int .i64 4))), none⟩])
.ret)
.skip)))))))
(.seq
(.reg [
  ⟨(some (false, 34)), .mv (.g 3), none⟩,
  ⟨(some (false, 35)), .bin .sub (.l 34) (.c (.lit (.int .i64 1))), none⟩,
  ⟨(some (false, 36)), .fa (.g 4) 1, none⟩,
  ⟨(some (false, 37)), .iaa 3 1 (.l 36) (.l 35), none⟩,
  ⟨(some (false, 38)), .ld none (.l 37), none⟩,
  ⟨(some (true, 12)), .mv (.l 38), none⟩])
(.seq
(.reg [
  ⟨(some (true, 13)), .mv (.c (.lit (.int .i64 (-1)))), none⟩])
(.seq
(.seq
(.reg [
  ⟨(some (false, 39)), .ld (some 6) (.g 11), none⟩,
  ⟨(some (false, 40)), .mv (.g 1), none⟩,
  ⟨(some (false, 41)), .mv (.g 2), none⟩,
  ⟨(some (true, 42)), .call (.c (.fn 41 [])) [.l 39, .l 40, .l 41], none⟩,
  ⟨(some (true, 43)), .len (.g 42), none⟩,
  ⟨(some (true, 44)), .mv (.c (.lit (.int .i64 0))), none⟩])
(.block 1
(.loop
(.seq
(.reg [
  ⟨(some (true, 45)), .bin .lss (.g 44) (.g 43), none⟩])
(.seq
(.cond (.g 45)
.skip
(.exit 1))
(.seq
(.block 2
(.seq
(.reg [
  ⟨(some (false, 46)), .mv (.g 44), none⟩,
  ⟨(some (false, 47)), .ia 1 (.g 42) (.g 44), none⟩,
  ⟨(some (false, 48)), .ld none (.l 47), none⟩,
  ⟨(some (true, 14)), .mv (.l 46), none⟩,
  ⟨(some (true, 15)), .mv (.l 48), none⟩])
(.seq
(.reg [
  ⟨(some (false, 49)), .mv (.g 15), none⟩,
  ⟨(some (false, 50)), .mv (.l 49), none⟩,
  ⟨(some (false, 51)), .mv (.g 14), (some (.l 50, true))⟩,
  ⟨(some (false, 52)), .mv (.g 13), (some (.l 50, true))⟩,
  ⟨(some (false, 53)), .bin .gtr (.l 51) (.l 52), (some (.l 50, true))⟩,
  ⟨(some (true, 54)), .pick (.l 50) (.l 53) (.c (.lit (.bool false))), none⟩])
(.cond (.g 54)
(.seq
(.reg [
  ⟨(some (false, 55)), .mv (.g 8), none⟩,
  ⟨(some (false, 56)), .mv (.g 14), none⟩,
  ⟨(some (false, 57)), .mv (.g 12), none⟩,
  ⟨(some (false, 58)), .bin .add (.l 56) (.l 57), none⟩,
  ⟨(some (false, 59)), .fa (.g 11) 5, none⟩,
  ⟨(some (false, 60)), .ld none (.l 59), none⟩,
  ⟨(some (false, 61)), .len (.l 60), none⟩,
  ⟨(some (false, 62)), .bin .sub (.l 61) (.c (.lit (.int .i64 1))), none⟩,
  ⟨(some (false, 63)), .mn [.l 58, .l 62], none⟩,
  ⟨(some (false, 64)), .mks false 1 [.l 63], none⟩,
  ⟨(some (false, 65)), .app 1 8 (.l 55) (.l 64), none⟩,
  ⟨(some (false, 66)), .mv (.g 9), none⟩,
  ⟨(some (false, 67)), .mv (.g 14), none⟩,
  ⟨(some (false, 68)), .mks false 1 [.l 67], none⟩,
  ⟨(some (false, 69)), .app 1 8 (.l 66) (.l 68), none⟩,
  ⟨(some (true, 8)), .mv (.l 65), none⟩,
  ⟨(some (true, 9)), .mv (.l 69), none⟩])
(.reg [
  ⟨(some (false, 70)), .mv (.g 14), none⟩,
  ⟨(some (false, 71)), .mv (.g 12), none⟩,
  ⟨(some (false, 72)), .bin .mul (.c (.lit (.int .i64 2))) (.l 71), none⟩,
  ⟨(some (false, 73)), .bin .add (.l 70) (.l 72), none⟩,
  ⟨(some (true, 13)), .mv (.l 73), none⟩]))
.skip))))
(.reg [
  ⟨(some (false, 74)), .bin .add (.g 44) (.c (.lit (.int .i64 1))), none⟩,
  ⟨(some (true, 44)), .mv (.l 74), none⟩])))))))
(.seq
(.reg [
  ⟨(some (false, 75)), .mv (.g 8), none⟩,
  ⟨(some (false, 76)), .mv (.g 9), none⟩,
  ⟨(some (true, 8)), .mv (.l 75), none⟩,
  ⟨(some (true, 9)), .mv (.l 76), none⟩,
  ⟨(some (true, 10)), .mv (.c (.lit (.int .i64 0))), none⟩])
.ret)))))))
def K21 : List Nat := [0, 1, 2, 3, 22, 26, 30, 45, 54, 8, 9, 10, 4, 11, 12, 13, 42, 43, 44, 14, 15]
noncomputable def b21 : Code := match Tryd.f21.body with | some c => c | none => .skip
theorem t21 : trCode ⟨Tryd.prog, K21, [], 77, none⟩ b21 = some c21 := by kernel_rfl
theorem go21 {args : List AV} {H : AHeap} {Kk : AV → AHeap → Prop} (hn : args.length = 4) (h : AGo ⟨Tryd.prog, K21, [], 77, none⟩ H.length [.code c21] (RetP [.t (.g 8), .t (.g 9), .t (.g 10)] H.length Kk) ⟨[], argsG 0 args⟩ H) : ACalls Tryd.prog 21 args H Kk :=
  ACalls_of Tryd.func21 (c := b21) rfl (by kernel_rfl) t21 (rs := [.t (.g 8), .t (.g 9), .t (.g 10)]) (by kernel_rfl) (by rw [hn]; exact Nat.le_of_ble_eq_true rfl) (by rw [hn]; rfl) (h.weaken (fun _ _ => RetP.hands) (by simp))

/-- sastrugi/sastrugikit.SameSpans -/
def c24 : ACode :=
  (.seq
(.reg [
  ⟨(some (true, 4)), .mv (.c (.lit (.bool false))), none⟩])
(.seq
(.seq
(.reg [
  ⟨(some (false, 6)), .mv (.g 0), none⟩,
  ⟨(some (false, 7)), .len (.l 6), none⟩,
  ⟨(some (false, 8)), .mv (.g 1), none⟩,
  ⟨(some (false, 9)), .len (.l 8), none⟩,
  ⟨(some (true, 10)), .bin .neq (.l 7) (.l 9), none⟩])
(.cond (.g 10)
(.seq
(.reg [
  ⟨(some (true, 4)), .mv (.c (.lit (.bool false))), none⟩])
.ret)
.skip))
(.seq
(.seq
(.reg [
  ⟨(some (true, 5)), .mv (.c (.lit (.int .i64 0))), none⟩])
(.block 0
(.loop
(.seq
(.seq
(.reg [
  ⟨(some (false, 11)), .mv (.g 5), none⟩,
  ⟨(some (false, 12)), .mv (.g 0), none⟩,
  ⟨(some (false, 13)), .len (.l 12), none⟩,
  ⟨(some (true, 14)), .bin .lss (.l 11) (.l 13), none⟩])
(.cond (.g 14)
.skip
(.exit 0)))
(.seq
(.block 1
(.seq
(.draw [
  ⟨⟨(some (false, 17)), .mv (.g 0), none⟩, 0, true, []⟩,
  ⟨⟨(some (false, 18)), .mv (.g 5), none⟩, 1, true, []⟩,
  ⟨⟨(some (false, 19)), .ia 2 (.l 17) (.l 18), none⟩, 2, true, []⟩,
  ⟨⟨(some (false, 20)), .ld (some 2) (.l 19), none⟩, 3, true, []⟩,
  ⟨⟨(some (false, 21)), .mv (.g 1), none⟩, 4, true, []⟩,
  ⟨⟨(some (false, 22)), .mv (.g 5), none⟩, 5, true, []⟩,
  ⟨⟨(some (false, 23)), .ia 2 (.l 21) (.l 22), none⟩, 6, true, []⟩,
  ⟨⟨(some (false, 24)), .ld (some 2) (.l 23), none⟩, 7, true, []⟩,
  ⟨⟨(some (true, 25)), .eqs true (.fld 0 none .i (.fld 1 none .i .nil)) (.l 20) (.l 24), none⟩, 8, true, []⟩])
(.cond (.g 25)
(.seq
(.reg [
  ⟨(some (true, 4)), .mv (.c (.lit (.bool false))), none⟩])
.ret)
.skip)))
(.reg [
  ⟨(some (false, 15)), .mv (.g 5), none⟩,
  ⟨(some (false, 16)), .bin .add (.l 15) (.c (.lit (.int .i64 1))), none⟩,
  ⟨(some (true, 5)), .mv (.l 16), none⟩]))))))
(.seq
(.reg [
  ⟨(some (true, 4)), .mv (.c (.lit (.bool true))), none⟩])
.ret))))
def K24 : List Nat := [0, 1, 10, 14, 25, 4, 5]
noncomputable def b24 : Code := match Tryd.f24.body with | some c => c | none => .skip
theorem t24 : trCode ⟨Tryd.prog, K24, [], 26, none⟩ b24 = some c24 := by kernel_rfl
theorem go24 {args : List AV} {H : AHeap} {Kk : AV → AHeap → Prop} (hn : args.length = 2) (h : AGo ⟨Tryd.prog, K24, [], 26, none⟩ H.length [.code c24] (RetP [.t (.g 4)] H.length Kk) ⟨[], argsG 0 args⟩ H) : ACalls Tryd.prog 24 args H Kk :=
  ACalls_of Tryd.func24 (c := b24) rfl (by kernel_rfl) t24 (rs := [.t (.g 4)]) (by kernel_rfl) (by rw [hn]; exact Nat.le_of_ble_eq_true rfl) (by rw [hn]; rfl) (h.weaken (fun _ _ => RetP.hands) (by simp))

end Go.Sas
