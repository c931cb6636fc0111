/-
The code of some functions with its types resolved, printed by a program; that it is the code is checked by the kernel.
The code of some functions with its types resolved, printed by a program; that it is the code is checked by the kernel.
The code of some functions with its types resolved, printed by a program; that it is the code is checked by the kernel.
The code of some functions with its types resolved, printed by a program; that it is the code is checked by the kernel.
Conditions: none.
-/
import Derived.Test.YtkbaajgegbolkaaJ2
import Derived.Test.YtkbaajgegbolkaaProg
set_option linter.unusedVariables false
set_option linter.unusedSimpArgs false
namespace Go.Sas
open Go.Proofs
set_option maxRecDepth 100000
/-- sastrugi/sastrugiref02.Rise -/
def c21 : ACode :=
  (.seq
(.reg [
  ⟨(some (true, 5)), .box (.g 0), none⟩,
  ⟨(some (true, 10)), .mv (.c (.lit (.int .i64 0))), none⟩])
(.seq
(.reg [
  ⟨(some (false, 11)), .ld (some 4) (.g 5), none⟩,
  ⟨(some (false, 12)), .mv (.g 1), none⟩,
  ⟨(some (false, 13)), .mv (.g 2), none⟩,
  ⟨(some (false, 14)), .mv (.g 3), none⟩,
  ⟨(some (false, 15)), .mv (.g 4), none⟩,
  ⟨(some (false, 16)), .call (.c (.fn 34 [])) [.l 11, .l 12, .l 13, .l 14, .l 15], none⟩,
  ⟨(some (true, 10)), .mv (.l 16), none⟩])
.ret))
def K21 : List Nat := [0, 1, 2, 3, 4, 10, 5]
noncomputable def b21 : Code := match Try.f21.body with | some c => c | none => .skip
theorem t21 : trCode ⟨Try.prog, K21, [], 17, none⟩ b21 = some c21 := by kernel_rfl
theorem go21 {args : List AV} {H : AHeap} {Kk : AV → AHeap → Prop} (hn : args.length = 5) (h : AGo ⟨Try.prog, K21, [], 17, none⟩ H.length [.code c21] (RetP [.t (.g 10)] H.length Kk) ⟨[], argsG 0 args⟩ H) : ACalls Try.prog 21 args H Kk :=
  ACalls_of Try.func21 (c := b21) rfl (by kernel_rfl) t21 (rs := [.t (.g 10)]) (by kernel_rfl) (by rw [hn]; exact Nat.le_of_ble_eq_true rfl) (by rw [hn]; rfl) (h.weaken (fun _ _ => RetP.hands) (by simp))

/-- sastrugi/sastrugiref02.rise -/
def c34 : ACode :=
  (.seq
(.reg [
  ⟨(some (true, 5)), .box (.g 0), none⟩,
  ⟨(some (true, 10)), .mv (.c (.lit (.int .i64 0))), none⟩])
(.seq
(.reg [
  ⟨(some (true, 11)), .mv (.c (.lit (.int .i64 (-1)))), none⟩])
(.seq
(.reg [
  ⟨(some (false, 17)), .ld (some 4) (.g 5), none⟩,
  ⟨(some (false, 18)), .call (.c (.fn 20 [])) [.l 17], none⟩,
  ⟨(some (true, 12)), .mv (.l 18), none⟩])
(.seq
(.seq
(.reg [
  ⟨(some (true, 13)), .mv (.c (.lit (.int .i64 0))), none⟩])
(.block 0
(.loop
(.seq
(.seq
(.reg [
  ⟨(some (false, 19)), .mv (.g 13), none⟩,
  ⟨(some (false, 20)), .mv (.g 12), none⟩,
  ⟨(some (true, 21)), .bin .lss (.l 19) (.l 20), none⟩])
(.cond (.g 21)
.skip
(.exit 0)))
(.seq
(.block 1
(.seq
(.reg [
  ⟨(some (false, 24)), .ld (some 4) (.g 5), none⟩,
  ⟨(some (false, 25)), .mv (.g 13), none⟩,
  ⟨(some (false, 26)), .call (.c (.fn 51 [])) [.l 24, .l 25], none⟩,
  ⟨(some (true, 14)), .new [.int .i64 0, .int .i64 0, .int .i64 0, .int .i64 0, .int .i64 0], none⟩,
  ⟨none, .st 5 (.g 14) (.l 26), none⟩])
(.seq
(.reg [
  ⟨(some (false, 27)), .mv (.g 2), none⟩,
  ⟨(some (false, 28)), .mv (.g 4), none⟩,
  ⟨(some (false, 29)), .bin .sub (.l 27) (.l 28), none⟩,
  ⟨(some (false, 30)), .fa (.g 14) 3, none⟩,
  ⟨(some (false, 31)), .ld none (.l 30), none⟩,
  ⟨(some (false, 32)), .bin .mul (.l 29) (.l 31), none⟩,
  ⟨(some (true, 15)), .mv (.l 32), none⟩])
(.seq
(.seq
(.reg [
  ⟨(some (false, 33)), .mv (.g 2), none⟩,
  ⟨(some (false, 34)), .mv (.g 4), none⟩,
  ⟨(some (true, 35)), .bin .lss (.l 33) (.l 34), none⟩])
(.cond (.g 35)
(.reg [
  ⟨(some (false, 36)), .mv (.g 4), none⟩,
  ⟨(some (false, 37)), .mv (.g 2), none⟩,
  ⟨(some (false, 38)), .bin .sub (.l 36) (.l 37), none⟩,
  ⟨(some (false, 39)), .fa (.g 14) 2, none⟩,
  ⟨(some (false, 40)), .ld none (.l 39), none⟩,
  ⟨(some (false, 41)), .bin .mul (.l 38) (.l 40), none⟩,
  ⟨(some (true, 15)), .mv (.l 41), none⟩])
.skip))
(.seq
(.draw [
  ⟨⟨(some (false, 42)), .ld (some 4) (.g 5), none⟩, 0, true, []⟩,
  ⟨⟨(some (false, 43)), .mv (.g 3), none⟩, 1, true, []⟩,
  ⟨⟨(some (false, 44)), .mv (.g 13), none⟩, 2, true, []⟩,
  ⟨⟨(some (false, 46)), .mv (.g 15), none⟩, 4, true, []⟩,
  ⟨⟨(some (false, 48)), .ld (some 4) (.g 5), none⟩, 6, true, []⟩,
  ⟨⟨(some (false, 49)), .mv (.g 13), none⟩, 7, true, []⟩,
  ⟨⟨(some (false, 50)), .mv (.g 1), none⟩, 8, true, []⟩,
  ⟨⟨(some (false, 45)), .call (.c (.fn 52 [])) [.l 42, .l 43, .l 44], none⟩, 3, false, []⟩,
  ⟨⟨(some (false, 47)), .bin .add (.l 45) (.l 46), none⟩, 5, true, []⟩,
  ⟨⟨(some (false, 51)), .call (.c (.fn 52 [])) [.l 48, .l 49, .l 50], none⟩, 9, false, []⟩,
  ⟨⟨(some (false, 52)), .bin .add (.l 47) (.l 51), none⟩, 10, true, []⟩,
  ⟨⟨(some (true, 16)), .mv (.l 52), none⟩, 11, true, []⟩])
(.seq
(.reg [
  ⟨(some (false, 53)), .mv (.g 11), none⟩,
  ⟨(some (false, 54)), .bin .lss (.l 53) (.c (.lit (.int .i64 0))), none⟩,
  ⟨(some (false, 55)), .mv (.l 54), none⟩,
  ⟨(some (false, 56)), .mv (.g 16), (some (.l 55, false))⟩,
  ⟨(some (false, 57)), .mv (.g 11), (some (.l 55, false))⟩,
  ⟨(some (false, 58)), .bin .lss (.l 56) (.l 57), (some (.l 55, false))⟩,
  ⟨(some (true, 59)), .pick (.l 55) (.c (.lit (.bool true))) (.l 58), none⟩])
(.cond (.g 59)
(.reg [
  ⟨(some (false, 60)), .mv (.g 16), none⟩,
  ⟨(some (true, 11)), .mv (.l 60), none⟩])
.skip)))))))
(.reg [
  ⟨(some (false, 22)), .mv (.g 13), none⟩,
  ⟨(some (false, 23)), .bin .add (.l 22) (.c (.lit (.int .i64 1))), none⟩,
  ⟨(some (true, 13)), .mv (.l 23), none⟩]))))))
(.seq
(.reg [
  ⟨(some (false, 61)), .mv (.g 11), none⟩,
  ⟨(some (true, 10)), .mv (.l 61), none⟩])
.ret)))))
def K34 : List Nat := [0, 1, 2, 3, 4, 21, 35, 59, 10, 5, 11, 12, 13, 14, 15, 16]
noncomputable def b34 : Code := match Try.f34.body with | some c => c | none => .skip
theorem t34 : trCode ⟨Try.prog, K34, [], 62, none⟩ b34 = some c34 := by kernel_rfl
theorem go34 {args : List AV} {H : AHeap} {Kk : AV → AHeap → Prop} (hn : args.length = 5) (h : AGo ⟨Try.prog, K34, [], 62, none⟩ H.length [.code c34] (RetP [.t (.g 10)] H.length Kk) ⟨[], argsG 0 args⟩ H) : ACalls Try.prog 34 args H Kk :=
  ACalls_of Try.func34 (c := b34) rfl (by kernel_rfl) t34 (rs := [.t (.g 10)]) (by kernel_rfl) (by rw [hn]; exact Nat.le_of_ble_eq_true rfl) (by rw [hn]; rfl) (h.weaken (fun _ _ => RetP.hands) (by simp))

/-- sastrugi/sastrugiref02.reach -/
def c51 : ACode :=
  (.seq
(.reg [
  ⟨(some (true, 2)), .box (.g 0), none⟩,
  ⟨(some (true, 4)), .new [.int .i64 0, .int .i64 0, .int .i64 0, .int .i64 0, .int .i64 0], none⟩])
(.seq
(.seq
(.reg [
  ⟨(some (true, 5)), .mv (.c (.lit (.int .i64 0))), none⟩])
(.block 0
(.loop
(.seq
(.seq
(.reg [
  ⟨(some (false, 6)), .mv (.g 5), none⟩,
  ⟨(some (false, 7)), .fa (.g 2) 0, none⟩,
  ⟨(some (false, 8)), .ld none (.l 7), none⟩,
  ⟨(some (false, 9)), .len (.l 8), none⟩,
  ⟨(some (true, 10)), .bin .lss (.l 6) (.l 9), none⟩])
(.cond (.g 10)
.skip
(.exit 0)))
(.seq
(.block 1
(.seq
(.seq
(.reg [
  ⟨(some (false, 13)), .mv (.g 1), none⟩,
  ⟨(some (false, 14)), .fa (.g 2) 0, none⟩,
  ⟨(some (false, 15)), .ld none (.l 14), none⟩,
  ⟨(some (false, 16)), .mv (.g 5), none⟩,
  ⟨(some (false, 17)), .ia 5 (.l 15) (.l 16), none⟩,
  ⟨(some (false, 18)), .fa (.l 17) 0, none⟩,
  ⟨(some (false, 19)), .ld none (.l 18), none⟩,
  ⟨(some (true, 20)), .bin .lss (.l 13) (.l 19), none⟩])
(.cond (.g 20)
(.seq
(.reg [
  ⟨(some (false, 21)), .fa (.g 2) 0, none⟩,
  ⟨(some (false, 22)), .ld none (.l 21), none⟩,
  ⟨(some (false, 23)), .mv (.g 5), none⟩,
  ⟨(some (false, 24)), .ia 5 (.l 22) (.l 23), none⟩,
  ⟨(some (false, 25)), .ld (some 5) (.l 24), none⟩,
  ⟨none, .st 5 (.g 4) (.l 25), none⟩])
.ret)
.skip))
(.reg [
  ⟨(some (false, 26)), .mv (.g 1), none⟩,
  ⟨(some (false, 27)), .fa (.g 2) 0, none⟩,
  ⟨(some (false, 28)), .ld none (.l 27), none⟩,
  ⟨(some (false, 29)), .mv (.g 5), none⟩,
  ⟨(some (false, 30)), .ia 5 (.l 28) (.l 29), none⟩,
  ⟨(some (false, 31)), .fa (.l 30) 0, none⟩,
  ⟨(some (false, 32)), .ld none (.l 31), none⟩,
  ⟨(some (false, 33)), .bin .sub (.l 26) (.l 32), none⟩,
  ⟨(some (true, 1)), .mv (.l 33), none⟩])))
(.reg [
  ⟨(some (false, 11)), .mv (.g 5), none⟩,
  ⟨(some (false, 12)), .bin .add (.l 11) (.c (.lit (.int .i64 1))), none⟩,
  ⟨(some (true, 5)), .mv (.l 12), none⟩]))))))
(.seq
(.reg [
  ⟨(some (false, 34)), .mk [.int .i64 0, .int .i64 0, .int .i64 0, .int .i64 0, .int .i64 0] [], none⟩,
  ⟨none, .st 5 (.g 4) (.l 34), none⟩])
.ret)))
def K51 : List Nat := [0, 1, 10, 20, 4, 2, 5]
noncomputable def b51 : Code := match Try.f51.body with | some c => c | none => .skip
theorem t51 : trCode ⟨Try.prog, K51, [], 35, none⟩ b51 = some c51 := by kernel_rfl
theorem go51 {args : List AV} {H : AHeap} {Kk : AV → AHeap → Prop} (hn : args.length = 2) (h : AGo ⟨Try.prog, K51, [], 35, none⟩ H.length [.code c51] (RetP [.cell (.g 4) (some 5)] H.length Kk) ⟨[], argsG 0 args⟩ H) : ACalls Try.prog 51 args H Kk :=
  ACalls_of Try.func51 (c := b51) rfl (by kernel_rfl) t51 (rs := [.cell (.g 4) (some 5)]) (by kernel_rfl) (by rw [hn]; exact Nat.le_of_ble_eq_true rfl) (by rw [hn]; rfl) (h.weaken (fun _ _ => RetP.hands) (by simp))

/-- sastrugi/sastrugiref02.far -/
def c52 : ACode :=
  (.seq
(.reg [
  ⟨(some (true, 3)), .box (.g 0), none⟩,
  ⟨(some (true, 6)), .mv (.c (.lit (.int .i64 0))), none⟩])
(.seq
(.reg [
  ⟨(some (true, 7)), .mv (.c (.lit (.int .i64 0))), none⟩])
(.seq
(.seq
(.reg [
  ⟨(some (false, 9)), .mv (.g 1), none⟩,
  ⟨(some (false, 10)), .mv (.g 2), none⟩,
  ⟨(some (false, 11)), .mn [.l 9, .l 10], none⟩,
  ⟨(some (true, 8)), .mv (.l 11), none⟩])
(.block 0
(.loop
(.seq
(.seq
(.reg [
  ⟨(some (false, 12)), .mv (.g 8), none⟩,
  ⟨(some (false, 13)), .mv (.g 1), none⟩,
  ⟨(some (false, 14)), .mv (.g 2), none⟩,
  ⟨(some (false, 15)), .mx [.l 13, .l 14], none⟩,
  ⟨(some (true, 16)), .bin .lss (.l 12) (.l 15), none⟩])
(.cond (.g 16)
.skip
(.exit 0)))
(.seq
(.block 1
(.reg [
  ⟨(some (false, 19)), .mv (.g 7), none⟩,
  ⟨(some (false, 20)), .ld (some 4) (.g 3), none⟩,
  ⟨(some (false, 21)), .mv (.g 8), none⟩,
  ⟨(some (false, 22)), .call (.c (.fn 51 [])) [.l 20, .l 21], none⟩,
  ⟨(some (false, 23)), .fd none (.l 22) 1, none⟩,
  ⟨(some (false, 24)), .bin .add (.l 19) (.l 23), none⟩,
  ⟨(some (true, 7)), .mv (.l 24), none⟩]))
(.reg [
  ⟨(some (false, 17)), .mv (.g 8), none⟩,
  ⟨(some (false, 18)), .bin .add (.l 17) (.c (.lit (.int .i64 1))), none⟩,
  ⟨(some (true, 8)), .mv (.l 18), none⟩]))))))
(.seq
(.reg [
  ⟨(some (false, 25)), .mv (.g 7), none⟩,
  ⟨(some (true, 6)), .mv (.l 25), none⟩])
.ret))))
def K52 : List Nat := [0, 1, 2, 16, 6, 3, 7, 8]
noncomputable def b52 : Code := match Try.f52.body with | some c => c | none => .skip
theorem t52 : trCode ⟨Try.prog, K52, [], 26, none⟩ b52 = some c52 := by kernel_rfl
theorem go52 {args : List AV} {H : AHeap} {Kk : AV → AHeap → Prop} (hn : args.length = 3) (h : AGo ⟨Try.prog, K52, [], 26, none⟩ H.length [.code c52] (RetP [.t (.g 6)] H.length Kk) ⟨[], argsG 0 args⟩ H) : ACalls Try.prog 52 args H Kk :=
  ACalls_of Try.func52 (c := b52) rfl (by kernel_rfl) t52 (rs := [.t (.g 6)]) (by kernel_rfl) (by rw [hn]; exact Nat.le_of_ble_eq_true rfl) (by rw [hn]; rfl) (h.weaken (fun _ _ => RetP.hands) (by simp))

end Go.Sas
namespace Go.Sas
open Go.Proofs
set_option maxRecDepth 100000
/-- sastrugi/probe.Check -/
def c58 : ACode :=
  (.seq
(.reg [
  ⟨(some (true, 1)), .box (.g 0), none⟩,
  ⟨(some (true, 2)), .mv (.c (.lit (.int .i64 0))), none⟩])
(.seq
(.block 0
(.seq
(.reg [
  ⟨(some (false, 8)), .fa (.g 1) 0, none⟩,
  ⟨(some (false, 9)), .ld none (.l 8), none⟩,
  ⟨(some (false, 10)), .len (.l 9), none⟩,
  ⟨(some (false, 11)), .bin .eql (.l 10) (.c (.lit (.int .i64 0))), none⟩,
  ⟨(some (true, 7)), .mv (.l 11), none⟩])
(.cond (.g 7)
(.seq
(.reg [
  ⟨(some (true, 2)), .mv (.c (.lit (.int .i64 6))), none⟩])
.ret)
(.seq
(.reg [
  ⟨(some (false, 13)), .fa (.g 1) 0, none⟩,
  ⟨(some (false, 14)), .ld none (.l 13), none⟩,
  ⟨(some (false, 15)), .len (.l 14), none⟩,
  ⟨(some (false, 16)), .bin .gtr (.l 15) (.c (.lit (.int .i64 20))), none⟩,
  ⟨(some (true, 12)), .mv (.l 16), none⟩])
(.cond (.g 12)
(.seq
(.reg [
  ⟨(some (true, 2)), .mv (.c (.lit (.int .i64 8))), none⟩])
.ret)
.skip)))))
(.seq
(.seq
(.reg [
  ⟨(some (false, 17)), .fa (.g 1) 0, none⟩,
  ⟨(some (true, 18)), .ld none (.l 17), none⟩,
  ⟨(some (true, 19)), .len (.g 18), none⟩,
  ⟨(some (true, 20)), .mv (.c (.lit (.int .i64 0))), none⟩])
(.block 1
(.loop
(.seq
(.reg [
  ⟨(some (true, 21)), .bin .lss (.g 20) (.g 19), none⟩])
(.seq
(.cond (.g 21)
.skip
(.exit 1))
(.seq
(.block 2
(.seq
(.reg [
  ⟨(some (false, 22)), .ia 5 (.g 18) (.g 20), none⟩,
  ⟨(some (false, 23)), .ld (some 5) (.l 22), none⟩,
  ⟨(some (true, 4)), .new [.int .i64 0, .int .i64 0, .int .i64 0, .int .i64 0, .int .i64 0], none⟩,
  ⟨none, .st 5 (.g 4) (.l 23), none⟩])
(.seq
(.reg [
  ⟨(some (false, 24)), .fa (.g 4) 0, none⟩,
  ⟨(some (false, 25)), .ld none (.l 24), none⟩,
  ⟨(some (false, 26)), .call (.c (.fn 46 [])) [.l 25, .c (.lit (.int .i64 1)), .c (.lit (.int .i64 1000))], none⟩,
  ⟨(some (false, 27)), .un .not (.l 26), none⟩,
  ⟨(some (false, 28)), .mv (.l 27), none⟩,
  ⟨(some (false, 29)), .fa (.g 4) 1, (some (.l 28, false))⟩,
  ⟨(some (false, 30)), .ld none (.l 29), (some (.l 28, false))⟩,
  ⟨(some (false, 31)), .call (.c (.fn 46 [])) [.l 30, .c (.lit (.int .i64 0)), .c (.lit (.int .i64 3000))], (some (.l 28, false))⟩,
  ⟨(some (false, 32)), .un .not (.l 31), (some (.l 28, false))⟩,
  ⟨(some (false, 33)), .pick (.l 28) (.c (.lit (.bool true))) (.l 32), none⟩,
  ⟨(some (false, 34)), .mv (.l 33), none⟩,
  ⟨(some (false, 35)), .fa (.g 4) 2, (some (.l 34, false))⟩,
  ⟨(some (false, 36)), .ld none (.l 35), (some (.l 34, false))⟩,
  ⟨(some (false, 37)), .call (.c (.fn 46 [])) [.l 36, .c (.lit (.int .i64 0)), .c (.lit (.int .i64 1000))], (some (.l 34, false))⟩,
  ⟨(some (false, 38)), .un .not (.l 37), (some (.l 34, false))⟩,
  ⟨(some (false, 39)), .pick (.l 34) (.c (.lit (.bool true))) (.l 38), none⟩,
  ⟨(some (false, 40)), .mv (.l 39), none⟩,
  ⟨(some (false, 41)), .fa (.g 4) 3, (some (.l 40, false))⟩,
  ⟨(some (false, 42)), .ld none (.l 41), (some (.l 40, false))⟩,
  ⟨(some (false, 43)), .call (.c (.fn 46 [])) [.l 42, .c (.lit (.int .i64 0)), .c (.lit (.int .i64 1000))], (some (.l 40, false))⟩,
  ⟨(some (false, 44)), .un .not (.l 43), (some (.l 40, false))⟩,
  ⟨(some (false, 45)), .pick (.l 40) (.c (.lit (.bool true))) (.l 44), none⟩,
  ⟨(some (false, 46)), .mv (.l 45), none⟩,
  ⟨(some (false, 47)), .fa (.g 4) 4, (some (.l 46, false))⟩,
  ⟨(some (false, 48)), .ld none (.l 47), (some (.l 46, false))⟩,
  ⟨(some (false, 49)), .call (.c (.fn 46 [])) [.l 48, .c (.lit (.int .i64 0)), .c (.lit (.int .i64 10000))], (some (.l 46, false))⟩,
  ⟨(some (false, 50)), .un .not (.l 49), (some (.l 46, false))⟩,
  ⟨(some (true, 51)), .pick (.l 46) (.c (.lit (.bool true))) (.l 50), none⟩])
(.cond (.g 51)
(.seq
(.reg [
  ⟨(some (true, 2)), .mv (.c (.lit (.int .i64 2))), none⟩])
.ret)
.skip))))
(.reg [
  ⟨(some (false, 52)), .bin .add (.g 20) (.c (.lit (.int .i64 1))), none⟩,
  ⟨(some (true, 20)), .mv (.l 52), none⟩])))))))
(.seq
(.seq
(.reg [
  ⟨(some (false, 53)), .ld (some 4) (.g 1), none⟩,
  ⟨(some (false, 54)), .call (.c (.fn 71 [])) [.l 53], none⟩,
  ⟨(some (true, 55)), .bin .gtr (.l 54) (.c (.lit (.int .i64 1000))), none⟩])
(.cond (.g 55)
(.seq
(.reg [
  ⟨(some (true, 2)), .mv (.c (.lit (.int .i64 8))), none⟩])
.ret)
.skip))
(.seq
(.seq
(.reg [
  ⟨(some (false, 56)), .fa (.g 1) 1, none⟩,
  ⟨(some (true, 57)), .ld (some 3) (.l 56), none⟩,
  ⟨(some (true, 58)), .mv (.c (.lit (.int .i64 0))), none⟩])
(.block 3
(.loop
(.seq
(.reg [
  ⟨(some (true, 59)), .bin .lss (.g 58) (.c (.lit (.int .i64 3))), none⟩])
(.seq
(.cond (.g 59)
.skip
(.exit 3))
(.seq
(.block 4
(.seq
(.reg [
  ⟨(some (false, 60)), .ix 3 1 none (.g 57) (.g 58), none⟩,
  ⟨(some (true, 6)), .mv (.l 60), none⟩])
(.seq
(.reg [
  ⟨(some (false, 61)), .mv (.g 6), none⟩,
  ⟨(some (false, 62)), .call (.c (.fn 46 [])) [.l 61, .c (.lit (.int .i64 0)), .c (.lit (.int .i64 50))], none⟩,
  ⟨(some (true, 63)), .un .not (.l 62), none⟩])
(.cond (.g 63)
(.seq
(.reg [
  ⟨(some (true, 2)), .mv (.c (.lit (.int .i64 2))), none⟩])
.ret)
.skip))))
(.reg [
  ⟨(some (false, 64)), .bin .add (.g 58) (.c (.lit (.int .i64 1))), none⟩,
  ⟨(some (true, 58)), .mv (.l 64), none⟩])))))))
(.seq
(.reg [
  ⟨(some (true, 2)), .mv (.c (.lit (.int .i64 0))), none⟩])
.ret))))))
def K58 : List Nat := [0, 7, 12, 21, 51, 55, 59, 63, 2, 1, 18, 19, 20, 4, 57, 58, 6]
noncomputable def b58 : Code := match Try.f58.body with | some c => c | none => .skip
theorem t58 : trCode ⟨Try.prog, K58, [], 65, none⟩ b58 = some c58 := by kernel_rfl
theorem go58 {args : List AV} {H : AHeap} {Kk : AV → AHeap → Prop} (hn : args.length = 1) (h : AGo ⟨Try.prog, K58, [], 65, none⟩ H.length [.code c58] (RetP [.t (.g 2)] H.length Kk) ⟨[], argsG 0 args⟩ H) : ACalls Try.prog 58 args H Kk :=
  ACalls_of Try.func58 (c := b58) rfl (by kernel_rfl) t58 (rs := [.t (.g 2)]) (by kernel_rfl) (by rw [hn]; exact Nat.le_of_ble_eq_true rfl) (by rw [hn]; rfl) (h.weaken (fun _ _ => RetP.hands) (by simp))

/-- sastrugi/probe.looked -/
def c45 : ACode :=
  (.seq
(.reg [
  ⟨(some (true, 2)), .box (.g 0), none⟩,
  ⟨(some (true, 4)), .new [.slice none 0 0, .int .i64 0, .int .i64 0, .int .i64 0, .slice none 0 0, .slice none 0 0], none⟩,
  ⟨(some (true, 5)), .mv (.c (.lit (.int .i64 0))), none⟩])
(.seq
(.seq
(.reg [
  ⟨(some (false, 8)), .ld (some 4) (.g 2), none⟩,
  ⟨(some (false, 9)), .call (.c (.fn 58 [])) [.l 8], none⟩,
  ⟨(some (true, 6)), .mv (.l 9), none⟩])
(.seq
(.reg [
  ⟨(some (false, 10)), .mv (.g 6), none⟩,
  ⟨(some (true, 11)), .bin .neq (.l 10) (.c (.lit (.int .i64 0))), none⟩])
(.cond (.g 11)
(.seq
(.reg [
  ⟨(some (false, 12)), .mk [.slice none 0 0, .int .i64 0, .int .i64 0, .int .i64 0, .slice none 0 0, .slice none 0 0] [], none⟩,
  ⟨(some (false, 13)), .mv (.g 6), none⟩,
  ⟨none, .st 6 (.g 4) (.l 12), none⟩,
  ⟨(some (true, 5)), .mv (.l 13), none⟩])
.ret)
.skip)))
(.seq
(.reg [
  ⟨(some (false, 14)), .ld (some 4) (.g 2), none⟩,
  ⟨(some (false, 15)), .call (.c (.fn 59 [])) [.l 14], none⟩,
  ⟨(some (true, 7)), .new [.slice none 0 0, .int .i64 0, .int .i64 0, .int .i64 0, .slice none 0 0, .slice none 0 0], none⟩,
  ⟨none, .st 6 (.g 7) (.l 15), none⟩])
(.seq
(.draw [
  ⟨⟨(some (false, 16)), .ld (some 6) (.g 7), none⟩, 0, true, []⟩,
  ⟨⟨(some (false, 17)), .ld (some 6) (.g 7), none⟩, 1, true, []⟩,
  ⟨⟨(some (false, 18)), .mv (.g 1), none⟩, 2, true, []⟩,
  ⟨⟨(some (false, 19)), .call (.c (.fn 60 [])) [.l 17, .l 18], none⟩, 3, false, []⟩,
  ⟨⟨none, .st 6 (.g 4) (.l 16), none⟩, 4, false, []⟩,
  ⟨⟨(some (true, 5)), .mv (.l 19), none⟩, 5, false, []⟩])
.ret))))
def K45 : List Nat := [0, 1, 11, 4, 5, 2, 6, 7]
noncomputable def b45 : Code := match Try.f45.body with | some c => c | none => .skip
theorem t45 : trCode ⟨Try.prog, K45, [], 20, none⟩ b45 = some c45 := by kernel_rfl
theorem go45 {args : List AV} {H : AHeap} {Kk : AV → AHeap → Prop} (hn : args.length = 2) (h : AGo ⟨Try.prog, K45, [], 20, none⟩ H.length [.code c45] (RetP [.cell (.g 4) (some 6), .t (.g 5)] H.length Kk) ⟨[], argsG 0 args⟩ H) : ACalls Try.prog 45 args H Kk :=
  ACalls_of Try.func45 (c := b45) rfl (by kernel_rfl) t45 (rs := [.cell (.g 4) (some 6), .t (.g 5)]) (by kernel_rfl) (by rw [hn]; exact Nat.le_of_ble_eq_true rfl) (by rw [hn]; rfl) (h.weaken (fun _ _ => RetP.hands) (by simp))

/-- sastrugi/probe.in -/
def c46 : ACode :=
  (.seq
(.reg [
  ⟨(some (true, 6)), .mv (.c (.lit (.bool false))), none⟩])
(.seq
(.reg [
  ⟨(some (false, 7)), .mv (.g 1), none⟩,
  ⟨(some (false, 8)), .mv (.g 0), none⟩,
  ⟨(some (false, 9)), .bin .leq (.l 7) (.l 8), none⟩,
  ⟨(some (false, 10)), .mv (.l 9), none⟩,
  ⟨(some (false, 11)), .mv (.g 0), (some (.l 10, true))⟩,
  ⟨(some (false, 12)), .mv (.g 2), (some (.l 10, true))⟩,
  ⟨(some (false, 13)), .bin .leq (.l 11) (.l 12), (some (.l 10, true))⟩,
  ⟨(some (false, 14)), .pick (.l 10) (.l 13) (.c (.lit (.bool false))), none⟩,
  ⟨(some (true, 6)), .mv (.l 14), none⟩])
.ret))
def K46 : List Nat := [0, 1, 2, 6]
noncomputable def b46 : Code := match Try.f46.body with | some c => c | none => .skip
theorem t46 : trCode ⟨Try.prog, K46, [], 15, none⟩ b46 = some c46 := by kernel_rfl
theorem go46 {args : List AV} {H : AHeap} {Kk : AV → AHeap → Prop} (hn : args.length = 3) (h : AGo ⟨Try.prog, K46, [], 15, none⟩ H.length [.code c46] (RetP [.t (.g 6)] H.length Kk) ⟨[], argsG 0 args⟩ H) : ACalls Try.prog 46 args H Kk :=
  ACalls_of Try.func46 (c := b46) rfl (by kernel_rfl) t46 (rs := [.t (.g 6)]) (by kernel_rfl) (by rw [hn]; exact Nat.le_of_ble_eq_true rfl) (by rw [hn]; rfl) (h.weaken (fun _ _ => RetP.hands) (by simp))

/-- sastrugi/probe.places -/
def c71 : ACode :=
  (.seq
(.reg [
  ⟨(some (true, 1)), .box (.g 0), none⟩,
  ⟨(some (true, 2)), .mv (.c (.lit (.int .i64 0))), none⟩])
(.seq
(.reg [
  ⟨(some (true, 3)), .mv (.c (.lit (.int .i64 0))), none⟩])
(.seq
(.seq
(.reg [
  ⟨(some (false, 6)), .fa (.g 1) 0, none⟩,
  ⟨(some (true, 7)), .ld none (.l 6), none⟩,
  ⟨(some (true, 8)), .len (.g 7), none⟩,
  ⟨(some (true, 9)), .mv (.c (.lit (.int .i64 0))), none⟩])
(.block 0
(.loop
(.seq
(.reg [
  ⟨(some (true, 10)), .bin .lss (.g 9) (.g 8), none⟩])
(.seq
(.cond (.g 10)
.skip
(.exit 0))
(.seq
(.block 1
(.seq
(.reg [
  ⟨(some (false, 11)), .ia 5 (.g 7) (.g 9), none⟩,
  ⟨(some (false, 12)), .ld (some 5) (.l 11), none⟩,
  ⟨(some (true, 5)), .new [.int .i64 0, .int .i64 0, .int .i64 0, .int .i64 0, .int .i64 0], none⟩,
  ⟨none, .st 5 (.g 5) (.l 12), none⟩])
(.reg [
  ⟨(some (false, 13)), .mv (.g 3), none⟩,
  ⟨(some (false, 14)), .fa (.g 5) 0, none⟩,
  ⟨(some (false, 15)), .ld none (.l 14), none⟩,
  ⟨(some (false, 16)), .bin .add (.l 13) (.l 15), none⟩,
  ⟨(some (true, 3)), .mv (.l 16), none⟩])))
(.reg [
  ⟨(some (false, 17)), .bin .add (.g 9) (.c (.lit (.int .i64 1))), none⟩,
  ⟨(some (true, 9)), .mv (.l 17), none⟩])))))))
(.seq
(.reg [
  ⟨(some (false, 18)), .mv (.g 3), none⟩,
  ⟨(some (true, 2)), .mv (.l 18), none⟩])
.ret))))
def K71 : List Nat := [0, 10, 2, 1, 3, 7, 8, 9, 5]
noncomputable def b71 : Code := match Try.f71.body with | some c => c | none => .skip
theorem t71 : trCode ⟨Try.prog, K71, [], 19, none⟩ b71 = some c71 := by kernel_rfl
theorem go71 {args : List AV} {H : AHeap} {Kk : AV → AHeap → Prop} (hn : args.length = 1) (h : AGo ⟨Try.prog, K71, [], 19, none⟩ H.length [.code c71] (RetP [.t (.g 2)] H.length Kk) ⟨[], argsG 0 args⟩ H) : ACalls Try.prog 71 args H Kk :=
  ACalls_of Try.func71 (c := b71) rfl (by kernel_rfl) t71 (rs := [.t (.g 2)]) (by kernel_rfl) (by rw [hn]; exact Nat.le_of_ble_eq_true rfl) (by rw [hn]; rfl) (h.weaken (fun _ _ => RetP.hands) (by simp))

/-- sastrugi/probe.groundOf -/
def c59 : ACode :=
  (.seq
(.reg [
  ⟨(some (true, 1)), .box (.g 0), none⟩,
  ⟨(some (true, 2)), .new [.slice none 0 0, .int .i64 0, .int .i64 0, .int .i64 0, .slice none 0 0, .slice none 0 0], none⟩])
(.seq
(.reg [
  ⟨(some (false, 7)), .ld (some 4) (.g 1), none⟩,
  ⟨(some (false, 8)), .mk [.slice none 0 0, .int .i64 0, .int .i64 0, .int .i64 0, .slice none 0 0, .slice none 0 0] [(0, 4, .l 7)], none⟩,
  ⟨(some (true, 3)), .new [.slice none 0 0, .int .i64 0, .int .i64 0, .int .i64 0, .slice none 0 0, .slice none 0 0], none⟩,
  ⟨none, .st 6 (.g 3) (.l 8), none⟩])
(.seq
(.reg [
  ⟨(some (true, 4)), .new [.int .i64 0], none⟩,
  ⟨none, .st 1 (.g 4) (.c (.lit (.int .i64 0))), none⟩])
(.seq
(.seq
(.reg [
  ⟨(some (false, 9)), .ld (some 4) (.g 1), none⟩,
  ⟨(some (true, 10)), .call (.c (.fn 68 [])) [.l 9], none⟩])
(.block 0
(.rng (.g 10) [11, 12]
(.reg [
  ⟨(some (true, 6)), .new [.int .i64 0, .int .i64 0, .int .i64 0, .int .i64 0, .int .i64 0], none⟩,
  ⟨none, .st 5 (.g 6) (.g 12), none⟩])
(.block 1
(.seq
(.draw [
  ⟨⟨(some (false, 13)), .fa (.g 3) 4, none⟩, 0, true, []⟩,
  ⟨⟨(some (false, 14)), .ld none (.l 13), none⟩, 1, true, []⟩,
  ⟨⟨(some (false, 15)), .ld none (.g 4), none⟩, 2, true, []⟩,
  ⟨⟨(some (false, 16)), .mks false 1 [.l 15], none⟩, 3, true, []⟩,
  ⟨⟨(some (false, 18)), .fa (.g 3) 5, none⟩, 5, true, []⟩,
  ⟨⟨(some (false, 19)), .ld none (.l 18), none⟩, 6, true, []⟩,
  ⟨⟨(some (false, 20)), .ld (some 5) (.g 6), none⟩, 7, false, []⟩,
  ⟨⟨(some (false, 21)), .mks false 5 [.l 20], none⟩, 8, true, []⟩,
  ⟨⟨(some (false, 17)), .app 1 8 (.l 14) (.l 16), none⟩, 4, false, []⟩,
  ⟨⟨(some (false, 23)), .fa (.g 3) 4, none⟩, 10, true, []⟩,
  ⟨⟨(some (false, 22)), .app 5 40 (.l 19) (.l 21), none⟩, 9, false, []⟩,
  ⟨⟨none, .st 1 (.l 23) (.l 17), none⟩, 11, false, []⟩,
  ⟨⟨(some (false, 24)), .fa (.g 3) 5, none⟩, 12, false, []⟩,
  ⟨⟨none, .st 1 (.l 24) (.l 22), none⟩, 13, true, []⟩])
(.reg [
  ⟨(some (false, 25)), .ld none (.g 4), none⟩,
  ⟨(some (false, 26)), .fa (.g 6) 1, none⟩,
  ⟨(some (false, 27)), .ld none (.l 26), none⟩,
  ⟨(some (false, 28)), .bin .add (.l 25) (.l 27), none⟩,
  ⟨none, .st 1 (.g 4) (.l 28), none⟩]))))))
(.seq
(.reg [
  ⟨(some (false, 29)), .ld (some 6) (.g 3), none⟩,
  ⟨none, .st 6 (.g 2) (.l 29), none⟩])
.ret)))))
def K59 : List Nat := [0, 10, 11, 12, 2, 1, 3, 4, 6]
noncomputable def b59 : Code := match Try.f59.body with | some c => c | none => .skip
theorem t59 : trCode ⟨Try.prog, K59, [], 30, none⟩ b59 = some c59 := by kernel_rfl
theorem go59 {args : List AV} {H : AHeap} {Kk : AV → AHeap → Prop} (hn : args.length = 1) (h : AGo ⟨Try.prog, K59, [], 30, none⟩ H.length [.code c59] (RetP [.cell (.g 2) (some 6)] H.length Kk) ⟨[], argsG 0 args⟩ H) : ACalls Try.prog 59 args H Kk :=
  ACalls_of Try.func59 (c := b59) rfl (by kernel_rfl) t59 (rs := [.cell (.g 2) (some 6)]) (by kernel_rfl) (by rw [hn]; exact Nat.le_of_ble_eq_true rfl) (by rw [hn]; rfl) (h.weaken (fun _ _ => RetP.hands) (by simp))

/-- sastrugi/probe.checkLooks -/
def c60 : ACode :=
  (.seq
(.reg [
  ⟨(some (true, 2)), .box (.g 0), none⟩,
  ⟨(some (true, 4)), .mv (.c (.lit (.int .i64 0))), none⟩])
(.seq
(.seq
(.reg [
  ⟨(some (false, 11)), .mv (.g 1), none⟩,
  ⟨(some (false, 12)), .len (.l 11), none⟩,
  ⟨(some (true, 13)), .bin .gtr (.l 12) (.c (.lit (.int .i64 200))), none⟩])
(.cond (.g 13)
(.seq
(.reg [
  ⟨(some (true, 4)), .mv (.c (.lit (.int .i64 8))), none⟩])
.ret)
.skip))
(.seq
(.seq
(.reg [
  ⟨(some (true, 14)), .mv (.g 1), none⟩,
  ⟨(some (true, 15)), .len (.g 14), none⟩,
  ⟨(some (true, 16)), .mv (.c (.lit (.int .i64 0))), none⟩])
(.block 0
(.loop
(.seq
(.reg [
  ⟨(some (true, 17)), .bin .lss (.g 16) (.g 15), none⟩])
(.seq
(.cond (.g 17)
.skip
(.exit 0))
(.seq
(.block 1
(.seq
(.reg [
  ⟨(some (false, 18)), .ia 5 (.g 14) (.g 16), none⟩,
  ⟨(some (false, 19)), .ld (some 5) (.l 18), none⟩,
  ⟨(some (true, 6)), .new [.int .i64 0, .int .i64 0, .int .i64 0, .int .i64 0, .int .i64 0], none⟩,
  ⟨none, .st 5 (.g 6) (.l 19), none⟩])
(.block 2
(.seq
(.reg [
  ⟨(some (false, 21)), .fa (.g 6) 0, none⟩,
  ⟨(some (false, 22)), .ld none (.l 21), none⟩,
  ⟨(some (false, 23)), .call (.c (.fn 46 [])) [.l 22, .c (.lit (.int .i64 1)), .c (.lit (.int .i64 3))], none⟩,
  ⟨(some (false, 24)), .un .not (.l 23), none⟩,
  ⟨(some (true, 20)), .mv (.l 24), none⟩])
(.cond (.g 20)
(.seq
(.reg [
  ⟨(some (true, 4)), .mv (.c (.lit (.int .i64 4))), none⟩])
.ret)
(.seq
(.reg [
  ⟨(some (false, 26)), .fa (.g 6) 1, none⟩,
  ⟨(some (false, 27)), .ld none (.l 26), none⟩,
  ⟨(some (false, 28)), .fa (.g 2) 5, none⟩,
  ⟨(some (false, 29)), .ld none (.l 28), none⟩,
  ⟨(some (false, 30)), .len (.l 29), none⟩,
  ⟨(some (false, 31)), .bin .sub (.l 30) (.c (.lit (.int .i64 1))), none⟩,
  ⟨(some (false, 32)), .call (.c (.fn 46 [])) [.l 27, .c (.lit (.int .i64 0)), .l 31], none⟩,
  ⟨(some (false, 33)), .un .not (.l 32), none⟩,
  ⟨(some (true, 25)), .mv (.l 33), none⟩])
(.cond (.g 25)
(.seq
(.reg [
  ⟨(some (true, 4)), .mv (.c (.lit (.int .i64 7))), none⟩])
.ret)
(.seq
(.reg [
  ⟨(some (false, 35)), .fa (.g 6) 2, none⟩,
  ⟨(some (false, 36)), .ld none (.l 35), none⟩,
  ⟨(some (false, 37)), .call (.c (.fn 46 [])) [.l 36, .c (.lit (.int .i64 0)), .c (.lit (.int .i64 10000))], none⟩,
  ⟨(some (false, 38)), .un .not (.l 37), none⟩,
  ⟨(some (false, 39)), .mv (.l 38), none⟩,
  ⟨(some (false, 40)), .fa (.g 6) 3, (some (.l 39, false))⟩,
  ⟨(some (false, 41)), .fa (.l 40) 0, (some (.l 39, false))⟩,
  ⟨(some (false, 42)), .ld none (.l 41), (some (.l 39, false))⟩,
  ⟨(some (false, 43)), .call (.c (.fn 46 [])) [.l 42, .c (.lit (.int .i64 0)), .c (.lit (.int .i64 3000))], (some (.l 39, false))⟩,
  ⟨(some (false, 44)), .un .not (.l 43), (some (.l 39, false))⟩,
  ⟨(some (false, 45)), .pick (.l 39) (.c (.lit (.bool true))) (.l 44), none⟩,
  ⟨(some (false, 46)), .mv (.l 45), none⟩,
  ⟨(some (false, 47)), .fa (.g 6) 3, (some (.l 46, false))⟩,
  ⟨(some (false, 48)), .fa (.l 47) 1, (some (.l 46, false))⟩,
  ⟨(some (false, 49)), .ld none (.l 48), (some (.l 46, false))⟩,
  ⟨(some (false, 50)), .call (.c (.fn 46 [])) [.l 49, .c (.lit (.int .i64 0)), .c (.lit (.int .i64 3000))], (some (.l 46, false))⟩,
  ⟨(some (false, 51)), .un .not (.l 50), (some (.l 46, false))⟩,
  ⟨(some (false, 52)), .pick (.l 46) (.c (.lit (.bool true))) (.l 51), none⟩,
  ⟨(some (true, 34)), .mv (.l 52), none⟩])
(.cond (.g 34)
(.seq
(.reg [
  ⟨(some (true, 4)), .mv (.c (.lit (.int .i64 2))), none⟩])
.ret)
(.seq
(.reg [
  ⟨(some (false, 54)), .fa (.g 6) 3, none⟩,
  ⟨(some (false, 55)), .fa (.l 54) 0, none⟩,
  ⟨(some (false, 56)), .ld none (.l 55), none⟩,
  ⟨(some (false, 57)), .fa (.g 6) 3, none⟩,
  ⟨(some (false, 58)), .fa (.l 57) 1, none⟩,
  ⟨(some (false, 59)), .ld none (.l 58), none⟩,
  ⟨(some (false, 60)), .bin .gtr (.l 56) (.l 59), none⟩,
  ⟨(some (true, 53)), .mv (.l 60), none⟩])
(.cond (.g 53)
(.seq
(.reg [
  ⟨(some (true, 4)), .mv (.c (.lit (.int .i64 11))), none⟩])
.ret)
.skip)))))))))))
(.reg [
  ⟨(some (false, 61)), .bin .add (.g 16) (.c (.lit (.int .i64 1))), none⟩,
  ⟨(some (true, 16)), .mv (.l 61), none⟩])))))))
(.seq
(.seq
(.reg [
  ⟨(some (true, 62)), .mv (.g 1), none⟩,
  ⟨(some (true, 63)), .len (.g 62), none⟩,
  ⟨(some (true, 64)), .mv (.c (.lit (.int .i64 0))), none⟩])
(.block 3
(.loop
(.seq
(.reg [
  ⟨(some (true, 65)), .bin .lss (.g 64) (.g 63), none⟩])
(.seq
(.cond (.g 65)
.skip
(.exit 3))
(.seq
(.block 4
(.seq
(.reg [
  ⟨(some (false, 66)), .ia 5 (.g 62) (.g 64), none⟩,
  ⟨(some (false, 67)), .ld (some 5) (.l 66), none⟩,
  ⟨(some (true, 8)), .new [.int .i64 0, .int .i64 0, .int .i64 0, .int .i64 0, .int .i64 0], none⟩,
  ⟨none, .st 5 (.g 8) (.l 67), none⟩])
(.seq
(.reg [
  ⟨(some (true, 68)), .mv (.g 1), none⟩,
  ⟨(some (true, 69)), .len (.g 68), none⟩,
  ⟨(some (true, 70)), .mv (.c (.lit (.int .i64 0))), none⟩])
(.block 5
(.loop
(.seq
(.reg [
  ⟨(some (true, 71)), .bin .lss (.g 70) (.g 69), none⟩])
(.seq
(.cond (.g 71)
.skip
(.exit 5))
(.seq
(.block 6
(.seq
(.reg [
  ⟨(some (false, 72)), .ia 5 (.g 68) (.g 70), none⟩,
  ⟨(some (false, 73)), .ld (some 5) (.l 72), none⟩,
  ⟨(some (true, 10)), .new [.int .i64 0, .int .i64 0, .int .i64 0, .int .i64 0, .int .i64 0], none⟩,
  ⟨none, .st 5 (.g 10) (.l 73), none⟩])
(.seq
(.draw [
  ⟨⟨(some (false, 74)), .fa (.g 10) 3, none⟩, 0, true, []⟩,
  ⟨⟨(some (false, 75)), .fa (.l 74) 0, none⟩, 1, true, []⟩,
  ⟨⟨(some (false, 76)), .ld none (.l 75), none⟩, 2, true, []⟩,
  ⟨⟨(some (false, 77)), .fa (.g 8) 3, none⟩, 3, true, []⟩,
  ⟨⟨(some (false, 78)), .fa (.l 77) 1, none⟩, 4, true, []⟩,
  ⟨⟨(some (false, 79)), .ld none (.l 78), none⟩, 5, true, []⟩,
  ⟨⟨(some (false, 80)), .ld (some 6) (.g 2), none⟩, 6, true, []⟩,
  ⟨⟨(some (false, 81)), .ld (some 5) (.g 8), none⟩, 7, true, []⟩,
  ⟨⟨(some (false, 82)), .fa (.g 10) 1, none⟩, 8, true, []⟩,
  ⟨⟨(some (false, 83)), .ld none (.l 82), none⟩, 9, true, []⟩,
  ⟨⟨(some (false, 84)), .fa (.g 10) 2, none⟩, 10, true, []⟩,
  ⟨⟨(some (false, 85)), .ld none (.l 84), none⟩, 11, true, []⟩,
  ⟨⟨(some (false, 86)), .call (.c (.fn 62 [])) [.l 80, .l 81, .l 83, .l 85], none⟩, 12, false, []⟩,
  ⟨⟨(some (false, 87)), .bin .add (.l 79) (.l 86), none⟩, 13, true, []⟩,
  ⟨⟨(some (true, 88)), .bin .gtr (.l 76) (.l 87), none⟩, 14, true, []⟩])
(.cond (.g 88)
(.seq
(.reg [
  ⟨(some (true, 4)), .mv (.c (.lit (.int .i64 12))), none⟩])
.ret)
.skip))))
(.reg [
  ⟨(some (false, 89)), .bin .add (.g 70) (.c (.lit (.int .i64 1))), none⟩,
  ⟨(some (true, 70)), .mv (.l 89), none⟩])))))))))
(.reg [
  ⟨(some (false, 90)), .bin .add (.g 64) (.c (.lit (.int .i64 1))), none⟩,
  ⟨(some (true, 64)), .mv (.l 90), none⟩])))))))
(.seq
(.reg [
  ⟨(some (true, 4)), .mv (.c (.lit (.int .i64 0))), none⟩])
.ret)))))
def K60 : List Nat := [0, 1, 13, 17, 20, 25, 34, 53, 65, 71, 88, 4, 2, 14, 15, 16, 6, 62, 63, 64, 8, 68, 69, 70, 10]
noncomputable def b60 : Code := match Try.f60.body with | some c => c | none => .skip
theorem t60 : trCode ⟨Try.prog, K60, [], 91, none⟩ b60 = some c60 := by kernel_rfl
theorem go60 {args : List AV} {H : AHeap} {Kk : AV → AHeap → Prop} (hn : args.length = 2) (h : AGo ⟨Try.prog, K60, [], 91, none⟩ H.length [.code c60] (RetP [.t (.g 4)] H.length Kk) ⟨[], argsG 0 args⟩ H) : ACalls Try.prog 60 args H Kk :=
  ACalls_of Try.func60 (c := b60) rfl (by kernel_rfl) t60 (rs := [.t (.g 4)]) (by kernel_rfl) (by rw [hn]; exact Nat.le_of_ble_eq_true rfl) (by rw [hn]; rfl) (h.weaken (fun _ _ => RetP.hands) (by simp))

/-- (sastrugi/probe.ground).below -/
def c61 : ACode :=
  (.seq
(.reg [
  ⟨(some (true, 4)), .box (.g 0), none⟩,
  ⟨(some (true, 5)), .box (.g 1), none⟩,
  ⟨(some (true, 8)), .mv (.c (.lit (.int .i64 0))), none⟩])
(.seq
(.seq
(.reg [
  ⟨(some (false, 9)), .mv (.g 3), none⟩,
  ⟨(some (false, 10)), .fa (.g 5) 2, none⟩,
  ⟨(some (false, 11)), .ld none (.l 10), none⟩,
  ⟨(some (true, 12)), .bin .geq (.l 9) (.l 11), none⟩])
(.cond (.g 12)
(.seq
(.reg [
  ⟨(some (false, 13)), .ld (some 6) (.g 4), none⟩,
  ⟨(some (false, 14)), .fa (.g 5) 1, none⟩,
  ⟨(some (false, 15)), .ld none (.l 14), none⟩,
  ⟨(some (false, 16)), .mv (.g 2), none⟩,
  ⟨(some (false, 17)), .mv (.g 3), none⟩,
  ⟨(some (false, 18)), .fa (.g 5) 2, none⟩,
  ⟨(some (false, 19)), .ld none (.l 18), none⟩,
  ⟨(some (false, 20)), .bin .sub (.l 17) (.l 19), none⟩,
  ⟨(some (false, 21)), .call (.c (.fn 72 [])) [.l 13, .l 15, .l 16, .l 20, .c (.fn 73 [])], none⟩,
  ⟨(some (true, 8)), .mv (.l 21), none⟩])
.ret)
.skip))
(.seq
(.reg [
  ⟨(some (false, 22)), .ld (some 6) (.g 4), none⟩,
  ⟨(some (false, 23)), .fa (.g 5) 1, none⟩,
  ⟨(some (false, 24)), .ld none (.l 23), none⟩,
  ⟨(some (false, 25)), .mv (.g 2), none⟩,
  ⟨(some (false, 26)), .fa (.g 5) 2, none⟩,
  ⟨(some (false, 27)), .ld none (.l 26), none⟩,
  ⟨(some (false, 28)), .mv (.g 3), none⟩,
  ⟨(some (false, 29)), .bin .sub (.l 27) (.l 28), none⟩,
  ⟨(some (false, 30)), .call (.c (.fn 72 [])) [.l 22, .l 24, .l 25, .l 29, .c (.fn 74 [])], none⟩,
  ⟨(some (true, 8)), .mv (.l 30), none⟩])
.ret)))
def K61 : List Nat := [0, 1, 2, 3, 12, 8, 4, 5]
noncomputable def b61 : Code := match Try.f61.body with | some c => c | none => .skip
theorem t61 : trCode ⟨Try.prog, K61, [], 31, none⟩ b61 = some c61 := by kernel_rfl
theorem go61 {args : List AV} {H : AHeap} {Kk : AV → AHeap → Prop} (hn : args.length = 4) (h : AGo ⟨Try.prog, K61, [], 31, none⟩ H.length [.code c61] (RetP [.t (.g 8)] H.length Kk) ⟨[], argsG 0 args⟩ H) : ACalls Try.prog 61 args H Kk :=
  ACalls_of Try.func61 (c := b61) rfl (by kernel_rfl) t61 (rs := [.t (.g 8)]) (by kernel_rfl) (by rw [hn]; exact Nat.le_of_ble_eq_true rfl) (by rw [hn]; rfl) (h.weaken (fun _ _ => RetP.hands) (by simp))

/-- (sastrugi/probe.ground).above -/
def c62 : ACode :=
  (.seq
(.reg [
  ⟨(some (true, 4)), .box (.g 0), none⟩,
  ⟨(some (true, 5)), .box (.g 1), none⟩,
  ⟨(some (true, 8)), .mv (.c (.lit (.int .i64 0))), none⟩])
(.seq
(.seq
(.reg [
  ⟨(some (false, 9)), .mv (.g 3), none⟩,
  ⟨(some (false, 10)), .fa (.g 5) 2, none⟩,
  ⟨(some (false, 11)), .ld none (.l 10), none⟩,
  ⟨(some (true, 12)), .bin .geq (.l 9) (.l 11), none⟩])
(.cond (.g 12)
(.seq
(.reg [
  ⟨(some (false, 13)), .ld (some 6) (.g 4), none⟩,
  ⟨(some (false, 14)), .fa (.g 5) 1, none⟩,
  ⟨(some (false, 15)), .ld none (.l 14), none⟩,
  ⟨(some (false, 16)), .mv (.g 2), none⟩,
  ⟨(some (false, 17)), .mv (.g 3), none⟩,
  ⟨(some (false, 18)), .fa (.g 5) 2, none⟩,
  ⟨(some (false, 19)), .ld none (.l 18), none⟩,
  ⟨(some (false, 20)), .bin .sub (.l 17) (.l 19), none⟩,
  ⟨(some (false, 21)), .call (.c (.fn 72 [])) [.l 13, .l 15, .l 16, .l 20, .c (.fn 74 [])], none⟩,
  ⟨(some (true, 8)), .mv (.l 21), none⟩])
.ret)
.skip))
(.seq
(.reg [
  ⟨(some (false, 22)), .ld (some 6) (.g 4), none⟩,
  ⟨(some (false, 23)), .fa (.g 5) 1, none⟩,
  ⟨(some (false, 24)), .ld none (.l 23), none⟩,
  ⟨(some (false, 25)), .mv (.g 2), none⟩,
  ⟨(some (false, 26)), .fa (.g 5) 2, none⟩,
  ⟨(some (false, 27)), .ld none (.l 26), none⟩,
  ⟨(some (false, 28)), .mv (.g 3), none⟩,
  ⟨(some (false, 29)), .bin .sub (.l 27) (.l 28), none⟩,
  ⟨(some (false, 30)), .call (.c (.fn 72 [])) [.l 22, .l 24, .l 25, .l 29, .c (.fn 73 [])], none⟩,
  ⟨(some (true, 8)), .mv (.l 30), none⟩])
.ret)))
def K62 : List Nat := [0, 1, 2, 3, 12, 8, 4, 5]
noncomputable def b62 : Code := match Try.f62.body with | some c => c | none => .skip
theorem t62 : trCode ⟨Try.prog, K62, [], 31, none⟩ b62 = some c62 := by kernel_rfl
theorem go62 {args : List AV} {H : AHeap} {Kk : AV → AHeap → Prop} (hn : args.length = 4) (h : AGo ⟨Try.prog, K62, [], 31, none⟩ H.length [.code c62] (RetP [.t (.g 8)] H.length Kk) ⟨[], argsG 0 args⟩ H) : ACalls Try.prog 62 args H Kk :=
  ACalls_of Try.func62 (c := b62) rfl (by kernel_rfl) t62 (rs := [.t (.g 8)]) (by kernel_rfl) (by rw [hn]; exact Nat.le_of_ble_eq_true rfl) (by rw [hn]; rfl) (h.weaken (fun _ _ => RetP.hands) (by simp))

/-- sastrugi/probe.road -/
def c68 : ACode :=
  (.seq
(.reg [
  ⟨(some (true, 1)), .box (.g 0), none⟩,
  ⟨(some (true, 2)), .mv (.c (.lit (.nilFunc))), none⟩])
(.seq
(.reg [
  ⟨(some (false, 3)), .mkf 78 [.g 1], none⟩,
  ⟨(some (true, 2)), .mv (.l 3), none⟩])
.ret))
def K68 : List Nat := [0, 2, 1]
noncomputable def b68 : Code := match Try.f68.body with | some c => c | none => .skip
theorem t68 : trCode ⟨Try.prog, K68, [], 4, none⟩ b68 = some c68 := by kernel_rfl
theorem go68 {args : List AV} {H : AHeap} {Kk : AV → AHeap → Prop} (hn : args.length = 1) (h : AGo ⟨Try.prog, K68, [], 4, none⟩ H.length [.code c68] (RetP [.t (.g 2)] H.length Kk) ⟨[], argsG 0 args⟩ H) : ACalls Try.prog 68 args H Kk :=
  ACalls_of Try.func68 (c := b68) rfl (by kernel_rfl) t68 (rs := [.t (.g 2)]) (by kernel_rfl) (by rw [hn]; exact Nat.le_of_ble_eq_true rfl) (by rw [hn]; rfl) (h.weaken (fun _ _ => RetP.hands) (by simp))

/-- (sastrugi/probe.ground).cost -/
def c72 : ACode :=
  (.seq
(.reg [
  ⟨(some (true, 5)), .box (.g 0), none⟩,
  ⟨(some (true, 6)), .box (.g 1), none⟩,
  ⟨(some (true, 7)), .box (.g 2), none⟩,
  ⟨(some (true, 8)), .box (.g 3), none⟩,
  ⟨(some (true, 9)), .box (.g 4), none⟩,
  ⟨(some (true, 10)), .mv (.c (.lit (.int .i64 0))), none⟩])
(.seq
(.reg [
  ⟨(some (false, 17)), .ld none (.g 6), none⟩,
  ⟨(some (false, 18)), .ld none (.g 7), none⟩,
  ⟨(some (false, 19)), .mn [.l 17, .l 18], none⟩,
  ⟨(some (true, 11)), .mv (.l 19), none⟩])
(.seq
(.reg [
  ⟨(some (false, 20)), .mkf 82 [.g 5, .g 6, .g 7, .g 8, .g 9], none⟩,
  ⟨(some (true, 12)), .mv (.l 20), none⟩])
(.seq
(.reg [
  ⟨(some (false, 21)), .mv (.g 12), none⟩,
  ⟨(some (false, 22)), .ld none (.g 6), none⟩,
  ⟨(some (false, 23)), .call (.l 21) [.l 22], none⟩,
  ⟨(some (true, 13)), .mv (.l 23), none⟩])
(.seq
(.reg [
  ⟨(some (true, 14)), .mv (.c (.lit (.int .i64 0))), none⟩])
(.seq
(.seq
(.reg [
  ⟨(some (false, 24)), .fa (.g 5) 0, none⟩,
  ⟨(some (false, 25)), .fa (.l 24) 0, none⟩,
  ⟨(some (true, 26)), .ld none (.l 25), none⟩,
  ⟨(some (true, 27)), .len (.g 26), none⟩,
  ⟨(some (true, 28)), .mv (.c (.lit (.int .i64 0))), none⟩])
(.block 0
(.loop
(.seq
(.reg [
  ⟨(some (true, 29)), .bin .lss (.g 28) (.g 27), none⟩])
(.seq
(.cond (.g 29)
.skip
(.exit 0))
(.seq
(.block 1
(.seq
(.reg [
  ⟨(some (false, 30)), .ia 5 (.g 26) (.g 28), none⟩,
  ⟨(some (false, 31)), .ld (some 5) (.l 30), none⟩,
  ⟨(some (true, 16)), .new [.int .i64 0, .int .i64 0, .int .i64 0, .int .i64 0, .int .i64 0], none⟩,
  ⟨none, .st 5 (.g 16) (.l 31), none⟩])
(.seq
(.reg [
  ⟨(some (false, 32)), .mv (.g 13), none⟩,
  ⟨(some (false, 33)), .mv (.g 12), none⟩,
  ⟨(some (false, 34)), .mv (.g 11), none⟩,
  ⟨(some (false, 35)), .mv (.g 14), none⟩,
  ⟨(some (false, 36)), .mx [.l 34, .l 35], none⟩,
  ⟨(some (false, 37)), .mv (.g 14), none⟩,
  ⟨(some (false, 38)), .fa (.g 16) 0, none⟩,
  ⟨(some (false, 39)), .ld none (.l 38), none⟩,
  ⟨(some (false, 40)), .bin .add (.l 37) (.l 39), none⟩,
  ⟨(some (false, 41)), .bin .sub (.l 40) (.c (.lit (.int .i64 1))), none⟩,
  ⟨(some (false, 42)), .mn [.l 36, .l 41], none⟩,
  ⟨(some (false, 43)), .call (.l 33) [.l 42], none⟩,
  ⟨(some (false, 44)), .mn [.l 32, .l 43], none⟩,
  ⟨(some (true, 13)), .mv (.l 44), none⟩])
(.reg [
  ⟨(some (false, 45)), .mv (.g 14), none⟩,
  ⟨(some (false, 46)), .fa (.g 16) 0, none⟩,
  ⟨(some (false, 47)), .ld none (.l 46), none⟩,
  ⟨(some (false, 48)), .bin .add (.l 45) (.l 47), none⟩,
  ⟨(some (true, 14)), .mv (.l 48), none⟩]))))
(.reg [
  ⟨(some (false, 49)), .bin .add (.g 28) (.c (.lit (.int .i64 1))), none⟩,
  ⟨(some (true, 28)), .mv (.l 49), none⟩])))))))
(.seq
(.reg [
  ⟨(some (false, 50)), .mv (.g 13), none⟩,
  ⟨(some (true, 10)), .mv (.l 50), none⟩])
.ret)))))))
def K72 : List Nat := [0, 1, 2, 3, 4, 29, 10, 5, 6, 7, 8, 9, 11, 12, 13, 14, 26, 27, 28, 16]
noncomputable def b72 : Code := match Try.f72.body with | some c => c | none => .skip
theorem t72 : trCode ⟨Try.prog, K72, [], 51, none⟩ b72 = some c72 := by kernel_rfl
theorem go72 {args : List AV} {H : AHeap} {Kk : AV → AHeap → Prop} (hn : args.length = 5) (h : AGo ⟨Try.prog, K72, [], 51, none⟩ H.length [.code c72] (RetP [.t (.g 10)] H.length Kk) ⟨[], argsG 0 args⟩ H) : ACalls Try.prog 72 args H Kk :=
  ACalls_of Try.func72 (c := b72) rfl (by kernel_rfl) t72 (rs := [.t (.g 10)]) (by kernel_rfl) (by rw [hn]; exact Nat.le_of_ble_eq_true rfl) (by rw [hn]; rfl) (h.weaken (fun _ _ => RetP.hands) (by simp))

/-- sastrugi/probe.thin -/
def c73 : ACode :=
  (.seq
(.reg [
  ⟨(some (true, 1)), .box (.g 0), none⟩,
  ⟨(some (true, 2)), .mv (.c (.lit (.int .i64 0))), none⟩])
(.seq
(.reg [
  ⟨(some (false, 3)), .fa (.g 1) 2, none⟩,
  ⟨(some (false, 4)), .ld none (.l 3), none⟩,
  ⟨(some (true, 2)), .mv (.l 4), none⟩])
.ret))
def K73 : List Nat := [0, 2, 1]
noncomputable def b73 : Code := match Try.f73.body with | some c => c | none => .skip
theorem t73 : trCode ⟨Try.prog, K73, [], 5, none⟩ b73 = some c73 := by kernel_rfl
theorem go73 {args : List AV} {H : AHeap} {Kk : AV → AHeap → Prop} (hn : args.length = 1) (h : AGo ⟨Try.prog, K73, [], 5, none⟩ H.length [.code c73] (RetP [.t (.g 2)] H.length Kk) ⟨[], argsG 0 args⟩ H) : ACalls Try.prog 73 args H Kk :=
  ACalls_of Try.func73 (c := b73) rfl (by kernel_rfl) t73 (rs := [.t (.g 2)]) (by kernel_rfl) (by rw [hn]; exact Nat.le_of_ble_eq_true rfl) (by rw [hn]; rfl) (h.weaken (fun _ _ => RetP.hands) (by simp))

/-- sastrugi/probe.grow -/
def c74 : ACode :=
  (.seq
(.reg [
  ⟨(some (true, 1)), .box (.g 0), none⟩,
  ⟨(some (true, 2)), .mv (.c (.lit (.int .i64 0))), none⟩])
(.seq
(.reg [
  ⟨(some (false, 3)), .fa (.g 1) 3, none⟩,
  ⟨(some (false, 4)), .ld none (.l 3), none⟩,
  ⟨(some (true, 2)), .mv (.l 4), none⟩])
.ret))
def K74 : List Nat := [0, 2, 1]
noncomputable def b74 : Code := match Try.f74.body with | some c => c | none => .skip
theorem t74 : trCode ⟨Try.prog, K74, [], 5, none⟩ b74 = some c74 := by kernel_rfl
theorem go74 {args : List AV} {H : AHeap} {Kk : AV → AHeap → Prop} (hn : args.length = 1) (h : AGo ⟨Try.prog, K74, [], 5, none⟩ H.length [.code c74] (RetP [.t (.g 2)] H.length Kk) ⟨[], argsG 0 args⟩ H) : ACalls Try.prog 74 args H Kk :=
  ACalls_of Try.func74 (c := b74) rfl (by kernel_rfl) t74 (rs := [.t (.g 2)]) (by kernel_rfl) (by rw [hn]; exact Nat.le_of_ble_eq_true rfl) (by rw [hn]; rfl) (h.weaken (fun _ _ => RetP.hands) (by simp))

/-- sastrugi/probe.road$1 -/
def c78 : ACode :=
  (.seq
(.reg [
  ⟨(some (true, 3)), .mv (.c (.lit (.int .i64 0))), none⟩])
(.seq
(.reg [
  ⟨(some (false, 6)), .fa (.g 1) 0, none⟩,
  ⟨(some (true, 7)), .ld none (.l 6), none⟩,
  ⟨(some (true, 8)), .len (.g 7), none⟩,
  ⟨(some (true, 9)), .mv (.c (.lit (.int .i64 0))), none⟩])
(.block 0
(.loop
(.seq
(.reg [
  ⟨(some (true, 10)), .bin .lss (.g 9) (.g 8), none⟩])
(.seq
(.cond (.g 10)
.skip
(.exit 0))
(.seq
(.block 1
(.seq
(.reg [
  ⟨(some (false, 11)), .ia 5 (.g 7) (.g 9), none⟩,
  ⟨(some (false, 12)), .ld (some 5) (.l 11), none⟩,
  ⟨(some (true, 5)), .new [.int .i64 0, .int .i64 0, .int .i64 0, .int .i64 0, .int .i64 0], none⟩,
  ⟨none, .st 5 (.g 5) (.l 12), none⟩])
(.seq
(.reg [
  ⟨(some (false, 13)), .fa (.g 5) 0, none⟩,
  ⟨(some (true, 14)), .ld none (.l 13), none⟩,
  ⟨(some (true, 15)), .mv (.c (.lit (.int .i64 0))), none⟩])
(.block 2
(.loop
(.seq
(.reg [
  ⟨(some (true, 16)), .bin .lss (.g 15) (.g 14), none⟩])
(.seq
(.cond (.g 16)
.skip
(.exit 2))
(.seq
(.block 3
(.seq
(.seq
(.reg [
  ⟨(some (false, 17)), .mv (.g 0), none⟩,
  ⟨(some (false, 18)), .mv (.g 3), none⟩,
  ⟨(some (false, 19)), .ld (some 5) (.g 5), none⟩,
  ⟨(some (false, 20)), .call (.l 17) [.l 18, .l 19], none⟩,
  ⟨(some (true, 21)), .un .not (.l 20), none⟩])
(.cond (.g 21)
.ret
.skip))
(.reg [
  ⟨(some (false, 22)), .mv (.g 3), none⟩,
  ⟨(some (false, 23)), .bin .add (.l 22) (.c (.lit (.int .i64 1))), none⟩,
  ⟨(some (true, 3)), .mv (.l 23), none⟩])))
(.reg [
  ⟨(some (false, 24)), .bin .add (.g 15) (.c (.lit (.int .i64 1))), none⟩,
  ⟨(some (true, 15)), .mv (.l 24), none⟩])))))))))
(.reg [
  ⟨(some (false, 25)), .bin .add (.g 9) (.c (.lit (.int .i64 1))), none⟩,
  ⟨(some (true, 9)), .mv (.l 25), none⟩]))))))))
def K78 : List Nat := [0, 1, 10, 16, 21, 3, 7, 8, 9, 5, 14, 15]
noncomputable def b78 : Code := match Try.f78.body with | some c => c | none => .skip
theorem t78 : trCode ⟨Try.prog, K78, [], 26, none⟩ b78 = some c78 := by kernel_rfl
theorem go78 {args : List AV} {H : AHeap} {Kk : AV → AHeap → Prop} (hn : args.length = 2) (h : AGo ⟨Try.prog, K78, [], 26, none⟩ H.length [.code c78] (RetP [] H.length Kk) ⟨[], argsG 0 args⟩ H) : ACalls Try.prog 78 args H Kk :=
  ACalls_of Try.func78 (c := b78) rfl (by kernel_rfl) t78 (rs := []) (by kernel_rfl) (by rw [hn]; exact Nat.le_of_ble_eq_true rfl) (by rw [hn]; rfl) (h.weaken (fun _ _ => RetP.hands) (by simp))

/-- (sastrugi/probe.ground).cost$1 -/
def c82 : ACode :=
  (.seq
(.reg [
  ⟨(some (true, 7)), .mv (.c (.lit (.int .i64 0))), none⟩])
(.seq
(.draw [
  ⟨⟨(some (false, 8)), .ld (some 6) (.g 1), none⟩, 0, true, []⟩,
  ⟨⟨(some (false, 9)), .ld none (.g 2), none⟩, 1, true, []⟩,
  ⟨⟨(some (false, 10)), .mv (.g 0), none⟩, 2, true, []⟩,
  ⟨⟨(some (false, 12)), .ld (some 6) (.g 1), none⟩, 4, true, []⟩,
  ⟨⟨(some (false, 13)), .mv (.g 0), none⟩, 5, true, []⟩,
  ⟨⟨(some (false, 14)), .ld none (.g 3), none⟩, 6, true, []⟩,
  ⟨⟨(some (false, 17)), .ld none (.g 4), none⟩, 9, true, []⟩,
  ⟨⟨(some (false, 18)), .ld none (.g 5), none⟩, 10, true, []⟩,
  ⟨⟨(some (false, 19)), .fa (.g 1) 5, none⟩, 11, true, []⟩,
  ⟨⟨(some (false, 20)), .ld none (.l 19), none⟩, 12, true, []⟩,
  ⟨⟨(some (false, 21)), .mv (.g 0), none⟩, 13, true, []⟩,
  ⟨⟨(some (false, 22)), .ia 5 (.l 20) (.l 21), none⟩, 14, true, []⟩,
  ⟨⟨(some (false, 23)), .ld (some 5) (.l 22), none⟩, 15, true, []⟩,
  ⟨⟨(some (false, 11)), .call (.c (.fn 83 [])) [.l 8, .l 9, .l 10], none⟩, 3, false, []⟩,
  ⟨⟨(some (false, 15)), .call (.c (.fn 83 [])) [.l 12, .l 13, .l 14], none⟩, 7, false, []⟩,
  ⟨⟨(some (false, 16)), .bin .add (.l 11) (.l 15), none⟩, 8, true, []⟩,
  ⟨⟨(some (false, 24)), .call (.l 18) [.l 23], none⟩, 16, false, []⟩,
  ⟨⟨(some (false, 25)), .bin .mul (.l 17) (.l 24), none⟩, 17, true, []⟩,
  ⟨⟨(some (false, 26)), .bin .add (.l 16) (.l 25), none⟩, 18, true, []⟩,
  ⟨⟨(some (true, 7)), .mv (.l 26), none⟩, 19, true, []⟩])
.ret))
def K82 : List Nat := [0, 1, 2, 3, 4, 5, 7]
noncomputable def b82 : Code := match Try.f82.body with | some c => c | none => .skip
theorem t82 : trCode ⟨Try.prog, K82, [], 27, none⟩ b82 = some c82 := by kernel_rfl
theorem go82 {args : List AV} {H : AHeap} {Kk : AV → AHeap → Prop} (hn : args.length = 6) (h : AGo ⟨Try.prog, K82, [], 27, none⟩ H.length [.code c82] (RetP [.t (.g 7)] H.length Kk) ⟨[], argsG 0 args⟩ H) : ACalls Try.prog 82 args H Kk :=
  ACalls_of Try.func82 (c := b82) rfl (by kernel_rfl) t82 (rs := [.t (.g 7)]) (by kernel_rfl) (by rw [hn]; exact Nat.le_of_ble_eq_true rfl) (by rw [hn]; rfl) (h.weaken (fun _ _ => RetP.hands) (by simp))

/-- (sastrugi/probe.ground).apart -/
def c83 : ACode :=
  (.seq
(.reg [
  ⟨(some (true, 3)), .box (.g 0), none⟩,
  ⟨(some (true, 6)), .mv (.c (.lit (.int .i64 0))), none⟩])
(.seq
(.draw [
  ⟨⟨(some (false, 7)), .fa (.g 3) 4, none⟩, 0, true, []⟩,
  ⟨⟨(some (false, 8)), .ld none (.l 7), none⟩, 1, true, []⟩,
  ⟨⟨(some (false, 9)), .mv (.g 1), none⟩, 2, true, []⟩,
  ⟨⟨(some (false, 10)), .ia 1 (.l 8) (.l 9), none⟩, 3, true, []⟩,
  ⟨⟨(some (false, 11)), .ld none (.l 10), none⟩, 4, true, []⟩,
  ⟨⟨(some (false, 12)), .fa (.g 3) 4, none⟩, 5, true, []⟩,
  ⟨⟨(some (false, 13)), .ld none (.l 12), none⟩, 6, true, []⟩,
  ⟨⟨(some (false, 14)), .mv (.g 2), none⟩, 7, true, []⟩,
  ⟨⟨(some (false, 15)), .ia 1 (.l 13) (.l 14), none⟩, 8, true, []⟩,
  ⟨⟨(some (false, 16)), .ld none (.l 15), none⟩, 9, true, []⟩,
  ⟨⟨(some (false, 17)), .bin .sub (.l 11) (.l 16), none⟩, 10, true, []⟩,
  ⟨⟨(some (false, 18)), .fa (.g 3) 4, none⟩, 11, true, []⟩,
  ⟨⟨(some (false, 19)), .ld none (.l 18), none⟩, 12, true, []⟩,
  ⟨⟨(some (false, 20)), .mv (.g 2), none⟩, 13, true, []⟩,
  ⟨⟨(some (false, 21)), .ia 1 (.l 19) (.l 20), none⟩, 14, true, []⟩,
  ⟨⟨(some (false, 22)), .ld none (.l 21), none⟩, 15, true, []⟩,
  ⟨⟨(some (false, 23)), .fa (.g 3) 4, none⟩, 16, true, []⟩,
  ⟨⟨(some (false, 24)), .ld none (.l 23), none⟩, 17, true, []⟩,
  ⟨⟨(some (false, 25)), .mv (.g 1), none⟩, 18, true, []⟩,
  ⟨⟨(some (false, 26)), .ia 1 (.l 24) (.l 25), none⟩, 19, true, []⟩,
  ⟨⟨(some (false, 27)), .ld none (.l 26), none⟩, 20, true, []⟩,
  ⟨⟨(some (false, 28)), .bin .sub (.l 22) (.l 27), none⟩, 21, true, []⟩,
  ⟨⟨(some (false, 29)), .mx [.l 17, .l 28], none⟩, 22, true, []⟩,
  ⟨⟨(some (true, 6)), .mv (.l 29), none⟩, 23, true, []⟩])
.ret))
def K83 : List Nat := [0, 1, 2, 6, 3]
noncomputable def b83 : Code := match Try.f83.body with | some c => c | none => .skip
theorem t83 : trCode ⟨Try.prog, K83, [], 30, none⟩ b83 = some c83 := by kernel_rfl
theorem go83 {args : List AV} {H : AHeap} {Kk : AV → AHeap → Prop} (hn : args.length = 3) (h : AGo ⟨Try.prog, K83, [], 30, none⟩ H.length [.code c83] (RetP [.t (.g 6)] H.length Kk) ⟨[], argsG 0 args⟩ H) : ACalls Try.prog 83 args H Kk :=
  ACalls_of Try.func83 (c := b83) rfl (by kernel_rfl) t83 (rs := [.t (.g 6)]) (by kernel_rfl) (by rw [hn]; exact Nat.le_of_ble_eq_true rfl) (by rw [hn]; rfl) (h.weaken (fun _ _ => RetP.hands) (by simp))

/-- (sastrugi/probe.ground).known -/
def c47 : ACode :=
  (.seq
(.reg [
  ⟨(some (true, 4)), .box (.g 0), none⟩,
  ⟨(some (true, 8)), .new [.int .i64 0, .int .i64 0], none⟩])
(.seq
(.reg [
  ⟨(some (false, 12)), .mk [.int .i64 0, .int .i64 0] [(1, 1, .c (.lit (.int .i64 3000)))], none⟩,
  ⟨(some (true, 9)), .new [.int .i64 0, .int .i64 0], none⟩,
  ⟨none, .st 2 (.g 9) (.l 12), none⟩])
(.seq
(.seq
(.reg [
  ⟨(some (true, 13)), .mv (.g 1), none⟩,
  ⟨(some (true, 14)), .len (.g 13), none⟩,
  ⟨(some (true, 15)), .mv (.c (.lit (.int .i64 0))), none⟩])
(.block 0
(.loop
(.seq
(.reg [
  ⟨(some (true, 16)), .bin .lss (.g 15) (.g 14), none⟩])
(.seq
(.cond (.g 16)
.skip
(.exit 0))
(.seq
(.block 1
(.seq
(.reg [
  ⟨(some (false, 17)), .ia 5 (.g 13) (.g 15), none⟩,
  ⟨(some (false, 18)), .ld (some 5) (.l 17), none⟩,
  ⟨(some (true, 11)), .new [.int .i64 0, .int .i64 0, .int .i64 0, .int .i64 0, .int .i64 0], none⟩,
  ⟨none, .st 5 (.g 11) (.l 18), none⟩])
(.seq
(.draw [
  ⟨⟨(some (false, 19)), .fa (.g 9) 0, none⟩, 0, true, []⟩,
  ⟨⟨(some (false, 20)), .ld none (.l 19), none⟩, 1, true, []⟩,
  ⟨⟨(some (false, 21)), .fa (.g 11) 3, none⟩, 2, true, []⟩,
  ⟨⟨(some (false, 22)), .fa (.l 21) 0, none⟩, 3, true, []⟩,
  ⟨⟨(some (false, 23)), .ld none (.l 22), none⟩, 4, true, []⟩,
  ⟨⟨(some (false, 24)), .ld (some 6) (.g 4), none⟩, 5, true, []⟩,
  ⟨⟨(some (false, 25)), .ld (some 5) (.g 11), none⟩, 6, true, []⟩,
  ⟨⟨(some (false, 26)), .mv (.g 2), none⟩, 7, true, []⟩,
  ⟨⟨(some (false, 27)), .mv (.g 3), none⟩, 8, true, []⟩,
  ⟨⟨(some (false, 28)), .call (.c (.fn 61 [])) [.l 24, .l 25, .l 26, .l 27], none⟩, 9, false, []⟩,
  ⟨⟨(some (false, 29)), .bin .sub (.l 23) (.l 28), none⟩, 10, true, []⟩,
  ⟨⟨(some (false, 30)), .mx [.l 20, .l 29], none⟩, 11, true, []⟩,
  ⟨⟨(some (false, 31)), .fa (.g 9) 0, none⟩, 12, true, []⟩,
  ⟨⟨none, .st 1 (.l 31) (.l 30), none⟩, 13, true, []⟩])
(.draw [
  ⟨⟨(some (false, 32)), .fa (.g 9) 1, none⟩, 0, true, []⟩,
  ⟨⟨(some (false, 33)), .ld none (.l 32), none⟩, 1, true, []⟩,
  ⟨⟨(some (false, 34)), .fa (.g 11) 3, none⟩, 2, true, []⟩,
  ⟨⟨(some (false, 35)), .fa (.l 34) 1, none⟩, 3, true, []⟩,
  ⟨⟨(some (false, 36)), .ld none (.l 35), none⟩, 4, true, []⟩,
  ⟨⟨(some (false, 37)), .ld (some 6) (.g 4), none⟩, 5, true, []⟩,
  ⟨⟨(some (false, 38)), .ld (some 5) (.g 11), none⟩, 6, true, []⟩,
  ⟨⟨(some (false, 39)), .mv (.g 2), none⟩, 7, true, []⟩,
  ⟨⟨(some (false, 40)), .mv (.g 3), none⟩, 8, true, []⟩,
  ⟨⟨(some (false, 41)), .call (.c (.fn 62 [])) [.l 37, .l 38, .l 39, .l 40], none⟩, 9, false, []⟩,
  ⟨⟨(some (false, 42)), .bin .add (.l 36) (.l 41), none⟩, 10, true, []⟩,
  ⟨⟨(some (false, 43)), .mn [.l 33, .l 42], none⟩, 11, true, []⟩,
  ⟨⟨(some (false, 44)), .fa (.g 9) 1, none⟩, 12, true, []⟩,
  ⟨⟨none, .st 1 (.l 44) (.l 43), none⟩, 13, true, []⟩]))))
(.reg [
  ⟨(some (false, 45)), .bin .add (.g 15) (.c (.lit (.int .i64 1))), none⟩,
  ⟨(some (true, 15)), .mv (.l 45), none⟩])))))))
(.seq
(.reg [
  ⟨(some (false, 46)), .ld (some 2) (.g 9), none⟩,
  ⟨none, .st 2 (.g 8) (.l 46), none⟩])
.ret))))
def K47 : List Nat := [0, 1, 2, 3, 16, 8, 4, 9, 13, 14, 15, 11]
noncomputable def b47 : Code := match Try.f47.body with | some c => c | none => .skip
theorem t47 : trCode ⟨Try.prog, K47, [], 47, none⟩ b47 = some c47 := by kernel_rfl
theorem go47 {args : List AV} {H : AHeap} {Kk : AV → AHeap → Prop} (hn : args.length = 4) (h : AGo ⟨Try.prog, K47, [], 47, none⟩ H.length [.code c47] (RetP [.cell (.g 8) (some 2)] H.length Kk) ⟨[], argsG 0 args⟩ H) : ACalls Try.prog 47 args H Kk :=
  ACalls_of Try.func47 (c := b47) rfl (by kernel_rfl) t47 (rs := [.cell (.g 8) (some 2)]) (by kernel_rfl) (by rw [hn]; exact Nat.le_of_ble_eq_true rfl) (by rw [hn]; rfl) (h.weaken (fun _ _ => RetP.hands) (by simp))

/-- sastrugi/probe.Known -/
def c30 : ACode :=
  (.seq
(.reg [
  ⟨(some (true, 4)), .box (.g 0), none⟩,
  ⟨(some (true, 8)), .new [.int .i64 0, .int .i64 0], none⟩,
  ⟨(some (true, 9)), .mv (.c (.lit (.int .i64 0))), none⟩])
(.seq
(.reg [
  ⟨(some (false, 13)), .ld (some 4) (.g 4), none⟩,
  ⟨(some (false, 14)), .mv (.g 1), none⟩,
  ⟨(some (false, 15)), .call (.c (.fn 45 [])) [.l 13, .l 14], none⟩,
  ⟨(some (false, 12)), .mv (.l 15), none⟩,
  ⟨(some (false, 16)), .ex (.l 12) 0, none⟩,
  ⟨(some (false, 17)), .ex (.l 12) 1, none⟩,
  ⟨(some (true, 10)), .new [.slice none 0 0, .int .i64 0, .int .i64 0, .int .i64 0, .slice none 0 0, .slice none 0 0], none⟩,
  ⟨none, .st 6 (.g 10) (.l 16), none⟩,
  ⟨(some (true, 11)), .mv (.l 17), none⟩])
(.seq
(.block 0
(.seq
(.reg [
  ⟨(some (false, 19)), .mv (.g 11), none⟩,
  ⟨(some (false, 20)), .bin .neq (.l 19) (.c (.lit (.int .i64 0))), none⟩,
  ⟨(some (true, 18)), .mv (.l 20), none⟩])
(.cond (.g 18)
(.seq
(.reg [
  ⟨(some (false, 21)), .mk [.int .i64 0, .int .i64 0] [], none⟩,
  ⟨(some (false, 22)), .mv (.g 11), none⟩,
  ⟨none, .st 2 (.g 8) (.l 21), none⟩,
  ⟨(some (true, 9)), .mv (.l 22), none⟩])
.ret)
(.seq
(.reg [
  ⟨(some (false, 24)), .mv (.g 2), none⟩,
  ⟨(some (false, 25)), .fa (.g 10) 5, none⟩,
  ⟨(some (false, 26)), .ld none (.l 25), none⟩,
  ⟨(some (false, 27)), .len (.l 26), none⟩,
  ⟨(some (false, 28)), .bin .sub (.l 27) (.c (.lit (.int .i64 1))), none⟩,
  ⟨(some (false, 29)), .call (.c (.fn 46 [])) [.l 24, .c (.lit (.int .i64 0)), .l 28], none⟩,
  ⟨(some (false, 30)), .un .not (.l 29), none⟩,
  ⟨(some (true, 23)), .mv (.l 30), none⟩])
(.cond (.g 23)
(.seq
(.reg [
  ⟨(some (false, 31)), .mk [.int .i64 0, .int .i64 0] [], none⟩,
  ⟨none, .st 2 (.g 8) (.l 31), none⟩,
  ⟨(some (true, 9)), .mv (.c (.lit (.int .i64 7))), none⟩])
.ret)
(.seq
(.reg [
  ⟨(some (false, 33)), .mv (.g 3), none⟩,
  ⟨(some (false, 34)), .call (.c (.fn 46 [])) [.l 33, .c (.lit (.int .i64 0)), .c (.lit (.int .i64 10000))], none⟩,
  ⟨(some (false, 35)), .un .not (.l 34), none⟩,
  ⟨(some (true, 32)), .mv (.l 35), none⟩])
(.cond (.g 32)
(.seq
(.reg [
  ⟨(some (false, 36)), .mk [.int .i64 0, .int .i64 0] [], none⟩,
  ⟨none, .st 2 (.g 8) (.l 36), none⟩,
  ⟨(some (true, 9)), .mv (.c (.lit (.int .i64 2))), none⟩])
.ret)
.skip)))))))
(.seq
(.reg [
  ⟨(some (false, 37)), .ld (some 6) (.g 10), none⟩,
  ⟨(some (false, 38)), .mv (.g 1), none⟩,
  ⟨(some (false, 39)), .mv (.g 2), none⟩,
  ⟨(some (false, 40)), .mv (.g 3), none⟩,
  ⟨(some (false, 41)), .call (.c (.fn 47 [])) [.l 37, .l 38, .l 39, .l 40], none⟩,
  ⟨none, .st 2 (.g 8) (.l 41), none⟩,
  ⟨(some (true, 9)), .mv (.c (.lit (.int .i64 0))), none⟩])
.ret))))
def K30 : List Nat := [0, 1, 2, 3, 18, 23, 32, 8, 9, 4, 10, 11]
noncomputable def b30 : Code := match Try.f30.body with | some c => c | none => .skip
theorem t30 : trCode ⟨Try.prog, K30, [], 42, none⟩ b30 = some c30 := by kernel_rfl
theorem go30 {args : List AV} {H : AHeap} {Kk : AV → AHeap → Prop} (hn : args.length = 4) (h : AGo ⟨Try.prog, K30, [], 42, none⟩ H.length [.code c30] (RetP [.cell (.g 8) (some 2), .t (.g 9)] H.length Kk) ⟨[], argsG 0 args⟩ H) : ACalls Try.prog 30 args H Kk :=
  ACalls_of Try.func30 (c := b30) rfl (by kernel_rfl) t30 (rs := [.cell (.g 8) (some 2), .t (.g 9)]) (by kernel_rfl) (by rw [hn]; exact Nat.le_of_ble_eq_true rfl) (by rw [hn]; rfl) (h.weaken (fun _ _ => RetP.hands) (by simp))

/-- sastrugi/probe.checkMarks -/
def c53 : ACode :=
  (.seq
(.reg [
  ⟨(some (true, 4)), .mv (.c (.lit (.int .i64 0))), none⟩])
(.seq
(.seq
(.reg [
  ⟨(some (false, 7)), .mv (.g 1), none⟩,
  ⟨(some (false, 8)), .len (.l 7), none⟩,
  ⟨(some (true, 9)), .bin .gtr (.l 8) (.c (.lit (.int .i64 100))), none⟩])
(.cond (.g 9)
(.seq
(.reg [
  ⟨(some (true, 4)), .mv (.c (.lit (.int .i64 8))), none⟩])
.ret)
.skip))
(.seq
(.seq
(.reg [
  ⟨(some (true, 10)), .mv (.g 1), none⟩,
  ⟨(some (true, 11)), .len (.g 10), none⟩,
  ⟨(some (true, 12)), .mv (.c (.lit (.int .i64 0))), none⟩])
(.block 0
(.loop
(.seq
(.reg [
  ⟨(some (true, 13)), .bin .lss (.g 12) (.g 11), none⟩])
(.seq
(.cond (.g 13)
.skip
(.exit 0))
(.seq
(.block 1
(.seq
(.reg [
  ⟨(some (false, 14)), .ia 5 (.g 10) (.g 12), none⟩,
  ⟨(some (false, 15)), .ld (some 5) (.l 14), none⟩,
  ⟨(some (true, 6)), .new [.int .i64 0, .int .i64 0, .int .i64 0, .int .i64 0, .int .i64 0], none⟩,
  ⟨none, .st 5 (.g 6) (.l 15), none⟩])
(.block 2
(.seq
(.reg [
  ⟨(some (false, 17)), .fa (.g 6) 0, none⟩,
  ⟨(some (false, 18)), .ld none (.l 17), none⟩,
  ⟨(some (false, 19)), .call (.c (.fn 46 [])) [.l 18, .c (.lit (.int .i64 1)), .c (.lit (.int .i64 4))], none⟩,
  ⟨(some (false, 20)), .un .not (.l 19), none⟩,
  ⟨(some (true, 16)), .mv (.l 20), none⟩])
(.cond (.g 16)
(.seq
(.reg [
  ⟨(some (true, 4)), .mv (.c (.lit (.int .i64 4))), none⟩])
.ret)
(.seq
(.reg [
  ⟨(some (false, 22)), .fa (.g 6) 1, none⟩,
  ⟨(some (false, 23)), .ld none (.l 22), none⟩,
  ⟨(some (false, 24)), .mv (.g 0), none⟩,
  ⟨(some (false, 25)), .bin .sub (.l 24) (.c (.lit (.int .i64 1))), none⟩,
  ⟨(some (false, 26)), .call (.c (.fn 46 [])) [.l 23, .c (.lit (.int .i64 0)), .l 25], none⟩,
  ⟨(some (false, 27)), .un .not (.l 26), none⟩,
  ⟨(some (false, 28)), .mv (.l 27), none⟩,
  ⟨(some (false, 29)), .fa (.g 6) 2, (some (.l 28, false))⟩,
  ⟨(some (false, 30)), .ld none (.l 29), (some (.l 28, false))⟩,
  ⟨(some (false, 31)), .mv (.g 0), (some (.l 28, false))⟩,
  ⟨(some (false, 32)), .bin .sub (.l 31) (.c (.lit (.int .i64 1))), (some (.l 28, false))⟩,
  ⟨(some (false, 33)), .call (.c (.fn 46 [])) [.l 30, .c (.lit (.int .i64 0)), .l 32], (some (.l 28, false))⟩,
  ⟨(some (false, 34)), .un .not (.l 33), (some (.l 28, false))⟩,
  ⟨(some (false, 35)), .pick (.l 28) (.c (.lit (.bool true))) (.l 34), none⟩,
  ⟨(some (true, 21)), .mv (.l 35), none⟩])
(.cond (.g 21)
(.seq
(.reg [
  ⟨(some (true, 4)), .mv (.c (.lit (.int .i64 7))), none⟩])
.ret)
(.seq
(.reg [
  ⟨(some (false, 37)), .fa (.g 6) 1, none⟩,
  ⟨(some (false, 38)), .ld none (.l 37), none⟩,
  ⟨(some (false, 39)), .fa (.g 6) 2, none⟩,
  ⟨(some (false, 40)), .ld none (.l 39), none⟩,
  ⟨(some (false, 41)), .bin .gtr (.l 38) (.l 40), none⟩,
  ⟨(some (true, 36)), .mv (.l 41), none⟩])
(.cond (.g 36)
(.seq
(.reg [
  ⟨(some (true, 4)), .mv (.c (.lit (.int .i64 11))), none⟩])
.ret)
(.seq
(.reg [
  ⟨(some (false, 43)), .fa (.g 6) 3, none⟩,
  ⟨(some (false, 44)), .ld none (.l 43), none⟩,
  ⟨(some (false, 45)), .call (.c (.fn 46 [])) [.l 44, .c (.lit (.int .i64 0)), .c (.lit (.int .i64 10000))], none⟩,
  ⟨(some (false, 46)), .un .not (.l 45), none⟩,
  ⟨(some (false, 47)), .mv (.l 46), none⟩,
  ⟨(some (false, 48)), .fa (.g 6) 4, (some (.l 47, false))⟩,
  ⟨(some (false, 49)), .ld none (.l 48), (some (.l 47, false))⟩,
  ⟨(some (false, 50)), .call (.c (.fn 46 [])) [.l 49, .c (.lit (.int .i64 0)), .c (.lit (.int .i64 100))], (some (.l 47, false))⟩,
  ⟨(some (false, 51)), .un .not (.l 50), (some (.l 47, false))⟩,
  ⟨(some (false, 52)), .pick (.l 47) (.c (.lit (.bool true))) (.l 51), none⟩,
  ⟨(some (true, 42)), .mv (.l 52), none⟩])
(.cond (.g 42)
(.seq
(.reg [
  ⟨(some (true, 4)), .mv (.c (.lit (.int .i64 2))), none⟩])
.ret)
.skip)))))))))))
(.reg [
  ⟨(some (false, 53)), .bin .add (.g 12) (.c (.lit (.int .i64 1))), none⟩,
  ⟨(some (true, 12)), .mv (.l 53), none⟩])))))))
(.seq
(.reg [
  ⟨(some (true, 4)), .mv (.c (.lit (.int .i64 0))), none⟩])
.ret))))
def K53 : List Nat := [0, 1, 9, 13, 16, 21, 36, 42, 4, 10, 11, 12, 6]
noncomputable def b53 : Code := match Try.f53.body with | some c => c | none => .skip
theorem t53 : trCode ⟨Try.prog, K53, [], 54, none⟩ b53 = some c53 := by kernel_rfl
theorem go53 {args : List AV} {H : AHeap} {Kk : AV → AHeap → Prop} (hn : args.length = 2) (h : AGo ⟨Try.prog, K53, [], 54, none⟩ H.length [.code c53] (RetP [.t (.g 4)] H.length Kk) ⟨[], argsG 0 args⟩ H) : ACalls Try.prog 53 args H Kk :=
  ACalls_of Try.func53 (c := b53) rfl (by kernel_rfl) t53 (rs := [.t (.g 4)]) (by kernel_rfl) (by rw [hn]; exact Nat.le_of_ble_eq_true rfl) (by rw [hn]; rfl) (h.weaken (fun _ _ => RetP.hands) (by simp))

end Go.Sas
namespace Go.Sas
open Go.Proofs
set_option maxRecDepth 100000
/-- sastrugi/sastrugikit.NewSeed -/
def c4 : ACode :=
  (.seq
(.reg [
  ⟨(some (true, 2)), .mv (.c (.lit (.pointer none))), none⟩])
(.seq
(.reg [
  ⟨(some (false, 5)), .mk [.int .u64 0] [(0, 1, .c (.lit (.int .u64 1)))], none⟩,
  ⟨(some (false, 6)), .box (.l 5), none⟩,
  ⟨(some (true, 3)), .mv (.l 6), none⟩])
(.seq
(.seq
(.reg [
  ⟨(some (true, 4)), .mv (.c (.lit (.int .i64 0))), none⟩])
(.block 0
(.loop
(.seq
(.seq
(.reg [
  ⟨(some (false, 7)), .mv (.g 4), none⟩,
  ⟨(some (false, 8)), .mv (.g 0), none⟩,
  ⟨(some (false, 9)), .len (.l 8), none⟩,
  ⟨(some (true, 10)), .bin .lss (.l 7) (.l 9), none⟩])
(.cond (.g 10)
.skip
(.exit 0)))
(.seq
(.block 1
(.seq
(.draw [
  ⟨⟨(some (false, 13)), .mv (.g 3), none⟩, 0, true, []⟩,
  ⟨⟨(some (false, 14)), .mv (.g 3), none⟩, 1, true, []⟩,
  ⟨⟨(some (false, 15)), .nilc (.l 14), none⟩, 2, true, []⟩,
  ⟨⟨(some (false, 16)), .fa (.l 15) 0, none⟩, 3, true, []⟩,
  ⟨⟨(some (false, 17)), .ld none (.l 16), none⟩, 4, true, []⟩,
  ⟨⟨(some (false, 18)), .bin .mul (.l 17) (.c (.lit (.int .u64 6364136223846793005))), none⟩, 5, true, []⟩,
  ⟨⟨(some (false, 19)), .mv (.g 0), none⟩, 6, true, []⟩,
  ⟨⟨(some (false, 20)), .mv (.g 4), none⟩, 7, true, []⟩,
  ⟨⟨(some (false, 21)), .ia 1 (.l 19) (.l 20), none⟩, 8, true, []⟩,
  ⟨⟨(some (false, 22)), .ld none (.l 21), none⟩, 9, true, []⟩,
  ⟨⟨(some (false, 23)), .cv .u64 (.l 22), none⟩, 10, true, []⟩,
  ⟨⟨(some (false, 24)), .bin .add (.l 18) (.l 23), none⟩, 11, true, []⟩,
  ⟨⟨(some (false, 25)), .bin .add (.l 24) (.c (.lit (.int .u64 1442695040888963407))), none⟩, 12, true, []⟩,
  ⟨⟨(some (false, 26)), .nilc (.l 13), none⟩, 13, true, []⟩,
  ⟨⟨(some (false, 27)), .fa (.l 26) 0, none⟩, 14, true, []⟩,
  ⟨⟨none, .st 1 (.l 27) (.l 25), none⟩, 15, true, []⟩])
(.reg [
  ⟨(some (false, 28)), .mv (.g 3), none⟩,
  ⟨(some (false, 29)), .call (.c (.fn 18 [])) [.l 28], none⟩])))
(.reg [
  ⟨(some (false, 11)), .mv (.g 4), none⟩,
  ⟨(some (false, 12)), .bin .add (.l 11) (.c (.lit (.int .i64 1))), none⟩,
  ⟨(some (true, 4)), .mv (.l 12), none⟩]))))))
(.seq
(.reg [
  ⟨(some (false, 30)), .mv (.g 3), none⟩,
  ⟨(some (true, 2)), .mv (.l 30), none⟩])
.ret))))
def K4 : List Nat := [0, 10, 2, 3, 4]
noncomputable def b4 : Code := match Try.f4.body with | some c => c | none => .skip
theorem t4 : trCode ⟨Try.prog, K4, [], 31, none⟩ b4 = some c4 := by kernel_rfl
theorem go4 {args : List AV} {H : AHeap} {Kk : AV → AHeap → Prop} (hn : args.length = 1) (h : AGo ⟨Try.prog, K4, [], 31, none⟩ H.length [.code c4] (RetP [.t (.g 2)] H.length Kk) ⟨[], argsG 0 args⟩ H) : ACalls Try.prog 4 args H Kk :=
  ACalls_of Try.func4 (c := b4) rfl (by kernel_rfl) t4 (rs := [.t (.g 2)]) (by kernel_rfl) (by rw [hn]; exact Nat.le_of_ble_eq_true rfl) (by rw [hn]; rfl) (h.weaken (fun _ _ => RetP.hands) (by simp))

/-- (*sastrugi/sastrugikit.Seed).From -/
def c10 : ACode :=
  (.seq
(.reg [
  ⟨(some (true, 6)), .mv (.c (.lit (.int .i64 0))), none⟩])
(.seq
(.reg [
  ⟨(some (false, 7)), .mv (.g 1), none⟩,
  ⟨(some (false, 8)), .mv (.g 0), none⟩,
  ⟨(some (false, 9)), .mv (.g 2), none⟩,
  ⟨(some (false, 10)), .mv (.g 1), none⟩,
  ⟨(some (false, 11)), .bin .sub (.l 9) (.l 10), none⟩,
  ⟨(some (false, 12)), .bin .add (.l 11) (.c (.lit (.int .i64 1))), none⟩,
  ⟨(some (false, 13)), .call (.c (.fn 11 [])) [.l 8, .l 12], none⟩,
  ⟨(some (false, 14)), .bin .add (.l 7) (.l 13), none⟩,
  ⟨(some (true, 6)), .mv (.l 14), none⟩])
.ret))
def K10 : List Nat := [0, 1, 2, 6]
noncomputable def b10 : Code := match Try.f10.body with | some c => c | none => .skip
theorem t10 : trCode ⟨Try.prog, K10, [], 15, none⟩ b10 = some c10 := by kernel_rfl
theorem go10 {args : List AV} {H : AHeap} {Kk : AV → AHeap → Prop} (hn : args.length = 3) (h : AGo ⟨Try.prog, K10, [], 15, none⟩ H.length [.code c10] (RetP [.t (.g 6)] H.length Kk) ⟨[], argsG 0 args⟩ H) : ACalls Try.prog 10 args H Kk :=
  ACalls_of Try.func10 (c := b10) rfl (by kernel_rfl) t10 (rs := [.t (.g 6)]) (by kernel_rfl) (by rw [hn]; exact Nat.le_of_ble_eq_true rfl) (by rw [hn]; rfl) (h.weaken (fun _ _ => RetP.hands) (by simp))

/-- (*sastrugi/sastrugikit.Seed).Below -/
def c11 : ACode :=
  (.seq
(.reg [
  ⟨(some (true, 4)), .mv (.c (.lit (.int .i64 0))), none⟩])
(.seq
(.seq
(.reg [
  ⟨(some (false, 5)), .mv (.g 1), none⟩,
  ⟨(some (true, 6)), .bin .lss (.l 5) (.c (.lit (.int .i64 2))), none⟩])
(.cond (.g 6)
(.seq
(.reg [
  ⟨(some (true, 4)), .mv (.c (.lit (.int .i64 0))), none⟩])
.ret)
.skip))
(.seq
(.reg [
  ⟨(some (false, 7)), .mv (.g 0), none⟩,
  ⟨(some (false, 8)), .call (.c (.fn 18 [])) [.l 7], none⟩,
  ⟨(some (false, 9)), .bin .shr (.l 8) (.c (.lit (.int .u64 1))), none⟩,
  ⟨(some (false, 10)), .mv (.g 1), none⟩,
  ⟨(some (false, 11)), .cv .u64 (.l 10), none⟩,
  ⟨(some (false, 12)), .bin .rem (.l 9) (.l 11), none⟩,
  ⟨(some (false, 13)), .cv .i64 (.l 12), none⟩,
  ⟨(some (true, 4)), .mv (.l 13), none⟩])
.ret)))
def K11 : List Nat := [0, 1, 6, 4]
noncomputable def b11 : Code := match Try.f11.body with | some c => c | none => .skip
theorem t11 : trCode ⟨Try.prog, K11, [], 14, none⟩ b11 = some c11 := by kernel_rfl
theorem go11 {args : List AV} {H : AHeap} {Kk : AV → AHeap → Prop} (hn : args.length = 2) (h : AGo ⟨Try.prog, K11, [], 14, none⟩ H.length [.code c11] (RetP [.t (.g 4)] H.length Kk) ⟨[], argsG 0 args⟩ H) : ACalls Try.prog 11 args H Kk :=
  ACalls_of Try.func11 (c := b11) rfl (by kernel_rfl) t11 (rs := [.t (.g 4)]) (by kernel_rfl) (by rw [hn]; exact Nat.le_of_ble_eq_true rfl) (by rw [hn]; rfl) (h.weaken (fun _ _ => RetP.hands) (by simp))

/-- (*sastrugi/sastrugikit.Seed).Of -/
def c19 : ACode :=
  (.seq
(.reg [
  ⟨(some (true, 4)), .mv (.c (.lit (.int .i64 0))), none⟩])
(.seq
(.seq
(.reg [
  ⟨(some (false, 5)), .mv (.g 1), none⟩,
  ⟨(some (false, 6)), .len (.l 5), none⟩,
  ⟨(some (true, 7)), .bin .eql (.l 6) (.c (.lit (.int .i64 0))), none⟩])
(.cond (.g 7)
(.seq
(.reg [
  ⟨(some (true, 4)), .mv (.c (.lit (.int .i64 0))), none⟩])
.ret)
.skip))
(.seq
(.reg [
  ⟨(some (false, 8)), .mv (.g 1), none⟩,
  ⟨(some (false, 9)), .mv (.g 0), none⟩,
  ⟨(some (false, 10)), .mv (.g 1), none⟩,
  ⟨(some (false, 11)), .len (.l 10), none⟩,
  ⟨(some (false, 12)), .call (.c (.fn 11 [])) [.l 9, .l 11], none⟩,
  ⟨(some (false, 13)), .ia 1 (.l 8) (.l 12), none⟩,
  ⟨(some (false, 14)), .ld none (.l 13), none⟩,
  ⟨(some (true, 4)), .mv (.l 14), none⟩])
.ret)))
def K19 : List Nat := [0, 1, 7, 4]
noncomputable def b19 : Code := match Try.f19.body with | some c => c | none => .skip
theorem t19 : trCode ⟨Try.prog, K19, [], 15, none⟩ b19 = some c19 := by kernel_rfl
theorem go19 {args : List AV} {H : AHeap} {Kk : AV → AHeap → Prop} (hn : args.length = 2) (h : AGo ⟨Try.prog, K19, [], 15, none⟩ H.length [.code c19] (RetP [.t (.g 4)] H.length Kk) ⟨[], argsG 0 args⟩ H) : ACalls Try.prog 19 args H Kk :=
  ACalls_of Try.func19 (c := b19) rfl (by kernel_rfl) t19 (rs := [.t (.g 4)]) (by kernel_rfl) (by rw [hn]; exact Nat.le_of_ble_eq_true rfl) (by rw [hn]; rfl) (h.weaken (fun _ _ => RetP.hands) (by simp))

/-- (*sastrugi/sastrugikit.Seed).Yes -/
def c23 : ACode :=
  (.seq
(.reg [
  ⟨(some (true, 4)), .mv (.c (.lit (.bool false))), none⟩])
(.seq
(.reg [
  ⟨(some (false, 5)), .mv (.g 0), none⟩,
  ⟨(some (false, 6)), .mv (.g 1), none⟩,
  ⟨(some (false, 7)), .call (.c (.fn 11 [])) [.l 5, .l 6], none⟩,
  ⟨(some (false, 8)), .bin .eql (.l 7) (.c (.lit (.int .i64 0))), none⟩,
  ⟨(some (true, 4)), .mv (.l 8), none⟩])
.ret))
def K23 : List Nat := [0, 1, 4]
noncomputable def b23 : Code := match Try.f23.body with | some c => c | none => .skip
theorem t23 : trCode ⟨Try.prog, K23, [], 9, none⟩ b23 = some c23 := by kernel_rfl
theorem go23 {args : List AV} {H : AHeap} {Kk : AV → AHeap → Prop} (hn : args.length = 2) (h : AGo ⟨Try.prog, K23, [], 9, none⟩ H.length [.code c23] (RetP [.t (.g 4)] H.length Kk) ⟨[], argsG 0 args⟩ H) : ACalls Try.prog 23 args H Kk :=
  ACalls_of Try.func23 (c := b23) rfl (by kernel_rfl) t23 (rs := [.t (.g 4)]) (by kernel_rfl) (by rw [hn]; exact Nat.le_of_ble_eq_true rfl) (by rw [hn]; rfl) (h.weaken (fun _ _ => RetP.hands) (by simp))

/-- (*sastrugi/sastrugikit.Seed).next -/
def c18 : ACode :=
  (.seq
(.reg [
  ⟨(some (true, 2)), .mv (.c (.lit (.int .u64 0))), none⟩])
(.seq
(.reg [
  ⟨(some (false, 4)), .mv (.g 0), none⟩,
  ⟨(some (false, 5)), .mv (.g 0), none⟩,
  ⟨(some (false, 6)), .nilc (.l 5), none⟩,
  ⟨(some (false, 7)), .fa (.l 6) 0, none⟩,
  ⟨(some (false, 8)), .ld none (.l 7), none⟩,
  ⟨(some (false, 9)), .bin .add (.l 8) (.c (.lit (.int .u64 11400714819323198485))), none⟩,
  ⟨(some (false, 10)), .nilc (.l 4), none⟩,
  ⟨(some (false, 11)), .fa (.l 10) 0, none⟩,
  ⟨none, .st 1 (.l 11) (.l 9), none⟩])
(.seq
(.reg [
  ⟨(some (false, 12)), .mv (.g 0), none⟩,
  ⟨(some (false, 13)), .nilc (.l 12), none⟩,
  ⟨(some (false, 14)), .fa (.l 13) 0, none⟩,
  ⟨(some (false, 15)), .ld none (.l 14), none⟩,
  ⟨(some (true, 3)), .mv (.l 15), none⟩])
(.seq
(.reg [
  ⟨(some (false, 16)), .mv (.g 3), none⟩,
  ⟨(some (false, 17)), .mv (.g 3), none⟩,
  ⟨(some (false, 18)), .bin .shr (.l 17) (.c (.lit (.int .u64 30))), none⟩,
  ⟨(some (false, 19)), .bin .xor (.l 16) (.l 18), none⟩,
  ⟨(some (false, 20)), .bin .mul (.l 19) (.c (.lit (.int .u64 13787848793156543929))), none⟩,
  ⟨(some (true, 3)), .mv (.l 20), none⟩])
(.seq
(.reg [
  ⟨(some (false, 21)), .mv (.g 3), none⟩,
  ⟨(some (false, 22)), .mv (.g 3), none⟩,
  ⟨(some (false, 23)), .bin .shr (.l 22) (.c (.lit (.int .u64 27))), none⟩,
  ⟨(some (false, 24)), .bin .xor (.l 21) (.l 23), none⟩,
  ⟨(some (false, 25)), .bin .mul (.l 24) (.c (.lit (.int .u64 10723151780598845931))), none⟩,
  ⟨(some (true, 3)), .mv (.l 25), none⟩])
(.seq
(.reg [
  ⟨(some (false, 26)), .mv (.g 3), none⟩,
  ⟨(some (false, 27)), .mv (.g 3), none⟩,
  ⟨(some (false, 28)), .bin .shr (.l 27) (.c (.lit (.int .u64 31))), none⟩,
  ⟨(some (false, 29)), .bin .xor (.l 26) (.l 28), none⟩,
  ⟨(some (true, 2)), .mv (.l 29), none⟩])
.ret))))))
def K18 : List Nat := [0, 2, 3]
noncomputable def b18 : Code := match Try.f18.body with | some c => c | none => .skip
theorem t18 : trCode ⟨Try.prog, K18, [], 30, none⟩ b18 = some c18 := by kernel_rfl
theorem go18 {args : List AV} {H : AHeap} {Kk : AV → AHeap → Prop} (hn : args.length = 1) (h : AGo ⟨Try.prog, K18, [], 30, none⟩ H.length [.code c18] (RetP [.t (.g 2)] H.length Kk) ⟨[], argsG 0 args⟩ H) : ACalls Try.prog 18 args H Kk :=
  ACalls_of Try.func18 (c := b18) rfl (by kernel_rfl) t18 (rs := [.t (.g 2)]) (by kernel_rfl) (by rw [hn]; exact Nat.le_of_ble_eq_true rfl) (by rw [hn]; rfl) (h.weaken (fun _ _ => RetP.hands) (by simp))

/-- sastrugi/sastrugikit.SurveyOf -/
def c5 : ACode :=
  (.seq
(.reg [
  ⟨(some (true, 4)), .new [.slice none 0 0, .int .i64 0, .int .i64 0, .int .i64 0], none⟩])
(.seq
(.reg [
  ⟨(some (false, 8)), .mv (.g 0), none⟩,
  ⟨(some (false, 9)), .call (.c (.fn 11 [])) [.l 8, .c (.lit (.int .i64 3))], none⟩,
  ⟨(some (false, 10)), .mv (.g 0), none⟩,
  ⟨(some (false, 11)), .call (.c (.fn 11 [])) [.l 10, .c (.lit (.int .i64 3))], none⟩,
  ⟨(some (false, 12)), .mv (.g 0), none⟩,
  ⟨(some (false, 13)), .call (.c (.fn 11 [])) [.l 12, .c (.lit (.int .i64 4))], none⟩,
  ⟨(some (false, 14)), .mk [.int .i64 0, .int .i64 0, .int .i64 0] [(0, 1, .l 9), (1, 1, .l 11), (2, 1, .l 13)], none⟩,
  ⟨(some (false, 15)), .mk [.slice none 0 0, .int .i64 0, .int .i64 0, .int .i64 0] [(1, 3, .l 14)], none⟩,
  ⟨(some (true, 5)), .new [.slice none 0 0, .int .i64 0, .int .i64 0, .int .i64 0], none⟩,
  ⟨none, .st 4 (.g 5) (.l 15), none⟩])
(.seq
(.seq
(.reg [
  ⟨(some (false, 16)), .mv (.g 0), none⟩,
  ⟨(some (false, 17)), .mv (.g 1), none⟩,
  ⟨(some (false, 18)), .call (.c (.fn 10 [])) [.l 16, .c (.lit (.int .i64 1)), .l 17], none⟩,
  ⟨(some (true, 6)), .mv (.l 18), none⟩])
(.block 0
(.loop
(.seq
(.seq
(.reg [
  ⟨(some (false, 19)), .mv (.g 6), none⟩,
  ⟨(some (true, 20)), .bin .gtr (.l 19) (.c (.lit (.int .i64 0))), none⟩])
(.cond (.g 20)
.skip
(.exit 0)))
(.block 1
(.seq
(.reg [
  ⟨(some (false, 21)), .mv (.g 0), none⟩,
  ⟨(some (false, 22)), .mv (.g 6), none⟩,
  ⟨(some (false, 23)), .call (.c (.fn 10 [])) [.l 21, .c (.lit (.int .i64 1)), .l 22], none⟩,
  ⟨(some (true, 7)), .mv (.l 23), none⟩])
(.seq
(.seq
(.reg [
  ⟨(some (false, 24)), .fa (.g 5) 0, none⟩,
  ⟨(some (false, 25)), .ld none (.l 24), none⟩,
  ⟨(some (false, 26)), .len (.l 25), none⟩,
  ⟨(some (true, 27)), .bin .eql (.l 26) (.c (.lit (.int .i64 4))), none⟩])
(.cond (.g 27)
(.reg [
  ⟨(some (false, 28)), .mv (.g 6), none⟩,
  ⟨(some (true, 7)), .mv (.l 28), none⟩])
.skip))
(.seq
(.draw [
  ⟨⟨(some (false, 29)), .fa (.g 5) 0, none⟩, 0, true, []⟩,
  ⟨⟨(some (false, 30)), .ld none (.l 29), none⟩, 1, true, []⟩,
  ⟨⟨(some (false, 31)), .mv (.g 7), none⟩, 2, true, []⟩,
  ⟨⟨(some (false, 32)), .mv (.g 0), none⟩, 3, true, []⟩,
  ⟨⟨(some (false, 33)), .mv (.g 0), none⟩, 4, true, []⟩,
  ⟨⟨(some (false, 35)), .mv (.g 0), none⟩, 6, true, []⟩,
  ⟨⟨(some (false, 39)), .mv (.g 0), none⟩, 10, true, []⟩,
  ⟨⟨(some (false, 40)), .mv (.g 0), none⟩, 11, true, []⟩,
  ⟨⟨(some (false, 44)), .mv (.g 0), none⟩, 15, true, []⟩,
  ⟨⟨(some (false, 45)), .mv (.g 0), none⟩, 16, true, []⟩,
  ⟨⟨(some (false, 49)), .mv (.g 0), none⟩, 20, true, []⟩,
  ⟨⟨(some (false, 34)), .call (.c (.fn 11 [])) [.l 33, .c (.lit (.int .i64 20))], none⟩, 5, false, []⟩,
  ⟨⟨(some (false, 36)), .call (.c (.fn 11 [])) [.l 35, .c (.lit (.int .i64 300))], none⟩, 7, false, []⟩,
  ⟨⟨(some (false, 37)), .mks false 1 [.c (.lit (.int .i64 0)), .l 34, .l 36], none⟩, 8, true, []⟩,
  ⟨⟨(some (false, 38)), .call (.c (.fn 19 [])) [.l 32, .l 37], none⟩, 9, false, []⟩,
  ⟨⟨(some (false, 41)), .call (.c (.fn 11 [])) [.l 40, .c (.lit (.int .i64 20))], none⟩, 12, false, []⟩,
  ⟨⟨(some (false, 42)), .mks false 1 [.c (.lit (.int .i64 0)), .c (.lit (.int .i64 1)), .l 41], none⟩, 13, true, []⟩,
  ⟨⟨(some (false, 43)), .call (.c (.fn 19 [])) [.l 39, .l 42], none⟩, 14, false, []⟩,
  ⟨⟨(some (false, 46)), .call (.c (.fn 11 [])) [.l 45, .c (.lit (.int .i64 10))], none⟩, 17, false, []⟩,
  ⟨⟨(some (false, 47)), .mks false 1 [.c (.lit (.int .i64 0)), .c (.lit (.int .i64 1)), .l 46], none⟩, 18, true, []⟩,
  ⟨⟨(some (false, 48)), .call (.c (.fn 19 [])) [.l 44, .l 47], none⟩, 19, false, []⟩,
  ⟨⟨(some (false, 50)), .call (.c (.fn 11 [])) [.l 49, .c (.lit (.int .i64 15))], none⟩, 21, false, []⟩,
  ⟨⟨(some (false, 51)), .mk [.int .i64 0, .int .i64 0, .int .i64 0, .int .i64 0, .int .i64 0] [(0, 1, .l 31), (1, 1, .l 38), (2, 1, .l 43), (3, 1, .l 48), (4, 1, .l 50)], none⟩, 22, true, []⟩,
  ⟨⟨(some (false, 52)), .mks false 5 [.l 51], none⟩, 23, true, []⟩,
  ⟨⟨(some (false, 53)), .app 5 40 (.l 30) (.l 52), none⟩, 24, false, []⟩,
  ⟨⟨(some (false, 54)), .fa (.g 5) 0, none⟩, 25, true, []⟩,
  ⟨⟨none, .st 1 (.l 54) (.l 53), none⟩, 26, true, []⟩])
(.reg [
  ⟨(some (false, 55)), .mv (.g 6), none⟩,
  ⟨(some (false, 56)), .mv (.g 7), none⟩,
  ⟨(some (false, 57)), .bin .sub (.l 55) (.l 56), none⟩,
  ⟨(some (true, 6)), .mv (.l 57), none⟩])))))))))
(.seq
(.reg [
  ⟨(some (false, 58)), .ld (some 4) (.g 5), none⟩,
  ⟨none, .st 4 (.g 4) (.l 58), none⟩])
.ret))))
def K5 : List Nat := [0, 1, 20, 27, 4, 5, 6, 7]
noncomputable def b5 : Code := match Try.f5.body with | some c => c | none => .skip
theorem t5 : trCode ⟨Try.prog, K5, [], 59, none⟩ b5 = some c5 := by kernel_rfl
theorem go5 {args : List AV} {H : AHeap} {Kk : AV → AHeap → Prop} (hn : args.length = 2) (h : AGo ⟨Try.prog, K5, [], 59, none⟩ H.length [.code c5] (RetP [.cell (.g 4) (some 4)] H.length Kk) ⟨[], argsG 0 args⟩ H) : ACalls Try.prog 5 args H Kk :=
  ACalls_of Try.func5 (c := b5) rfl (by kernel_rfl) t5 (rs := [.cell (.g 4) (some 4)]) (by kernel_rfl) (by rw [hn]; exact Nat.le_of_ble_eq_true rfl) (by rw [hn]; rfl) (h.weaken (fun _ _ => RetP.hands) (by simp))

/-- sastrugi/sastrugikit.CourseOf -/
def c6 : ACode :=
  (.seq
(.reg [
  ⟨(some (true, 5)), .box (.g 1), none⟩,
  ⟨(some (true, 8)), .mv (.c (.lit (.slice none 0 0))), none⟩])
(.seq
(.reg [
  ⟨(some (false, 18)), .ld (some 4) (.g 5), none⟩,
  ⟨(some (false, 19)), .call (.c (.fn 20 [])) [.l 18], none⟩,
  ⟨(some (true, 9)), .mv (.l 19), none⟩])
(.seq
(.reg [
  ⟨(some (true, 10)), .mv (.c (.lit (.slice none 0 0))), none⟩])
(.seq
(.seq
(.reg [
  ⟨(some (false, 20)), .mv (.g 0), none⟩,
  ⟨(some (false, 21)), .call (.c (.fn 10 [])) [.l 20, .c (.lit (.int .i64 1)), .c (.lit (.int .i64 4))], none⟩,
  ⟨(some (true, 11)), .mv (.l 21), none⟩])
(.block 0
(.loop
(.seq
(.seq
(.reg [
  ⟨(some (false, 22)), .mv (.g 11), none⟩,
  ⟨(some (true, 23)), .bin .gtr (.l 22) (.c (.lit (.int .i64 0))), none⟩])
(.cond (.g 23)
.skip
(.exit 0)))
(.seq
(.block 1
(.reg [
  ⟨(some (false, 26)), .mv (.g 10), none⟩,
  ⟨(some (false, 27)), .mv (.g 0), none⟩,
  ⟨(some (false, 28)), .mv (.g 9), none⟩,
  ⟨(some (false, 29)), .call (.c (.fn 11 [])) [.l 27, .l 28], none⟩,
  ⟨(some (false, 30)), .mv (.g 2), none⟩,
  ⟨(some (false, 31)), .mv (.g 0), none⟩,
  ⟨(some (false, 32)), .mv (.g 3), none⟩,
  ⟨(some (false, 33)), .call (.c (.fn 11 [])) [.l 31, .l 32], none⟩,
  ⟨(some (false, 34)), .bin .add (.l 30) (.l 33), none⟩,
  ⟨(some (false, 35)), .mv (.g 0), none⟩,
  ⟨(some (false, 36)), .mv (.g 0), none⟩,
  ⟨(some (false, 37)), .call (.c (.fn 11 [])) [.l 36, .c (.lit (.int .i64 2000))], none⟩,
  ⟨(some (false, 38)), .mks false 1 [.c (.lit (.int .i64 0)), .l 37, .c (.lit (.int .i64 3000))], none⟩,
  ⟨(some (false, 39)), .call (.c (.fn 19 [])) [.l 35, .l 38], none⟩,
  ⟨(some (false, 40)), .mk [.int .i64 0, .int .i64 0] [(0, 1, .l 39)], none⟩,
  ⟨(some (false, 41)), .mk [.int .i64 0, .int .i64 0, .int .i64 0, .int .i64 0, .int .i64 0] [(1, 1, .l 29), (2, 1, .l 34), (3, 2, .l 40)], none⟩,
  ⟨(some (false, 42)), .mks false 5 [.l 41], none⟩,
  ⟨(some (false, 43)), .app 5 40 (.l 26) (.l 42), none⟩,
  ⟨(some (true, 10)), .mv (.l 43), none⟩]))
(.reg [
  ⟨(some (false, 24)), .mv (.g 11), none⟩,
  ⟨(some (false, 25)), .bin .sub (.l 24) (.c (.lit (.int .i64 1))), none⟩,
  ⟨(some (true, 11)), .mv (.l 25), none⟩]))))))
(.seq
(.reg [
  ⟨(some (true, 12)), .mv (.c (.lit (.slice none 0 0))), none⟩])
(.seq
(.seq
(.reg [
  ⟨(some (false, 44)), .mv (.g 2), none⟩,
  ⟨(some (true, 13)), .mv (.l 44), none⟩])
(.block 2
(.loop
(.seq
(.seq
(.reg [
  ⟨(some (false, 45)), .mv (.g 13), none⟩,
  ⟨(some (false, 46)), .mv (.g 2), none⟩,
  ⟨(some (false, 47)), .mv (.g 3), none⟩,
  ⟨(some (false, 48)), .bin .add (.l 46) (.l 47), none⟩,
  ⟨(some (true, 49)), .bin .lss (.l 45) (.l 48), none⟩])
(.cond (.g 49)
.skip
(.exit 2)))
(.seq
(.block 3
(.seq
(.reg [
  ⟨(some (true, 14)), .mv (.c (.lit (.slice none 0 0))), none⟩])
(.seq
(.seq
(.reg [
  ⟨(some (true, 15)), .mv (.c (.lit (.int .i64 0))), none⟩])
(.block 4
(.loop
(.seq
(.seq
(.reg [
  ⟨(some (false, 52)), .mv (.g 15), none⟩,
  ⟨(some (false, 53)), .mv (.g 9), none⟩,
  ⟨(some (true, 54)), .bin .lss (.l 52) (.l 53), none⟩])
(.cond (.g 54)
.skip
(.exit 4)))
(.seq
(.block 5
(.seq
(.reg [
  ⟨(some (true, 16)), .mv (.c (.lit (.int .i64 3000))), none⟩])
(.seq
(.seq
(.reg [
  ⟨(some (true, 17)), .mv (.c (.lit (.int .i64 0))), none⟩])
(.block 6
(.loop
(.seq
(.seq
(.reg [
  ⟨(some (false, 57)), .mv (.g 17), none⟩,
  ⟨(some (false, 58)), .mv (.g 10), none⟩,
  ⟨(some (false, 59)), .len (.l 58), none⟩,
  ⟨(some (true, 60)), .bin .lss (.l 57) (.l 59), none⟩])
(.cond (.g 60)
.skip
(.exit 6)))
(.seq
(.block 7
(.draw [
  ⟨⟨(some (false, 63)), .mv (.g 16), none⟩, 0, true, []⟩,
  ⟨⟨(some (false, 64)), .mv (.g 10), none⟩, 1, true, []⟩,
  ⟨⟨(some (false, 65)), .mv (.g 17), none⟩, 2, true, []⟩,
  ⟨⟨(some (false, 66)), .ia 5 (.l 64) (.l 65), none⟩, 3, true, []⟩,
  ⟨⟨(some (false, 67)), .fa (.l 66) 3, none⟩, 4, true, []⟩,
  ⟨⟨(some (false, 68)), .fa (.l 67) 0, none⟩, 5, true, []⟩,
  ⟨⟨(some (false, 69)), .ld none (.l 68), none⟩, 6, true, []⟩,
  ⟨⟨(some (false, 70)), .ld (some 4) (.g 5), none⟩, 7, true, []⟩,
  ⟨⟨(some (false, 71)), .mv (.g 15), none⟩, 8, true, []⟩,
  ⟨⟨(some (false, 72)), .mv (.g 13), none⟩, 9, true, []⟩,
  ⟨⟨(some (false, 73)), .mv (.g 10), none⟩, 10, true, []⟩,
  ⟨⟨(some (false, 74)), .mv (.g 17), none⟩, 11, true, []⟩,
  ⟨⟨(some (false, 75)), .ia 5 (.l 73) (.l 74), none⟩, 12, true, []⟩,
  ⟨⟨(some (false, 76)), .fa (.l 75) 1, none⟩, 13, true, []⟩,
  ⟨⟨(some (false, 77)), .ld none (.l 76), none⟩, 14, true, []⟩,
  ⟨⟨(some (false, 78)), .mv (.g 10), none⟩, 15, true, []⟩,
  ⟨⟨(some (false, 79)), .mv (.g 17), none⟩, 16, true, []⟩,
  ⟨⟨(some (false, 80)), .ia 5 (.l 78) (.l 79), none⟩, 17, true, []⟩,
  ⟨⟨(some (false, 81)), .fa (.l 80) 2, none⟩, 18, true, []⟩,
  ⟨⟨(some (false, 82)), .ld none (.l 81), none⟩, 19, true, []⟩,
  ⟨⟨(some (false, 83)), .call (.c (.fn 21 [])) [.l 70, .l 71, .l 72, .l 77, .l 82], none⟩, 20, false, []⟩,
  ⟨⟨(some (false, 84)), .bin .add (.l 69) (.l 83), none⟩, 21, true, []⟩,
  ⟨⟨(some (false, 85)), .mn [.l 63, .l 84], none⟩, 22, true, []⟩,
  ⟨⟨(some (true, 16)), .mv (.l 85), none⟩, 23, true, []⟩]))
(.reg [
  ⟨(some (false, 61)), .mv (.g 17), none⟩,
  ⟨(some (false, 62)), .bin .add (.l 61) (.c (.lit (.int .i64 1))), none⟩,
  ⟨(some (true, 17)), .mv (.l 62), none⟩]))))))
(.reg [
  ⟨(some (false, 86)), .mv (.g 14), none⟩,
  ⟨(some (false, 87)), .mv (.g 16), none⟩,
  ⟨(some (false, 88)), .mks false 1 [.l 87], none⟩,
  ⟨(some (false, 89)), .app 1 8 (.l 86) (.l 88), none⟩,
  ⟨(some (true, 14)), .mv (.l 89), none⟩]))))
(.reg [
  ⟨(some (false, 55)), .mv (.g 15), none⟩,
  ⟨(some (false, 56)), .bin .add (.l 55) (.c (.lit (.int .i64 1))), none⟩,
  ⟨(some (true, 15)), .mv (.l 56), none⟩]))))))
(.reg [
  ⟨(some (false, 90)), .mv (.g 12), none⟩,
  ⟨(some (false, 91)), .mv (.g 14), none⟩,
  ⟨(some (false, 92)), .mks false 1 [.l 91], none⟩,
  ⟨(some (false, 93)), .app 1 24 (.l 90) (.l 92), none⟩,
  ⟨(some (true, 12)), .mv (.l 93), none⟩]))))
(.reg [
  ⟨(some (false, 50)), .mv (.g 13), none⟩,
  ⟨(some (false, 51)), .bin .add (.l 50) (.c (.lit (.int .i64 1))), none⟩,
  ⟨(some (true, 13)), .mv (.l 51), none⟩]))))))
(.seq
(.reg [
  ⟨(some (false, 94)), .mv (.g 12), none⟩,
  ⟨(some (true, 8)), .mv (.l 94), none⟩])
.ret)))))))
def K6 : List Nat := [0, 1, 2, 3, 23, 49, 54, 60, 8, 5, 9, 10, 11, 12, 13, 14, 15, 16, 17]
noncomputable def b6 : Code := match Try.f6.body with | some c => c | none => .skip
theorem t6 : trCode ⟨Try.prog, K6, [], 95, none⟩ b6 = some c6 := by kernel_rfl
theorem go6 {args : List AV} {H : AHeap} {Kk : AV → AHeap → Prop} (hn : args.length = 4) (h : AGo ⟨Try.prog, K6, [], 95, none⟩ H.length [.code c6] (RetP [.t (.g 8)] H.length Kk) ⟨[], argsG 0 args⟩ H) : ACalls Try.prog 6 args H Kk :=
  ACalls_of Try.func6 (c := b6) rfl (by kernel_rfl) t6 (rs := [.t (.g 8)]) (by kernel_rfl) (by rw [hn]; exact Nat.le_of_ble_eq_true rfl) (by rw [hn]; rfl) (h.weaken (fun _ _ => RetP.hands) (by simp))

/-- sastrugi/sastrugikit.MarksOf -/
def c8 : ACode :=
  (.seq
(.reg [
  ⟨(some (true, 5)), .box (.g 1), none⟩,
  ⟨(some (true, 8)), .mv (.c (.lit (.slice none 0 0))), none⟩])
(.seq
(.reg [
  ⟨(some (false, 13)), .ld (some 4) (.g 5), none⟩,
  ⟨(some (false, 14)), .call (.c (.fn 20 [])) [.l 13], none⟩,
  ⟨(some (true, 9)), .mv (.l 14), none⟩])
(.seq
(.reg [
  ⟨(some (true, 10)), .mv (.c (.lit (.slice none 0 0))), none⟩])
(.seq
(.seq
(.reg [
  ⟨(some (false, 15)), .mv (.g 0), none⟩,
  ⟨(some (false, 16)), .mv (.g 2), none⟩,
  ⟨(some (false, 17)), .bin .add (.l 16) (.c (.lit (.int .i64 1))), none⟩,
  ⟨(some (false, 18)), .call (.c (.fn 11 [])) [.l 15, .l 17], none⟩,
  ⟨(some (true, 11)), .mv (.l 18), none⟩])
(.block 0
(.loop
(.seq
(.seq
(.reg [
  ⟨(some (false, 19)), .mv (.g 11), none⟩,
  ⟨(some (true, 20)), .bin .gtr (.l 19) (.c (.lit (.int .i64 0))), none⟩])
(.cond (.g 20)
.skip
(.exit 0)))
(.seq
(.block 1
(.seq
(.reg [
  ⟨(some (false, 23)), .mv (.g 0), none⟩,
  ⟨(some (false, 24)), .call (.c (.fn 10 [])) [.l 23, .c (.lit (.int .i64 1)), .c (.lit (.int .i64 4))], none⟩,
  ⟨(some (false, 25)), .mv (.g 0), none⟩,
  ⟨(some (false, 26)), .mv (.g 9), none⟩,
  ⟨(some (false, 27)), .call (.c (.fn 11 [])) [.l 25, .l 26], none⟩,
  ⟨(some (false, 28)), .mv (.g 0), none⟩,
  ⟨(some (false, 29)), .mv (.g 3), none⟩,
  ⟨(some (false, 30)), .call (.c (.fn 11 [])) [.l 28, .l 29], none⟩,
  ⟨(some (false, 31)), .mv (.g 0), none⟩,
  ⟨(some (false, 32)), .mv (.g 0), none⟩,
  ⟨(some (false, 33)), .call (.c (.fn 11 [])) [.l 32, .c (.lit (.int .i64 4))], none⟩,
  ⟨(some (false, 34)), .mks false 1 [.c (.lit (.int .i64 0)), .c (.lit (.int .i64 0)), .c (.lit (.int .i64 1)), .l 33], none⟩,
  ⟨(some (false, 35)), .call (.c (.fn 19 [])) [.l 31, .l 34], none⟩,
  ⟨(some (false, 36)), .mk [.int .i64 0, .int .i64 0, .int .i64 0, .int .i64 0, .int .i64 0] [(0, 1, .l 24), (1, 1, .l 27), (3, 1, .l 30), (4, 1, .l 35)], none⟩,
  ⟨(some (true, 12)), .new [.int .i64 0, .int .i64 0, .int .i64 0, .int .i64 0, .int .i64 0], none⟩,
  ⟨none, .st 5 (.g 12) (.l 36), none⟩])
(.seq
(.draw [
  ⟨⟨(some (false, 37)), .mv (.g 9), none⟩, 0, true, []⟩,
  ⟨⟨(some (false, 38)), .bin .sub (.l 37) (.c (.lit (.int .i64 1))), none⟩, 1, true, []⟩,
  ⟨⟨(some (false, 39)), .fa (.g 12) 1, none⟩, 2, true, []⟩,
  ⟨⟨(some (false, 40)), .ld none (.l 39), none⟩, 3, true, []⟩,
  ⟨⟨(some (false, 41)), .mv (.g 0), none⟩, 4, true, []⟩,
  ⟨⟨(some (false, 42)), .mv (.g 0), none⟩, 5, true, []⟩,
  ⟨⟨(some (false, 44)), .mv (.g 0), none⟩, 7, true, []⟩,
  ⟨⟨(some (false, 45)), .mv (.g 9), none⟩, 8, true, []⟩,
  ⟨⟨(some (false, 43)), .call (.c (.fn 11 [])) [.l 42, .c (.lit (.int .i64 4))], none⟩, 6, false, []⟩,
  ⟨⟨(some (false, 46)), .call (.c (.fn 11 [])) [.l 44, .l 45], none⟩, 9, false, []⟩,
  ⟨⟨(some (false, 47)), .mks false 1 [.c (.lit (.int .i64 0)), .l 43, .l 46], none⟩, 10, true, []⟩,
  ⟨⟨(some (false, 48)), .call (.c (.fn 19 [])) [.l 41, .l 47], none⟩, 11, false, []⟩,
  ⟨⟨(some (false, 49)), .bin .add (.l 40) (.l 48), none⟩, 12, true, []⟩,
  ⟨⟨(some (false, 50)), .mn [.l 38, .l 49], none⟩, 13, true, []⟩,
  ⟨⟨(some (false, 51)), .fa (.g 12) 2, none⟩, 14, true, []⟩,
  ⟨⟨none, .st 1 (.l 51) (.l 50), none⟩, 15, true, []⟩])
(.reg [
  ⟨(some (false, 52)), .mv (.g 10), none⟩,
  ⟨(some (false, 53)), .ld (some 5) (.g 12), none⟩,
  ⟨(some (false, 54)), .mks false 5 [.l 53], none⟩,
  ⟨(some (false, 55)), .app 5 40 (.l 52) (.l 54), none⟩,
  ⟨(some (true, 10)), .mv (.l 55), none⟩]))))
(.reg [
  ⟨(some (false, 21)), .mv (.g 11), none⟩,
  ⟨(some (false, 22)), .bin .sub (.l 21) (.c (.lit (.int .i64 1))), none⟩,
  ⟨(some (true, 11)), .mv (.l 22), none⟩]))))))
(.seq
(.reg [
  ⟨(some (false, 56)), .mv (.g 10), none⟩,
  ⟨(some (true, 8)), .mv (.l 56), none⟩])
.ret)))))
def K8 : List Nat := [0, 1, 2, 3, 20, 8, 5, 9, 10, 11, 12]
noncomputable def b8 : Code := match Try.f8.body with | some c => c | none => .skip
theorem t8 : trCode ⟨Try.prog, K8, [], 57, none⟩ b8 = some c8 := by kernel_rfl
theorem go8 {args : List AV} {H : AHeap} {Kk : AV → AHeap → Prop} (hn : args.length = 4) (h : AGo ⟨Try.prog, K8, [], 57, none⟩ H.length [.code c8] (RetP [.t (.g 8)] H.length Kk) ⟨[], argsG 0 args⟩ H) : ACalls Try.prog 8 args H Kk :=
  ACalls_of Try.func8 (c := b8) rfl (by kernel_rfl) t8 (rs := [.t (.g 8)]) (by kernel_rfl) (by rw [hn]; exact Nat.le_of_ble_eq_true rfl) (by rw [hn]; rfl) (h.weaken (fun _ _ => RetP.hands) (by simp))

/-- sastrugi/sastrugikit.LooksOf -/
def c7 : ACode :=
  (.seq
(.reg [
  ⟨(some (true, 8)), .mv (.c (.lit (.slice none 0 0))), none⟩])
(.seq
(.reg [
  ⟨(some (true, 9)), .mv (.c (.lit (.slice none 0 0))), none⟩])
(.seq
(.seq
(.reg [
  ⟨(some (false, 15)), .mv (.g 0), none⟩,
  ⟨(some (false, 16)), .mv (.g 3), none⟩,
  ⟨(some (false, 17)), .bin .add (.l 16) (.c (.lit (.int .i64 1))), none⟩,
  ⟨(some (false, 18)), .call (.c (.fn 11 [])) [.l 15, .l 17], none⟩,
  ⟨(some (true, 10)), .mv (.l 18), none⟩])
(.block 0
(.loop
(.seq
(.seq
(.reg [
  ⟨(some (false, 19)), .mv (.g 10), none⟩,
  ⟨(some (true, 20)), .bin .gtr (.l 19) (.c (.lit (.int .i64 0))), none⟩])
(.cond (.g 20)
.skip
(.exit 0)))
(.seq
(.block 1
(.seq
(.reg [
  ⟨(some (false, 23)), .mv (.g 0), none⟩,
  ⟨(some (false, 24)), .mv (.g 2), none⟩,
  ⟨(some (false, 25)), .len (.l 24), none⟩,
  ⟨(some (false, 26)), .call (.c (.fn 11 [])) [.l 23, .l 25], none⟩,
  ⟨(some (true, 11)), .mv (.l 26), none⟩])
(.seq
(.reg [
  ⟨(some (false, 27)), .mv (.g 0), none⟩,
  ⟨(some (false, 28)), .mv (.g 2), none⟩,
  ⟨(some (false, 29)), .mv (.g 11), none⟩,
  ⟨(some (false, 30)), .ia 1 (.l 28) (.l 29), none⟩,
  ⟨(some (false, 31)), .ld none (.l 30), none⟩,
  ⟨(some (false, 32)), .len (.l 31), none⟩,
  ⟨(some (false, 33)), .call (.c (.fn 11 [])) [.l 27, .l 32], none⟩,
  ⟨(some (true, 12)), .mv (.l 33), none⟩])
(.seq
(.reg [
  ⟨(some (false, 34)), .mv (.g 2), none⟩,
  ⟨(some (false, 35)), .mv (.g 11), none⟩,
  ⟨(some (false, 36)), .ia 1 (.l 34) (.l 35), none⟩,
  ⟨(some (false, 37)), .ld none (.l 36), none⟩,
  ⟨(some (false, 38)), .mv (.g 12), none⟩,
  ⟨(some (false, 39)), .ia 1 (.l 37) (.l 38), none⟩,
  ⟨(some (false, 40)), .ld none (.l 39), none⟩,
  ⟨(some (true, 13)), .mv (.l 40), none⟩])
(.seq
(.reg [
  ⟨(some (false, 41)), .mv (.g 13), none⟩,
  ⟨(some (false, 42)), .mv (.g 0), none⟩,
  ⟨(some (false, 43)), .mv (.g 0), none⟩,
  ⟨(some (false, 44)), .call (.c (.fn 11 [])) [.l 43, .c (.lit (.int .i64 9))], none⟩,
  ⟨(some (false, 45)), .mv (.g 0), none⟩,
  ⟨(some (false, 46)), .call (.c (.fn 11 [])) [.l 45, .c (.lit (.int .i64 200))], none⟩,
  ⟨(some (false, 47)), .mks false 1 [.c (.lit (.int .i64 0)), .l 44, .l 46], none⟩,
  ⟨(some (false, 48)), .call (.c (.fn 19 [])) [.l 42, .l 47], none⟩,
  ⟨(some (false, 49)), .bin .sub (.l 41) (.l 48), none⟩,
  ⟨(some (false, 50)), .mx [.c (.lit (.int .i64 0)), .l 49], none⟩,
  ⟨(some (false, 51)), .mv (.g 13), none⟩,
  ⟨(some (false, 52)), .mv (.g 0), none⟩,
  ⟨(some (false, 53)), .mv (.g 0), none⟩,
  ⟨(some (false, 54)), .call (.c (.fn 11 [])) [.l 53, .c (.lit (.int .i64 9))], none⟩,
  ⟨(some (false, 55)), .mv (.g 0), none⟩,
  ⟨(some (false, 56)), .call (.c (.fn 11 [])) [.l 55, .c (.lit (.int .i64 200))], none⟩,
  ⟨(some (false, 57)), .mks false 1 [.c (.lit (.int .i64 0)), .l 54, .l 56], none⟩,
  ⟨(some (false, 58)), .call (.c (.fn 19 [])) [.l 52, .l 57], none⟩,
  ⟨(some (false, 59)), .bin .add (.l 51) (.l 58), none⟩,
  ⟨(some (false, 60)), .mn [.c (.lit (.int .i64 3000)), .l 59], none⟩,
  ⟨(some (false, 61)), .mk [.int .i64 0, .int .i64 0] [(0, 1, .l 50), (1, 1, .l 60)], none⟩,
  ⟨(some (true, 14)), .new [.int .i64 0, .int .i64 0], none⟩,
  ⟨none, .st 2 (.g 14) (.l 61), none⟩])
(.draw [
  ⟨⟨(some (false, 62)), .mv (.g 9), none⟩, 0, true, []⟩,
  ⟨⟨(some (false, 63)), .mv (.g 0), none⟩, 1, true, []⟩,
  ⟨⟨(some (false, 65)), .mv (.g 12), none⟩, 3, true, []⟩,
  ⟨⟨(some (false, 66)), .mv (.g 1), none⟩, 4, true, []⟩,
  ⟨⟨(some (false, 67)), .mv (.g 11), none⟩, 5, true, []⟩,
  ⟨⟨(some (false, 68)), .bin .add (.l 66) (.l 67), none⟩, 6, true, []⟩,
  ⟨⟨(some (false, 69)), .ld (some 2) (.g 14), none⟩, 7, true, []⟩,
  ⟨⟨(some (false, 64)), .call (.c (.fn 10 [])) [.l 63, .c (.lit (.int .i64 1)), .c (.lit (.int .i64 3))], none⟩, 2, false, []⟩,
  ⟨⟨(some (false, 70)), .mk [.int .i64 0, .int .i64 0, .int .i64 0, .int .i64 0, .int .i64 0] [(0, 1, .l 64), (1, 1, .l 65), (2, 1, .l 68), (3, 2, .l 69)], none⟩, 8, true, []⟩,
  ⟨⟨(some (false, 71)), .mks false 5 [.l 70], none⟩, 9, true, []⟩,
  ⟨⟨(some (false, 72)), .app 5 40 (.l 62) (.l 71), none⟩, 10, false, []⟩,
  ⟨⟨(some (true, 9)), .mv (.l 72), none⟩, 11, true, []⟩]))))))
(.reg [
  ⟨(some (false, 21)), .mv (.g 10), none⟩,
  ⟨(some (false, 22)), .bin .sub (.l 21) (.c (.lit (.int .i64 1))), none⟩,
  ⟨(some (true, 10)), .mv (.l 22), none⟩]))))))
(.seq
(.reg [
  ⟨(some (false, 73)), .mv (.g 9), none⟩,
  ⟨(some (true, 8)), .mv (.l 73), none⟩])
.ret))))
def K7 : List Nat := [0, 1, 2, 3, 20, 8, 9, 10, 11, 12, 13, 14]
noncomputable def b7 : Code := match Try.f7.body with | some c => c | none => .skip
theorem t7 : trCode ⟨Try.prog, K7, [], 74, none⟩ b7 = some c7 := by kernel_rfl
theorem go7 {args : List AV} {H : AHeap} {Kk : AV → AHeap → Prop} (hn : args.length = 4) (h : AGo ⟨Try.prog, K7, [], 74, none⟩ H.length [.code c7] (RetP [.t (.g 8)] H.length Kk) ⟨[], argsG 0 args⟩ H) : ACalls Try.prog 7 args H Kk :=
  ACalls_of Try.func7 (c := b7) rfl (by kernel_rfl) t7 (rs := [.t (.g 8)]) (by kernel_rfl) (by rw [hn]; exact Nat.le_of_ble_eq_true rfl) (by rw [hn]; rfl) (h.weaken (fun _ _ => RetP.hands) (by simp))

/-- sastrugi/sastrugikit.Same -/
def c33 : ACode :=
  (.seq
(.reg [
  ⟨(some (true, 4)), .mv (.c (.lit (.bool false))), none⟩])
(.seq
(.seq
(.reg [
  ⟨(some (false, 6)), .mv (.g 0), none⟩,
  ⟨(some (false, 7)), .len (.l 6), none⟩,
  ⟨(some (false, 8)), .mv (.g 1), none⟩,
  ⟨(some (false, 9)), .len (.l 8), none⟩,
  ⟨(some (true, 10)), .bin .neq (.l 7) (.l 9), none⟩])
(.cond (.g 10)
(.seq
(.reg [
  ⟨(some (true, 4)), .mv (.c (.lit (.bool false))), none⟩])
.ret)
.skip))
(.seq
(.seq
(.reg [
  ⟨(some (true, 5)), .mv (.c (.lit (.int .i64 0))), none⟩])
(.block 0
(.loop
(.seq
(.seq
(.reg [
  ⟨(some (false, 11)), .mv (.g 5), none⟩,
  ⟨(some (false, 12)), .mv (.g 0), none⟩,
  ⟨(some (false, 13)), .len (.l 12), none⟩,
  ⟨(some (true, 14)), .bin .lss (.l 11) (.l 13), none⟩])
(.cond (.g 14)
.skip
(.exit 0)))
(.seq
(.block 1
(.seq
(.draw [
  ⟨⟨(some (false, 17)), .mv (.g 0), none⟩, 0, true, []⟩,
  ⟨⟨(some (false, 18)), .mv (.g 5), none⟩, 1, true, []⟩,
  ⟨⟨(some (false, 19)), .ia 1 (.l 17) (.l 18), none⟩, 2, true, []⟩,
  ⟨⟨(some (false, 20)), .ld none (.l 19), none⟩, 3, true, []⟩,
  ⟨⟨(some (false, 21)), .mv (.g 1), none⟩, 4, true, []⟩,
  ⟨⟨(some (false, 22)), .mv (.g 5), none⟩, 5, true, []⟩,
  ⟨⟨(some (false, 23)), .ia 1 (.l 21) (.l 22), none⟩, 6, true, []⟩,
  ⟨⟨(some (false, 24)), .ld none (.l 23), none⟩, 7, true, []⟩,
  ⟨⟨(some (true, 25)), .bin .neq (.l 20) (.l 24), none⟩, 8, true, []⟩])
(.cond (.g 25)
(.seq
(.reg [
  ⟨(some (true, 4)), .mv (.c (.lit (.bool false))), none⟩])
.ret)
.skip)))
(.reg [
  ⟨(some (false, 15)), .mv (.g 5), none⟩,
  ⟨(some (false, 16)), .bin .add (.l 15) (.c (.lit (.int .i64 1))), none⟩,
  ⟨(some (true, 5)), .mv (.l 16), none⟩]))))))
(.seq
(.reg [
  ⟨(some (true, 4)), .mv (.c (.lit (.bool true))), none⟩])
.ret))))
def K33 : List Nat := [0, 1, 10, 14, 25, 4, 5]
noncomputable def b33 : Code := match Try.f33.body with | some c => c | none => .skip
theorem t33 : trCode ⟨Try.prog, K33, [], 26, none⟩ b33 = some c33 := by kernel_rfl
theorem go33 {args : List AV} {H : AHeap} {Kk : AV → AHeap → Prop} (hn : args.length = 2) (h : AGo ⟨Try.prog, K33, [], 26, none⟩ H.length [.code c33] (RetP [.t (.g 4)] H.length Kk) ⟨[], argsG 0 args⟩ H) : ACalls Try.prog 33 args H Kk :=
  ACalls_of Try.func33 (c := b33) rfl (by kernel_rfl) t33 (rs := [.t (.g 4)]) (by kernel_rfl) (by rw [hn]; exact Nat.le_of_ble_eq_true rfl) (by rw [hn]; rfl) (h.weaken (fun _ _ => RetP.hands) (by simp))

/-- sastrugi/sastrugiref02.Places -/
def c20 : ACode :=
  (.seq
(.reg [
  ⟨(some (true, 1)), .box (.g 0), none⟩,
  ⟨(some (true, 2)), .mv (.c (.lit (.int .i64 0))), none⟩])
(.seq
(.reg [
  ⟨(some (true, 3)), .mv (.c (.lit (.int .i64 0))), none⟩])
(.seq
(.seq
(.reg [
  ⟨(some (true, 4)), .mv (.c (.lit (.int .i64 0))), none⟩])
(.block 0
(.loop
(.seq
(.seq
(.reg [
  ⟨(some (false, 5)), .mv (.g 4), none⟩,
  ⟨(some (false, 6)), .fa (.g 1) 0, none⟩,
  ⟨(some (false, 7)), .ld none (.l 6), none⟩,
  ⟨(some (false, 8)), .len (.l 7), none⟩,
  ⟨(some (true, 9)), .bin .lss (.l 5) (.l 8), none⟩])
(.cond (.g 9)
.skip
(.exit 0)))
(.seq
(.block 1
(.reg [
  ⟨(some (false, 12)), .mv (.g 3), none⟩,
  ⟨(some (false, 13)), .fa (.g 1) 0, none⟩,
  ⟨(some (false, 14)), .ld none (.l 13), none⟩,
  ⟨(some (false, 15)), .mv (.g 4), none⟩,
  ⟨(some (false, 16)), .ia 5 (.l 14) (.l 15), none⟩,
  ⟨(some (false, 17)), .fa (.l 16) 0, none⟩,
  ⟨(some (false, 18)), .ld none (.l 17), none⟩,
  ⟨(some (false, 19)), .bin .add (.l 12) (.l 18), none⟩,
  ⟨(some (true, 3)), .mv (.l 19), none⟩]))
(.reg [
  ⟨(some (false, 10)), .mv (.g 4), none⟩,
  ⟨(some (false, 11)), .bin .add (.l 10) (.c (.lit (.int .i64 1))), none⟩,
  ⟨(some (true, 4)), .mv (.l 11), none⟩]))))))
(.seq
(.reg [
  ⟨(some (false, 20)), .mv (.g 3), none⟩,
  ⟨(some (true, 2)), .mv (.l 20), none⟩])
.ret))))
def K20 : List Nat := [0, 9, 2, 1, 3, 4]
noncomputable def b20 : Code := match Try.f20.body with | some c => c | none => .skip
theorem t20 : trCode ⟨Try.prog, K20, [], 21, none⟩ b20 = some c20 := by kernel_rfl
theorem go20 {args : List AV} {H : AHeap} {Kk : AV → AHeap → Prop} (hn : args.length = 1) (h : AGo ⟨Try.prog, K20, [], 21, none⟩ H.length [.code c20] (RetP [.t (.g 2)] H.length Kk) ⟨[], argsG 0 args⟩ H) : ACalls Try.prog 20 args H Kk :=
  ACalls_of Try.func20 (c := b20) rfl (by kernel_rfl) t20 (rs := [.t (.g 2)]) (by kernel_rfl) (by rw [hn]; exact Nat.le_of_ble_eq_true rfl) (by rw [hn]; rfl) (h.weaken (fun _ _ => RetP.hands) (by simp))

end Go.Sas
namespace Go.Sas
open Go.Proofs
set_option maxRecDepth 100000
/-- sastrugi/probe.stale -/
def c54 : ACode :=
  (.seq
(.reg [
  ⟨(some (true, 3)), .box (.g 0), none⟩,
  ⟨(some (true, 4)), .box (.g 1), none⟩,
  ⟨(some (true, 5)), .box (.g 2), none⟩,
  ⟨(some (true, 6)), .mv (.c (.lit (.slice none 0 0))), none⟩])
(.seq
(.reg [
  ⟨(some (false, 13)), .fa (.g 3) 5, none⟩,
  ⟨(some (false, 14)), .ld none (.l 13), none⟩,
  ⟨(some (false, 15)), .len (.l 14), none⟩,
  ⟨(some (false, 16)), .mksl 1 1 [.bool false] (.l 15) (.l 15), none⟩,
  ⟨(some (true, 7)), .new [.slice none 0 0], none⟩,
  ⟨none, .st 1 (.g 7) (.l 16), none⟩])
(.seq
(.seq
(.reg [
  ⟨(some (false, 17)), .fa (.g 3) 0, none⟩,
  ⟨(some (false, 18)), .ld (some 4) (.l 17), none⟩,
  ⟨(some (true, 19)), .call (.c (.fn 68 [])) [.l 18], none⟩])
(.block 0
(.rng (.g 19) [20, 21]
(.seq
(.reg [
  ⟨(some (true, 8)), .mv (.g 20), none⟩])
(.reg [
  ⟨(some (true, 9)), .new [.int .i64 0, .int .i64 0, .int .i64 0, .int .i64 0, .int .i64 0], none⟩,
  ⟨none, .st 5 (.g 9) (.g 21), none⟩]))
(.block 1
(.seq
(.reg [
  ⟨(some (false, 22)), .ld none (.g 7), none⟩,
  ⟨(some (false, 23)), .mv (.g 8), none⟩,
  ⟨(some (false, 24)), .ia 1 (.l 22) (.l 23), none⟩,
  ⟨none, .st 1 (.l 24) (.c (.lit (.bool true))), none⟩])
(.seq
(.reg [
  ⟨(some (true, 25)), .ld none (.g 4), none⟩,
  ⟨(some (true, 26)), .len (.g 25), none⟩,
  ⟨(some (true, 27)), .mv (.c (.lit (.int .i64 0))), none⟩])
(.block 2
(.loop
(.seq
(.reg [
  ⟨(some (true, 28)), .bin .lss (.g 27) (.g 26), none⟩])
(.seq
(.cond (.g 28)
.skip
(.exit 2))
(.seq
(.block 3
(.seq
(.reg [
  ⟨(some (false, 29)), .ia 5 (.g 25) (.g 27), none⟩,
  ⟨(some (false, 30)), .ld (some 5) (.l 29), none⟩,
  ⟨(some (true, 11)), .new [.int .i64 0, .int .i64 0, .int .i64 0, .int .i64 0, .int .i64 0], none⟩,
  ⟨none, .st 5 (.g 11) (.l 30), none⟩])
(.seq
(.reg [
  ⟨(some (false, 31)), .fa (.g 3) 0, none⟩,
  ⟨(some (false, 32)), .fa (.l 31) 1, none⟩,
  ⟨(some (false, 33)), .ld (some 3) (.l 32), none⟩,
  ⟨(some (true, 12)), .new [.int .i64 0, .int .i64 0, .int .i64 0], none⟩,
  ⟨none, .st 3 (.g 12) (.l 33), none⟩])
(.seq
(.draw [
  ⟨⟨(some (false, 34)), .mv (.g 8), none⟩, 0, true, []⟩,
  ⟨⟨(some (false, 35)), .fa (.g 11) 1, none⟩, 1, true, []⟩,
  ⟨⟨(some (false, 36)), .ld none (.l 35), none⟩, 2, true, []⟩,
  ⟨⟨(some (false, 37)), .fa (.g 11) 0, none⟩, 3, true, []⟩,
  ⟨⟨(some (false, 38)), .ld none (.l 37), none⟩, 4, true, []⟩,
  ⟨⟨(some (false, 39)), .bin .sub (.l 38) (.c (.lit (.int .i64 1))), none⟩, 5, true, []⟩,
  ⟨⟨(some (false, 40)), .iaa 3 1 (.g 12) (.l 39), none⟩, 6, true, []⟩,
  ⟨⟨(some (false, 41)), .ld none (.l 40), none⟩, 7, true, []⟩,
  ⟨⟨(some (false, 42)), .bin .sub (.l 36) (.l 41), none⟩, 8, true, []⟩,
  ⟨⟨(some (false, 43)), .fa (.g 11) 1, none⟩, 9, true, []⟩,
  ⟨⟨(some (false, 44)), .ld none (.l 43), none⟩, 10, true, []⟩,
  ⟨⟨(some (false, 45)), .fa (.g 11) 0, none⟩, 11, true, []⟩,
  ⟨⟨(some (false, 46)), .ld none (.l 45), none⟩, 12, true, []⟩,
  ⟨⟨(some (false, 47)), .bin .sub (.l 46) (.c (.lit (.int .i64 1))), none⟩, 13, true, []⟩,
  ⟨⟨(some (false, 48)), .iaa 3 1 (.g 12) (.l 47), none⟩, 14, true, []⟩,
  ⟨⟨(some (false, 49)), .ld none (.l 48), none⟩, 15, true, []⟩,
  ⟨⟨(some (false, 50)), .bin .add (.l 44) (.l 49), none⟩, 16, true, []⟩,
  ⟨⟨(some (false, 51)), .call (.c (.fn 46 [])) [.l 34, .l 42, .l 50], none⟩, 17, false, []⟩,
  ⟨⟨(some (false, 52)), .mv (.l 51), none⟩, 18, true, []⟩,
  ⟨⟨(some (false, 53)), .fa (.g 11) 2, (some (.l 52, true))⟩, 19, true, []⟩,
  ⟨⟨(some (false, 54)), .ld none (.l 53), (some (.l 52, true))⟩, 20, true, []⟩,
  ⟨⟨(some (false, 55)), .ld none (.g 5), (some (.l 52, true))⟩, 21, true, []⟩,
  ⟨⟨(some (false, 56)), .fa (.g 9) 4, (some (.l 52, true))⟩, 22, true, []⟩,
  ⟨⟨(some (false, 57)), .ld none (.l 56), (some (.l 52, true))⟩, 23, true, []⟩,
  ⟨⟨(some (false, 58)), .bin .sub (.l 55) (.l 57), (some (.l 52, true))⟩, 24, true, []⟩,
  ⟨⟨(some (false, 59)), .ld none (.g 5), (some (.l 52, true))⟩, 25, true, []⟩,
  ⟨⟨(some (false, 60)), .call (.c (.fn 46 [])) [.l 54, .l 58, .l 59], (some (.l 52, true))⟩, 26, false, []⟩,
  ⟨⟨(some (true, 61)), .pick (.l 52) (.l 60) (.c (.lit (.bool false))), none⟩, 27, true, []⟩])
(.cond (.g 61)
(.reg [
  ⟨(some (false, 62)), .ld none (.g 7), none⟩,
  ⟨(some (false, 63)), .mv (.g 8), none⟩,
  ⟨(some (false, 64)), .ia 1 (.l 62) (.l 63), none⟩,
  ⟨none, .st 1 (.l 64) (.c (.lit (.bool false))), none⟩])
.skip)))))
(.reg [
  ⟨(some (false, 65)), .bin .add (.g 27) (.c (.lit (.int .i64 1))), none⟩,
  ⟨(some (true, 27)), .mv (.l 65), none⟩]))))))))))))
(.seq
(.reg [
  ⟨(some (false, 66)), .ld none (.g 7), none⟩,
  ⟨(some (true, 6)), .mv (.l 66), none⟩])
.ret))))
def K54 : List Nat := [0, 1, 2, 19, 20, 21, 28, 61, 6, 3, 4, 5, 7, 8, 9, 25, 26, 27, 11, 12]
noncomputable def b54 : Code := match Try.f54.body with | some c => c | none => .skip
theorem t54 : trCode ⟨Try.prog, K54, [], 67, none⟩ b54 = some c54 := by kernel_rfl
theorem go54 {args : List AV} {H : AHeap} {Kk : AV → AHeap → Prop} (hn : args.length = 3) (h : AGo ⟨Try.prog, K54, [], 67, none⟩ H.length [.code c54] (RetP [.t (.g 6)] H.length Kk) ⟨[], argsG 0 args⟩ H) : ACalls Try.prog 54 args H Kk :=
  ACalls_of Try.func54 (c := b54) rfl (by kernel_rfl) t54 (rs := [.t (.g 6)]) (by kernel_rfl) (by rw [hn]; exact Nat.le_of_ble_eq_true rfl) (by rw [hn]; rfl) (h.weaken (fun _ _ => RetP.hands) (by simp))

/-- sastrugi/probe.asked -/
def c35 : ACode :=
  (.seq
(.reg [
  ⟨(some (true, 5)), .box (.g 0), none⟩,
  ⟨(some (true, 10)), .new [.slice none 0 0, .int .i64 0, .int .i64 0, .int .i64 0, .slice none 0 0, .slice none 0 0], none⟩,
  ⟨(some (true, 11)), .mv (.c (.lit (.slice none 0 0))), none⟩,
  ⟨(some (true, 12)), .mv (.c (.lit (.slice none 0 0))), none⟩,
  ⟨(some (true, 13)), .mv (.c (.lit (.int .i64 0))), none⟩])
(.seq
(.reg [
  ⟨(some (false, 20)), .ld (some 4) (.g 5), none⟩,
  ⟨(some (false, 21)), .mv (.g 1), none⟩,
  ⟨(some (false, 22)), .call (.c (.fn 45 [])) [.l 20, .l 21], none⟩,
  ⟨(some (false, 19)), .mv (.l 22), none⟩,
  ⟨(some (false, 23)), .ex (.l 19) 0, none⟩,
  ⟨(some (false, 24)), .ex (.l 19) 1, none⟩,
  ⟨none, .st 6 (.g 10) (.l 23), none⟩,
  ⟨(some (true, 13)), .mv (.l 24), none⟩])
(.seq
(.seq
(.reg [
  ⟨(some (false, 25)), .mv (.g 13), none⟩,
  ⟨(some (true, 26)), .bin .neq (.l 25) (.c (.lit (.int .i64 0))), none⟩])
(.cond (.g 26)
(.seq
(.reg [
  ⟨(some (false, 27)), .ld (some 6) (.g 10), none⟩,
  ⟨(some (false, 28)), .mv (.g 13), none⟩,
  ⟨none, .st 6 (.g 10) (.l 27), none⟩,
  ⟨(some (true, 11)), .mv (.c (.lit (.slice none 0 0))), none⟩,
  ⟨(some (true, 12)), .mv (.c (.lit (.slice none 0 0))), none⟩,
  ⟨(some (true, 13)), .mv (.l 28), none⟩])
.ret)
.skip))
(.seq
(.seq
(.reg [
  ⟨(some (false, 29)), .fa (.g 10) 5, none⟩,
  ⟨(some (false, 30)), .ld none (.l 29), none⟩,
  ⟨(some (false, 31)), .len (.l 30), none⟩,
  ⟨(some (false, 32)), .mv (.g 2), none⟩,
  ⟨(some (false, 33)), .call (.c (.fn 53 [])) [.l 31, .l 32], none⟩,
  ⟨(some (true, 14)), .mv (.l 33), none⟩])
(.seq
(.reg [
  ⟨(some (false, 34)), .mv (.g 14), none⟩,
  ⟨(some (true, 35)), .bin .neq (.l 34) (.c (.lit (.int .i64 0))), none⟩])
(.cond (.g 35)
(.seq
(.reg [
  ⟨(some (false, 36)), .ld (some 6) (.g 10), none⟩,
  ⟨(some (false, 37)), .mv (.g 14), none⟩,
  ⟨none, .st 6 (.g 10) (.l 36), none⟩,
  ⟨(some (true, 11)), .mv (.c (.lit (.slice none 0 0))), none⟩,
  ⟨(some (true, 12)), .mv (.c (.lit (.slice none 0 0))), none⟩,
  ⟨(some (true, 13)), .mv (.l 37), none⟩])
.ret)
.skip)))
(.seq
(.seq
(.reg [
  ⟨(some (false, 38)), .mv (.g 3), none⟩,
  ⟨(some (false, 39)), .call (.c (.fn 46 [])) [.l 38, .c (.lit (.int .i64 0)), .c (.lit (.int .i64 3000))], none⟩,
  ⟨(some (false, 40)), .un .not (.l 39), none⟩,
  ⟨(some (false, 41)), .mv (.l 40), none⟩,
  ⟨(some (false, 42)), .mv (.g 4), (some (.l 41, false))⟩,
  ⟨(some (false, 43)), .call (.c (.fn 46 [])) [.l 42, .c (.lit (.int .i64 0)), .c (.lit (.int .i64 10000))], (some (.l 41, false))⟩,
  ⟨(some (false, 44)), .un .not (.l 43), (some (.l 41, false))⟩,
  ⟨(some (true, 45)), .pick (.l 41) (.c (.lit (.bool true))) (.l 44), none⟩])
(.cond (.g 45)
(.seq
(.reg [
  ⟨(some (false, 46)), .ld (some 6) (.g 10), none⟩,
  ⟨none, .st 6 (.g 10) (.l 46), none⟩,
  ⟨(some (true, 11)), .mv (.c (.lit (.slice none 0 0))), none⟩,
  ⟨(some (true, 12)), .mv (.c (.lit (.slice none 0 0))), none⟩,
  ⟨(some (true, 13)), .mv (.c (.lit (.int .i64 2))), none⟩])
.ret)
.skip))
(.seq
(.seq
(.reg [
  ⟨(some (true, 47)), .mv (.g 1), none⟩,
  ⟨(some (true, 48)), .len (.g 47), none⟩,
  ⟨(some (true, 49)), .mv (.c (.lit (.int .i64 0))), none⟩])
(.block 0
(.loop
(.seq
(.reg [
  ⟨(some (true, 50)), .bin .lss (.g 49) (.g 48), none⟩])
(.seq
(.cond (.g 50)
.skip
(.exit 0))
(.seq
(.block 1
(.seq
(.reg [
  ⟨(some (false, 51)), .ia 5 (.g 47) (.g 49), none⟩,
  ⟨(some (false, 52)), .ld (some 5) (.l 51), none⟩,
  ⟨(some (true, 16)), .new [.int .i64 0, .int .i64 0, .int .i64 0, .int .i64 0, .int .i64 0], none⟩,
  ⟨none, .st 5 (.g 16) (.l 52), none⟩])
(.seq
(.reg [
  ⟨(some (false, 53)), .fa (.g 16) 2, none⟩,
  ⟨(some (false, 54)), .ld none (.l 53), none⟩,
  ⟨(some (false, 55)), .mv (.g 4), none⟩,
  ⟨(some (true, 56)), .bin .leq (.l 54) (.l 55), none⟩])
(.cond (.g 56)
(.reg [
  ⟨(some (false, 57)), .mv (.g 11), none⟩,
  ⟨(some (false, 58)), .ld (some 5) (.g 16), none⟩,
  ⟨(some (false, 59)), .mks false 5 [.l 58], none⟩,
  ⟨(some (false, 60)), .app 5 40 (.l 57) (.l 59), none⟩,
  ⟨(some (true, 11)), .mv (.l 60), none⟩])
.skip))))
(.reg [
  ⟨(some (false, 61)), .bin .add (.g 49) (.c (.lit (.int .i64 1))), none⟩,
  ⟨(some (true, 49)), .mv (.l 61), none⟩])))))))
(.seq
(.seq
(.reg [
  ⟨(some (true, 62)), .mv (.g 2), none⟩,
  ⟨(some (true, 63)), .len (.g 62), none⟩,
  ⟨(some (true, 64)), .mv (.c (.lit (.int .i64 0))), none⟩])
(.block 2
(.loop
(.seq
(.reg [
  ⟨(some (true, 65)), .bin .lss (.g 64) (.g 63), none⟩])
(.seq
(.cond (.g 65)
.skip
(.exit 2))
(.seq
(.block 3
(.seq
(.reg [
  ⟨(some (false, 66)), .ia 5 (.g 62) (.g 64), none⟩,
  ⟨(some (false, 67)), .ld (some 5) (.l 66), none⟩,
  ⟨(some (true, 18)), .new [.int .i64 0, .int .i64 0, .int .i64 0, .int .i64 0, .int .i64 0], none⟩,
  ⟨none, .st 5 (.g 18) (.l 67), none⟩])
(.seq
(.reg [
  ⟨(some (false, 68)), .fa (.g 18) 3, none⟩,
  ⟨(some (false, 69)), .ld none (.l 68), none⟩,
  ⟨(some (false, 70)), .mv (.g 4), none⟩,
  ⟨(some (true, 71)), .bin .leq (.l 69) (.l 70), none⟩])
(.cond (.g 71)
(.reg [
  ⟨(some (false, 72)), .mv (.g 12), none⟩,
  ⟨(some (false, 73)), .ld (some 5) (.g 18), none⟩,
  ⟨(some (false, 74)), .mks false 5 [.l 73], none⟩,
  ⟨(some (false, 75)), .app 5 40 (.l 72) (.l 74), none⟩,
  ⟨(some (true, 12)), .mv (.l 75), none⟩])
.skip))))
(.reg [
  ⟨(some (false, 76)), .bin .add (.g 64) (.c (.lit (.int .i64 1))), none⟩,
  ⟨(some (true, 64)), .mv (.l 76), none⟩])))))))
(.seq
(.reg [
  ⟨(some (false, 77)), .ld (some 6) (.g 10), none⟩,
  ⟨(some (false, 78)), .mv (.g 11), none⟩,
  ⟨(some (false, 79)), .mv (.g 12), none⟩,
  ⟨none, .st 6 (.g 10) (.l 77), none⟩,
  ⟨(some (true, 11)), .mv (.l 78), none⟩,
  ⟨(some (true, 12)), .mv (.l 79), none⟩,
  ⟨(some (true, 13)), .mv (.c (.lit (.int .i64 0))), none⟩])
.ret))))))))
def K35 : List Nat := [0, 1, 2, 3, 4, 26, 35, 45, 50, 56, 65, 71, 10, 11, 12, 13, 5, 14, 47, 48, 49, 16, 62, 63, 64, 18]
noncomputable def b35 : Code := match Try.f35.body with | some c => c | none => .skip
theorem t35 : trCode ⟨Try.prog, K35, [], 80, none⟩ b35 = some c35 := by kernel_rfl
theorem go35 {args : List AV} {H : AHeap} {Kk : AV → AHeap → Prop} (hn : args.length = 5) (h : AGo ⟨Try.prog, K35, [], 80, none⟩ H.length [.code c35] (RetP [.cell (.g 10) (some 6), .t (.g 11), .t (.g 12), .t (.g 13)] H.length Kk) ⟨[], argsG 0 args⟩ H) : ACalls Try.prog 35 args H Kk :=
  ACalls_of Try.func35 (c := b35) rfl (by kernel_rfl) t35 (rs := [.cell (.g 10) (some 6), .t (.g 11), .t (.g 12), .t (.g 13)]) (by kernel_rfl) (by rw [hn]; exact Nat.le_of_ble_eq_true rfl) (by rw [hn]; rfl) (h.weaken (fun _ _ => RetP.hands) (by simp))

/-- sastrugi/probe.joined[int] -/
def c36 : ACode :=
  (.seq
(.reg [
  ⟨(some (true, 4)), .mv (.c (.lit (.int .i64 0))), none⟩])
(.block 0
(.loop
(.seq
(.seq
(.reg [
  ⟨(some (false, 6)), .mv (.g 4), none⟩,
  ⟨(some (false, 7)), .mv (.g 0), none⟩,
  ⟨(some (false, 8)), .len (.l 7), none⟩,
  ⟨(some (true, 9)), .bin .lss (.l 6) (.l 8), none⟩])
(.cond (.g 9)
.skip
(.exit 0)))
(.block 1
(.seq
(.reg [
  ⟨(some (false, 10)), .mv (.g 4), none⟩,
  ⟨(some (true, 5)), .mv (.l 10), none⟩])
(.seq
(.block 2
(.loop
(.seq
(.seq
(.draw [
  ⟨⟨(some (false, 11)), .mv (.g 5), none⟩, 0, true, []⟩,
  ⟨⟨(some (false, 12)), .bin .add (.l 11) (.c (.lit (.int .i64 1))), none⟩, 1, true, []⟩,
  ⟨⟨(some (false, 13)), .mv (.g 0), none⟩, 2, true, []⟩,
  ⟨⟨(some (false, 14)), .len (.l 13), none⟩, 3, true, []⟩,
  ⟨⟨(some (false, 15)), .bin .lss (.l 12) (.l 14), none⟩, 4, true, []⟩,
  ⟨⟨(some (false, 16)), .mv (.l 15), none⟩, 5, true, []⟩,
  ⟨⟨(some (false, 17)), .mv (.g 0), (some (.l 16, true))⟩, 6, true, []⟩,
  ⟨⟨(some (false, 18)), .mv (.g 5), (some (.l 16, true))⟩, 7, true, []⟩,
  ⟨⟨(some (false, 19)), .bin .add (.l 18) (.c (.lit (.int .i64 1))), (some (.l 16, true))⟩, 8, true, []⟩,
  ⟨⟨(some (false, 20)), .ia 1 (.l 17) (.l 19), (some (.l 16, true))⟩, 9, true, []⟩,
  ⟨⟨(some (false, 21)), .ld none (.l 20), (some (.l 16, true))⟩, 10, true, []⟩,
  ⟨⟨(some (false, 22)), .mv (.g 0), (some (.l 16, true))⟩, 11, true, []⟩,
  ⟨⟨(some (false, 23)), .mv (.g 4), (some (.l 16, true))⟩, 12, true, []⟩,
  ⟨⟨(some (false, 24)), .ia 1 (.l 22) (.l 23), (some (.l 16, true))⟩, 13, true, []⟩,
  ⟨⟨(some (false, 25)), .ld none (.l 24), (some (.l 16, true))⟩, 14, true, []⟩,
  ⟨⟨(some (false, 26)), .bin .eql (.l 21) (.l 25), (some (.l 16, true))⟩, 15, true, []⟩,
  ⟨⟨(some (true, 27)), .pick (.l 16) (.l 26) (.c (.lit (.bool false))), none⟩, 16, true, []⟩])
(.cond (.g 27)
.skip
(.exit 2)))
(.block 3
(.reg [
  ⟨(some (false, 28)), .mv (.g 5), none⟩,
  ⟨(some (false, 29)), .bin .add (.l 28) (.c (.lit (.int .i64 1))), none⟩,
  ⟨(some (true, 5)), .mv (.l 29), none⟩])))))
(.seq
(.reg [
  ⟨(some (false, 30)), .mv (.g 1), none⟩,
  ⟨(some (false, 31)), .mv (.g 4), none⟩,
  ⟨(some (false, 32)), .mv (.g 5), none⟩,
  ⟨(some (false, 33)), .mv (.g 0), none⟩,
  ⟨(some (false, 34)), .mv (.g 4), none⟩,
  ⟨(some (false, 35)), .ia 1 (.l 33) (.l 34), none⟩,
  ⟨(some (false, 36)), .ld none (.l 35), none⟩,
  ⟨(some (false, 37)), .call (.l 30) [.l 31, .l 32, .l 36], none⟩])
(.reg [
  ⟨(some (false, 38)), .mv (.g 5), none⟩,
  ⟨(some (false, 39)), .bin .add (.l 38) (.c (.lit (.int .i64 1))), none⟩,
  ⟨(some (true, 4)), .mv (.l 39), none⟩])))))))))
def K36 : List Nat := [0, 1, 9, 27, 4, 5]
noncomputable def b36 : Code := match Try.f36.body with | some c => c | none => .skip
theorem t36 : trCode ⟨Try.prog, K36, [], 40, none⟩ b36 = some c36 := by kernel_rfl
theorem go36 {args : List AV} {H : AHeap} {Kk : AV → AHeap → Prop} (hn : args.length = 2) (h : AGo ⟨Try.prog, K36, [], 40, none⟩ H.length [.code c36] (RetP [] H.length Kk) ⟨[], argsG 0 args⟩ H) : ACalls Try.prog 36 args H Kk :=
  ACalls_of Try.func36 (c := b36) rfl (by kernel_rfl) t36 (rs := []) (by kernel_rfl) (by rw [hn]; exact Nat.le_of_ble_eq_true rfl) (by rw [hn]; rfl) (h.weaken (fun _ _ => RetP.hands) (by simp))

/-- sastrugi/probe.Close$1 -/
def c38 : ACode :=
  (.seq
(.reg [
  ⟨(some (false, 7)), .mv (.g 2), none⟩,
  ⟨(some (true, 8)), .bin .neq (.l 7) (.c (.lit (.int .i64 0))), none⟩])
(.cond (.g 8)
(.reg [
  ⟨(some (false, 9)), .ld none (.g 3), none⟩,
  ⟨(some (false, 10)), .mv (.g 0), none⟩,
  ⟨(some (false, 11)), .mv (.g 1), none⟩,
  ⟨(some (false, 12)), .mv (.g 2), none⟩,
  ⟨(some (false, 13)), .mk [.int .i64 0, .int .i64 0, .int .i64 0] [(0, 1, .l 10), (1, 1, .l 11), (2, 1, .l 12)], none⟩,
  ⟨(some (false, 14)), .mks false 3 [.l 13], none⟩,
  ⟨(some (false, 15)), .app 3 24 (.l 9) (.l 14), none⟩,
  ⟨none, .st 1 (.g 3) (.l 15), none⟩])
.skip))
def K38 : List Nat := [0, 1, 2, 3, 8]
noncomputable def b38 : Code := match Try.f38.body with | some c => c | none => .skip
theorem t38 : trCode ⟨Try.prog, K38, [], 16, none⟩ b38 = some c38 := by kernel_rfl
theorem go38 {args : List AV} {H : AHeap} {Kk : AV → AHeap → Prop} (hn : args.length = 4) (h : AGo ⟨Try.prog, K38, [], 16, none⟩ H.length [.code c38] (RetP [] H.length Kk) ⟨[], argsG 0 args⟩ H) : ACalls Try.prog 38 args H Kk :=
  ACalls_of Try.func38 (c := b38) rfl (by kernel_rfl) t38 (rs := []) (by kernel_rfl) (by rw [hn]; exact Nat.le_of_ble_eq_true rfl) (by rw [hn]; rfl) (h.weaken (fun _ _ => RetP.hands) (by simp))

/-- sastrugi/probe.reasons -/
def c37 : ACode :=
  (.seq
(.reg [
  ⟨(some (true, 5)), .box (.g 0), none⟩,
  ⟨(some (true, 10)), .mv (.c (.lit (.slice none 0 0))), none⟩])
(.seq
(.reg [
  ⟨(some (false, 15)), .fa (.g 5) 5, none⟩,
  ⟨(some (false, 16)), .ld none (.l 15), none⟩,
  ⟨(some (false, 17)), .len (.l 16), none⟩,
  ⟨(some (false, 18)), .mksl 1 8 [.int .i64 0] (.l 17) (.l 17), none⟩,
  ⟨(some (true, 11)), .mv (.l 18), none⟩])
(.seq
(.reg [
  ⟨(some (false, 19)), .ld (some 6) (.g 5), none⟩,
  ⟨(some (false, 20)), .mv (.g 1), none⟩,
  ⟨(some (false, 21)), .mv (.g 4), none⟩,
  ⟨(some (false, 22)), .call (.c (.fn 54 [])) [.l 19, .l 20, .l 21], none⟩,
  ⟨(some (true, 12)), .mv (.l 22), none⟩])
(.seq
(.reg [
  ⟨(some (false, 23)), .mv (.g 2), none⟩,
  ⟨(some (false, 24)), .mv (.g 4), none⟩,
  ⟨(some (false, 25)), .mv (.g 11), none⟩,
  ⟨(some (false, 26)), .len (.l 25), none⟩,
  ⟨(some (false, 27)), .call (.c (.fn 55 [])) [.l 23, .l 24, .l 26], none⟩,
  ⟨(some (true, 13)), .mv (.l 27), none⟩])
(.seq
(.seq
(.reg [
  ⟨(some (false, 28)), .mv (.g 11), none⟩,
  ⟨(some (true, 29)), .len (.l 28), none⟩,
  ⟨(some (true, 30)), .mv (.c (.lit (.int .i64 0))), none⟩])
(.block 0
(.loop
(.seq
(.reg [
  ⟨(some (true, 31)), .bin .lss (.g 30) (.g 29), none⟩])
(.seq
(.cond (.g 31)
.skip
(.exit 0))
(.seq
(.block 1
(.seq
(.reg [
  ⟨(some (false, 32)), .mv (.g 30), none⟩,
  ⟨(some (true, 14)), .mv (.l 32), none⟩])
(.block 2
(.seq
(.reg [
  ⟨(some (false, 34)), .ld (some 6) (.g 5), none⟩,
  ⟨(some (false, 35)), .mv (.g 1), none⟩,
  ⟨(some (false, 36)), .mv (.g 14), none⟩,
  ⟨(some (false, 37)), .mv (.g 4), none⟩,
  ⟨(some (false, 38)), .call (.c (.fn 47 [])) [.l 34, .l 35, .l 36, .l 37], none⟩,
  ⟨(some (false, 39)), .fd none (.l 38) 0, none⟩,
  ⟨(some (false, 40)), .mv (.g 3), none⟩,
  ⟨(some (false, 41)), .bin .lss (.l 39) (.l 40), none⟩,
  ⟨(some (true, 33)), .mv (.l 41), none⟩])
(.cond (.g 33)
(.reg [
  ⟨(some (false, 42)), .mv (.g 11), none⟩,
  ⟨(some (false, 43)), .mv (.g 14), none⟩,
  ⟨(some (false, 44)), .ia 1 (.l 42) (.l 43), none⟩,
  ⟨none, .st 1 (.l 44) (.c (.lit (.int .i64 1))), none⟩])
(.seq
(.reg [
  ⟨(some (false, 46)), .mv (.g 13), none⟩,
  ⟨(some (false, 47)), .mv (.g 14), none⟩,
  ⟨(some (false, 48)), .ia 1 (.l 46) (.l 47), none⟩,
  ⟨(some (false, 49)), .ld none (.l 48), none⟩,
  ⟨(some (false, 50)), .bin .neq (.l 49) (.c (.lit (.int .i64 2))), none⟩,
  ⟨(some (true, 45)), .mv (.l 50), none⟩])
(.cond (.g 45)
(.reg [
  ⟨(some (false, 51)), .mv (.g 11), none⟩,
  ⟨(some (false, 52)), .mv (.g 14), none⟩,
  ⟨(some (false, 53)), .ia 1 (.l 51) (.l 52), none⟩,
  ⟨none, .st 1 (.l 53) (.c (.lit (.int .i64 2))), none⟩])
(.seq
(.reg [
  ⟨(some (false, 55)), .mv (.g 12), none⟩,
  ⟨(some (false, 56)), .mv (.g 14), none⟩,
  ⟨(some (false, 57)), .ia 1 (.l 55) (.l 56), none⟩,
  ⟨(some (false, 58)), .ld none (.l 57), none⟩,
  ⟨(some (true, 54)), .mv (.l 58), none⟩])
(.cond (.g 54)
(.reg [
  ⟨(some (false, 59)), .mv (.g 11), none⟩,
  ⟨(some (false, 60)), .mv (.g 14), none⟩,
  ⟨(some (false, 61)), .ia 1 (.l 59) (.l 60), none⟩,
  ⟨none, .st 1 (.l 61) (.c (.lit (.int .i64 3))), none⟩])
.skip)))))))))
(.reg [
  ⟨(some (false, 62)), .bin .add (.g 30) (.c (.lit (.int .i64 1))), none⟩,
  ⟨(some (true, 30)), .mv (.l 62), none⟩])))))))
(.seq
(.reg [
  ⟨(some (false, 63)), .mv (.g 11), none⟩,
  ⟨(some (true, 10)), .mv (.l 63), none⟩])
.ret))))))
def K37 : List Nat := [0, 1, 2, 3, 4, 31, 33, 45, 54, 10, 5, 11, 12, 13, 29, 30, 14]
noncomputable def b37 : Code := match Try.f37.body with | some c => c | none => .skip
theorem t37 : trCode ⟨Try.prog, K37, [], 64, none⟩ b37 = some c37 := by kernel_rfl
theorem go37 {args : List AV} {H : AHeap} {Kk : AV → AHeap → Prop} (hn : args.length = 5) (h : AGo ⟨Try.prog, K37, [], 64, none⟩ H.length [.code c37] (RetP [.t (.g 10)] H.length Kk) ⟨[], argsG 0 args⟩ H) : ACalls Try.prog 37 args H Kk :=
  ACalls_of Try.func37 (c := b37) rfl (by kernel_rfl) t37 (rs := [.t (.g 10)]) (by kernel_rfl) (by rw [hn]; exact Nat.le_of_ble_eq_true rfl) (by rw [hn]; rfl) (h.weaken (fun _ _ => RetP.hands) (by simp))

/-- sastrugi/probe.Close -/
def c24 : ACode :=
  (.seq
(.reg [
  ⟨(some (true, 5)), .box (.g 0), none⟩,
  ⟨(some (true, 10)), .mv (.c (.lit (.slice none 0 0))), none⟩,
  ⟨(some (true, 11)), .mv (.c (.lit (.int .i64 0))), none⟩])
(.seq
(.reg [
  ⟨(some (false, 18)), .ld (some 4) (.g 5), none⟩,
  ⟨(some (false, 19)), .mv (.g 1), none⟩,
  ⟨(some (false, 20)), .mv (.g 2), none⟩,
  ⟨(some (false, 21)), .mv (.g 3), none⟩,
  ⟨(some (false, 22)), .mv (.g 4), none⟩,
  ⟨(some (false, 23)), .call (.c (.fn 35 [])) [.l 18, .l 19, .l 20, .l 21, .l 22], none⟩,
  ⟨(some (false, 17)), .mv (.l 23), none⟩,
  ⟨(some (false, 24)), .ex (.l 17) 0, none⟩,
  ⟨(some (false, 25)), .ex (.l 17) 1, none⟩,
  ⟨(some (false, 26)), .ex (.l 17) 2, none⟩,
  ⟨(some (false, 27)), .ex (.l 17) 3, none⟩,
  ⟨(some (true, 12)), .new [.slice none 0 0, .int .i64 0, .int .i64 0, .int .i64 0, .slice none 0 0, .slice none 0 0], none⟩,
  ⟨none, .st 6 (.g 12) (.l 24), none⟩,
  ⟨(some (true, 13)), .mv (.l 25), none⟩,
  ⟨(some (true, 14)), .mv (.l 26), none⟩,
  ⟨(some (true, 15)), .mv (.l 27), none⟩])
(.seq
(.seq
(.reg [
  ⟨(some (false, 28)), .mv (.g 15), none⟩,
  ⟨(some (true, 29)), .bin .neq (.l 28) (.c (.lit (.int .i64 0))), none⟩])
(.cond (.g 29)
(.seq
(.reg [
  ⟨(some (false, 30)), .mv (.g 15), none⟩,
  ⟨(some (true, 10)), .mv (.c (.lit (.slice none 0 0))), none⟩,
  ⟨(some (true, 11)), .mv (.l 30), none⟩])
.ret)
.skip))
(.seq
(.reg [
  ⟨(some (true, 16)), .new [.slice none 0 0], none⟩])
(.seq
(.reg [
  ⟨(some (false, 31)), .ld (some 6) (.g 12), none⟩,
  ⟨(some (false, 32)), .mv (.g 13), none⟩,
  ⟨(some (false, 33)), .mv (.g 14), none⟩,
  ⟨(some (false, 34)), .mv (.g 3), none⟩,
  ⟨(some (false, 35)), .mv (.g 4), none⟩,
  ⟨(some (false, 36)), .call (.c (.fn 37 [])) [.l 31, .l 32, .l 33, .l 34, .l 35], none⟩,
  ⟨(some (false, 37)), .mkf 38 [.g 16], none⟩,
  ⟨(some (false, 38)), .call (.c (.fn 36 [])) [.l 36, .l 37], none⟩])
(.seq
(.reg [
  ⟨(some (false, 39)), .ld none (.g 16), none⟩,
  ⟨(some (true, 10)), .mv (.l 39), none⟩,
  ⟨(some (true, 11)), .mv (.c (.lit (.int .i64 0))), none⟩])
.ret))))))
def K24 : List Nat := [0, 1, 2, 3, 4, 29, 10, 11, 5, 12, 13, 14, 15, 16]
noncomputable def b24 : Code := match Try.f24.body with | some c => c | none => .skip
theorem t24 : trCode ⟨Try.prog, K24, [], 40, none⟩ b24 = some c24 := by kernel_rfl
theorem go24 {args : List AV} {H : AHeap} {Kk : AV → AHeap → Prop} (hn : args.length = 5) (h : AGo ⟨Try.prog, K24, [], 40, none⟩ H.length [.code c24] (RetP [.t (.g 10), .t (.g 11)] H.length Kk) ⟨[], argsG 0 args⟩ H) : ACalls Try.prog 24 args H Kk :=
  ACalls_of Try.func24 (c := b24) rfl (by kernel_rfl) t24 (rs := [.t (.g 10), .t (.g 11)]) (by kernel_rfl) (by rw [hn]; exact Nat.le_of_ble_eq_true rfl) (by rw [hn]; rfl) (h.weaken (fun _ _ => RetP.hands) (by simp))

/-- sastrugi/probe.verdicts -/
def c55 : ACode :=
  (.seq
(.reg [
  ⟨(some (true, 6)), .mv (.c (.lit (.slice none 0 0))), none⟩])
(.seq
(.reg [
  ⟨(some (false, 12)), .mks false 1 [.c (.lit (.int .i64 2))], none⟩,
  ⟨(some (false, 13)), .mv (.g 2), none⟩,
  ⟨(some (false, 14)), .call (.c (.fn 64 [])) [.l 12, .l 13], none⟩,
  ⟨(some (true, 7)), .new [.slice none 0 0], none⟩,
  ⟨none, .st 1 (.g 7) (.l 14), none⟩])
(.seq
(.reg [
  ⟨(some (false, 15)), .mkf 69 [.g 7], none⟩,
  ⟨(some (true, 8)), .mv (.l 15), none⟩])
(.seq
(.seq
(.reg [
  ⟨(some (false, 16)), .mv (.g 0), none⟩,
  ⟨(some (true, 17)), .len (.l 16), none⟩,
  ⟨(some (true, 18)), .mv (.c (.lit (.int .i64 0))), none⟩])
(.block 0
(.loop
(.seq
(.reg [
  ⟨(some (true, 19)), .bin .lss (.g 18) (.g 17), none⟩])
(.seq
(.cond (.g 19)
.skip
(.exit 0))
(.seq
(.block 1
(.seq
(.reg [
  ⟨(some (false, 20)), .mv (.g 18), none⟩,
  ⟨(some (true, 9)), .mv (.l 20), none⟩])
(.seq
(.reg [
  ⟨(some (false, 22)), .mv (.g 0), none⟩,
  ⟨(some (false, 23)), .mv (.g 9), none⟩,
  ⟨(some (false, 24)), .mv (.g 1), none⟩,
  ⟨(some (false, 25)), .mv (.g 2), none⟩,
  ⟨(some (false, 26)), .call (.c (.fn 70 [])) [.l 22, .l 23, .l 24, .l 25], none⟩,
  ⟨(some (false, 21)), .mv (.l 26), none⟩,
  ⟨(some (false, 27)), .ex (.l 21) 0, none⟩,
  ⟨(some (false, 28)), .ex (.l 21) 1, none⟩,
  ⟨(some (true, 10)), .mv (.l 27), none⟩,
  ⟨(some (true, 11)), .mv (.l 28), none⟩])
(.seq
(.reg [
  ⟨(some (false, 29)), .mv (.g 8), none⟩,
  ⟨(some (false, 30)), .mv (.g 10), none⟩,
  ⟨(some (false, 31)), .call (.l 29) [.l 30, .c (.lit (.int .i64 3))], none⟩])
(.reg [
  ⟨(some (false, 32)), .mv (.g 8), none⟩,
  ⟨(some (false, 33)), .mv (.g 11), none⟩,
  ⟨(some (false, 34)), .call (.l 32) [.l 33, .c (.lit (.int .i64 1))], none⟩])))))
(.reg [
  ⟨(some (false, 35)), .bin .add (.g 18) (.c (.lit (.int .i64 1))), none⟩,
  ⟨(some (true, 18)), .mv (.l 35), none⟩])))))))
(.seq
(.reg [
  ⟨(some (false, 36)), .ld none (.g 7), none⟩,
  ⟨(some (true, 6)), .mv (.l 36), none⟩])
.ret)))))
def K55 : List Nat := [0, 1, 2, 19, 6, 7, 8, 17, 18, 9, 10, 11]
noncomputable def b55 : Code := match Try.f55.body with | some c => c | none => .skip
theorem t55 : trCode ⟨Try.prog, K55, [], 37, none⟩ b55 = some c55 := by kernel_rfl
theorem go55 {args : List AV} {H : AHeap} {Kk : AV → AHeap → Prop} (hn : args.length = 3) (h : AGo ⟨Try.prog, K55, [], 37, none⟩ H.length [.code c55] (RetP [.t (.g 6)] H.length Kk) ⟨[], argsG 0 args⟩ H) : ACalls Try.prog 55 args H Kk :=
  ACalls_of Try.func55 (c := b55) rfl (by kernel_rfl) t55 (rs := [.t (.g 6)]) (by kernel_rfl) (by rw [hn]; exact Nat.le_of_ble_eq_true rfl) (by rw [hn]; rfl) (h.weaken (fun _ _ => RetP.hands) (by simp))

/-- slices.Repeat[[]int,int] -/
def c64 : ACode :=
  (.seq
(.reg [
  ⟨(some (true, 4)), .mv (.c (.lit (.slice none 0 0))), none⟩])
(.seq
(.seq
(.reg [
  ⟨(some (false, 9)), .mv (.g 1), none⟩,
  ⟨(some (true, 10)), .bin .lss (.l 9) (.c (.lit (.int .i64 0))), none⟩])
(.cond (.g 10)
(.other .skip)
.skip))
(.seq
(.reg [
  ⟨(some (false, 13)), .mv (.g 0), none⟩,
  ⟨(some (false, 14)), .len (.l 13), none⟩,
  ⟨(some (false, 15)), .cv .u64 (.l 14), none⟩,
  ⟨(some (false, 16)), .mv (.g 1), none⟩,
  ⟨(some (false, 17)), .cv .u64 (.l 16), none⟩,
  ⟨(some (false, 18)), .call (.c (.fn 75 [])) [.l 15, .l 17], none⟩,
  ⟨(some (false, 12)), .mv (.l 18), none⟩,
  ⟨(some (false, 19)), .ex (.l 12) 0, none⟩,
  ⟨(some (false, 20)), .ex (.l 12) 1, none⟩,
  ⟨(some (true, 5)), .mv (.l 19), none⟩,
  ⟨(some (true, 6)), .mv (.l 20), none⟩])
(.seq
(.seq
(.reg [
  ⟨(some (false, 21)), .mv (.g 5), none⟩,
  ⟨(some (false, 22)), .bin .gtr (.l 21) (.c (.lit (.int .u64 0))), none⟩,
  ⟨(some (false, 23)), .mv (.l 22), none⟩,
  ⟨(some (false, 24)), .mv (.g 6), (some (.l 23, false))⟩,
  ⟨(some (false, 25)), .bin .gtr (.l 24) (.c (.lit (.int .u64 9223372036854775807))), (some (.l 23, false))⟩,
  ⟨(some (true, 26)), .pick (.l 23) (.c (.lit (.bool true))) (.l 25), none⟩])
(.cond (.g 26)
(.other .skip)
.skip))
(.seq
(.reg [
  ⟨(some (false, 28)), .mv (.g 6), none⟩,
  ⟨(some (false, 29)), .cv .i64 (.l 28), none⟩,
  ⟨(some (false, 30)), .mksl 1 8 [.int .i64 0] (.l 29) (.l 29), none⟩,
  ⟨(some (true, 7)), .mv (.l 30), none⟩])
(.seq
(.reg [
  ⟨(some (false, 31)), .mv (.g 7), none⟩,
  ⟨(some (false, 32)), .mv (.g 0), none⟩,
  ⟨(some (false, 33)), .cpy 1 (.l 31) (.l 32), none⟩,
  ⟨(some (true, 8)), .mv (.l 33), none⟩])
(.seq
(.block 0
(.loop
(.seq
(.seq
(.reg [
  ⟨(some (false, 34)), .mv (.g 8), none⟩,
  ⟨(some (false, 35)), .mv (.g 7), none⟩,
  ⟨(some (false, 36)), .len (.l 35), none⟩,
  ⟨(some (true, 37)), .bin .lss (.l 34) (.l 36), none⟩])
(.cond (.g 37)
.skip
(.exit 0)))
(.block 1
(.draw [
  ⟨⟨(some (false, 38)), .mv (.g 8), none⟩, 0, true, []⟩,
  ⟨⟨(some (false, 39)), .mv (.g 7), none⟩, 1, true, []⟩,
  ⟨⟨(some (false, 40)), .mv (.g 8), none⟩, 2, true, []⟩,
  ⟨⟨(some (false, 41)), .sl 1 (.l 39) (some (.l 40)) none none, none⟩, 3, true, []⟩,
  ⟨⟨(some (false, 42)), .mv (.g 7), none⟩, 4, true, []⟩,
  ⟨⟨(some (false, 43)), .mv (.g 8), none⟩, 5, true, []⟩,
  ⟨⟨(some (false, 44)), .sl 1 (.l 42) none (some (.l 43)) none, none⟩, 6, true, []⟩,
  ⟨⟨(some (false, 45)), .cpy 1 (.l 41) (.l 44), none⟩, 7, false, []⟩,
  ⟨⟨(some (false, 46)), .bin .add (.l 38) (.l 45), none⟩, 8, true, []⟩,
  ⟨⟨(some (true, 8)), .mv (.l 46), none⟩, 9, true, []⟩])))))
(.seq
(.reg [
  ⟨(some (false, 47)), .mv (.g 7), none⟩,
  ⟨(some (true, 4)), .mv (.l 47), none⟩])
.ret))))))))
def K64 : List Nat := [0, 1, 10, 26, 37, 4, 5, 6, 7, 8]
noncomputable def b64 : Code := match Try.f64.body with | some c => c | none => .skip
theorem t64 : trCode ⟨Try.prog, K64, [], 48, none⟩ b64 = some c64 := by kernel_rfl
theorem go64 {args : List AV} {H : AHeap} {Kk : AV → AHeap → Prop} (hn : args.length = 2) (h : AGo ⟨Try.prog, K64, [], 48, none⟩ H.length [.code c64] (RetP [.t (.g 4)] H.length Kk) ⟨[], argsG 0 args⟩ H) : ACalls Try.prog 64 args H Kk :=
  ACalls_of Try.func64 (c := b64) rfl (by kernel_rfl) t64 (rs := [.t (.g 4)]) (by kernel_rfl) (by rw [hn]; exact Nat.le_of_ble_eq_true rfl) (by rw [hn]; rfl) (h.weaken (fun _ _ => RetP.hands) (by simp))

/-- sastrugi/probe.verdicts$1 -/
def c69 : ACode :=
  (.seq
(.reg [
  ⟨(some (true, 8)), .mv (.g 0), none⟩,
  ⟨(some (true, 9)), .len (.g 8), none⟩,
  ⟨(some (true, 10)), .mv (.c (.lit (.int .i64 0))), none⟩])
(.block 0
(.loop
(.seq
(.reg [
  ⟨(some (true, 11)), .bin .lss (.g 10) (.g 9), none⟩])
(.seq
(.cond (.g 11)
.skip
(.exit 0))
(.seq
(.block 1
(.seq
(.reg [
  ⟨(some (false, 12)), .ia 2 (.g 8) (.g 10), none⟩,
  ⟨(some (false, 13)), .ld (some 2) (.l 12), none⟩,
  ⟨(some (true, 6)), .new [.int .i64 0, .int .i64 0], none⟩,
  ⟨none, .st 2 (.g 6) (.l 13), none⟩])
(.seq
(.reg [
  ⟨(some (false, 14)), .fa (.g 6) 0, none⟩,
  ⟨(some (false, 15)), .ld none (.l 14), none⟩,
  ⟨(some (true, 7)), .mv (.l 15), none⟩])
(.block 2
(.loop
(.seq
(.seq
(.reg [
  ⟨(some (false, 16)), .mv (.g 7), none⟩,
  ⟨(some (false, 17)), .fa (.g 6) 1, none⟩,
  ⟨(some (false, 18)), .ld none (.l 17), none⟩,
  ⟨(some (true, 19)), .bin .leq (.l 16) (.l 18), none⟩])
(.cond (.g 19)
.skip
(.exit 2)))
(.seq
(.block 3
(.seq
(.reg [
  ⟨(some (false, 22)), .ld none (.g 2), none⟩,
  ⟨(some (false, 23)), .mv (.g 7), none⟩,
  ⟨(some (false, 24)), .ia 1 (.l 22) (.l 23), none⟩,
  ⟨(some (false, 25)), .ld none (.l 24), none⟩,
  ⟨(some (true, 26)), .bin .neq (.l 25) (.c (.lit (.int .i64 1))), none⟩])
(.cond (.g 26)
(.reg [
  ⟨(some (false, 27)), .ld none (.g 2), none⟩,
  ⟨(some (false, 28)), .mv (.g 7), none⟩,
  ⟨(some (false, 29)), .mv (.g 1), none⟩,
  ⟨(some (false, 30)), .ia 1 (.l 27) (.l 28), none⟩,
  ⟨none, .st 1 (.l 30) (.l 29), none⟩])
.skip)))
(.reg [
  ⟨(some (false, 20)), .mv (.g 7), none⟩,
  ⟨(some (false, 21)), .bin .add (.l 20) (.c (.lit (.int .i64 1))), none⟩,
  ⟨(some (true, 7)), .mv (.l 21), none⟩]))))))))
(.reg [
  ⟨(some (false, 31)), .bin .add (.g 10) (.c (.lit (.int .i64 1))), none⟩,
  ⟨(some (true, 10)), .mv (.l 31), none⟩])))))))
def K69 : List Nat := [0, 1, 2, 11, 19, 26, 8, 9, 10, 6, 7]
noncomputable def b69 : Code := match Try.f69.body with | some c => c | none => .skip
theorem t69 : trCode ⟨Try.prog, K69, [], 32, none⟩ b69 = some c69 := by kernel_rfl
theorem go69 {args : List AV} {H : AHeap} {Kk : AV → AHeap → Prop} (hn : args.length = 3) (h : AGo ⟨Try.prog, K69, [], 32, none⟩ H.length [.code c69] (RetP [] H.length Kk) ⟨[], argsG 0 args⟩ H) : ACalls Try.prog 69 args H Kk :=
  ACalls_of Try.func69 (c := b69) rfl (by kernel_rfl) t69 (rs := []) (by kernel_rfl) (by rw [hn]; exact Nat.le_of_ble_eq_true rfl) (by rw [hn]; rfl) (h.weaken (fun _ _ => RetP.hands) (by simp))

/-- math/bits.Mul -/
def c75 : ACode :=
  (.seq
(.reg [
  ⟨(some (true, 4)), .mv (.c (.lit (.int .u64 0))), none⟩,
  ⟨(some (true, 5)), .mv (.c (.lit (.int .u64 0))), none⟩])
(.seq
(.cond (.c (.lit (.bool false)))
(.seq
(.reg [
  ⟨(some (false, 11)), .mv (.g 0), none⟩,
  ⟨(some (false, 12)), .cv .u32 (.l 11), none⟩,
  ⟨(some (false, 13)), .mv (.g 1), none⟩,
  ⟨(some (false, 14)), .cv .u32 (.l 13), none⟩,
  ⟨(some (false, 15)), .call (.c (.fn 84 [])) [.l 12, .l 14], none⟩,
  ⟨(some (false, 10)), .mv (.l 15), none⟩,
  ⟨(some (false, 16)), .ex (.l 10) 0, none⟩,
  ⟨(some (false, 17)), .ex (.l 10) 1, none⟩,
  ⟨(some (true, 6)), .mv (.l 16), none⟩,
  ⟨(some (true, 7)), .mv (.l 17), none⟩])
(.seq
(.reg [
  ⟨(some (false, 18)), .mv (.g 6), none⟩,
  ⟨(some (false, 19)), .cv .u64 (.l 18), none⟩,
  ⟨(some (false, 20)), .mv (.g 7), none⟩,
  ⟨(some (false, 21)), .cv .u64 (.l 20), none⟩,
  ⟨(some (true, 4)), .mv (.l 19), none⟩,
  ⟨(some (true, 5)), .mv (.l 21), none⟩])
.ret))
.skip)
(.seq
(.reg [
  ⟨(some (false, 23)), .mv (.g 0), none⟩,
  ⟨(some (false, 24)), .mv (.g 1), none⟩,
  ⟨(some (false, 25)), .call (.c (.fn 85 [])) [.l 23, .l 24], none⟩,
  ⟨(some (false, 22)), .mv (.l 25), none⟩,
  ⟨(some (false, 26)), .ex (.l 22) 0, none⟩,
  ⟨(some (false, 27)), .ex (.l 22) 1, none⟩,
  ⟨(some (true, 8)), .mv (.l 26), none⟩,
  ⟨(some (true, 9)), .mv (.l 27), none⟩])
(.seq
(.reg [
  ⟨(some (false, 28)), .mv (.g 8), none⟩,
  ⟨(some (false, 29)), .mv (.g 9), none⟩,
  ⟨(some (true, 4)), .mv (.l 28), none⟩,
  ⟨(some (true, 5)), .mv (.l 29), none⟩])
.ret))))
def K75 : List Nat := [0, 1, 4, 5, 6, 7, 8, 9]
noncomputable def b75 : Code := match Try.f75.body with | some c => c | none => .skip
theorem t75 : trCode ⟨Try.prog, K75, [], 30, none⟩ b75 = some c75 := by kernel_rfl
theorem go75 {args : List AV} {H : AHeap} {Kk : AV → AHeap → Prop} (hn : args.length = 2) (h : AGo ⟨Try.prog, K75, [], 30, none⟩ H.length [.code c75] (RetP [.t (.g 4), .t (.g 5)] H.length Kk) ⟨[], argsG 0 args⟩ H) : ACalls Try.prog 75 args H Kk :=
  ACalls_of Try.func75 (c := b75) rfl (by kernel_rfl) t75 (rs := [.t (.g 4), .t (.g 5)]) (by kernel_rfl) (by rw [hn]; exact Nat.le_of_ble_eq_true rfl) (by rw [hn]; rfl) (h.weaken (fun _ _ => RetP.hands) (by simp))

/-- math/bits.Mul64 -/
def c85 : ACode :=
  (.seq
(.reg [
  ⟨(some (true, 4)), .mv (.c (.lit (.int .u64 0))), none⟩,
  ⟨(some (true, 5)), .mv (.c (.lit (.int .u64 0))), none⟩])
(.seq
(.reg [
  ⟨(some (false, 14)), .mv (.g 0), none⟩,
  ⟨(some (false, 15)), .bin .and (.l 14) (.c (.lit (.int .u64 4294967295))), none⟩,
  ⟨(some (true, 6)), .mv (.l 15), none⟩])
(.seq
(.reg [
  ⟨(some (false, 16)), .mv (.g 0), none⟩,
  ⟨(some (false, 17)), .bin .shr (.l 16) (.c (.lit (.int .u64 32))), none⟩,
  ⟨(some (true, 7)), .mv (.l 17), none⟩])
(.seq
(.reg [
  ⟨(some (false, 18)), .mv (.g 1), none⟩,
  ⟨(some (false, 19)), .bin .and (.l 18) (.c (.lit (.int .u64 4294967295))), none⟩,
  ⟨(some (true, 8)), .mv (.l 19), none⟩])
(.seq
(.reg [
  ⟨(some (false, 20)), .mv (.g 1), none⟩,
  ⟨(some (false, 21)), .bin .shr (.l 20) (.c (.lit (.int .u64 32))), none⟩,
  ⟨(some (true, 9)), .mv (.l 21), none⟩])
(.seq
(.reg [
  ⟨(some (false, 22)), .mv (.g 6), none⟩,
  ⟨(some (false, 23)), .mv (.g 8), none⟩,
  ⟨(some (false, 24)), .bin .mul (.l 22) (.l 23), none⟩,
  ⟨(some (true, 10)), .mv (.l 24), none⟩])
(.seq
(.reg [
  ⟨(some (false, 25)), .mv (.g 7), none⟩,
  ⟨(some (false, 26)), .mv (.g 8), none⟩,
  ⟨(some (false, 27)), .bin .mul (.l 25) (.l 26), none⟩,
  ⟨(some (false, 28)), .mv (.g 10), none⟩,
  ⟨(some (false, 29)), .bin .shr (.l 28) (.c (.lit (.int .u64 32))), none⟩,
  ⟨(some (false, 30)), .bin .add (.l 27) (.l 29), none⟩,
  ⟨(some (true, 11)), .mv (.l 30), none⟩])
(.seq
(.reg [
  ⟨(some (false, 31)), .mv (.g 11), none⟩,
  ⟨(some (false, 32)), .bin .and (.l 31) (.c (.lit (.int .u64 4294967295))), none⟩,
  ⟨(some (true, 12)), .mv (.l 32), none⟩])
(.seq
(.reg [
  ⟨(some (false, 33)), .mv (.g 11), none⟩,
  ⟨(some (false, 34)), .bin .shr (.l 33) (.c (.lit (.int .u64 32))), none⟩,
  ⟨(some (true, 13)), .mv (.l 34), none⟩])
(.seq
(.reg [
  ⟨(some (false, 35)), .mv (.g 12), none⟩,
  ⟨(some (false, 36)), .mv (.g 6), none⟩,
  ⟨(some (false, 37)), .mv (.g 9), none⟩,
  ⟨(some (false, 38)), .bin .mul (.l 36) (.l 37), none⟩,
  ⟨(some (false, 39)), .bin .add (.l 35) (.l 38), none⟩,
  ⟨(some (true, 12)), .mv (.l 39), none⟩])
(.seq
(.reg [
  ⟨(some (false, 40)), .mv (.g 7), none⟩,
  ⟨(some (false, 41)), .mv (.g 9), none⟩,
  ⟨(some (false, 42)), .bin .mul (.l 40) (.l 41), none⟩,
  ⟨(some (false, 43)), .mv (.g 13), none⟩,
  ⟨(some (false, 44)), .bin .add (.l 42) (.l 43), none⟩,
  ⟨(some (false, 45)), .mv (.g 12), none⟩,
  ⟨(some (false, 46)), .bin .shr (.l 45) (.c (.lit (.int .u64 32))), none⟩,
  ⟨(some (false, 47)), .bin .add (.l 44) (.l 46), none⟩,
  ⟨(some (true, 4)), .mv (.l 47), none⟩])
(.seq
(.reg [
  ⟨(some (false, 48)), .mv (.g 0), none⟩,
  ⟨(some (false, 49)), .mv (.g 1), none⟩,
  ⟨(some (false, 50)), .bin .mul (.l 48) (.l 49), none⟩,
  ⟨(some (true, 5)), .mv (.l 50), none⟩])
.ret))))))))))))
def K85 : List Nat := [0, 1, 4, 5, 6, 7, 8, 9, 10, 11, 12, 13]
noncomputable def b85 : Code := match Try.f85.body with | some c => c | none => .skip
theorem t85 : trCode ⟨Try.prog, K85, [], 51, none⟩ b85 = some c85 := by kernel_rfl
theorem go85 {args : List AV} {H : AHeap} {Kk : AV → AHeap → Prop} (hn : args.length = 2) (h : AGo ⟨Try.prog, K85, [], 51, none⟩ H.length [.code c85] (RetP [.t (.g 4), .t (.g 5)] H.length Kk) ⟨[], argsG 0 args⟩ H) : ACalls Try.prog 85 args H Kk :=
  ACalls_of Try.func85 (c := b85) rfl (by kernel_rfl) t85 (rs := [.t (.g 4), .t (.g 5)]) (by kernel_rfl) (by rw [hn]; exact Nat.le_of_ble_eq_true rfl) (by rw [hn]; rfl) (h.weaken (fun _ _ => RetP.hands) (by simp))

/-- sastrugi/probe.covered -/
def c70 : ACode :=
  (.seq
(.reg [
  ⟨(some (true, 7)), .box (.g 3), none⟩,
  ⟨(some (true, 8)), .new [.slice none 0 0], none⟩,
  ⟨(some (true, 9)), .mv (.c (.lit (.slice none 0 0))), none⟩])
(.seq
(.reg [
  ⟨(some (false, 15)), .mv (.g 0), none⟩,
  ⟨(some (false, 16)), .mv (.g 1), none⟩,
  ⟨(some (false, 17)), .ia 5 (.l 15) (.l 16), none⟩,
  ⟨(some (false, 18)), .ld (some 5) (.l 17), none⟩,
  ⟨(some (true, 10)), .new [.int .i64 0, .int .i64 0, .int .i64 0, .int .i64 0, .int .i64 0], none⟩,
  ⟨none, .st 5 (.g 10) (.l 18), none⟩])
(.seq
(.seq
(.reg [
  ⟨(some (false, 19)), .fa (.g 10) 0, none⟩,
  ⟨(some (false, 20)), .ld none (.l 19), none⟩,
  ⟨(some (false, 21)), .bin .eql (.l 20) (.c (.lit (.int .i64 4))), none⟩,
  ⟨(some (false, 22)), .mv (.l 21), none⟩,
  ⟨(some (false, 23)), .fa (.g 10) 3, (some (.l 22, false))⟩,
  ⟨(some (false, 24)), .ld none (.l 23), (some (.l 22, false))⟩,
  ⟨(some (false, 25)), .mv (.g 2), (some (.l 22, false))⟩,
  ⟨(some (false, 26)), .bin .gtr (.l 24) (.l 25), (some (.l 22, false))⟩,
  ⟨(some (true, 27)), .pick (.l 22) (.c (.lit (.bool true))) (.l 26), none⟩])
(.cond (.g 27)
(.seq
(.reg [
  ⟨none, .st 1 (.g 8) (.c (.lit (.slice none 0 0))), none⟩,
  ⟨(some (true, 9)), .mv (.c (.lit (.slice none 0 0))), none⟩])
.ret)
.skip))
(.seq
(.reg [
  ⟨(some (false, 28)), .fa (.g 10) 1, none⟩,
  ⟨(some (false, 29)), .ld none (.l 28), none⟩,
  ⟨(some (false, 30)), .fa (.g 10) 2, none⟩,
  ⟨(some (false, 31)), .ld none (.l 30), none⟩,
  ⟨(some (false, 32)), .mk [.int .i64 0, .int .i64 0] [(0, 1, .l 29), (1, 1, .l 31)], none⟩,
  ⟨(some (false, 33)), .mks false 2 [.l 32], none⟩,
  ⟨none, .st 1 (.g 8) (.l 33), none⟩])
(.seq
(.reg [
  ⟨(some (false, 34)), .ld none (.g 8), none⟩,
  ⟨(some (true, 9)), .mv (.l 34), none⟩])
(.seq
(.reg [
  ⟨(some (false, 35)), .fa (.g 10) 3, none⟩,
  ⟨(some (false, 36)), .ld none (.l 35), none⟩,
  ⟨(some (true, 11)), .new [.int .i64 0], none⟩,
  ⟨none, .st 1 (.g 11) (.l 36), none⟩])
(.seq
(.reg [
  ⟨(some (false, 37)), .mkf 79 [.g 11, .g 10, .g 8, .g 7], none⟩,
  ⟨(some (true, 12)), .mv (.l 37), none⟩])
(.seq
(.seq
(.reg [
  ⟨(some (false, 38)), .mv (.g 0), none⟩,
  ⟨(some (false, 39)), .mv (.g 1), none⟩,
  ⟨(some (false, 40)), .mv (.g 2), none⟩,
  ⟨(some (true, 41)), .call (.c (.fn 80 [])) [.l 38, .l 39, .l 40], none⟩,
  ⟨(some (true, 42)), .len (.g 41), none⟩,
  ⟨(some (true, 43)), .mv (.c (.lit (.int .i64 0))), none⟩])
(.block 0
(.loop
(.seq
(.reg [
  ⟨(some (true, 44)), .bin .lss (.g 43) (.g 42), none⟩])
(.seq
(.cond (.g 44)
.skip
(.exit 0))
(.seq
(.block 1
(.seq
(.reg [
  ⟨(some (false, 45)), .ia 5 (.g 41) (.g 43), none⟩,
  ⟨(some (false, 46)), .ld (some 5) (.l 45), none⟩,
  ⟨(some (true, 14)), .new [.int .i64 0, .int .i64 0, .int .i64 0, .int .i64 0, .int .i64 0], none⟩,
  ⟨none, .st 5 (.g 14) (.l 46), none⟩])
(.seq
(.reg [
  ⟨(some (false, 47)), .mv (.g 12), none⟩,
  ⟨(some (false, 48)), .fa (.g 14) 3, none⟩,
  ⟨(some (false, 49)), .ld none (.l 48), none⟩,
  ⟨(some (false, 50)), .call (.l 47) [.l 49], none⟩])
(.draw [
  ⟨⟨(some (false, 51)), .ld none (.g 8), none⟩, 0, true, []⟩,
  ⟨⟨(some (false, 52)), .fa (.g 14) 1, none⟩, 1, true, []⟩,
  ⟨⟨(some (false, 53)), .ld none (.l 52), none⟩, 2, true, []⟩,
  ⟨⟨(some (false, 54)), .fa (.g 14) 2, none⟩, 3, true, []⟩,
  ⟨⟨(some (false, 55)), .ld none (.l 54), none⟩, 4, true, []⟩,
  ⟨⟨(some (false, 57)), .mv (.g 9), none⟩, 6, true, []⟩,
  ⟨⟨(some (false, 58)), .fa (.g 14) 1, none⟩, 7, false, []⟩,
  ⟨⟨(some (false, 59)), .ld none (.l 58), none⟩, 8, true, []⟩,
  ⟨⟨(some (false, 60)), .fa (.g 14) 2, none⟩, 9, false, []⟩,
  ⟨⟨(some (false, 61)), .ld none (.l 60), none⟩, 10, true, []⟩,
  ⟨⟨(some (false, 56)), .call (.c (.fn 81 [])) [.l 51, .l 53, .l 55], none⟩, 5, false, []⟩,
  ⟨⟨(some (false, 62)), .call (.c (.fn 81 [])) [.l 57, .l 59, .l 61], none⟩, 11, false, []⟩,
  ⟨⟨none, .st 1 (.g 8) (.l 56), none⟩, 12, false, []⟩,
  ⟨⟨(some (true, 9)), .mv (.l 62), none⟩, 13, false, []⟩]))))
(.reg [
  ⟨(some (false, 63)), .bin .add (.g 43) (.c (.lit (.int .i64 1))), none⟩,
  ⟨(some (true, 43)), .mv (.l 63), none⟩])))))))
(.seq
(.reg [
  ⟨(some (false, 64)), .mv (.g 12), none⟩,
  ⟨(some (false, 65)), .mv (.g 2), none⟩,
  ⟨(some (false, 66)), .call (.l 64) [.l 65], none⟩])
(.seq
(.reg [
  ⟨(some (false, 67)), .ld none (.g 8), none⟩,
  ⟨(some (false, 68)), .mv (.g 9), none⟩,
  ⟨none, .st 1 (.g 8) (.l 67), none⟩,
  ⟨(some (true, 9)), .mv (.l 68), none⟩])
.ret))))))))))
def K70 : List Nat := [0, 1, 2, 3, 27, 44, 8, 9, 7, 10, 11, 12, 41, 42, 43, 14]
noncomputable def b70 : Code := match Try.f70.body with | some c => c | none => .skip
theorem t70 : trCode ⟨Try.prog, K70, [], 69, none⟩ b70 = some c70 := by kernel_rfl
theorem go70 {args : List AV} {H : AHeap} {Kk : AV → AHeap → Prop} (hn : args.length = 4) (h : AGo ⟨Try.prog, K70, [], 69, none⟩ H.length [.code c70] (RetP [.cell (.g 8) none, .t (.g 9)] H.length Kk) ⟨[], argsG 0 args⟩ H) : ACalls Try.prog 70 args H Kk :=
  ACalls_of Try.func70 (c := b70) rfl (by kernel_rfl) t70 (rs := [.cell (.g 8) none, .t (.g 9)]) (by kernel_rfl) (by rw [hn]; exact Nat.le_of_ble_eq_true rfl) (by rw [hn]; rfl) (h.weaken (fun _ _ => RetP.hands) (by simp))

/-- sastrugi/probe.covered$1 -/
def c79 : ACode :=
  (.seq
(.reg [
  ⟨(some (false, 10)), .mv (.g 0), none⟩,
  ⟨(some (false, 11)), .ld none (.g 1), none⟩,
  ⟨(some (false, 12)), .bin .sub (.l 10) (.l 11), none⟩,
  ⟨(some (false, 13)), .fa (.g 2) 4, none⟩,
  ⟨(some (false, 14)), .ld none (.l 13), none⟩,
  ⟨(some (false, 15)), .bin .mul (.l 12) (.l 14), none⟩,
  ⟨(some (true, 6)), .mv (.l 15), none⟩])
(.seq
(.reg [
  ⟨(some (false, 16)), .ld none (.g 3), none⟩,
  ⟨(some (false, 17)), .len (.l 16), none⟩,
  ⟨(some (false, 18)), .mksl 2 16 [.int .i64 0, .int .i64 0] (.c (.lit (.int .i64 0))) (.l 17), none⟩,
  ⟨(some (true, 7)), .mv (.l 18), none⟩])
(.seq
(.seq
(.reg [
  ⟨(some (true, 19)), .ld none (.g 3), none⟩,
  ⟨(some (true, 20)), .len (.g 19), none⟩,
  ⟨(some (true, 21)), .mv (.c (.lit (.int .i64 0))), none⟩])
(.block 0
(.loop
(.seq
(.reg [
  ⟨(some (true, 22)), .bin .lss (.g 21) (.g 20), none⟩])
(.seq
(.cond (.g 22)
.skip
(.exit 0))
(.seq
(.block 1
(.seq
(.reg [
  ⟨(some (false, 23)), .ia 2 (.g 19) (.g 21), none⟩,
  ⟨(some (false, 24)), .ld (some 2) (.l 23), none⟩,
  ⟨(some (true, 9)), .new [.int .i64 0, .int .i64 0], none⟩,
  ⟨none, .st 2 (.g 9) (.l 24), none⟩])
(.reg [
  ⟨(some (false, 25)), .mv (.g 7), none⟩,
  ⟨(some (false, 26)), .fa (.g 9) 0, none⟩,
  ⟨(some (false, 27)), .ld none (.l 26), none⟩,
  ⟨(some (false, 28)), .mv (.g 6), none⟩,
  ⟨(some (false, 29)), .bin .sub (.l 27) (.l 28), none⟩,
  ⟨(some (false, 30)), .mx [.c (.lit (.int .i64 0)), .l 29], none⟩,
  ⟨(some (false, 31)), .ld none (.g 4), none⟩,
  ⟨(some (false, 32)), .bin .sub (.l 31) (.c (.lit (.int .i64 1))), none⟩,
  ⟨(some (false, 33)), .fa (.g 9) 1, none⟩,
  ⟨(some (false, 34)), .ld none (.l 33), none⟩,
  ⟨(some (false, 35)), .mv (.g 6), none⟩,
  ⟨(some (false, 36)), .bin .add (.l 34) (.l 35), none⟩,
  ⟨(some (false, 37)), .mn [.l 32, .l 36], none⟩,
  ⟨(some (false, 38)), .mk [.int .i64 0, .int .i64 0] [(0, 1, .l 30), (1, 1, .l 37)], none⟩,
  ⟨(some (false, 39)), .mks false 2 [.l 38], none⟩,
  ⟨(some (false, 40)), .app 2 16 (.l 25) (.l 39), none⟩,
  ⟨(some (true, 7)), .mv (.l 40), none⟩])))
(.reg [
  ⟨(some (false, 41)), .bin .add (.g 21) (.c (.lit (.int .i64 1))), none⟩,
  ⟨(some (true, 21)), .mv (.l 41), none⟩])))))))
(.reg [
  ⟨(some (false, 42)), .mv (.g 7), none⟩,
  ⟨(some (false, 43)), .mv (.g 0), none⟩,
  ⟨none, .st 1 (.g 3) (.l 42), none⟩,
  ⟨none, .st 1 (.g 1) (.l 43), none⟩]))))
def K79 : List Nat := [0, 1, 2, 3, 4, 22, 6, 7, 19, 20, 21, 9]
noncomputable def b79 : Code := match Try.f79.body with | some c => c | none => .skip
theorem t79 : trCode ⟨Try.prog, K79, [], 44, none⟩ b79 = some c79 := by kernel_rfl
theorem go79 {args : List AV} {H : AHeap} {Kk : AV → AHeap → Prop} (hn : args.length = 5) (h : AGo ⟨Try.prog, K79, [], 44, none⟩ H.length [.code c79] (RetP [] H.length Kk) ⟨[], argsG 0 args⟩ H) : ACalls Try.prog 79 args H Kk :=
  ACalls_of Try.func79 (c := b79) rfl (by kernel_rfl) t79 (rs := []) (by kernel_rfl) (by rw [hn]; exact Nat.le_of_ble_eq_true rfl) (by rw [hn]; rfl) (h.weaken (fun _ _ => RetP.hands) (by simp))

/-- sastrugi/probe.mends -/
def c80 : ACode :=
  (.seq
(.reg [
  ⟨(some (true, 6)), .mv (.c (.lit (.slice none 0 0))), none⟩])
(.seq
(.reg [
  ⟨(some (true, 7)), .mv (.c (.lit (.slice none 0 0))), none⟩])
(.seq
(.seq
(.reg [
  ⟨(some (true, 10)), .mv (.g 0), none⟩,
  ⟨(some (true, 11)), .len (.g 10), none⟩,
  ⟨(some (true, 12)), .mv (.c (.lit (.int .i64 0))), none⟩])
(.block 0
(.loop
(.seq
(.reg [
  ⟨(some (true, 13)), .bin .lss (.g 12) (.g 11), none⟩])
(.seq
(.cond (.g 13)
.skip
(.exit 0))
(.seq
(.block 1
(.seq
(.reg [
  ⟨(some (false, 14)), .mv (.g 12), none⟩,
  ⟨(some (false, 15)), .ia 5 (.g 10) (.g 12), none⟩,
  ⟨(some (false, 16)), .ld (some 5) (.l 15), none⟩,
  ⟨(some (true, 9)), .new [.int .i64 0, .int .i64 0, .int .i64 0, .int .i64 0, .int .i64 0], none⟩,
  ⟨(some (true, 8)), .mv (.l 14), none⟩,
  ⟨none, .st 5 (.g 9) (.l 16), none⟩])
(.seq
(.draw [
  ⟨⟨(some (false, 17)), .fa (.g 9) 0, none⟩, 0, true, []⟩,
  ⟨⟨(some (false, 18)), .ld none (.l 17), none⟩, 1, true, []⟩,
  ⟨⟨(some (false, 19)), .bin .eql (.l 18) (.c (.lit (.int .i64 4))), none⟩, 2, true, []⟩,
  ⟨⟨(some (false, 20)), .mv (.l 19), none⟩, 3, true, []⟩,
  ⟨⟨(some (false, 21)), .fa (.g 9) 3, (some (.l 20, true))⟩, 4, true, []⟩,
  ⟨⟨(some (false, 22)), .ld none (.l 21), (some (.l 20, true))⟩, 5, true, []⟩,
  ⟨⟨(some (false, 23)), .mv (.g 2), (some (.l 20, true))⟩, 6, true, []⟩,
  ⟨⟨(some (false, 24)), .bin .leq (.l 22) (.l 23), (some (.l 20, true))⟩, 7, true, []⟩,
  ⟨⟨(some (false, 25)), .pick (.l 20) (.l 24) (.c (.lit (.bool false))), none⟩, 8, true, []⟩,
  ⟨⟨(some (false, 26)), .mv (.l 25), none⟩, 9, true, []⟩,
  ⟨⟨(some (false, 27)), .fa (.g 9) 3, (some (.l 26, true))⟩, 10, true, []⟩,
  ⟨⟨(some (false, 28)), .ld none (.l 27), (some (.l 26, true))⟩, 11, true, []⟩,
  ⟨⟨(some (false, 29)), .mv (.g 0), (some (.l 26, true))⟩, 12, true, []⟩,
  ⟨⟨(some (false, 30)), .mv (.g 1), (some (.l 26, true))⟩, 13, true, []⟩,
  ⟨⟨(some (false, 31)), .ia 5 (.l 29) (.l 30), (some (.l 26, true))⟩, 14, true, []⟩,
  ⟨⟨(some (false, 32)), .fa (.l 31) 3, (some (.l 26, true))⟩, 15, true, []⟩,
  ⟨⟨(some (false, 33)), .ld none (.l 32), (some (.l 26, true))⟩, 16, true, []⟩,
  ⟨⟨(some (false, 34)), .bin .gtr (.l 28) (.l 33), (some (.l 26, true))⟩, 17, true, []⟩,
  ⟨⟨(some (false, 35)), .mv (.l 34), (some (.l 26, true))⟩, 18, true, []⟩,
  ⟨⟨(some (false, 36)), .fa (.g 9) 3, (some (.l 35, false))⟩, 19, true, []⟩,
  ⟨⟨(some (false, 37)), .ld none (.l 36), (some (.l 35, false))⟩, 20, true, []⟩,
  ⟨⟨(some (false, 38)), .mv (.g 0), (some (.l 35, false))⟩, 21, true, []⟩,
  ⟨⟨(some (false, 39)), .mv (.g 1), (some (.l 35, false))⟩, 22, true, []⟩,
  ⟨⟨(some (false, 40)), .ia 5 (.l 38) (.l 39), (some (.l 35, false))⟩, 23, true, []⟩,
  ⟨⟨(some (false, 41)), .fa (.l 40) 3, (some (.l 35, false))⟩, 24, true, []⟩,
  ⟨⟨(some (false, 42)), .ld none (.l 41), (some (.l 35, false))⟩, 25, true, []⟩,
  ⟨⟨(some (false, 43)), .bin .eql (.l 37) (.l 42), (some (.l 35, false))⟩, 26, true, []⟩,
  ⟨⟨(some (false, 44)), .mv (.l 43), (some (.l 35, false))⟩, 27, true, []⟩,
  ⟨⟨(some (false, 45)), .mv (.g 8), (some (.l 44, true))⟩, 28, true, []⟩,
  ⟨⟨(some (false, 46)), .mv (.g 1), (some (.l 44, true))⟩, 29, true, []⟩,
  ⟨⟨(some (false, 47)), .bin .gtr (.l 45) (.l 46), (some (.l 44, true))⟩, 30, true, []⟩,
  ⟨⟨(some (false, 48)), .pick (.l 44) (.l 47) (.c (.lit (.bool false))), (some (.l 35, false))⟩, 31, true, []⟩,
  ⟨⟨(some (false, 49)), .pick (.l 35) (.c (.lit (.bool true))) (.l 48), (some (.l 26, true))⟩, 32, true, []⟩,
  ⟨⟨(some (true, 50)), .pick (.l 26) (.l 49) (.c (.lit (.bool false))), none⟩, 33, true, []⟩])
(.cond (.g 50)
(.reg [
  ⟨(some (false, 51)), .mv (.g 7), none⟩,
  ⟨(some (false, 52)), .ld (some 5) (.g 9), none⟩,
  ⟨(some (false, 53)), .mks false 5 [.l 52], none⟩,
  ⟨(some (false, 54)), .app 5 40 (.l 51) (.l 53), none⟩,
  ⟨(some (true, 7)), .mv (.l 54), none⟩])
.skip))))
(.reg [
  ⟨(some (false, 55)), .bin .add (.g 12) (.c (.lit (.int .i64 1))), none⟩,
  ⟨(some (true, 12)), .mv (.l 55), none⟩])))))))
(.seq
(.reg [
  ⟨(some (false, 56)), .mv (.g 7), none⟩,
  ⟨(some (false, 57)), .call (.c (.fn 88 [])) [.l 56, .c (.fn 89 [])], none⟩])
(.seq
(.reg [
  ⟨(some (false, 58)), .mv (.g 7), none⟩,
  ⟨(some (true, 6)), .mv (.l 58), none⟩])
.ret)))))
def K80 : List Nat := [0, 1, 2, 13, 50, 6, 7, 10, 11, 12, 9, 8]
noncomputable def b80 : Code := match Try.f80.body with | some c => c | none => .skip
theorem t80 : trCode ⟨Try.prog, K80, [], 59, none⟩ b80 = some c80 := by kernel_rfl
theorem go80 {args : List AV} {H : AHeap} {Kk : AV → AHeap → Prop} (hn : args.length = 3) (h : AGo ⟨Try.prog, K80, [], 59, none⟩ H.length [.code c80] (RetP [.t (.g 6)] H.length Kk) ⟨[], argsG 0 args⟩ H) : ACalls Try.prog 80 args H Kk :=
  ACalls_of Try.func80 (c := b80) rfl (by kernel_rfl) t80 (rs := [.t (.g 6)]) (by kernel_rfl) (by rw [hn]; exact Nat.le_of_ble_eq_true rfl) (by rw [hn]; rfl) (h.weaken (fun _ _ => RetP.hands) (by simp))

/-- sastrugi/probe.without -/
def c81 : ACode :=
  (.seq
(.reg [
  ⟨(some (true, 6)), .mv (.c (.lit (.slice none 0 0))), none⟩])
(.seq
(.reg [
  ⟨(some (true, 7)), .mv (.c (.lit (.slice none 0 0))), none⟩])
(.seq
(.seq
(.reg [
  ⟨(some (true, 12)), .mv (.g 0), none⟩,
  ⟨(some (true, 13)), .len (.g 12), none⟩,
  ⟨(some (true, 14)), .mv (.c (.lit (.int .i64 0))), none⟩])
(.block 0
(.loop
(.seq
(.reg [
  ⟨(some (true, 15)), .bin .lss (.g 14) (.g 13), none⟩])
(.seq
(.cond (.g 15)
.skip
(.exit 0))
(.seq
(.block 1
(.seq
(.reg [
  ⟨(some (false, 16)), .ia 2 (.g 12) (.g 14), none⟩,
  ⟨(some (false, 17)), .ld (some 2) (.l 16), none⟩,
  ⟨(some (true, 9)), .new [.int .i64 0, .int .i64 0], none⟩,
  ⟨none, .st 2 (.g 9) (.l 17), none⟩])
(.seq
(.seq
(.reg [
  ⟨(some (false, 18)), .fa (.g 9) 0, none⟩,
  ⟨(some (false, 19)), .ld none (.l 18), none⟩,
  ⟨(some (false, 20)), .fa (.g 9) 1, none⟩,
  ⟨(some (false, 21)), .ld none (.l 20), none⟩,
  ⟨(some (false, 22)), .mv (.g 1), none⟩,
  ⟨(some (false, 23)), .bin .sub (.l 22) (.c (.lit (.int .i64 1))), none⟩,
  ⟨(some (false, 24)), .mn [.l 21, .l 23], none⟩,
  ⟨(some (false, 25)), .mk [.int .i64 0, .int .i64 0] [(0, 1, .l 19), (1, 1, .l 24)], none⟩,
  ⟨(some (true, 10)), .new [.int .i64 0, .int .i64 0], none⟩,
  ⟨none, .st 2 (.g 10) (.l 25), none⟩])
(.seq
(.reg [
  ⟨(some (false, 26)), .fa (.g 10) 0, none⟩,
  ⟨(some (false, 27)), .ld none (.l 26), none⟩,
  ⟨(some (false, 28)), .fa (.g 10) 1, none⟩,
  ⟨(some (false, 29)), .ld none (.l 28), none⟩,
  ⟨(some (true, 30)), .bin .leq (.l 27) (.l 29), none⟩])
(.cond (.g 30)
(.reg [
  ⟨(some (false, 31)), .mv (.g 7), none⟩,
  ⟨(some (false, 32)), .ld (some 2) (.g 10), none⟩,
  ⟨(some (false, 33)), .mks false 2 [.l 32], none⟩,
  ⟨(some (false, 34)), .app 2 16 (.l 31) (.l 33), none⟩,
  ⟨(some (true, 7)), .mv (.l 34), none⟩])
.skip)))
(.seq
(.reg [
  ⟨(some (false, 35)), .fa (.g 9) 0, none⟩,
  ⟨(some (false, 36)), .ld none (.l 35), none⟩,
  ⟨(some (false, 37)), .mv (.g 2), none⟩,
  ⟨(some (false, 38)), .bin .add (.l 37) (.c (.lit (.int .i64 1))), none⟩,
  ⟨(some (false, 39)), .mx [.l 36, .l 38], none⟩,
  ⟨(some (false, 40)), .fa (.g 9) 1, none⟩,
  ⟨(some (false, 41)), .ld none (.l 40), none⟩,
  ⟨(some (false, 42)), .mk [.int .i64 0, .int .i64 0] [(0, 1, .l 39), (1, 1, .l 41)], none⟩,
  ⟨(some (true, 11)), .new [.int .i64 0, .int .i64 0], none⟩,
  ⟨none, .st 2 (.g 11) (.l 42), none⟩])
(.seq
(.reg [
  ⟨(some (false, 43)), .fa (.g 11) 0, none⟩,
  ⟨(some (false, 44)), .ld none (.l 43), none⟩,
  ⟨(some (false, 45)), .fa (.g 11) 1, none⟩,
  ⟨(some (false, 46)), .ld none (.l 45), none⟩,
  ⟨(some (true, 47)), .bin .leq (.l 44) (.l 46), none⟩])
(.cond (.g 47)
(.reg [
  ⟨(some (false, 48)), .mv (.g 7), none⟩,
  ⟨(some (false, 49)), .ld (some 2) (.g 11), none⟩,
  ⟨(some (false, 50)), .mks false 2 [.l 49], none⟩,
  ⟨(some (false, 51)), .app 2 16 (.l 48) (.l 50), none⟩,
  ⟨(some (true, 7)), .mv (.l 51), none⟩])
.skip))))))
(.reg [
  ⟨(some (false, 52)), .bin .add (.g 14) (.c (.lit (.int .i64 1))), none⟩,
  ⟨(some (true, 14)), .mv (.l 52), none⟩])))))))
(.seq
(.reg [
  ⟨(some (false, 53)), .mv (.g 7), none⟩,
  ⟨(some (true, 6)), .mv (.l 53), none⟩])
.ret))))
def K81 : List Nat := [0, 1, 2, 15, 30, 47, 6, 7, 12, 13, 14, 9, 10, 11]
noncomputable def b81 : Code := match Try.f81.body with | some c => c | none => .skip
theorem t81 : trCode ⟨Try.prog, K81, [], 54, none⟩ b81 = some c81 := by kernel_rfl
theorem go81 {args : List AV} {H : AHeap} {Kk : AV → AHeap → Prop} (hn : args.length = 3) (h : AGo ⟨Try.prog, K81, [], 54, none⟩ H.length [.code c81] (RetP [.t (.g 6)] H.length Kk) ⟨[], argsG 0 args⟩ H) : ACalls Try.prog 81 args H Kk :=
  ACalls_of Try.func81 (c := b81) rfl (by kernel_rfl) t81 (rs := [.t (.g 6)]) (by kernel_rfl) (by rw [hn]; exact Nat.le_of_ble_eq_true rfl) (by rw [hn]; rfl) (h.weaken (fun _ _ => RetP.hands) (by simp))

/-- slices.SortStableFunc[[]sastrugi/api.Mark,sastrugi/api.Mark] -/
def c88 : ACode :=
  (.reg [
  ⟨(some (false, 4)), .mv (.g 0), none⟩,
  ⟨(some (false, 5)), .mv (.g 0), none⟩,
  ⟨(some (false, 6)), .len (.l 5), none⟩,
  ⟨(some (false, 7)), .mv (.g 1), none⟩,
  ⟨(some (false, 8)), .call (.c (.fn 91 [])) [.l 4, .l 6, .l 7], none⟩])
def K88 : List Nat := [0, 1]
noncomputable def b88 : Code := match Try.f88.body with | some c => c | none => .skip
theorem t88 : trCode ⟨Try.prog, K88, [], 9, none⟩ b88 = some c88 := by kernel_rfl
theorem go88 {args : List AV} {H : AHeap} {Kk : AV → AHeap → Prop} (hn : args.length = 2) (h : AGo ⟨Try.prog, K88, [], 9, none⟩ H.length [.code c88] (RetP [] H.length Kk) ⟨[], argsG 0 args⟩ H) : ACalls Try.prog 88 args H Kk :=
  ACalls_of Try.func88 (c := b88) rfl (by kernel_rfl) t88 (rs := []) (by kernel_rfl) (by rw [hn]; exact Nat.le_of_ble_eq_true rfl) (by rw [hn]; rfl) (h.weaken (fun _ _ => RetP.hands) (by simp))

/-- sastrugi/probe.mends$1 -/
def c89 : ACode :=
  (.seq
(.reg [
  ⟨(some (true, 2)), .box (.g 0), none⟩,
  ⟨(some (true, 3)), .box (.g 1), none⟩,
  ⟨(some (true, 4)), .mv (.c (.lit (.int .i64 0))), none⟩])
(.seq
(.reg [
  ⟨(some (false, 5)), .fa (.g 2) 3, none⟩,
  ⟨(some (false, 6)), .ld none (.l 5), none⟩,
  ⟨(some (false, 7)), .fa (.g 3) 3, none⟩,
  ⟨(some (false, 8)), .ld none (.l 7), none⟩,
  ⟨(some (false, 9)), .call (.c (.fn 67 [])) [.l 6, .l 8], none⟩,
  ⟨(some (true, 4)), .mv (.l 9), none⟩])
.ret))
def K89 : List Nat := [0, 1, 4, 2, 3]
noncomputable def b89 : Code := match Try.f89.body with | some c => c | none => .skip
theorem t89 : trCode ⟨Try.prog, K89, [], 10, none⟩ b89 = some c89 := by kernel_rfl
theorem go89 {args : List AV} {H : AHeap} {Kk : AV → AHeap → Prop} (hn : args.length = 2) (h : AGo ⟨Try.prog, K89, [], 10, none⟩ H.length [.code c89] (RetP [.t (.g 4)] H.length Kk) ⟨[], argsG 0 args⟩ H) : ACalls Try.prog 89 args H Kk :=
  ACalls_of Try.func89 (c := b89) rfl (by kernel_rfl) t89 (rs := [.t (.g 4)]) (by kernel_rfl) (by rw [hn]; exact Nat.le_of_ble_eq_true rfl) (by rw [hn]; rfl) (h.weaken (fun _ _ => RetP.hands) (by simp))

/-- cmp.Compare[int] -/
def c67 : ACode :=
  (.seq
(.reg [
  ⟨(some (true, 4)), .mv (.c (.lit (.int .i64 0))), none⟩])
(.seq
(.reg [
  ⟨(some (false, 7)), .mv (.g 0), none⟩,
  ⟨(some (false, 8)), .call (.c (.fn 77 [])) [.l 7], none⟩,
  ⟨(some (true, 5)), .mv (.l 8), none⟩])
(.seq
(.reg [
  ⟨(some (false, 9)), .mv (.g 1), none⟩,
  ⟨(some (false, 10)), .call (.c (.fn 77 [])) [.l 9], none⟩,
  ⟨(some (true, 6)), .mv (.l 10), none⟩])
(.seq
(.seq
(.reg [
  ⟨(some (true, 11)), .mv (.g 5), none⟩])
(.cond (.g 11)
(.seq
(.seq
(.reg [
  ⟨(some (true, 12)), .mv (.g 6), none⟩])
(.cond (.g 12)
(.seq
(.reg [
  ⟨(some (true, 4)), .mv (.c (.lit (.int .i64 0))), none⟩])
.ret)
.skip))
(.seq
(.reg [
  ⟨(some (true, 4)), .mv (.c (.lit (.int .i64 (-1)))), none⟩])
.ret))
.skip))
(.seq
(.seq
(.reg [
  ⟨(some (true, 13)), .mv (.g 6), none⟩])
(.cond (.g 13)
(.seq
(.reg [
  ⟨(some (true, 4)), .mv (.c (.lit (.int .i64 1))), none⟩])
.ret)
.skip))
(.seq
(.seq
(.reg [
  ⟨(some (false, 14)), .mv (.g 0), none⟩,
  ⟨(some (false, 15)), .mv (.g 1), none⟩,
  ⟨(some (true, 16)), .bin .lss (.l 14) (.l 15), none⟩])
(.cond (.g 16)
(.seq
(.reg [
  ⟨(some (true, 4)), .mv (.c (.lit (.int .i64 (-1)))), none⟩])
.ret)
.skip))
(.seq
(.seq
(.reg [
  ⟨(some (false, 17)), .mv (.g 0), none⟩,
  ⟨(some (false, 18)), .mv (.g 1), none⟩,
  ⟨(some (true, 19)), .bin .gtr (.l 17) (.l 18), none⟩])
(.cond (.g 19)
(.seq
(.reg [
  ⟨(some (true, 4)), .mv (.c (.lit (.int .i64 1))), none⟩])
.ret)
.skip))
(.seq
(.reg [
  ⟨(some (true, 4)), .mv (.c (.lit (.int .i64 0))), none⟩])
.ret))))))))
def K67 : List Nat := [0, 1, 11, 12, 13, 16, 19, 4, 5, 6]
noncomputable def b67 : Code := match Try.f67.body with | some c => c | none => .skip
theorem t67 : trCode ⟨Try.prog, K67, [], 20, none⟩ b67 = some c67 := by kernel_rfl
theorem go67 {args : List AV} {H : AHeap} {Kk : AV → AHeap → Prop} (hn : args.length = 2) (h : AGo ⟨Try.prog, K67, [], 20, none⟩ H.length [.code c67] (RetP [.t (.g 4)] H.length Kk) ⟨[], argsG 0 args⟩ H) : ACalls Try.prog 67 args H Kk :=
  ACalls_of Try.func67 (c := b67) rfl (by kernel_rfl) t67 (rs := [.t (.g 4)]) (by kernel_rfl) (by rw [hn]; exact Nat.le_of_ble_eq_true rfl) (by rw [hn]; rfl) (h.weaken (fun _ _ => RetP.hands) (by simp))

/-- slices.stableCmpFunc[sastrugi/api.Mark] -/
def c91 : ACode :=
  (.seq
(.reg [
  ⟨(some (true, 6)), .mv (.c (.lit (.int .i64 20))), none⟩])
(.seq
(.reg [
  ⟨(some (false, 10)), .mv (.g 6), none⟩,
  ⟨(some (true, 7)), .mv (.c (.lit (.int .i64 0))), none⟩,
  ⟨(some (true, 8)), .mv (.l 10), none⟩])
(.seq
(.block 0
(.loop
(.seq
(.seq
(.reg [
  ⟨(some (false, 11)), .mv (.g 8), none⟩,
  ⟨(some (false, 12)), .mv (.g 1), none⟩,
  ⟨(some (true, 13)), .bin .leq (.l 11) (.l 12), none⟩])
(.cond (.g 13)
.skip
(.exit 0)))
(.block 1
(.seq
(.reg [
  ⟨(some (false, 14)), .mv (.g 0), none⟩,
  ⟨(some (false, 15)), .mv (.g 7), none⟩,
  ⟨(some (false, 16)), .mv (.g 8), none⟩,
  ⟨(some (false, 17)), .mv (.g 2), none⟩,
  ⟨(some (false, 18)), .call (.c (.fn 93 [])) [.l 14, .l 15, .l 16, .l 17], none⟩])
(.seq
(.reg [
  ⟨(some (false, 19)), .mv (.g 8), none⟩,
  ⟨(some (true, 7)), .mv (.l 19), none⟩])
(.reg [
  ⟨(some (false, 20)), .mv (.g 8), none⟩,
  ⟨(some (false, 21)), .mv (.g 6), none⟩,
  ⟨(some (false, 22)), .bin .add (.l 20) (.l 21), none⟩,
  ⟨(some (true, 8)), .mv (.l 22), none⟩])))))))
(.seq
(.reg [
  ⟨(some (false, 23)), .mv (.g 0), none⟩,
  ⟨(some (false, 24)), .mv (.g 7), none⟩,
  ⟨(some (false, 25)), .mv (.g 1), none⟩,
  ⟨(some (false, 26)), .mv (.g 2), none⟩,
  ⟨(some (false, 27)), .call (.c (.fn 93 [])) [.l 23, .l 24, .l 25, .l 26], none⟩])
(.block 2
(.loop
(.seq
(.seq
(.reg [
  ⟨(some (false, 28)), .mv (.g 6), none⟩,
  ⟨(some (false, 29)), .mv (.g 1), none⟩,
  ⟨(some (true, 30)), .bin .lss (.l 28) (.l 29), none⟩])
(.cond (.g 30)
.skip
(.exit 2)))
(.block 3
(.seq
(.reg [
  ⟨(some (false, 31)), .mv (.g 6), none⟩,
  ⟨(some (false, 32)), .bin .mul (.c (.lit (.int .i64 2))) (.l 31), none⟩,
  ⟨(some (true, 7)), .mv (.c (.lit (.int .i64 0))), none⟩,
  ⟨(some (true, 8)), .mv (.l 32), none⟩])
(.seq
(.block 4
(.loop
(.seq
(.seq
(.reg [
  ⟨(some (false, 33)), .mv (.g 8), none⟩,
  ⟨(some (false, 34)), .mv (.g 1), none⟩,
  ⟨(some (true, 35)), .bin .leq (.l 33) (.l 34), none⟩])
(.cond (.g 35)
.skip
(.exit 4)))
(.block 5
(.seq
(.reg [
  ⟨(some (false, 36)), .mv (.g 0), none⟩,
  ⟨(some (false, 37)), .mv (.g 7), none⟩,
  ⟨(some (false, 38)), .mv (.g 7), none⟩,
  ⟨(some (false, 39)), .mv (.g 6), none⟩,
  ⟨(some (false, 40)), .bin .add (.l 38) (.l 39), none⟩,
  ⟨(some (false, 41)), .mv (.g 8), none⟩,
  ⟨(some (false, 42)), .mv (.g 2), none⟩,
  ⟨(some (false, 43)), .call (.c (.fn 94 [])) [.l 36, .l 37, .l 40, .l 41, .l 42], none⟩])
(.seq
(.reg [
  ⟨(some (false, 44)), .mv (.g 8), none⟩,
  ⟨(some (true, 7)), .mv (.l 44), none⟩])
(.reg [
  ⟨(some (false, 45)), .mv (.g 8), none⟩,
  ⟨(some (false, 46)), .mv (.g 6), none⟩,
  ⟨(some (false, 47)), .bin .mul (.c (.lit (.int .i64 2))) (.l 46), none⟩,
  ⟨(some (false, 48)), .bin .add (.l 45) (.l 47), none⟩,
  ⟨(some (true, 8)), .mv (.l 48), none⟩])))))))
(.seq
(.seq
(.reg [
  ⟨(some (false, 49)), .mv (.g 7), none⟩,
  ⟨(some (false, 50)), .mv (.g 6), none⟩,
  ⟨(some (false, 51)), .bin .add (.l 49) (.l 50), none⟩,
  ⟨(some (true, 9)), .mv (.l 51), none⟩])
(.seq
(.reg [
  ⟨(some (false, 52)), .mv (.g 9), none⟩,
  ⟨(some (false, 53)), .mv (.g 1), none⟩,
  ⟨(some (true, 54)), .bin .lss (.l 52) (.l 53), none⟩])
(.cond (.g 54)
(.reg [
  ⟨(some (false, 55)), .mv (.g 0), none⟩,
  ⟨(some (false, 56)), .mv (.g 7), none⟩,
  ⟨(some (false, 57)), .mv (.g 9), none⟩,
  ⟨(some (false, 58)), .mv (.g 1), none⟩,
  ⟨(some (false, 59)), .mv (.g 2), none⟩,
  ⟨(some (false, 60)), .call (.c (.fn 94 [])) [.l 55, .l 56, .l 57, .l 58, .l 59], none⟩])
.skip)))
(.reg [
  ⟨(some (false, 61)), .mv (.g 6), none⟩,
  ⟨(some (false, 62)), .bin .mul (.l 61) (.c (.lit (.int .i64 2))), none⟩,
  ⟨(some (true, 6)), .mv (.l 62), none⟩]))))))))))))
def K91 : List Nat := [0, 1, 2, 13, 30, 35, 54, 6, 7, 8, 9]
noncomputable def b91 : Code := match Try.f91.body with | some c => c | none => .skip
theorem t91 : trCode ⟨Try.prog, K91, [], 63, none⟩ b91 = some c91 := by kernel_rfl
theorem go91 {args : List AV} {H : AHeap} {Kk : AV → AHeap → Prop} (hn : args.length = 3) (h : AGo ⟨Try.prog, K91, [], 63, none⟩ H.length [.code c91] (RetP [] H.length Kk) ⟨[], argsG 0 args⟩ H) : ACalls Try.prog 91 args H Kk :=
  ACalls_of Try.func91 (c := b91) rfl (by kernel_rfl) t91 (rs := []) (by kernel_rfl) (by rw [hn]; exact Nat.le_of_ble_eq_true rfl) (by rw [hn]; rfl) (h.weaken (fun _ _ => RetP.hands) (by simp))

/-- cmp.isNaN[int] -/
def c77 : ACode :=
  (.seq
(.reg [
  ⟨(some (true, 2)), .mv (.c (.lit (.bool false))), none⟩])
(.seq
(.reg [
  ⟨(some (false, 3)), .mv (.g 0), none⟩,
  ⟨(some (false, 4)), .mv (.g 0), none⟩,
  ⟨(some (false, 5)), .bin .neq (.l 3) (.l 4), none⟩,
  ⟨(some (true, 2)), .mv (.l 5), none⟩])
.ret))
def K77 : List Nat := [0, 2]
noncomputable def b77 : Code := match Try.f77.body with | some c => c | none => .skip
theorem t77 : trCode ⟨Try.prog, K77, [], 6, none⟩ b77 = some c77 := by kernel_rfl
theorem go77 {args : List AV} {H : AHeap} {Kk : AV → AHeap → Prop} (hn : args.length = 1) (h : AGo ⟨Try.prog, K77, [], 6, none⟩ H.length [.code c77] (RetP [.t (.g 2)] H.length Kk) ⟨[], argsG 0 args⟩ H) : ACalls Try.prog 77 args H Kk :=
  ACalls_of Try.func77 (c := b77) rfl (by kernel_rfl) t77 (rs := [.t (.g 2)]) (by kernel_rfl) (by rw [hn]; exact Nat.le_of_ble_eq_true rfl) (by rw [hn]; rfl) (h.weaken (fun _ _ => RetP.hands) (by simp))

/-- slices.insertionSortCmpFunc[sastrugi/api.Mark] -/
def c93 : ACode :=
  (.seq
(.reg [
  ⟨(some (false, 10)), .mv (.g 1), none⟩,
  ⟨(some (false, 11)), .bin .add (.l 10) (.c (.lit (.int .i64 1))), none⟩,
  ⟨(some (true, 8)), .mv (.l 11), none⟩])
(.block 0
(.loop
(.seq
(.seq
(.reg [
  ⟨(some (false, 12)), .mv (.g 8), none⟩,
  ⟨(some (false, 13)), .mv (.g 2), none⟩,
  ⟨(some (true, 14)), .bin .lss (.l 12) (.l 13), none⟩])
(.cond (.g 14)
.skip
(.exit 0)))
(.seq
(.block 1
(.seq
(.reg [
  ⟨(some (false, 17)), .mv (.g 8), none⟩,
  ⟨(some (true, 9)), .mv (.l 17), none⟩])
(.block 2
(.loop
(.seq
(.seq
(.draw [
  ⟨⟨(some (false, 18)), .mv (.g 9), none⟩, 0, true, []⟩,
  ⟨⟨(some (false, 19)), .mv (.g 1), none⟩, 1, true, []⟩,
  ⟨⟨(some (false, 20)), .bin .gtr (.l 18) (.l 19), none⟩, 2, true, []⟩,
  ⟨⟨(some (false, 21)), .mv (.l 20), none⟩, 3, true, []⟩,
  ⟨⟨(some (false, 22)), .mv (.g 3), (some (.l 21, true))⟩, 4, true, []⟩,
  ⟨⟨(some (false, 23)), .mv (.g 0), (some (.l 21, true))⟩, 5, true, []⟩,
  ⟨⟨(some (false, 24)), .mv (.g 9), (some (.l 21, true))⟩, 6, true, []⟩,
  ⟨⟨(some (false, 25)), .ia 5 (.l 23) (.l 24), (some (.l 21, true))⟩, 7, true, []⟩,
  ⟨⟨(some (false, 26)), .ld (some 5) (.l 25), (some (.l 21, true))⟩, 8, true, []⟩,
  ⟨⟨(some (false, 27)), .mv (.g 0), (some (.l 21, true))⟩, 9, true, []⟩,
  ⟨⟨(some (false, 28)), .mv (.g 9), (some (.l 21, true))⟩, 10, true, []⟩,
  ⟨⟨(some (false, 29)), .bin .sub (.l 28) (.c (.lit (.int .i64 1))), (some (.l 21, true))⟩, 11, true, []⟩,
  ⟨⟨(some (false, 30)), .ia 5 (.l 27) (.l 29), (some (.l 21, true))⟩, 12, true, []⟩,
  ⟨⟨(some (false, 31)), .ld (some 5) (.l 30), (some (.l 21, true))⟩, 13, true, []⟩,
  ⟨⟨(some (false, 32)), .call (.l 22) [.l 26, .l 31], (some (.l 21, true))⟩, 14, false, []⟩,
  ⟨⟨(some (false, 33)), .bin .lss (.l 32) (.c (.lit (.int .i64 0))), (some (.l 21, true))⟩, 15, true, []⟩,
  ⟨⟨(some (true, 34)), .pick (.l 21) (.l 33) (.c (.lit (.bool false))), none⟩, 16, true, []⟩])
(.cond (.g 34)
.skip
(.exit 2)))
(.seq
(.block 3
(.draw [
  ⟨⟨(some (false, 37)), .mv (.g 0), none⟩, 0, true, []⟩,
  ⟨⟨(some (false, 38)), .mv (.g 9), none⟩, 1, true, []⟩,
  ⟨⟨(some (false, 39)), .mv (.g 0), none⟩, 2, false, []⟩,
  ⟨⟨(some (false, 40)), .mv (.g 9), none⟩, 3, false, []⟩,
  ⟨⟨(some (false, 41)), .bin .sub (.l 40) (.c (.lit (.int .i64 1))), none⟩, 4, false, []⟩,
  ⟨⟨(some (false, 42)), .mv (.g 0), none⟩, 5, true, []⟩,
  ⟨⟨(some (false, 43)), .mv (.g 9), none⟩, 6, true, []⟩,
  ⟨⟨(some (false, 44)), .bin .sub (.l 43) (.c (.lit (.int .i64 1))), none⟩, 7, true, []⟩,
  ⟨⟨(some (false, 45)), .ia 5 (.l 42) (.l 44), none⟩, 8, true, []⟩,
  ⟨⟨(some (false, 46)), .ld (some 5) (.l 45), none⟩, 9, true, []⟩,
  ⟨⟨(some (false, 47)), .mv (.g 0), none⟩, 10, false, []⟩,
  ⟨⟨(some (false, 48)), .mv (.g 9), none⟩, 11, false, []⟩,
  ⟨⟨(some (false, 49)), .ia 5 (.l 47) (.l 48), none⟩, 12, true, []⟩,
  ⟨⟨(some (false, 50)), .ld (some 5) (.l 49), none⟩, 13, true, []⟩,
  ⟨⟨(some (false, 51)), .ia 5 (.l 37) (.l 38), none⟩, 14, true, []⟩,
  ⟨⟨none, .st 5 (.l 51) (.l 46), none⟩, 15, false, []⟩,
  ⟨⟨(some (false, 52)), .ia 5 (.l 39) (.l 41), none⟩, 16, false, []⟩,
  ⟨⟨none, .st 5 (.l 52) (.l 50), none⟩, 17, true, []⟩]))
(.reg [
  ⟨(some (false, 35)), .mv (.g 9), none⟩,
  ⟨(some (false, 36)), .bin .sub (.l 35) (.c (.lit (.int .i64 1))), none⟩,
  ⟨(some (true, 9)), .mv (.l 36), none⟩])))))))
(.reg [
  ⟨(some (false, 15)), .mv (.g 8), none⟩,
  ⟨(some (false, 16)), .bin .add (.l 15) (.c (.lit (.int .i64 1))), none⟩,
  ⟨(some (true, 8)), .mv (.l 16), none⟩]))))))
def K93 : List Nat := [0, 1, 2, 3, 14, 34, 8, 9]
noncomputable def b93 : Code := match Try.f93.body with | some c => c | none => .skip
theorem t93 : trCode ⟨Try.prog, K93, [], 53, none⟩ b93 = some c93 := by kernel_rfl
theorem go93 {args : List AV} {H : AHeap} {Kk : AV → AHeap → Prop} (hn : args.length = 4) (h : AGo ⟨Try.prog, K93, [], 53, none⟩ H.length [.code c93] (RetP [] H.length Kk) ⟨[], argsG 0 args⟩ H) : ACalls Try.prog 93 args H Kk :=
  ACalls_of Try.func93 (c := b93) rfl (by kernel_rfl) t93 (rs := []) (by kernel_rfl) (by rw [hn]; exact Nat.le_of_ble_eq_true rfl) (by rw [hn]; rfl) (h.weaken (fun _ _ => RetP.hands) (by simp))

end Go.Sas
