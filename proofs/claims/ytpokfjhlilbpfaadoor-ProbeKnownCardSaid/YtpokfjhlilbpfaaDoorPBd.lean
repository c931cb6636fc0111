/-
The code of some functions with its types resolved, printed by a program; that it is the code is checked by the kernel.
The code of some functions with its types resolved, printed by a program; that it is the code is checked by the kernel.
The code of some functions with its types resolved, printed by a program; that it is the code is checked by the kernel.
Conditions: none.
-/
import Derived.Test.YtpokfjhlilbpfaaDoorP4d
import Derived.Test.YtpokfjhlilbpfaaDoorProg
set_option linter.unusedVariables false
set_option linter.unusedSimpArgs false
namespace Go.Sas
open Go.Proofs
set_option maxRecDepth 100000
/-- sastrugi/probe.Check -/
def c30 : ACode :=
  (.seq
(.reg [
  ⟨(some (true, 1)), .box (.g 0), none⟩,
  ⟨(some (true, 2)), .mv (.c (.lit (.int .i64 0))), none⟩])
(.seq
(.block 0
(.seq
(.reg [
  ⟨(some (false, 8)), .fa (.g 1) 0, none⟩,
  ⟨(some (false, 9)), .ld none (.l 8), none⟩,
  ⟨(some (false, 10)), .len (.l 9), none⟩,
  ⟨(some (false, 11)), .bin .eql (.l 10) (.c (.lit (.int .i64 0))), none⟩,
  ⟨(some (true, 7)), .mv (.l 11), none⟩])
(.cond (.g 7)
(.seq
(.reg [
  ⟨(some (true, 2)), .mv (.c (.lit (.int .i64 6))), none⟩])
.ret)
(.seq
(.reg [
  ⟨(some (false, 13)), .fa (.g 1) 0, none⟩,
  ⟨(some (false, 14)), .ld none (.l 13), none⟩,
  ⟨(some (false, 15)), .len (.l 14), none⟩,
  ⟨(some (false, 16)), .bin .gtr (.l 15) (.c (.lit (.int .i64 20))), none⟩,
  ⟨(some (true, 12)), .mv (.l 16), none⟩])
(.cond (.g 12)
(.seq
(.reg [
  ⟨(some (true, 2)), .mv (.c (.lit (.int .i64 8))), none⟩])
.ret)
.skip)))))
(.seq
(.seq
(.reg [
  ⟨(some (false, 17)), .fa (.g 1) 0, none⟩,
  ⟨(some (true, 18)), .ld none (.l 17), none⟩,
  ⟨(some (true, 19)), .len (.g 18), none⟩,
  ⟨(some (true, 20)), .mv (.c (.lit (.int .i64 0))), none⟩])
(.block 1
(.loop
(.seq
(.reg [
  ⟨(some (true, 21)), .bin .lss (.g 20) (.g 19), none⟩])
(.seq
(.cond (.g 21)
.skip
(.exit 1))
(.seq
(.block 2
(.seq
(.reg [
  ⟨(some (false, 22)), .ia 5 (.g 18) (.g 20), none⟩,
  ⟨(some (false, 23)), .ld (some 5) (.l 22), none⟩,
  ⟨(some (true, 4)), .new [.int .i64 0, .int .i64 0, .int .i64 0, .int .i64 0, .int .i64 0], none⟩,
  ⟨none, .st 5 (.g 4) (.l 23), none⟩])
(.seq
(.reg [
  ⟨(some (false, 24)), .fa (.g 4) 0, none⟩,
  ⟨(some (false, 25)), .ld none (.l 24), none⟩,
  ⟨(some (false, 26)), .call (.c (.fn 16 [])) [.l 25, .c (.lit (.int .i64 1)), .c (.lit (.int .i64 1000))], none⟩,
  ⟨(some (false, 27)), .un .not (.l 26), none⟩,
  ⟨(some (false, 28)), .mv (.l 27), none⟩,
  ⟨(some (false, 29)), .fa (.g 4) 1, (some (.l 28, false))⟩,
  ⟨(some (false, 30)), .ld none (.l 29), (some (.l 28, false))⟩,
  ⟨(some (false, 31)), .call (.c (.fn 16 [])) [.l 30, .c (.lit (.int .i64 0)), .c (.lit (.int .i64 3000))], (some (.l 28, false))⟩,
  ⟨(some (false, 32)), .un .not (.l 31), (some (.l 28, false))⟩,
  ⟨(some (false, 33)), .pick (.l 28) (.c (.lit (.bool true))) (.l 32), none⟩,
  ⟨(some (false, 34)), .mv (.l 33), none⟩,
  ⟨(some (false, 35)), .fa (.g 4) 2, (some (.l 34, false))⟩,
  ⟨(some (false, 36)), .ld none (.l 35), (some (.l 34, false))⟩,
  ⟨(some (false, 37)), .call (.c (.fn 16 [])) [.l 36, .c (.lit (.int .i64 0)), .c (.lit (.int .i64 1000))], (some (.l 34, false))⟩,
  ⟨(some (false, 38)), .un .not (.l 37), (some (.l 34, false))⟩,
  ⟨(some (false, 39)), .pick (.l 34) (.c (.lit (.bool true))) (.l 38), none⟩,
  ⟨(some (false, 40)), .mv (.l 39), none⟩,
  ⟨(some (false, 41)), .fa (.g 4) 3, (some (.l 40, false))⟩,
  ⟨(some (false, 42)), .ld none (.l 41), (some (.l 40, false))⟩,
  ⟨(some (false, 43)), .call (.c (.fn 16 [])) [.l 42, .c (.lit (.int .i64 0)), .c (.lit (.int .i64 1000))], (some (.l 40, false))⟩,
  ⟨(some (false, 44)), .un .not (.l 43), (some (.l 40, false))⟩,
  ⟨(some (false, 45)), .pick (.l 40) (.c (.lit (.bool true))) (.l 44), none⟩,
  ⟨(some (false, 46)), .mv (.l 45), none⟩,
  ⟨(some (false, 47)), .fa (.g 4) 4, (some (.l 46, false))⟩,
  ⟨(some (false, 48)), .ld none (.l 47), (some (.l 46, false))⟩,
  ⟨(some (false, 49)), .call (.c (.fn 16 [])) [.l 48, .c (.lit (.int .i64 0)), .c (.lit (.int .i64 10000))], (some (.l 46, false))⟩,
  ⟨(some (false, 50)), .un .not (.l 49), (some (.l 46, false))⟩,
  ⟨(some (true, 51)), .pick (.l 46) (.c (.lit (.bool true))) (.l 50), none⟩])
(.cond (.g 51)
(.seq
(.reg [
  ⟨(some (true, 2)), .mv (.c (.lit (.int .i64 2))), none⟩])
.ret)
.skip))))
(.reg [
  ⟨(some (false, 52)), .bin .add (.g 20) (.c (.lit (.int .i64 1))), none⟩,
  ⟨(some (true, 20)), .mv (.l 52), none⟩])))))))
(.seq
(.seq
(.reg [
  ⟨(some (false, 53)), .ld (some 4) (.g 1), none⟩,
  ⟨(some (false, 54)), .call (.c (.fn 38 [])) [.l 53], none⟩,
  ⟨(some (true, 55)), .bin .gtr (.l 54) (.c (.lit (.int .i64 1000))), none⟩])
(.cond (.g 55)
(.seq
(.reg [
  ⟨(some (true, 2)), .mv (.c (.lit (.int .i64 8))), none⟩])
.ret)
.skip))
(.seq
(.seq
(.reg [
  ⟨(some (false, 56)), .fa (.g 1) 1, none⟩,
  ⟨(some (true, 57)), .ld (some 3) (.l 56), none⟩,
  ⟨(some (true, 58)), .mv (.c (.lit (.int .i64 0))), none⟩])
(.block 3
(.loop
(.seq
(.reg [
  ⟨(some (true, 59)), .bin .lss (.g 58) (.c (.lit (.int .i64 3))), none⟩])
(.seq
(.cond (.g 59)
.skip
(.exit 3))
(.seq
(.block 4
(.seq
(.reg [
  ⟨(some (false, 60)), .ix 3 1 none (.g 57) (.g 58), none⟩,
  ⟨(some (true, 6)), .mv (.l 60), none⟩])
(.seq
(.reg [
  ⟨(some (false, 61)), .mv (.g 6), none⟩,
  ⟨(some (false, 62)), .call (.c (.fn 16 [])) [.l 61, .c (.lit (.int .i64 0)), .c (.lit (.int .i64 50))], none⟩,
  ⟨(some (true, 63)), .un .not (.l 62), none⟩])
(.cond (.g 63)
(.seq
(.reg [
  ⟨(some (true, 2)), .mv (.c (.lit (.int .i64 2))), none⟩])
.ret)
.skip))))
(.reg [
  ⟨(some (false, 64)), .bin .add (.g 58) (.c (.lit (.int .i64 1))), none⟩,
  ⟨(some (true, 58)), .mv (.l 64), none⟩])))))))
(.seq
(.reg [
  ⟨(some (true, 2)), .mv (.c (.lit (.int .i64 0))), none⟩])
.ret))))))
def K30 : List Nat := [0, 7, 12, 21, 51, 55, 59, 63, 2, 1, 18, 19, 20, 4, 57, 58, 6]
noncomputable def b30 : Code := match Tryd.f30.body with | some c => c | none => .skip
theorem t30 : trCode ⟨Tryd.prog, K30, [], 65, none⟩ b30 = some c30 := by kernel_rfl
theorem go30 {args : List AV} {H : AHeap} {Kk : AV → AHeap → Prop} (hn : args.length = 1) (h : AGo ⟨Tryd.prog, K30, [], 65, none⟩ H.length [.code c30] (RetP [.t (.g 2)] H.length Kk) ⟨[], argsG 0 args⟩ H) : ACalls Tryd.prog 30 args H Kk :=
  ACalls_of Tryd.func30 (c := b30) rfl (by kernel_rfl) t30 (rs := [.t (.g 2)]) (by kernel_rfl) (by rw [hn]; exact Nat.le_of_ble_eq_true rfl) (by rw [hn]; rfl) (h.weaken (fun _ _ => RetP.hands) (by simp))

/-- sastrugi/probe.CheckLooks -/
def c9 : ACode :=
  (.seq
(.reg [
  ⟨(some (true, 2)), .box (.g 0), none⟩,
  ⟨(some (true, 4)), .mv (.c (.lit (.int .i64 0))), none⟩])
(.seq
(.reg [
  ⟨(some (false, 8)), .ld (some 4) (.g 2), none⟩,
  ⟨(some (false, 9)), .mv (.g 1), none⟩,
  ⟨(some (false, 10)), .call (.c (.fn 15 [])) [.l 8, .l 9], none⟩,
  ⟨(some (false, 7)), .mv (.l 10), none⟩,
  ⟨(some (false, 11)), .ex (.l 7) 0, none⟩,
  ⟨(some (false, 12)), .ex (.l 7) 1, none⟩,
  ⟨(some (false, 5)), .new [.slice none 0 0, .int .i64 0, .int .i64 0, .int .i64 0, .slice none 0 0, .slice none 0 0], none⟩,
  ⟨none, .st 6 (.l 5) (.l 11), none⟩,
  ⟨(some (true, 6)), .mv (.l 12), none⟩])
(.seq
(.reg [
  ⟨(some (false, 13)), .mv (.g 6), none⟩,
  ⟨(some (true, 4)), .mv (.l 13), none⟩])
.ret)))
def K9 : List Nat := [0, 1, 4, 2, 6]
noncomputable def b9 : Code := match Tryd.f9.body with | some c => c | none => .skip
theorem t9 : trCode ⟨Tryd.prog, K9, [], 14, none⟩ b9 = some c9 := by kernel_rfl
theorem go9 {args : List AV} {H : AHeap} {Kk : AV → AHeap → Prop} (hn : args.length = 2) (h : AGo ⟨Tryd.prog, K9, [], 14, none⟩ H.length [.code c9] (RetP [.t (.g 4)] H.length Kk) ⟨[], argsG 0 args⟩ H) : ACalls Tryd.prog 9 args H Kk :=
  ACalls_of Tryd.func9 (c := b9) rfl (by kernel_rfl) t9 (rs := [.t (.g 4)]) (by kernel_rfl) (by rw [hn]; exact Nat.le_of_ble_eq_true rfl) (by rw [hn]; rfl) (h.weaken (fun _ _ => RetP.hands) (by simp))

/-- sastrugi/probe.looked -/
def c15 : ACode :=
  (.seq
(.reg [
  ⟨(some (true, 2)), .box (.g 0), none⟩,
  ⟨(some (true, 4)), .new [.slice none 0 0, .int .i64 0, .int .i64 0, .int .i64 0, .slice none 0 0, .slice none 0 0], none⟩,
  ⟨(some (true, 5)), .mv (.c (.lit (.int .i64 0))), none⟩])
(.seq
(.seq
(.reg [
  ⟨(some (false, 8)), .ld (some 4) (.g 2), none⟩,
  ⟨(some (false, 9)), .call (.c (.fn 30 [])) [.l 8], none⟩,
  ⟨(some (true, 6)), .mv (.l 9), none⟩])
(.seq
(.reg [
  ⟨(some (false, 10)), .mv (.g 6), none⟩,
  ⟨(some (true, 11)), .bin .neq (.l 10) (.c (.lit (.int .i64 0))), none⟩])
(.cond (.g 11)
(.seq
(.reg [
  ⟨(some (false, 12)), .mk [.slice none 0 0, .int .i64 0, .int .i64 0, .int .i64 0, .slice none 0 0, .slice none 0 0] [], none⟩,
  ⟨(some (false, 13)), .mv (.g 6), none⟩,
  ⟨none, .st 6 (.g 4) (.l 12), none⟩,
  ⟨(some (true, 5)), .mv (.l 13), none⟩])
.ret)
.skip)))
(.seq
(.reg [
  ⟨(some (false, 14)), .ld (some 4) (.g 2), none⟩,
  ⟨(some (false, 15)), .call (.c (.fn 31 [])) [.l 14], none⟩,
  ⟨(some (true, 7)), .new [.slice none 0 0, .int .i64 0, .int .i64 0, .int .i64 0, .slice none 0 0, .slice none 0 0], none⟩,
  ⟨none, .st 6 (.g 7) (.l 15), none⟩])
(.seq
(.draw [
  ⟨⟨(some (false, 16)), .ld (some 6) (.g 7), none⟩, 0, true, []⟩,
  ⟨⟨(some (false, 17)), .ld (some 6) (.g 7), none⟩, 1, true, []⟩,
  ⟨⟨(some (false, 18)), .mv (.g 1), none⟩, 2, true, []⟩,
  ⟨⟨(some (false, 19)), .call (.c (.fn 32 [])) [.l 17, .l 18], none⟩, 3, false, []⟩,
  ⟨⟨none, .st 6 (.g 4) (.l 16), none⟩, 4, false, []⟩,
  ⟨⟨(some (true, 5)), .mv (.l 19), none⟩, 5, false, []⟩])
.ret))))
def K15 : List Nat := [0, 1, 11, 4, 5, 2, 6, 7]
noncomputable def b15 : Code := match Tryd.f15.body with | some c => c | none => .skip
theorem t15 : trCode ⟨Tryd.prog, K15, [], 20, none⟩ b15 = some c15 := by kernel_rfl
theorem go15 {args : List AV} {H : AHeap} {Kk : AV → AHeap → Prop} (hn : args.length = 2) (h : AGo ⟨Tryd.prog, K15, [], 20, none⟩ H.length [.code c15] (RetP [.cell (.g 4) (some 6), .t (.g 5)] H.length Kk) ⟨[], argsG 0 args⟩ H) : ACalls Tryd.prog 15 args H Kk :=
  ACalls_of Tryd.func15 (c := b15) rfl (by kernel_rfl) t15 (rs := [.cell (.g 4) (some 6), .t (.g 5)]) (by kernel_rfl) (by rw [hn]; exact Nat.le_of_ble_eq_true rfl) (by rw [hn]; rfl) (h.weaken (fun _ _ => RetP.hands) (by simp))

/-- sastrugi/probe.in -/
def c16 : ACode :=
  (.seq
(.reg [
  ⟨(some (true, 6)), .mv (.c (.lit (.bool false))), none⟩])
(.seq
(.reg [
  ⟨(some (false, 7)), .mv (.g 1), none⟩,
  ⟨(some (false, 8)), .mv (.g 0), none⟩,
  ⟨(some (false, 9)), .bin .leq (.l 7) (.l 8), none⟩,
  ⟨(some (false, 10)), .mv (.l 9), none⟩,
  ⟨(some (false, 11)), .mv (.g 0), (some (.l 10, true))⟩,
  ⟨(some (false, 12)), .mv (.g 2), (some (.l 10, true))⟩,
  ⟨(some (false, 13)), .bin .leq (.l 11) (.l 12), (some (.l 10, true))⟩,
  ⟨(some (false, 14)), .pick (.l 10) (.l 13) (.c (.lit (.bool false))), none⟩,
  ⟨(some (true, 6)), .mv (.l 14), none⟩])
.ret))
def K16 : List Nat := [0, 1, 2, 6]
noncomputable def b16 : Code := match Tryd.f16.body with | some c => c | none => .skip
theorem t16 : trCode ⟨Tryd.prog, K16, [], 15, none⟩ b16 = some c16 := by kernel_rfl
theorem go16 {args : List AV} {H : AHeap} {Kk : AV → AHeap → Prop} (hn : args.length = 3) (h : AGo ⟨Tryd.prog, K16, [], 15, none⟩ H.length [.code c16] (RetP [.t (.g 6)] H.length Kk) ⟨[], argsG 0 args⟩ H) : ACalls Tryd.prog 16 args H Kk :=
  ACalls_of Tryd.func16 (c := b16) rfl (by kernel_rfl) t16 (rs := [.t (.g 6)]) (by kernel_rfl) (by rw [hn]; exact Nat.le_of_ble_eq_true rfl) (by rw [hn]; rfl) (h.weaken (fun _ _ => RetP.hands) (by simp))

/-- sastrugi/probe.places -/
def c38 : ACode :=
  (.seq
(.reg [
  ⟨(some (true, 1)), .box (.g 0), none⟩,
  ⟨(some (true, 2)), .mv (.c (.lit (.int .i64 0))), none⟩])
(.seq
(.reg [
  ⟨(some (true, 3)), .mv (.c (.lit (.int .i64 0))), none⟩])
(.seq
(.seq
(.reg [
  ⟨(some (false, 6)), .fa (.g 1) 0, none⟩,
  ⟨(some (true, 7)), .ld none (.l 6), none⟩,
  ⟨(some (true, 8)), .len (.g 7), none⟩,
  ⟨(some (true, 9)), .mv (.c (.lit (.int .i64 0))), none⟩])
(.block 0
(.loop
(.seq
(.reg [
  ⟨(some (true, 10)), .bin .lss (.g 9) (.g 8), none⟩])
(.seq
(.cond (.g 10)
.skip
(.exit 0))
(.seq
(.block 1
(.seq
(.reg [
  ⟨(some (false, 11)), .ia 5 (.g 7) (.g 9), none⟩,
  ⟨(some (false, 12)), .ld (some 5) (.l 11), none⟩,
  ⟨(some (true, 5)), .new [.int .i64 0, .int .i64 0, .int .i64 0, .int .i64 0, .int .i64 0], none⟩,
  ⟨none, .st 5 (.g 5) (.l 12), none⟩])
(.reg [
  ⟨(some (false, 13)), .mv (.g 3), none⟩,
  ⟨(some (false, 14)), .fa (.g 5) 0, none⟩,
  ⟨(some (false, 15)), .ld none (.l 14), none⟩,
  ⟨(some (false, 16)), .bin .add (.l 13) (.l 15), none⟩,
  ⟨(some (true, 3)), .mv (.l 16), none⟩])))
(.reg [
  ⟨(some (false, 17)), .bin .add (.g 9) (.c (.lit (.int .i64 1))), none⟩,
  ⟨(some (true, 9)), .mv (.l 17), none⟩])))))))
(.seq
(.reg [
  ⟨(some (false, 18)), .mv (.g 3), none⟩,
  ⟨(some (true, 2)), .mv (.l 18), none⟩])
.ret))))
def K38 : List Nat := [0, 10, 2, 1, 3, 7, 8, 9, 5]
noncomputable def b38 : Code := match Tryd.f38.body with | some c => c | none => .skip
theorem t38 : trCode ⟨Tryd.prog, K38, [], 19, none⟩ b38 = some c38 := by kernel_rfl
theorem go38 {args : List AV} {H : AHeap} {Kk : AV → AHeap → Prop} (hn : args.length = 1) (h : AGo ⟨Tryd.prog, K38, [], 19, none⟩ H.length [.code c38] (RetP [.t (.g 2)] H.length Kk) ⟨[], argsG 0 args⟩ H) : ACalls Tryd.prog 38 args H Kk :=
  ACalls_of Tryd.func38 (c := b38) rfl (by kernel_rfl) t38 (rs := [.t (.g 2)]) (by kernel_rfl) (by rw [hn]; exact Nat.le_of_ble_eq_true rfl) (by rw [hn]; rfl) (h.weaken (fun _ _ => RetP.hands) (by simp))

/-- sastrugi/probe.groundOf -/
def c31 : ACode :=
  (.seq
(.reg [
  ⟨(some (true, 1)), .box (.g 0), none⟩,
  ⟨(some (true, 2)), .new [.slice none 0 0, .int .i64 0, .int .i64 0, .int .i64 0, .slice none 0 0, .slice none 0 0], none⟩])
(.seq
(.reg [
  ⟨(some (false, 7)), .ld (some 4) (.g 1), none⟩,
  ⟨(some (false, 8)), .mk [.slice none 0 0, .int .i64 0, .int .i64 0, .int .i64 0, .slice none 0 0, .slice none 0 0] [(0, 4, .l 7)], none⟩,
  ⟨(some (true, 3)), .new [.slice none 0 0, .int .i64 0, .int .i64 0, .int .i64 0, .slice none 0 0, .slice none 0 0], none⟩,
  ⟨none, .st 6 (.g 3) (.l 8), none⟩])
(.seq
(.reg [
  ⟨(some (true, 4)), .new [.int .i64 0], none⟩,
  ⟨none, .st 1 (.g 4) (.c (.lit (.int .i64 0))), none⟩])
(.seq
(.seq
(.reg [
  ⟨(some (false, 9)), .ld (some 4) (.g 1), none⟩,
  ⟨(some (true, 10)), .call (.c (.fn 54 [])) [.l 9], none⟩])
(.block 0
(.rng (.g 10) [11, 12]
(.reg [
  ⟨(some (true, 6)), .new [.int .i64 0, .int .i64 0, .int .i64 0, .int .i64 0, .int .i64 0], none⟩,
  ⟨none, .st 5 (.g 6) (.g 12), none⟩])
(.block 1
(.seq
(.draw [
  ⟨⟨(some (false, 13)), .fa (.g 3) 4, none⟩, 0, true, []⟩,
  ⟨⟨(some (false, 14)), .ld none (.l 13), none⟩, 1, true, []⟩,
  ⟨⟨(some (false, 15)), .ld none (.g 4), none⟩, 2, true, []⟩,
  ⟨⟨(some (false, 16)), .mks false 1 [.l 15], none⟩, 3, true, []⟩,
  ⟨⟨(some (false, 18)), .fa (.g 3) 5, none⟩, 5, true, []⟩,
  ⟨⟨(some (false, 19)), .ld none (.l 18), none⟩, 6, true, []⟩,
  ⟨⟨(some (false, 20)), .ld (some 5) (.g 6), none⟩, 7, false, []⟩,
  ⟨⟨(some (false, 21)), .mks false 5 [.l 20], none⟩, 8, true, []⟩,
  ⟨⟨(some (false, 17)), .app 1 8 (.l 14) (.l 16), none⟩, 4, false, []⟩,
  ⟨⟨(some (false, 23)), .fa (.g 3) 4, none⟩, 10, true, []⟩,
  ⟨⟨(some (false, 22)), .app 5 40 (.l 19) (.l 21), none⟩, 9, false, []⟩,
  ⟨⟨none, .st 1 (.l 23) (.l 17), none⟩, 11, false, []⟩,
  ⟨⟨(some (false, 24)), .fa (.g 3) 5, none⟩, 12, false, []⟩,
  ⟨⟨none, .st 1 (.l 24) (.l 22), none⟩, 13, true, []⟩])
(.reg [
  ⟨(some (false, 25)), .ld none (.g 4), none⟩,
  ⟨(some (false, 26)), .fa (.g 6) 1, none⟩,
  ⟨(some (false, 27)), .ld none (.l 26), none⟩,
  ⟨(some (false, 28)), .bin .add (.l 25) (.l 27), none⟩,
  ⟨none, .st 1 (.g 4) (.l 28), none⟩]))))))
(.seq
(.reg [
  ⟨(some (false, 29)), .ld (some 6) (.g 3), none⟩,
  ⟨none, .st 6 (.g 2) (.l 29), none⟩])
.ret)))))
def K31 : List Nat := [0, 10, 11, 12, 2, 1, 3, 4, 6]
noncomputable def b31 : Code := match Tryd.f31.body with | some c => c | none => .skip
theorem t31 : trCode ⟨Tryd.prog, K31, [], 30, none⟩ b31 = some c31 := by kernel_rfl
theorem go31 {args : List AV} {H : AHeap} {Kk : AV → AHeap → Prop} (hn : args.length = 1) (h : AGo ⟨Tryd.prog, K31, [], 30, none⟩ H.length [.code c31] (RetP [.cell (.g 2) (some 6)] H.length Kk) ⟨[], argsG 0 args⟩ H) : ACalls Tryd.prog 31 args H Kk :=
  ACalls_of Tryd.func31 (c := b31) rfl (by kernel_rfl) t31 (rs := [.cell (.g 2) (some 6)]) (by kernel_rfl) (by rw [hn]; exact Nat.le_of_ble_eq_true rfl) (by rw [hn]; rfl) (h.weaken (fun _ _ => RetP.hands) (by simp))

/-- sastrugi/probe.checkLooks -/
def c32 : ACode :=
  (.seq
(.reg [
  ⟨(some (true, 2)), .box (.g 0), none⟩,
  ⟨(some (true, 4)), .mv (.c (.lit (.int .i64 0))), none⟩])
(.seq
(.seq
(.reg [
  ⟨(some (false, 11)), .mv (.g 1), none⟩,
  ⟨(some (false, 12)), .len (.l 11), none⟩,
  ⟨(some (true, 13)), .bin .gtr (.l 12) (.c (.lit (.int .i64 200))), none⟩])
(.cond (.g 13)
(.seq
(.reg [
  ⟨(some (true, 4)), .mv (.c (.lit (.int .i64 8))), none⟩])
.ret)
.skip))
(.seq
(.seq
(.reg [
  ⟨(some (true, 14)), .mv (.g 1), none⟩,
  ⟨(some (true, 15)), .len (.g 14), none⟩,
  ⟨(some (true, 16)), .mv (.c (.lit (.int .i64 0))), none⟩])
(.block 0
(.loop
(.seq
(.reg [
  ⟨(some (true, 17)), .bin .lss (.g 16) (.g 15), none⟩])
(.seq
(.cond (.g 17)
.skip
(.exit 0))
(.seq
(.block 1
(.seq
(.reg [
  ⟨(some (false, 18)), .ia 5 (.g 14) (.g 16), none⟩,
  ⟨(some (false, 19)), .ld (some 5) (.l 18), none⟩,
  ⟨(some (true, 6)), .new [.int .i64 0, .int .i64 0, .int .i64 0, .int .i64 0, .int .i64 0], none⟩,
  ⟨none, .st 5 (.g 6) (.l 19), none⟩])
(.block 2
(.seq
(.reg [
  ⟨(some (false, 21)), .fa (.g 6) 0, none⟩,
  ⟨(some (false, 22)), .ld none (.l 21), none⟩,
  ⟨(some (false, 23)), .call (.c (.fn 16 [])) [.l 22, .c (.lit (.int .i64 1)), .c (.lit (.int .i64 3))], none⟩,
  ⟨(some (false, 24)), .un .not (.l 23), none⟩,
  ⟨(some (true, 20)), .mv (.l 24), none⟩])
(.cond (.g 20)
(.seq
(.reg [
  ⟨(some (true, 4)), .mv (.c (.lit (.int .i64 4))), none⟩])
.ret)
(.seq
(.reg [
  ⟨(some (false, 26)), .fa (.g 6) 1, none⟩,
  ⟨(some (false, 27)), .ld none (.l 26), none⟩,
  ⟨(some (false, 28)), .fa (.g 2) 5, none⟩,
  ⟨(some (false, 29)), .ld none (.l 28), none⟩,
  ⟨(some (false, 30)), .len (.l 29), none⟩,
  ⟨(some (false, 31)), .bin .sub (.l 30) (.c (.lit (.int .i64 1))), none⟩,
  ⟨(some (false, 32)), .call (.c (.fn 16 [])) [.l 27, .c (.lit (.int .i64 0)), .l 31], none⟩,
  ⟨(some (false, 33)), .un .not (.l 32), none⟩,
  ⟨(some (true, 25)), .mv (.l 33), none⟩])
(.cond (.g 25)
(.seq
(.reg [
  ⟨(some (true, 4)), .mv (.c (.lit (.int .i64 7))), none⟩])
.ret)
(.seq
(.reg [
  ⟨(some (false, 35)), .fa (.g 6) 2, none⟩,
  ⟨(some (false, 36)), .ld none (.l 35), none⟩,
  ⟨(some (false, 37)), .call (.c (.fn 16 [])) [.l 36, .c (.lit (.int .i64 0)), .c (.lit (.int .i64 10000))], none⟩,
  ⟨(some (false, 38)), .un .not (.l 37), none⟩,
  ⟨(some (false, 39)), .mv (.l 38), none⟩,
  ⟨(some (false, 40)), .fa (.g 6) 3, (some (.l 39, false))⟩,
  ⟨(some (false, 41)), .fa (.l 40) 0, (some (.l 39, false))⟩,
  ⟨(some (false, 42)), .ld none (.l 41), (some (.l 39, false))⟩,
  ⟨(some (false, 43)), .call (.c (.fn 16 [])) [.l 42, .c (.lit (.int .i64 0)), .c (.lit (.int .i64 3000))], (some (.l 39, false))⟩,
  ⟨(some (false, 44)), .un .not (.l 43), (some (.l 39, false))⟩,
  ⟨(some (false, 45)), .pick (.l 39) (.c (.lit (.bool true))) (.l 44), none⟩,
  ⟨(some (false, 46)), .mv (.l 45), none⟩,
  ⟨(some (false, 47)), .fa (.g 6) 3, (some (.l 46, false))⟩,
  ⟨(some (false, 48)), .fa (.l 47) 1, (some (.l 46, false))⟩,
  ⟨(some (false, 49)), .ld none (.l 48), (some (.l 46, false))⟩,
  ⟨(some (false, 50)), .call (.c (.fn 16 [])) [.l 49, .c (.lit (.int .i64 0)), .c (.lit (.int .i64 3000))], (some (.l 46, false))⟩,
  ⟨(some (false, 51)), .un .not (.l 50), (some (.l 46, false))⟩,
  ⟨(some (false, 52)), .pick (.l 46) (.c (.lit (.bool true))) (.l 51), none⟩,
  ⟨(some (true, 34)), .mv (.l 52), none⟩])
(.cond (.g 34)
(.seq
(.reg [
  ⟨(some (true, 4)), .mv (.c (.lit (.int .i64 2))), none⟩])
.ret)
(.seq
(.reg [
  ⟨(some (false, 54)), .fa (.g 6) 3, none⟩,
  ⟨(some (false, 55)), .fa (.l 54) 0, none⟩,
  ⟨(some (false, 56)), .ld none (.l 55), none⟩,
  ⟨(some (false, 57)), .fa (.g 6) 3, none⟩,
  ⟨(some (false, 58)), .fa (.l 57) 1, none⟩,
  ⟨(some (false, 59)), .ld none (.l 58), none⟩,
  ⟨(some (false, 60)), .bin .gtr (.l 56) (.l 59), none⟩,
  ⟨(some (true, 53)), .mv (.l 60), none⟩])
(.cond (.g 53)
(.seq
(.reg [
  ⟨(some (true, 4)), .mv (.c (.lit (.int .i64 11))), none⟩])
.ret)
.skip)))))))))))
(.reg [
  ⟨(some (false, 61)), .bin .add (.g 16) (.c (.lit (.int .i64 1))), none⟩,
  ⟨(some (true, 16)), .mv (.l 61), none⟩])))))))
(.seq
(.seq
(.reg [
  ⟨(some (true, 62)), .mv (.g 1), none⟩,
  ⟨(some (true, 63)), .len (.g 62), none⟩,
  ⟨(some (true, 64)), .mv (.c (.lit (.int .i64 0))), none⟩])
(.block 3
(.loop
(.seq
(.reg [
  ⟨(some (true, 65)), .bin .lss (.g 64) (.g 63), none⟩])
(.seq
(.cond (.g 65)
.skip
(.exit 3))
(.seq
(.block 4
(.seq
(.reg [
  ⟨(some (false, 66)), .ia 5 (.g 62) (.g 64), none⟩,
  ⟨(some (false, 67)), .ld (some 5) (.l 66), none⟩,
  ⟨(some (true, 8)), .new [.int .i64 0, .int .i64 0, .int .i64 0, .int .i64 0, .int .i64 0], none⟩,
  ⟨none, .st 5 (.g 8) (.l 67), none⟩])
(.seq
(.reg [
  ⟨(some (true, 68)), .mv (.g 1), none⟩,
  ⟨(some (true, 69)), .len (.g 68), none⟩,
  ⟨(some (true, 70)), .mv (.c (.lit (.int .i64 0))), none⟩])
(.block 5
(.loop
(.seq
(.reg [
  ⟨(some (true, 71)), .bin .lss (.g 70) (.g 69), none⟩])
(.seq
(.cond (.g 71)
.skip
(.exit 5))
(.seq
(.block 6
(.seq
(.reg [
  ⟨(some (false, 72)), .ia 5 (.g 68) (.g 70), none⟩,
  ⟨(some (false, 73)), .ld (some 5) (.l 72), none⟩,
  ⟨(some (true, 10)), .new [.int .i64 0, .int .i64 0, .int .i64 0, .int .i64 0, .int .i64 0], none⟩,
  ⟨none, .st 5 (.g 10) (.l 73), none⟩])
(.seq
(.draw [
  ⟨⟨(some (false, 74)), .fa (.g 10) 3, none⟩, 0, true, []⟩,
  ⟨⟨(some (false, 75)), .fa (.l 74) 0, none⟩, 1, true, []⟩,
  ⟨⟨(some (false, 76)), .ld none (.l 75), none⟩, 2, true, []⟩,
  ⟨⟨(some (false, 77)), .fa (.g 8) 3, none⟩, 3, true, []⟩,
  ⟨⟨(some (false, 78)), .fa (.l 77) 1, none⟩, 4, true, []⟩,
  ⟨⟨(some (false, 79)), .ld none (.l 78), none⟩, 5, true, []⟩,
  ⟨⟨(some (false, 80)), .ld (some 6) (.g 2), none⟩, 6, true, []⟩,
  ⟨⟨(some (false, 81)), .ld (some 5) (.g 8), none⟩, 7, true, []⟩,
  ⟨⟨(some (false, 82)), .fa (.g 10) 1, none⟩, 8, true, []⟩,
  ⟨⟨(some (false, 83)), .ld none (.l 82), none⟩, 9, true, []⟩,
  ⟨⟨(some (false, 84)), .fa (.g 10) 2, none⟩, 10, true, []⟩,
  ⟨⟨(some (false, 85)), .ld none (.l 84), none⟩, 11, true, []⟩,
  ⟨⟨(some (false, 86)), .call (.c (.fn 34 [])) [.l 80, .l 81, .l 83, .l 85], none⟩, 12, false, []⟩,
  ⟨⟨(some (false, 87)), .bin .add (.l 79) (.l 86), none⟩, 13, true, []⟩,
  ⟨⟨(some (true, 88)), .bin .gtr (.l 76) (.l 87), none⟩, 14, true, []⟩])
(.cond (.g 88)
(.seq
(.reg [
  ⟨(some (true, 4)), .mv (.c (.lit (.int .i64 12))), none⟩])
.ret)
.skip))))
(.reg [
  ⟨(some (false, 89)), .bin .add (.g 70) (.c (.lit (.int .i64 1))), none⟩,
  ⟨(some (true, 70)), .mv (.l 89), none⟩])))))))))
(.reg [
  ⟨(some (false, 90)), .bin .add (.g 64) (.c (.lit (.int .i64 1))), none⟩,
  ⟨(some (true, 64)), .mv (.l 90), none⟩])))))))
(.seq
(.reg [
  ⟨(some (true, 4)), .mv (.c (.lit (.int .i64 0))), none⟩])
.ret)))))
def K32 : List Nat := [0, 1, 13, 17, 20, 25, 34, 53, 65, 71, 88, 4, 2, 14, 15, 16, 6, 62, 63, 64, 8, 68, 69, 70, 10]
noncomputable def b32 : Code := match Tryd.f32.body with | some c => c | none => .skip
theorem t32 : trCode ⟨Tryd.prog, K32, [], 91, none⟩ b32 = some c32 := by kernel_rfl
theorem go32 {args : List AV} {H : AHeap} {Kk : AV → AHeap → Prop} (hn : args.length = 2) (h : AGo ⟨Tryd.prog, K32, [], 91, none⟩ H.length [.code c32] (RetP [.t (.g 4)] H.length Kk) ⟨[], argsG 0 args⟩ H) : ACalls Tryd.prog 32 args H Kk :=
  ACalls_of Tryd.func32 (c := b32) rfl (by kernel_rfl) t32 (rs := [.t (.g 4)]) (by kernel_rfl) (by rw [hn]; exact Nat.le_of_ble_eq_true rfl) (by rw [hn]; rfl) (h.weaken (fun _ _ => RetP.hands) (by simp))

/-- (sastrugi/probe.ground).below -/
def c33 : ACode :=
  (.seq
(.reg [
  ⟨(some (true, 4)), .box (.g 0), none⟩,
  ⟨(some (true, 5)), .box (.g 1), none⟩,
  ⟨(some (true, 8)), .mv (.c (.lit (.int .i64 0))), none⟩])
(.seq
(.seq
(.reg [
  ⟨(some (false, 9)), .mv (.g 3), none⟩,
  ⟨(some (false, 10)), .fa (.g 5) 2, none⟩,
  ⟨(some (false, 11)), .ld none (.l 10), none⟩,
  ⟨(some (true, 12)), .bin .geq (.l 9) (.l 11), none⟩])
(.cond (.g 12)
(.seq
(.reg [
  ⟨(some (false, 13)), .ld (some 6) (.g 4), none⟩,
  ⟨(some (false, 14)), .fa (.g 5) 1, none⟩,
  ⟨(some (false, 15)), .ld none (.l 14), none⟩,
  ⟨(some (false, 16)), .mv (.g 2), none⟩,
  ⟨(some (false, 17)), .mv (.g 3), none⟩,
  ⟨(some (false, 18)), .fa (.g 5) 2, none⟩,
  ⟨(some (false, 19)), .ld none (.l 18), none⟩,
  ⟨(some (false, 20)), .bin .sub (.l 17) (.l 19), none⟩,
  ⟨(some (false, 21)), .call (.c (.fn 55 [])) [.l 13, .l 15, .l 16, .l 20, .c (.fn 56 [])], none⟩,
  ⟨(some (true, 8)), .mv (.l 21), none⟩])
.ret)
.skip))
(.seq
(.reg [
  ⟨(some (false, 22)), .ld (some 6) (.g 4), none⟩,
  ⟨(some (false, 23)), .fa (.g 5) 1, none⟩,
  ⟨(some (false, 24)), .ld none (.l 23), none⟩,
  ⟨(some (false, 25)), .mv (.g 2), none⟩,
  ⟨(some (false, 26)), .fa (.g 5) 2, none⟩,
  ⟨(some (false, 27)), .ld none (.l 26), none⟩,
  ⟨(some (false, 28)), .mv (.g 3), none⟩,
  ⟨(some (false, 29)), .bin .sub (.l 27) (.l 28), none⟩,
  ⟨(some (false, 30)), .call (.c (.fn 55 [])) [.l 22, .l 24, .l 25, .l 29, .c (.fn 57 [])], none⟩,
  ⟨(some (true, 8)), .mv (.l 30), none⟩])
.ret)))
def K33 : List Nat := [0, 1, 2, 3, 12, 8, 4, 5]
noncomputable def b33 : Code := match Tryd.f33.body with | some c => c | none => .skip
theorem t33 : trCode ⟨Tryd.prog, K33, [], 31, none⟩ b33 = some c33 := by kernel_rfl
theorem go33 {args : List AV} {H : AHeap} {Kk : AV → AHeap → Prop} (hn : args.length = 4) (h : AGo ⟨Tryd.prog, K33, [], 31, none⟩ H.length [.code c33] (RetP [.t (.g 8)] H.length Kk) ⟨[], argsG 0 args⟩ H) : ACalls Tryd.prog 33 args H Kk :=
  ACalls_of Tryd.func33 (c := b33) rfl (by kernel_rfl) t33 (rs := [.t (.g 8)]) (by kernel_rfl) (by rw [hn]; exact Nat.le_of_ble_eq_true rfl) (by rw [hn]; rfl) (h.weaken (fun _ _ => RetP.hands) (by simp))

/-- (sastrugi/probe.ground).above -/
def c34 : ACode :=
  (.seq
(.reg [
  ⟨(some (true, 4)), .box (.g 0), none⟩,
  ⟨(some (true, 5)), .box (.g 1), none⟩,
  ⟨(some (true, 8)), .mv (.c (.lit (.int .i64 0))), none⟩])
(.seq
(.seq
(.reg [
  ⟨(some (false, 9)), .mv (.g 3), none⟩,
  ⟨(some (false, 10)), .fa (.g 5) 2, none⟩,
  ⟨(some (false, 11)), .ld none (.l 10), none⟩,
  ⟨(some (true, 12)), .bin .geq (.l 9) (.l 11), none⟩])
(.cond (.g 12)
(.seq
(.reg [
  ⟨(some (false, 13)), .ld (some 6) (.g 4), none⟩,
  ⟨(some (false, 14)), .fa (.g 5) 1, none⟩,
  ⟨(some (false, 15)), .ld none (.l 14), none⟩,
  ⟨(some (false, 16)), .mv (.g 2), none⟩,
  ⟨(some (false, 17)), .mv (.g 3), none⟩,
  ⟨(some (false, 18)), .fa (.g 5) 2, none⟩,
  ⟨(some (false, 19)), .ld none (.l 18), none⟩,
  ⟨(some (false, 20)), .bin .sub (.l 17) (.l 19), none⟩,
  ⟨(some (false, 21)), .call (.c (.fn 55 [])) [.l 13, .l 15, .l 16, .l 20, .c (.fn 57 [])], none⟩,
  ⟨(some (true, 8)), .mv (.l 21), none⟩])
.ret)
.skip))
(.seq
(.reg [
  ⟨(some (false, 22)), .ld (some 6) (.g 4), none⟩,
  ⟨(some (false, 23)), .fa (.g 5) 1, none⟩,
  ⟨(some (false, 24)), .ld none (.l 23), none⟩,
  ⟨(some (false, 25)), .mv (.g 2), none⟩,
  ⟨(some (false, 26)), .fa (.g 5) 2, none⟩,
  ⟨(some (false, 27)), .ld none (.l 26), none⟩,
  ⟨(some (false, 28)), .mv (.g 3), none⟩,
  ⟨(some (false, 29)), .bin .sub (.l 27) (.l 28), none⟩,
  ⟨(some (false, 30)), .call (.c (.fn 55 [])) [.l 22, .l 24, .l 25, .l 29, .c (.fn 56 [])], none⟩,
  ⟨(some (true, 8)), .mv (.l 30), none⟩])
.ret)))
def K34 : List Nat := [0, 1, 2, 3, 12, 8, 4, 5]
noncomputable def b34 : Code := match Tryd.f34.body with | some c => c | none => .skip
theorem t34 : trCode ⟨Tryd.prog, K34, [], 31, none⟩ b34 = some c34 := by kernel_rfl
theorem go34 {args : List AV} {H : AHeap} {Kk : AV → AHeap → Prop} (hn : args.length = 4) (h : AGo ⟨Tryd.prog, K34, [], 31, none⟩ H.length [.code c34] (RetP [.t (.g 8)] H.length Kk) ⟨[], argsG 0 args⟩ H) : ACalls Tryd.prog 34 args H Kk :=
  ACalls_of Tryd.func34 (c := b34) rfl (by kernel_rfl) t34 (rs := [.t (.g 8)]) (by kernel_rfl) (by rw [hn]; exact Nat.le_of_ble_eq_true rfl) (by rw [hn]; rfl) (h.weaken (fun _ _ => RetP.hands) (by simp))

/-- sastrugi/probe.road -/
def c54 : ACode :=
  (.seq
(.reg [
  ⟨(some (true, 1)), .box (.g 0), none⟩,
  ⟨(some (true, 2)), .mv (.c (.lit (.nilFunc))), none⟩])
(.seq
(.reg [
  ⟨(some (false, 3)), .mkf 64 [.g 1], none⟩,
  ⟨(some (true, 2)), .mv (.l 3), none⟩])
.ret))
def K54 : List Nat := [0, 2, 1]
noncomputable def b54 : Code := match Tryd.f54.body with | some c => c | none => .skip
theorem t54 : trCode ⟨Tryd.prog, K54, [], 4, none⟩ b54 = some c54 := by kernel_rfl
theorem go54 {args : List AV} {H : AHeap} {Kk : AV → AHeap → Prop} (hn : args.length = 1) (h : AGo ⟨Tryd.prog, K54, [], 4, none⟩ H.length [.code c54] (RetP [.t (.g 2)] H.length Kk) ⟨[], argsG 0 args⟩ H) : ACalls Tryd.prog 54 args H Kk :=
  ACalls_of Tryd.func54 (c := b54) rfl (by kernel_rfl) t54 (rs := [.t (.g 2)]) (by kernel_rfl) (by rw [hn]; exact Nat.le_of_ble_eq_true rfl) (by rw [hn]; rfl) (h.weaken (fun _ _ => RetP.hands) (by simp))

/-- (sastrugi/probe.ground).cost -/
def c55 : ACode :=
  (.seq
(.reg [
  ⟨(some (true, 5)), .box (.g 0), none⟩,
  ⟨(some (true, 6)), .box (.g 1), none⟩,
  ⟨(some (true, 7)), .box (.g 2), none⟩,
  ⟨(some (true, 8)), .box (.g 3), none⟩,
  ⟨(some (true, 9)), .box (.g 4), none⟩,
  ⟨(some (true, 10)), .mv (.c (.lit (.int .i64 0))), none⟩])
(.seq
(.reg [
  ⟨(some (false, 17)), .ld none (.g 6), none⟩,
  ⟨(some (false, 18)), .ld none (.g 7), none⟩,
  ⟨(some (false, 19)), .mn [.l 17, .l 18], none⟩,
  ⟨(some (true, 11)), .mv (.l 19), none⟩])
(.seq
(.reg [
  ⟨(some (false, 20)), .mkf 65 [.g 5, .g 6, .g 7, .g 8, .g 9], none⟩,
  ⟨(some (true, 12)), .mv (.l 20), none⟩])
(.seq
(.reg [
  ⟨(some (false, 21)), .mv (.g 12), none⟩,
  ⟨(some (false, 22)), .ld none (.g 6), none⟩,
  ⟨(some (false, 23)), .call (.l 21) [.l 22], none⟩,
  ⟨(some (true, 13)), .mv (.l 23), none⟩])
(.seq
(.reg [
  ⟨(some (true, 14)), .mv (.c (.lit (.int .i64 0))), none⟩])
(.seq
(.seq
(.reg [
  ⟨(some (false, 24)), .fa (.g 5) 0, none⟩,
  ⟨(some (false, 25)), .fa (.l 24) 0, none⟩,
  ⟨(some (true, 26)), .ld none (.l 25), none⟩,
  ⟨(some (true, 27)), .len (.g 26), none⟩,
  ⟨(some (true, 28)), .mv (.c (.lit (.int .i64 0))), none⟩])
(.block 0
(.loop
(.seq
(.reg [
  ⟨(some (true, 29)), .bin .lss (.g 28) (.g 27), none⟩])
(.seq
(.cond (.g 29)
.skip
(.exit 0))
(.seq
(.block 1
(.seq
(.reg [
  ⟨(some (false, 30)), .ia 5 (.g 26) (.g 28), none⟩,
  ⟨(some (false, 31)), .ld (some 5) (.l 30), none⟩,
  ⟨(some (true, 16)), .new [.int .i64 0, .int .i64 0, .int .i64 0, .int .i64 0, .int .i64 0], none⟩,
  ⟨none, .st 5 (.g 16) (.l 31), none⟩])
(.seq
(.reg [
  ⟨(some (false, 32)), .mv (.g 13), none⟩,
  ⟨(some (false, 33)), .mv (.g 12), none⟩,
  ⟨(some (false, 34)), .mv (.g 11), none⟩,
  ⟨(some (false, 35)), .mv (.g 14), none⟩,
  ⟨(some (false, 36)), .mx [.l 34, .l 35], none⟩,
  ⟨(some (false, 37)), .mv (.g 14), none⟩,
  ⟨(some (false, 38)), .fa (.g 16) 0, none⟩,
  ⟨(some (false, 39)), .ld none (.l 38), none⟩,
  ⟨(some (false, 40)), .bin .add (.l 37) (.l 39), none⟩,
  ⟨(some (false, 41)), .bin .sub (.l 40) (.c (.lit (.int .i64 1))), none⟩,
  ⟨(some (false, 42)), .mn [.l 36, .l 41], none⟩,
  ⟨(some (false, 43)), .call (.l 33) [.l 42], none⟩,
  ⟨(some (false, 44)), .mn [.l 32, .l 43], none⟩,
  ⟨(some (true, 13)), .mv (.l 44), none⟩])
(.reg [
  ⟨(some (false, 45)), .mv (.g 14), none⟩,
  ⟨(some (false, 46)), .fa (.g 16) 0, none⟩,
  ⟨(some (false, 47)), .ld none (.l 46), none⟩,
  ⟨(some (false, 48)), .bin .add (.l 45) (.l 47), none⟩,
  ⟨(some (true, 14)), .mv (.l 48), none⟩]))))
(.reg [
  ⟨(some (false, 49)), .bin .add (.g 28) (.c (.lit (.int .i64 1))), none⟩,
  ⟨(some (true, 28)), .mv (.l 49), none⟩])))))))
(.seq
(.reg [
  ⟨(some (false, 50)), .mv (.g 13), none⟩,
  ⟨(some (true, 10)), .mv (.l 50), none⟩])
.ret)))))))
def K55 : List Nat := [0, 1, 2, 3, 4, 29, 10, 5, 6, 7, 8, 9, 11, 12, 13, 14, 26, 27, 28, 16]
noncomputable def b55 : Code := match Tryd.f55.body with | some c => c | none => .skip
theorem t55 : trCode ⟨Tryd.prog, K55, [], 51, none⟩ b55 = some c55 := by kernel_rfl
theorem go55 {args : List AV} {H : AHeap} {Kk : AV → AHeap → Prop} (hn : args.length = 5) (h : AGo ⟨Tryd.prog, K55, [], 51, none⟩ H.length [.code c55] (RetP [.t (.g 10)] H.length Kk) ⟨[], argsG 0 args⟩ H) : ACalls Tryd.prog 55 args H Kk :=
  ACalls_of Tryd.func55 (c := b55) rfl (by kernel_rfl) t55 (rs := [.t (.g 10)]) (by kernel_rfl) (by rw [hn]; exact Nat.le_of_ble_eq_true rfl) (by rw [hn]; rfl) (h.weaken (fun _ _ => RetP.hands) (by simp))

/-- sastrugi/probe.thin -/
def c56 : ACode :=
  (.seq
(.reg [
  ⟨(some (true, 1)), .box (.g 0), none⟩,
  ⟨(some (true, 2)), .mv (.c (.lit (.int .i64 0))), none⟩])
(.seq
(.reg [
  ⟨(some (false, 3)), .fa (.g 1) 2, none⟩,
  ⟨(some (false, 4)), .ld none (.l 3), none⟩,
  ⟨(some (true, 2)), .mv (.l 4), none⟩])
.ret))
def K56 : List Nat := [0, 2, 1]
noncomputable def b56 : Code := match Tryd.f56.body with | some c => c | none => .skip
theorem t56 : trCode ⟨Tryd.prog, K56, [], 5, none⟩ b56 = some c56 := by kernel_rfl
theorem go56 {args : List AV} {H : AHeap} {Kk : AV → AHeap → Prop} (hn : args.length = 1) (h : AGo ⟨Tryd.prog, K56, [], 5, none⟩ H.length [.code c56] (RetP [.t (.g 2)] H.length Kk) ⟨[], argsG 0 args⟩ H) : ACalls Tryd.prog 56 args H Kk :=
  ACalls_of Tryd.func56 (c := b56) rfl (by kernel_rfl) t56 (rs := [.t (.g 2)]) (by kernel_rfl) (by rw [hn]; exact Nat.le_of_ble_eq_true rfl) (by rw [hn]; rfl) (h.weaken (fun _ _ => RetP.hands) (by simp))

/-- sastrugi/probe.grow -/
def c57 : ACode :=
  (.seq
(.reg [
  ⟨(some (true, 1)), .box (.g 0), none⟩,
  ⟨(some (true, 2)), .mv (.c (.lit (.int .i64 0))), none⟩])
(.seq
(.reg [
  ⟨(some (false, 3)), .fa (.g 1) 3, none⟩,
  ⟨(some (false, 4)), .ld none (.l 3), none⟩,
  ⟨(some (true, 2)), .mv (.l 4), none⟩])
.ret))
def K57 : List Nat := [0, 2, 1]
noncomputable def b57 : Code := match Tryd.f57.body with | some c => c | none => .skip
theorem t57 : trCode ⟨Tryd.prog, K57, [], 5, none⟩ b57 = some c57 := by kernel_rfl
theorem go57 {args : List AV} {H : AHeap} {Kk : AV → AHeap → Prop} (hn : args.length = 1) (h : AGo ⟨Tryd.prog, K57, [], 5, none⟩ H.length [.code c57] (RetP [.t (.g 2)] H.length Kk) ⟨[], argsG 0 args⟩ H) : ACalls Tryd.prog 57 args H Kk :=
  ACalls_of Tryd.func57 (c := b57) rfl (by kernel_rfl) t57 (rs := [.t (.g 2)]) (by kernel_rfl) (by rw [hn]; exact Nat.le_of_ble_eq_true rfl) (by rw [hn]; rfl) (h.weaken (fun _ _ => RetP.hands) (by simp))

/-- sastrugi/probe.road$1 -/
def c64 : ACode :=
  (.seq
(.reg [
  ⟨(some (true, 3)), .mv (.c (.lit (.int .i64 0))), none⟩])
(.seq
(.reg [
  ⟨(some (false, 6)), .fa (.g 1) 0, none⟩,
  ⟨(some (true, 7)), .ld none (.l 6), none⟩,
  ⟨(some (true, 8)), .len (.g 7), none⟩,
  ⟨(some (true, 9)), .mv (.c (.lit (.int .i64 0))), none⟩])
(.block 0
(.loop
(.seq
(.reg [
  ⟨(some (true, 10)), .bin .lss (.g 9) (.g 8), none⟩])
(.seq
(.cond (.g 10)
.skip
(.exit 0))
(.seq
(.block 1
(.seq
(.reg [
  ⟨(some (false, 11)), .ia 5 (.g 7) (.g 9), none⟩,
  ⟨(some (false, 12)), .ld (some 5) (.l 11), none⟩,
  ⟨(some (true, 5)), .new [.int .i64 0, .int .i64 0, .int .i64 0, .int .i64 0, .int .i64 0], none⟩,
  ⟨none, .st 5 (.g 5) (.l 12), none⟩])
(.seq
(.reg [
  ⟨(some (false, 13)), .fa (.g 5) 0, none⟩,
  ⟨(some (true, 14)), .ld none (.l 13), none⟩,
  ⟨(some (true, 15)), .mv (.c (.lit (.int .i64 0))), none⟩])
(.block 2
(.loop
(.seq
(.reg [
  ⟨(some (true, 16)), .bin .lss (.g 15) (.g 14), none⟩])
(.seq
(.cond (.g 16)
.skip
(.exit 2))
(.seq
(.block 3
(.seq
(.seq
(.reg [
  ⟨(some (false, 17)), .mv (.g 0), none⟩,
  ⟨(some (false, 18)), .mv (.g 3), none⟩,
  ⟨(some (false, 19)), .ld (some 5) (.g 5), none⟩,
  ⟨(some (false, 20)), .call (.l 17) [.l 18, .l 19], none⟩,
  ⟨(some (true, 21)), .un .not (.l 20), none⟩])
(.cond (.g 21)
.ret
.skip))
(.reg [
  ⟨(some (false, 22)), .mv (.g 3), none⟩,
  ⟨(some (false, 23)), .bin .add (.l 22) (.c (.lit (.int .i64 1))), none⟩,
  ⟨(some (true, 3)), .mv (.l 23), none⟩])))
(.reg [
  ⟨(some (false, 24)), .bin .add (.g 15) (.c (.lit (.int .i64 1))), none⟩,
  ⟨(some (true, 15)), .mv (.l 24), none⟩])))))))))
(.reg [
  ⟨(some (false, 25)), .bin .add (.g 9) (.c (.lit (.int .i64 1))), none⟩,
  ⟨(some (true, 9)), .mv (.l 25), none⟩]))))))))
def K64 : List Nat := [0, 1, 10, 16, 21, 3, 7, 8, 9, 5, 14, 15]
noncomputable def b64 : Code := match Tryd.f64.body with | some c => c | none => .skip
theorem t64 : trCode ⟨Tryd.prog, K64, [], 26, none⟩ b64 = some c64 := by kernel_rfl
theorem go64 {args : List AV} {H : AHeap} {Kk : AV → AHeap → Prop} (hn : args.length = 2) (h : AGo ⟨Tryd.prog, K64, [], 26, none⟩ H.length [.code c64] (RetP [] H.length Kk) ⟨[], argsG 0 args⟩ H) : ACalls Tryd.prog 64 args H Kk :=
  ACalls_of Tryd.func64 (c := b64) rfl (by kernel_rfl) t64 (rs := []) (by kernel_rfl) (by rw [hn]; exact Nat.le_of_ble_eq_true rfl) (by rw [hn]; rfl) (h.weaken (fun _ _ => RetP.hands) (by simp))

/-- (sastrugi/probe.ground).cost$1 -/
def c65 : ACode :=
  (.seq
(.reg [
  ⟨(some (true, 7)), .mv (.c (.lit (.int .i64 0))), none⟩])
(.seq
(.draw [
  ⟨⟨(some (false, 8)), .ld (some 6) (.g 1), none⟩, 0, true, []⟩,
  ⟨⟨(some (false, 9)), .ld none (.g 2), none⟩, 1, true, []⟩,
  ⟨⟨(some (false, 10)), .mv (.g 0), none⟩, 2, true, []⟩,
  ⟨⟨(some (false, 12)), .ld (some 6) (.g 1), none⟩, 4, true, []⟩,
  ⟨⟨(some (false, 13)), .mv (.g 0), none⟩, 5, true, []⟩,
  ⟨⟨(some (false, 14)), .ld none (.g 3), none⟩, 6, true, []⟩,
  ⟨⟨(some (false, 17)), .ld none (.g 4), none⟩, 9, true, []⟩,
  ⟨⟨(some (false, 18)), .ld none (.g 5), none⟩, 10, true, []⟩,
  ⟨⟨(some (false, 19)), .fa (.g 1) 5, none⟩, 11, true, []⟩,
  ⟨⟨(some (false, 20)), .ld none (.l 19), none⟩, 12, true, []⟩,
  ⟨⟨(some (false, 21)), .mv (.g 0), none⟩, 13, true, []⟩,
  ⟨⟨(some (false, 22)), .ia 5 (.l 20) (.l 21), none⟩, 14, true, []⟩,
  ⟨⟨(some (false, 23)), .ld (some 5) (.l 22), none⟩, 15, true, []⟩,
  ⟨⟨(some (false, 11)), .call (.c (.fn 66 [])) [.l 8, .l 9, .l 10], none⟩, 3, false, []⟩,
  ⟨⟨(some (false, 15)), .call (.c (.fn 66 [])) [.l 12, .l 13, .l 14], none⟩, 7, false, []⟩,
  ⟨⟨(some (false, 16)), .bin .add (.l 11) (.l 15), none⟩, 8, true, []⟩,
  ⟨⟨(some (false, 24)), .call (.l 18) [.l 23], none⟩, 16, false, []⟩,
  ⟨⟨(some (false, 25)), .bin .mul (.l 17) (.l 24), none⟩, 17, true, []⟩,
  ⟨⟨(some (false, 26)), .bin .add (.l 16) (.l 25), none⟩, 18, true, []⟩,
  ⟨⟨(some (true, 7)), .mv (.l 26), none⟩, 19, true, []⟩])
.ret))
def K65 : List Nat := [0, 1, 2, 3, 4, 5, 7]
noncomputable def b65 : Code := match Tryd.f65.body with | some c => c | none => .skip
theorem t65 : trCode ⟨Tryd.prog, K65, [], 27, none⟩ b65 = some c65 := by kernel_rfl
theorem go65 {args : List AV} {H : AHeap} {Kk : AV → AHeap → Prop} (hn : args.length = 6) (h : AGo ⟨Tryd.prog, K65, [], 27, none⟩ H.length [.code c65] (RetP [.t (.g 7)] H.length Kk) ⟨[], argsG 0 args⟩ H) : ACalls Tryd.prog 65 args H Kk :=
  ACalls_of Tryd.func65 (c := b65) rfl (by kernel_rfl) t65 (rs := [.t (.g 7)]) (by kernel_rfl) (by rw [hn]; exact Nat.le_of_ble_eq_true rfl) (by rw [hn]; rfl) (h.weaken (fun _ _ => RetP.hands) (by simp))

/-- (sastrugi/probe.ground).apart -/
def c66 : ACode :=
  (.seq
(.reg [
  ⟨(some (true, 3)), .box (.g 0), none⟩,
  ⟨(some (true, 6)), .mv (.c (.lit (.int .i64 0))), none⟩])
(.seq
(.draw [
  ⟨⟨(some (false, 7)), .fa (.g 3) 4, none⟩, 0, true, []⟩,
  ⟨⟨(some (false, 8)), .ld none (.l 7), none⟩, 1, true, []⟩,
  ⟨⟨(some (false, 9)), .mv (.g 1), none⟩, 2, true, []⟩,
  ⟨⟨(some (false, 10)), .ia 1 (.l 8) (.l 9), none⟩, 3, true, []⟩,
  ⟨⟨(some (false, 11)), .ld none (.l 10), none⟩, 4, true, []⟩,
  ⟨⟨(some (false, 12)), .fa (.g 3) 4, none⟩, 5, true, []⟩,
  ⟨⟨(some (false, 13)), .ld none (.l 12), none⟩, 6, true, []⟩,
  ⟨⟨(some (false, 14)), .mv (.g 2), none⟩, 7, true, []⟩,
  ⟨⟨(some (false, 15)), .ia 1 (.l 13) (.l 14), none⟩, 8, true, []⟩,
  ⟨⟨(some (false, 16)), .ld none (.l 15), none⟩, 9, true, []⟩,
  ⟨⟨(some (false, 17)), .bin .sub (.l 11) (.l 16), none⟩, 10, true, []⟩,
  ⟨⟨(some (false, 18)), .fa (.g 3) 4, none⟩, 11, true, []⟩,
  ⟨⟨(some (false, 19)), .ld none (.l 18), none⟩, 12, true, []⟩,
  ⟨⟨(some (false, 20)), .mv (.g 2), none⟩, 13, true, []⟩,
  ⟨⟨(some (false, 21)), .ia 1 (.l 19) (.l 20), none⟩, 14, true, []⟩,
  ⟨⟨(some (false, 22)), .ld none (.l 21), none⟩, 15, true, []⟩,
  ⟨⟨(some (false, 23)), .fa (.g 3) 4, none⟩, 16, true, []⟩,
  ⟨⟨(some (false, 24)), .ld none (.l 23), none⟩, 17, true, []⟩,
  ⟨⟨(some (false, 25)), .mv (.g 1), none⟩, 18, true, []⟩,
  ⟨⟨(some (false, 26)), .ia 1 (.l 24) (.l 25), none⟩, 19, true, []⟩,
  ⟨⟨(some (false, 27)), .ld none (.l 26), none⟩, 20, true, []⟩,
  ⟨⟨(some (false, 28)), .bin .sub (.l 22) (.l 27), none⟩, 21, true, []⟩,
  ⟨⟨(some (false, 29)), .mx [.l 17, .l 28], none⟩, 22, true, []⟩,
  ⟨⟨(some (true, 6)), .mv (.l 29), none⟩, 23, true, []⟩])
.ret))
def K66 : List Nat := [0, 1, 2, 6, 3]
noncomputable def b66 : Code := match Tryd.f66.body with | some c => c | none => .skip
theorem t66 : trCode ⟨Tryd.prog, K66, [], 30, none⟩ b66 = some c66 := by kernel_rfl
theorem go66 {args : List AV} {H : AHeap} {Kk : AV → AHeap → Prop} (hn : args.length = 3) (h : AGo ⟨Tryd.prog, K66, [], 30, none⟩ H.length [.code c66] (RetP [.t (.g 6)] H.length Kk) ⟨[], argsG 0 args⟩ H) : ACalls Tryd.prog 66 args H Kk :=
  ACalls_of Tryd.func66 (c := b66) rfl (by kernel_rfl) t66 (rs := [.t (.g 6)]) (by kernel_rfl) (by rw [hn]; exact Nat.le_of_ble_eq_true rfl) (by rw [hn]; rfl) (h.weaken (fun _ _ => RetP.hands) (by simp))

/-- (sastrugi/probe.ground).known -/
def c17 : ACode :=
  (.seq
(.reg [
  ⟨(some (true, 4)), .box (.g 0), none⟩,
  ⟨(some (true, 8)), .new [.int .i64 0, .int .i64 0], none⟩])
(.seq
(.reg [
  ⟨(some (false, 12)), .mk [.int .i64 0, .int .i64 0] [(1, 1, .c (.lit (.int .i64 3000)))], none⟩,
  ⟨(some (true, 9)), .new [.int .i64 0, .int .i64 0], none⟩,
  ⟨none, .st 2 (.g 9) (.l 12), none⟩])
(.seq
(.seq
(.reg [
  ⟨(some (true, 13)), .mv (.g 1), none⟩,
  ⟨(some (true, 14)), .len (.g 13), none⟩,
  ⟨(some (true, 15)), .mv (.c (.lit (.int .i64 0))), none⟩])
(.block 0
(.loop
(.seq
(.reg [
  ⟨(some (true, 16)), .bin .lss (.g 15) (.g 14), none⟩])
(.seq
(.cond (.g 16)
.skip
(.exit 0))
(.seq
(.block 1
(.seq
(.reg [
  ⟨(some (false, 17)), .ia 5 (.g 13) (.g 15), none⟩,
  ⟨(some (false, 18)), .ld (some 5) (.l 17), none⟩,
  ⟨(some (true, 11)), .new [.int .i64 0, .int .i64 0, .int .i64 0, .int .i64 0, .int .i64 0], none⟩,
  ⟨none, .st 5 (.g 11) (.l 18), none⟩])
(.seq
(.draw [
  ⟨⟨(some (false, 19)), .fa (.g 9) 0, none⟩, 0, true, []⟩,
  ⟨⟨(some (false, 20)), .ld none (.l 19), none⟩, 1, true, []⟩,
  ⟨⟨(some (false, 21)), .fa (.g 11) 3, none⟩, 2, true, []⟩,
  ⟨⟨(some (false, 22)), .fa (.l 21) 0, none⟩, 3, true, []⟩,
  ⟨⟨(some (false, 23)), .ld none (.l 22), none⟩, 4, true, []⟩,
  ⟨⟨(some (false, 24)), .ld (some 6) (.g 4), none⟩, 5, true, []⟩,
  ⟨⟨(some (false, 25)), .ld (some 5) (.g 11), none⟩, 6, true, []⟩,
  ⟨⟨(some (false, 26)), .mv (.g 2), none⟩, 7, true, []⟩,
  ⟨⟨(some (false, 27)), .mv (.g 3), none⟩, 8, true, []⟩,
  ⟨⟨(some (false, 28)), .call (.c (.fn 33 [])) [.l 24, .l 25, .l 26, .l 27], none⟩, 9, false, []⟩,
  ⟨⟨(some (false, 29)), .bin .sub (.l 23) (.l 28), none⟩, 10, true, []⟩,
  ⟨⟨(some (false, 30)), .mx [.l 20, .l 29], none⟩, 11, true, []⟩,
  ⟨⟨(some (false, 31)), .fa (.g 9) 0, none⟩, 12, true, []⟩,
  ⟨⟨none, .st 1 (.l 31) (.l 30), none⟩, 13, true, []⟩])
(.draw [
  ⟨⟨(some (false, 32)), .fa (.g 9) 1, none⟩, 0, true, []⟩,
  ⟨⟨(some (false, 33)), .ld none (.l 32), none⟩, 1, true, []⟩,
  ⟨⟨(some (false, 34)), .fa (.g 11) 3, none⟩, 2, true, []⟩,
  ⟨⟨(some (false, 35)), .fa (.l 34) 1, none⟩, 3, true, []⟩,
  ⟨⟨(some (false, 36)), .ld none (.l 35), none⟩, 4, true, []⟩,
  ⟨⟨(some (false, 37)), .ld (some 6) (.g 4), none⟩, 5, true, []⟩,
  ⟨⟨(some (false, 38)), .ld (some 5) (.g 11), none⟩, 6, true, []⟩,
  ⟨⟨(some (false, 39)), .mv (.g 2), none⟩, 7, true, []⟩,
  ⟨⟨(some (false, 40)), .mv (.g 3), none⟩, 8, true, []⟩,
  ⟨⟨(some (false, 41)), .call (.c (.fn 34 [])) [.l 37, .l 38, .l 39, .l 40], none⟩, 9, false, []⟩,
  ⟨⟨(some (false, 42)), .bin .add (.l 36) (.l 41), none⟩, 10, true, []⟩,
  ⟨⟨(some (false, 43)), .mn [.l 33, .l 42], none⟩, 11, true, []⟩,
  ⟨⟨(some (false, 44)), .fa (.g 9) 1, none⟩, 12, true, []⟩,
  ⟨⟨none, .st 1 (.l 44) (.l 43), none⟩, 13, true, []⟩]))))
(.reg [
  ⟨(some (false, 45)), .bin .add (.g 15) (.c (.lit (.int .i64 1))), none⟩,
  ⟨(some (true, 15)), .mv (.l 45), none⟩])))))))
(.seq
(.reg [
  ⟨(some (false, 46)), .ld (some 2) (.g 9), none⟩,
  ⟨none, .st 2 (.g 8) (.l 46), none⟩])
.ret))))
def K17 : List Nat := [0, 1, 2, 3, 16, 8, 4, 9, 13, 14, 15, 11]
noncomputable def b17 : Code := match Tryd.f17.body with | some c => c | none => .skip
theorem t17 : trCode ⟨Tryd.prog, K17, [], 47, none⟩ b17 = some c17 := by kernel_rfl
theorem go17 {args : List AV} {H : AHeap} {Kk : AV → AHeap → Prop} (hn : args.length = 4) (h : AGo ⟨Tryd.prog, K17, [], 47, none⟩ H.length [.code c17] (RetP [.cell (.g 8) (some 2)] H.length Kk) ⟨[], argsG 0 args⟩ H) : ACalls Tryd.prog 17 args H Kk :=
  ACalls_of Tryd.func17 (c := b17) rfl (by kernel_rfl) t17 (rs := [.cell (.g 8) (some 2)]) (by kernel_rfl) (by rw [hn]; exact Nat.le_of_ble_eq_true rfl) (by rw [hn]; rfl) (h.weaken (fun _ _ => RetP.hands) (by simp))

/-- sastrugi/probe.Known -/
def c5 : ACode :=
  (.seq
(.reg [
  ⟨(some (true, 4)), .box (.g 0), none⟩,
  ⟨(some (true, 8)), .new [.int .i64 0, .int .i64 0], none⟩,
  ⟨(some (true, 9)), .mv (.c (.lit (.int .i64 0))), none⟩])
(.seq
(.reg [
  ⟨(some (false, 13)), .ld (some 4) (.g 4), none⟩,
  ⟨(some (false, 14)), .mv (.g 1), none⟩,
  ⟨(some (false, 15)), .call (.c (.fn 15 [])) [.l 13, .l 14], none⟩,
  ⟨(some (false, 12)), .mv (.l 15), none⟩,
  ⟨(some (false, 16)), .ex (.l 12) 0, none⟩,
  ⟨(some (false, 17)), .ex (.l 12) 1, none⟩,
  ⟨(some (true, 10)), .new [.slice none 0 0, .int .i64 0, .int .i64 0, .int .i64 0, .slice none 0 0, .slice none 0 0], none⟩,
  ⟨none, .st 6 (.g 10) (.l 16), none⟩,
  ⟨(some (true, 11)), .mv (.l 17), none⟩])
(.seq
(.block 0
(.seq
(.reg [
  ⟨(some (false, 19)), .mv (.g 11), none⟩,
  ⟨(some (false, 20)), .bin .neq (.l 19) (.c (.lit (.int .i64 0))), none⟩,
  ⟨(some (true, 18)), .mv (.l 20), none⟩])
(.cond (.g 18)
(.seq
(.reg [
  ⟨(some (false, 21)), .mk [.int .i64 0, .int .i64 0] [], none⟩,
  ⟨(some (false, 22)), .mv (.g 11), none⟩,
  ⟨none, .st 2 (.g 8) (.l 21), none⟩,
  ⟨(some (true, 9)), .mv (.l 22), none⟩])
.ret)
(.seq
(.reg [
  ⟨(some (false, 24)), .mv (.g 2), none⟩,
  ⟨(some (false, 25)), .fa (.g 10) 5, none⟩,
  ⟨(some (false, 26)), .ld none (.l 25), none⟩,
  ⟨(some (false, 27)), .len (.l 26), none⟩,
  ⟨(some (false, 28)), .bin .sub (.l 27) (.c (.lit (.int .i64 1))), none⟩,
  ⟨(some (false, 29)), .call (.c (.fn 16 [])) [.l 24, .c (.lit (.int .i64 0)), .l 28], none⟩,
  ⟨(some (false, 30)), .un .not (.l 29), none⟩,
  ⟨(some (true, 23)), .mv (.l 30), none⟩])
(.cond (.g 23)
(.seq
(.reg [
  ⟨(some (false, 31)), .mk [.int .i64 0, .int .i64 0] [], none⟩,
  ⟨none, .st 2 (.g 8) (.l 31), none⟩,
  ⟨(some (true, 9)), .mv (.c (.lit (.int .i64 7))), none⟩])
.ret)
(.seq
(.reg [
  ⟨(some (false, 33)), .mv (.g 3), none⟩,
  ⟨(some (false, 34)), .call (.c (.fn 16 [])) [.l 33, .c (.lit (.int .i64 0)), .c (.lit (.int .i64 10000))], none⟩,
  ⟨(some (false, 35)), .un .not (.l 34), none⟩,
  ⟨(some (true, 32)), .mv (.l 35), none⟩])
(.cond (.g 32)
(.seq
(.reg [
  ⟨(some (false, 36)), .mk [.int .i64 0, .int .i64 0] [], none⟩,
  ⟨none, .st 2 (.g 8) (.l 36), none⟩,
  ⟨(some (true, 9)), .mv (.c (.lit (.int .i64 2))), none⟩])
.ret)
.skip)))))))
(.seq
(.reg [
  ⟨(some (false, 37)), .ld (some 6) (.g 10), none⟩,
  ⟨(some (false, 38)), .mv (.g 1), none⟩,
  ⟨(some (false, 39)), .mv (.g 2), none⟩,
  ⟨(some (false, 40)), .mv (.g 3), none⟩,
  ⟨(some (false, 41)), .call (.c (.fn 17 [])) [.l 37, .l 38, .l 39, .l 40], none⟩,
  ⟨none, .st 2 (.g 8) (.l 41), none⟩,
  ⟨(some (true, 9)), .mv (.c (.lit (.int .i64 0))), none⟩])
.ret))))
def K5 : List Nat := [0, 1, 2, 3, 18, 23, 32, 8, 9, 4, 10, 11]
noncomputable def b5 : Code := match Tryd.f5.body with | some c => c | none => .skip
theorem t5 : trCode ⟨Tryd.prog, K5, [], 42, none⟩ b5 = some c5 := by kernel_rfl
theorem go5 {args : List AV} {H : AHeap} {Kk : AV → AHeap → Prop} (hn : args.length = 4) (h : AGo ⟨Tryd.prog, K5, [], 42, none⟩ H.length [.code c5] (RetP [.cell (.g 8) (some 2), .t (.g 9)] H.length Kk) ⟨[], argsG 0 args⟩ H) : ACalls Tryd.prog 5 args H Kk :=
  ACalls_of Tryd.func5 (c := b5) rfl (by kernel_rfl) t5 (rs := [.cell (.g 8) (some 2), .t (.g 9)]) (by kernel_rfl) (by rw [hn]; exact Nat.le_of_ble_eq_true rfl) (by rw [hn]; rfl) (h.weaken (fun _ _ => RetP.hands) (by simp))

/-- sastrugi/probe.Least -/
def c8 : ACode :=
  (.seq
(.reg [
  ⟨(some (true, 5)), .box (.g 0), none⟩,
  ⟨(some (true, 10)), .new [.int .i64 0, .int .i64 0], none⟩,
  ⟨(some (true, 11)), .mv (.c (.lit (.int .i64 0))), none⟩])
(.seq
(.reg [
  ⟨(some (false, 18)), .ld (some 4) (.g 5), none⟩,
  ⟨(some (false, 19)), .mv (.g 1), none⟩,
  ⟨(some (false, 20)), .call (.c (.fn 15 [])) [.l 18, .l 19], none⟩,
  ⟨(some (false, 17)), .mv (.l 20), none⟩,
  ⟨(some (false, 21)), .ex (.l 17) 0, none⟩,
  ⟨(some (false, 22)), .ex (.l 17) 1, none⟩,
  ⟨(some (true, 12)), .new [.slice none 0 0, .int .i64 0, .int .i64 0, .int .i64 0, .slice none 0 0, .slice none 0 0], none⟩,
  ⟨none, .st 6 (.g 12) (.l 21), none⟩,
  ⟨(some (true, 13)), .mv (.l 22), none⟩])
(.seq
(.block 0
(.seq
(.reg [
  ⟨(some (false, 24)), .mv (.g 13), none⟩,
  ⟨(some (false, 25)), .bin .neq (.l 24) (.c (.lit (.int .i64 0))), none⟩,
  ⟨(some (true, 23)), .mv (.l 25), none⟩])
(.cond (.g 23)
(.seq
(.reg [
  ⟨(some (false, 26)), .mk [.int .i64 0, .int .i64 0] [], none⟩,
  ⟨(some (false, 27)), .mv (.g 13), none⟩,
  ⟨none, .st 2 (.g 10) (.l 26), none⟩,
  ⟨(some (true, 11)), .mv (.l 27), none⟩])
.ret)
(.seq
(.reg [
  ⟨(some (false, 29)), .mv (.g 2), none⟩,
  ⟨(some (false, 30)), .fa (.g 12) 5, none⟩,
  ⟨(some (false, 31)), .ld none (.l 30), none⟩,
  ⟨(some (false, 32)), .len (.l 31), none⟩,
  ⟨(some (false, 33)), .bin .sub (.l 32) (.c (.lit (.int .i64 1))), none⟩,
  ⟨(some (false, 34)), .call (.c (.fn 16 [])) [.l 29, .c (.lit (.int .i64 0)), .l 33], none⟩,
  ⟨(some (false, 35)), .un .not (.l 34), none⟩,
  ⟨(some (false, 36)), .mv (.l 35), none⟩,
  ⟨(some (false, 37)), .mv (.g 3), (some (.l 36, false))⟩,
  ⟨(some (false, 38)), .fa (.g 12) 5, (some (.l 36, false))⟩,
  ⟨(some (false, 39)), .ld none (.l 38), (some (.l 36, false))⟩,
  ⟨(some (false, 40)), .len (.l 39), (some (.l 36, false))⟩,
  ⟨(some (false, 41)), .bin .sub (.l 40) (.c (.lit (.int .i64 1))), (some (.l 36, false))⟩,
  ⟨(some (false, 42)), .call (.c (.fn 16 [])) [.l 37, .c (.lit (.int .i64 0)), .l 41], (some (.l 36, false))⟩,
  ⟨(some (false, 43)), .un .not (.l 42), (some (.l 36, false))⟩,
  ⟨(some (false, 44)), .pick (.l 36) (.c (.lit (.bool true))) (.l 43), none⟩,
  ⟨(some (true, 28)), .mv (.l 44), none⟩])
(.cond (.g 28)
(.seq
(.reg [
  ⟨(some (false, 45)), .mk [.int .i64 0, .int .i64 0] [], none⟩,
  ⟨none, .st 2 (.g 10) (.l 45), none⟩,
  ⟨(some (true, 11)), .mv (.c (.lit (.int .i64 7))), none⟩])
.ret)
(.seq
(.reg [
  ⟨(some (false, 47)), .mv (.g 2), none⟩,
  ⟨(some (false, 48)), .mv (.g 3), none⟩,
  ⟨(some (false, 49)), .bin .gtr (.l 47) (.l 48), none⟩,
  ⟨(some (true, 46)), .mv (.l 49), none⟩])
(.cond (.g 46)
(.seq
(.reg [
  ⟨(some (false, 50)), .mk [.int .i64 0, .int .i64 0] [], none⟩,
  ⟨none, .st 2 (.g 10) (.l 50), none⟩,
  ⟨(some (true, 11)), .mv (.c (.lit (.int .i64 11))), none⟩])
.ret)
(.seq
(.reg [
  ⟨(some (false, 52)), .mv (.g 4), none⟩,
  ⟨(some (false, 53)), .call (.c (.fn 16 [])) [.l 52, .c (.lit (.int .i64 0)), .c (.lit (.int .i64 10000))], none⟩,
  ⟨(some (false, 54)), .un .not (.l 53), none⟩,
  ⟨(some (true, 51)), .mv (.l 54), none⟩])
(.cond (.g 51)
(.seq
(.reg [
  ⟨(some (false, 55)), .mk [.int .i64 0, .int .i64 0] [], none⟩,
  ⟨none, .st 2 (.g 10) (.l 55), none⟩,
  ⟨(some (true, 11)), .mv (.c (.lit (.int .i64 2))), none⟩])
.ret)
.skip)))))))))
(.seq
(.reg [
  ⟨(some (false, 56)), .ld (some 6) (.g 12), none⟩,
  ⟨(some (false, 57)), .mv (.g 1), none⟩,
  ⟨(some (false, 58)), .mv (.g 2), none⟩,
  ⟨(some (false, 59)), .mv (.g 4), none⟩,
  ⟨(some (false, 60)), .call (.c (.fn 17 [])) [.l 56, .l 57, .l 58, .l 59], none⟩,
  ⟨(some (true, 14)), .new [.int .i64 0, .int .i64 0], none⟩,
  ⟨none, .st 2 (.g 14) (.l 60), none⟩])
(.seq
(.seq
(.reg [
  ⟨(some (false, 61)), .mv (.g 2), none⟩,
  ⟨(some (false, 62)), .bin .add (.l 61) (.c (.lit (.int .i64 1))), none⟩,
  ⟨(some (true, 15)), .mv (.l 62), none⟩])
(.block 1
(.loop
(.seq
(.seq
(.reg [
  ⟨(some (false, 63)), .mv (.g 15), none⟩,
  ⟨(some (false, 64)), .mv (.g 3), none⟩,
  ⟨(some (true, 65)), .bin .leq (.l 63) (.l 64), none⟩])
(.cond (.g 65)
.skip
(.exit 1)))
(.seq
(.block 2
(.seq
(.reg [
  ⟨(some (false, 68)), .ld (some 6) (.g 12), none⟩,
  ⟨(some (false, 69)), .mv (.g 1), none⟩,
  ⟨(some (false, 70)), .mv (.g 15), none⟩,
  ⟨(some (false, 71)), .mv (.g 4), none⟩,
  ⟨(some (false, 72)), .call (.c (.fn 17 [])) [.l 68, .l 69, .l 70, .l 71], none⟩,
  ⟨(some (true, 16)), .new [.int .i64 0, .int .i64 0], none⟩,
  ⟨none, .st 2 (.g 16) (.l 72), none⟩])
(.reg [
  ⟨(some (false, 73)), .fa (.g 14) 0, none⟩,
  ⟨(some (false, 74)), .ld none (.l 73), none⟩,
  ⟨(some (false, 75)), .fa (.g 16) 0, none⟩,
  ⟨(some (false, 76)), .ld none (.l 75), none⟩,
  ⟨(some (false, 77)), .mn [.l 74, .l 76], none⟩,
  ⟨(some (false, 78)), .fa (.g 14) 1, none⟩,
  ⟨(some (false, 79)), .ld none (.l 78), none⟩,
  ⟨(some (false, 80)), .fa (.g 16) 1, none⟩,
  ⟨(some (false, 81)), .ld none (.l 80), none⟩,
  ⟨(some (false, 82)), .mn [.l 79, .l 81], none⟩,
  ⟨(some (false, 83)), .mk [.int .i64 0, .int .i64 0] [(0, 1, .l 77), (1, 1, .l 82)], none⟩,
  ⟨none, .st 2 (.g 14) (.l 83), none⟩])))
(.reg [
  ⟨(some (false, 66)), .mv (.g 15), none⟩,
  ⟨(some (false, 67)), .bin .add (.l 66) (.c (.lit (.int .i64 1))), none⟩,
  ⟨(some (true, 15)), .mv (.l 67), none⟩]))))))
(.seq
(.reg [
  ⟨(some (false, 84)), .ld (some 2) (.g 14), none⟩,
  ⟨none, .st 2 (.g 10) (.l 84), none⟩,
  ⟨(some (true, 11)), .mv (.c (.lit (.int .i64 0))), none⟩])
.ret))))))
def K8 : List Nat := [0, 1, 2, 3, 4, 23, 28, 46, 51, 65, 10, 11, 5, 12, 13, 14, 15, 16]
noncomputable def b8 : Code := match Tryd.f8.body with | some c => c | none => .skip
theorem t8 : trCode ⟨Tryd.prog, K8, [], 85, none⟩ b8 = some c8 := by kernel_rfl
theorem go8 {args : List AV} {H : AHeap} {Kk : AV → AHeap → Prop} (hn : args.length = 5) (h : AGo ⟨Tryd.prog, K8, [], 85, none⟩ H.length [.code c8] (RetP [.cell (.g 10) (some 2), .t (.g 11)] H.length Kk) ⟨[], argsG 0 args⟩ H) : ACalls Tryd.prog 8 args H Kk :=
  ACalls_of Tryd.func8 (c := b8) rfl (by kernel_rfl) t8 (rs := [.cell (.g 10) (some 2), .t (.g 11)]) (by kernel_rfl) (by rw [hn]; exact Nat.le_of_ble_eq_true rfl) (by rw [hn]; rfl) (h.weaken (fun _ _ => RetP.hands) (by simp))

/-- sastrugi/probe.CheckMarks -/
def c35 : ACode :=
  (.seq
(.reg [
  ⟨(some (true, 2)), .box (.g 0), none⟩,
  ⟨(some (true, 4)), .mv (.c (.lit (.int .i64 0))), none⟩])
(.seq
(.seq
(.reg [
  ⟨(some (false, 6)), .ld (some 4) (.g 2), none⟩,
  ⟨(some (false, 7)), .call (.c (.fn 30 [])) [.l 6], none⟩,
  ⟨(some (true, 5)), .mv (.l 7), none⟩])
(.seq
(.reg [
  ⟨(some (false, 8)), .mv (.g 5), none⟩,
  ⟨(some (true, 9)), .bin .neq (.l 8) (.c (.lit (.int .i64 0))), none⟩])
(.cond (.g 9)
(.seq
(.reg [
  ⟨(some (false, 10)), .mv (.g 5), none⟩,
  ⟨(some (true, 4)), .mv (.l 10), none⟩])
.ret)
.skip)))
(.seq
(.reg [
  ⟨(some (false, 11)), .ld (some 4) (.g 2), none⟩,
  ⟨(some (false, 12)), .call (.c (.fn 38 [])) [.l 11], none⟩,
  ⟨(some (false, 13)), .mv (.g 1), none⟩,
  ⟨(some (false, 14)), .call (.c (.fn 58 [])) [.l 12, .l 13], none⟩,
  ⟨(some (true, 4)), .mv (.l 14), none⟩])
.ret)))
def K35 : List Nat := [0, 1, 9, 4, 2, 5]
noncomputable def b35 : Code := match Tryd.f35.body with | some c => c | none => .skip
theorem t35 : trCode ⟨Tryd.prog, K35, [], 15, none⟩ b35 = some c35 := by kernel_rfl
theorem go35 {args : List AV} {H : AHeap} {Kk : AV → AHeap → Prop} (hn : args.length = 2) (h : AGo ⟨Tryd.prog, K35, [], 15, none⟩ H.length [.code c35] (RetP [.t (.g 4)] H.length Kk) ⟨[], argsG 0 args⟩ H) : ACalls Tryd.prog 35 args H Kk :=
  ACalls_of Tryd.func35 (c := b35) rfl (by kernel_rfl) t35 (rs := [.t (.g 4)]) (by kernel_rfl) (by rw [hn]; exact Nat.le_of_ble_eq_true rfl) (by rw [hn]; rfl) (h.weaken (fun _ _ => RetP.hands) (by simp))

/-- sastrugi/probe.checkMarks -/
def c58 : ACode :=
  (.seq
(.reg [
  ⟨(some (true, 4)), .mv (.c (.lit (.int .i64 0))), none⟩])
(.seq
(.seq
(.reg [
  ⟨(some (false, 7)), .mv (.g 1), none⟩,
  ⟨(some (false, 8)), .len (.l 7), none⟩,
  ⟨(some (true, 9)), .bin .gtr (.l 8) (.c (.lit (.int .i64 100))), none⟩])
(.cond (.g 9)
(.seq
(.reg [
  ⟨(some (true, 4)), .mv (.c (.lit (.int .i64 8))), none⟩])
.ret)
.skip))
(.seq
(.seq
(.reg [
  ⟨(some (true, 10)), .mv (.g 1), none⟩,
  ⟨(some (true, 11)), .len (.g 10), none⟩,
  ⟨(some (true, 12)), .mv (.c (.lit (.int .i64 0))), none⟩])
(.block 0
(.loop
(.seq
(.reg [
  ⟨(some (true, 13)), .bin .lss (.g 12) (.g 11), none⟩])
(.seq
(.cond (.g 13)
.skip
(.exit 0))
(.seq
(.block 1
(.seq
(.reg [
  ⟨(some (false, 14)), .ia 5 (.g 10) (.g 12), none⟩,
  ⟨(some (false, 15)), .ld (some 5) (.l 14), none⟩,
  ⟨(some (true, 6)), .new [.int .i64 0, .int .i64 0, .int .i64 0, .int .i64 0, .int .i64 0], none⟩,
  ⟨none, .st 5 (.g 6) (.l 15), none⟩])
(.block 2
(.seq
(.reg [
  ⟨(some (false, 17)), .fa (.g 6) 0, none⟩,
  ⟨(some (false, 18)), .ld none (.l 17), none⟩,
  ⟨(some (false, 19)), .call (.c (.fn 16 [])) [.l 18, .c (.lit (.int .i64 1)), .c (.lit (.int .i64 4))], none⟩,
  ⟨(some (false, 20)), .un .not (.l 19), none⟩,
  ⟨(some (true, 16)), .mv (.l 20), none⟩])
(.cond (.g 16)
(.seq
(.reg [
  ⟨(some (true, 4)), .mv (.c (.lit (.int .i64 4))), none⟩])
.ret)
(.seq
(.reg [
  ⟨(some (false, 22)), .fa (.g 6) 1, none⟩,
  ⟨(some (false, 23)), .ld none (.l 22), none⟩,
  ⟨(some (false, 24)), .mv (.g 0), none⟩,
  ⟨(some (false, 25)), .bin .sub (.l 24) (.c (.lit (.int .i64 1))), none⟩,
  ⟨(some (false, 26)), .call (.c (.fn 16 [])) [.l 23, .c (.lit (.int .i64 0)), .l 25], none⟩,
  ⟨(some (false, 27)), .un .not (.l 26), none⟩,
  ⟨(some (false, 28)), .mv (.l 27), none⟩,
  ⟨(some (false, 29)), .fa (.g 6) 2, (some (.l 28, false))⟩,
  ⟨(some (false, 30)), .ld none (.l 29), (some (.l 28, false))⟩,
  ⟨(some (false, 31)), .mv (.g 0), (some (.l 28, false))⟩,
  ⟨(some (false, 32)), .bin .sub (.l 31) (.c (.lit (.int .i64 1))), (some (.l 28, false))⟩,
  ⟨(some (false, 33)), .call (.c (.fn 16 [])) [.l 30, .c (.lit (.int .i64 0)), .l 32], (some (.l 28, false))⟩,
  ⟨(some (false, 34)), .un .not (.l 33), (some (.l 28, false))⟩,
  ⟨(some (false, 35)), .pick (.l 28) (.c (.lit (.bool true))) (.l 34), none⟩,
  ⟨(some (true, 21)), .mv (.l 35), none⟩])
(.cond (.g 21)
(.seq
(.reg [
  ⟨(some (true, 4)), .mv (.c (.lit (.int .i64 7))), none⟩])
.ret)
(.seq
(.reg [
  ⟨(some (false, 37)), .fa (.g 6) 1, none⟩,
  ⟨(some (false, 38)), .ld none (.l 37), none⟩,
  ⟨(some (false, 39)), .fa (.g 6) 2, none⟩,
  ⟨(some (false, 40)), .ld none (.l 39), none⟩,
  ⟨(some (false, 41)), .bin .gtr (.l 38) (.l 40), none⟩,
  ⟨(some (true, 36)), .mv (.l 41), none⟩])
(.cond (.g 36)
(.seq
(.reg [
  ⟨(some (true, 4)), .mv (.c (.lit (.int .i64 11))), none⟩])
.ret)
(.seq
(.reg [
  ⟨(some (false, 43)), .fa (.g 6) 3, none⟩,
  ⟨(some (false, 44)), .ld none (.l 43), none⟩,
  ⟨(some (false, 45)), .call (.c (.fn 16 [])) [.l 44, .c (.lit (.int .i64 0)), .c (.lit (.int .i64 10000))], none⟩,
  ⟨(some (false, 46)), .un .not (.l 45), none⟩,
  ⟨(some (false, 47)), .mv (.l 46), none⟩,
  ⟨(some (false, 48)), .fa (.g 6) 4, (some (.l 47, false))⟩,
  ⟨(some (false, 49)), .ld none (.l 48), (some (.l 47, false))⟩,
  ⟨(some (false, 50)), .call (.c (.fn 16 [])) [.l 49, .c (.lit (.int .i64 0)), .c (.lit (.int .i64 100))], (some (.l 47, false))⟩,
  ⟨(some (false, 51)), .un .not (.l 50), (some (.l 47, false))⟩,
  ⟨(some (false, 52)), .pick (.l 47) (.c (.lit (.bool true))) (.l 51), none⟩,
  ⟨(some (true, 42)), .mv (.l 52), none⟩])
(.cond (.g 42)
(.seq
(.reg [
  ⟨(some (true, 4)), .mv (.c (.lit (.int .i64 2))), none⟩])
.ret)
.skip)))))))))))
(.reg [
  ⟨(some (false, 53)), .bin .add (.g 12) (.c (.lit (.int .i64 1))), none⟩,
  ⟨(some (true, 12)), .mv (.l 53), none⟩])))))))
(.seq
(.reg [
  ⟨(some (true, 4)), .mv (.c (.lit (.int .i64 0))), none⟩])
.ret))))
def K58 : List Nat := [0, 1, 9, 13, 16, 21, 36, 42, 4, 10, 11, 12, 6]
noncomputable def b58 : Code := match Tryd.f58.body with | some c => c | none => .skip
theorem t58 : trCode ⟨Tryd.prog, K58, [], 54, none⟩ b58 = some c58 := by kernel_rfl
theorem go58 {args : List AV} {H : AHeap} {Kk : AV → AHeap → Prop} (hn : args.length = 2) (h : AGo ⟨Tryd.prog, K58, [], 54, none⟩ H.length [.code c58] (RetP [.t (.g 4)] H.length Kk) ⟨[], argsG 0 args⟩ H) : ACalls Tryd.prog 58 args H Kk :=
  ACalls_of Tryd.func58 (c := b58) rfl (by kernel_rfl) t58 (rs := [.t (.g 4)]) (by kernel_rfl) (by rw [hn]; exact Nat.le_of_ble_eq_true rfl) (by rw [hn]; rfl) (h.weaken (fun _ _ => RetP.hands) (by simp))

end Go.Sas
namespace Go.Sas
open Go.Proofs
set_option maxRecDepth 100000
/-- sastrugi/probe.Breaks -/
def c11 : ACode :=
  (.seq
(.reg [
  ⟨(some (true, 4)), .box (.g 0), none⟩,
  ⟨(some (true, 8)), .mv (.c (.lit (.int .i64 0))), none⟩,
  ⟨(some (true, 9)), .mv (.c (.lit (.int .i64 0))), none⟩,
  ⟨(some (true, 10)), .mv (.c (.lit (.int .i64 0))), none⟩])
(.seq
(.reg [
  ⟨(some (false, 24)), .ld (some 4) (.g 4), none⟩,
  ⟨(some (false, 25)), .mv (.g 1), none⟩,
  ⟨(some (false, 26)), .call (.c (.fn 15 [])) [.l 24, .l 25], none⟩,
  ⟨(some (false, 23)), .mv (.l 26), none⟩,
  ⟨(some (false, 27)), .ex (.l 23) 0, none⟩,
  ⟨(some (false, 28)), .ex (.l 23) 1, none⟩,
  ⟨(some (true, 11)), .new [.slice none 0 0, .int .i64 0, .int .i64 0, .int .i64 0, .slice none 0 0, .slice none 0 0], none⟩,
  ⟨none, .st 6 (.g 11) (.l 27), none⟩,
  ⟨(some (true, 10)), .mv (.l 28), none⟩])
(.seq
(.block 0
(.seq
(.reg [
  ⟨(some (false, 30)), .mv (.g 10), none⟩,
  ⟨(some (false, 31)), .bin .neq (.l 30) (.c (.lit (.int .i64 0))), none⟩,
  ⟨(some (true, 29)), .mv (.l 31), none⟩])
(.cond (.g 29)
(.seq
(.reg [
  ⟨(some (false, 32)), .mv (.g 10), none⟩,
  ⟨(some (true, 8)), .mv (.c (.lit (.int .i64 0))), none⟩,
  ⟨(some (true, 9)), .mv (.c (.lit (.int .i64 0))), none⟩,
  ⟨(some (true, 10)), .mv (.l 32), none⟩])
.ret)
(.seq
(.reg [
  ⟨(some (false, 34)), .mv (.g 2), none⟩,
  ⟨(some (false, 35)), .call (.c (.fn 16 [])) [.l 34, .c (.lit (.int .i64 0)), .c (.lit (.int .i64 10000))], none⟩,
  ⟨(some (false, 36)), .un .not (.l 35), none⟩,
  ⟨(some (true, 33)), .mv (.l 36), none⟩])
(.cond (.g 33)
(.seq
(.reg [
  ⟨(some (true, 8)), .mv (.c (.lit (.int .i64 0))), none⟩,
  ⟨(some (true, 9)), .mv (.c (.lit (.int .i64 0))), none⟩,
  ⟨(some (true, 10)), .mv (.c (.lit (.int .i64 2))), none⟩])
.ret)
(.seq
(.reg [
  ⟨(some (false, 38)), .mv (.g 3), none⟩,
  ⟨(some (false, 39)), .len (.l 38), none⟩,
  ⟨(some (false, 40)), .bin .eql (.l 39) (.c (.lit (.int .i64 0))), none⟩,
  ⟨(some (true, 37)), .mv (.l 40), none⟩])
(.cond (.g 37)
(.seq
(.reg [
  ⟨(some (true, 8)), .mv (.c (.lit (.int .i64 0))), none⟩,
  ⟨(some (true, 9)), .mv (.c (.lit (.int .i64 0))), none⟩,
  ⟨(some (true, 10)), .mv (.c (.lit (.int .i64 6))), none⟩])
.ret)
(.seq
(.reg [
  ⟨(some (false, 42)), .mv (.g 2), none⟩,
  ⟨(some (false, 43)), .mv (.g 3), none⟩,
  ⟨(some (false, 44)), .len (.l 43), none⟩,
  ⟨(some (false, 45)), .bin .add (.l 42) (.l 44), none⟩,
  ⟨(some (false, 46)), .bin .gtr (.l 45) (.c (.lit (.int .i64 10001))), none⟩,
  ⟨(some (true, 41)), .mv (.l 46), none⟩])
(.cond (.g 41)
(.seq
(.reg [
  ⟨(some (true, 8)), .mv (.c (.lit (.int .i64 0))), none⟩,
  ⟨(some (true, 9)), .mv (.c (.lit (.int .i64 0))), none⟩,
  ⟨(some (true, 10)), .mv (.c (.lit (.int .i64 8))), none⟩])
.ret)
.skip)))))))))
(.seq
(.seq
(.reg [
  ⟨(some (true, 47)), .mv (.g 3), none⟩,
  ⟨(some (true, 48)), .len (.g 47), none⟩,
  ⟨(some (true, 49)), .mv (.c (.lit (.int .i64 0))), none⟩])
(.block 1
(.loop
(.seq
(.reg [
  ⟨(some (true, 50)), .bin .lss (.g 49) (.g 48), none⟩])
(.seq
(.cond (.g 50)
.skip
(.exit 1))
(.seq
(.block 2
(.seq
(.reg [
  ⟨(some (false, 51)), .ia 1 (.g 47) (.g 49), none⟩,
  ⟨(some (false, 52)), .ld none (.l 51), none⟩,
  ⟨(some (true, 13)), .mv (.l 52), none⟩])
(.seq
(.reg [
  ⟨(some (false, 53)), .mv (.g 13), none⟩,
  ⟨(some (false, 54)), .len (.l 53), none⟩,
  ⟨(some (false, 55)), .fa (.g 11) 5, none⟩,
  ⟨(some (false, 56)), .ld none (.l 55), none⟩,
  ⟨(some (false, 57)), .len (.l 56), none⟩,
  ⟨(some (true, 58)), .bin .neq (.l 54) (.l 57), none⟩])
(.cond (.g 58)
(.seq
(.reg [
  ⟨(some (true, 8)), .mv (.c (.lit (.int .i64 0))), none⟩,
  ⟨(some (true, 9)), .mv (.c (.lit (.int .i64 0))), none⟩,
  ⟨(some (true, 10)), .mv (.c (.lit (.int .i64 3))), none⟩])
.ret)
.skip))))
(.reg [
  ⟨(some (false, 59)), .bin .add (.g 49) (.c (.lit (.int .i64 1))), none⟩,
  ⟨(some (true, 49)), .mv (.l 59), none⟩])))))))
(.seq
(.seq
(.reg [
  ⟨(some (true, 60)), .mv (.g 3), none⟩,
  ⟨(some (true, 61)), .len (.g 60), none⟩,
  ⟨(some (true, 62)), .mv (.c (.lit (.int .i64 0))), none⟩])
(.block 3
(.loop
(.seq
(.reg [
  ⟨(some (true, 63)), .bin .lss (.g 62) (.g 61), none⟩])
(.seq
(.cond (.g 63)
.skip
(.exit 3))
(.seq
(.block 4
(.seq
(.reg [
  ⟨(some (false, 64)), .mv (.g 62), none⟩,
  ⟨(some (false, 65)), .ia 1 (.g 60) (.g 62), none⟩,
  ⟨(some (false, 66)), .ld none (.l 65), none⟩,
  ⟨(some (true, 14)), .mv (.l 64), none⟩,
  ⟨(some (true, 15)), .mv (.l 66), none⟩])
(.seq
(.reg [
  ⟨(some (true, 67)), .mv (.g 15), none⟩,
  ⟨(some (true, 68)), .len (.g 67), none⟩,
  ⟨(some (true, 69)), .mv (.c (.lit (.int .i64 0))), none⟩])
(.block 5
(.loop
(.seq
(.reg [
  ⟨(some (true, 70)), .bin .lss (.g 69) (.g 68), none⟩])
(.seq
(.cond (.g 70)
.skip
(.exit 5))
(.seq
(.block 6
(.seq
(.reg [
  ⟨(some (false, 71)), .mv (.g 69), none⟩,
  ⟨(some (false, 72)), .ia 1 (.g 67) (.g 69), none⟩,
  ⟨(some (false, 73)), .ld none (.l 72), none⟩,
  ⟨(some (true, 16)), .mv (.l 71), none⟩,
  ⟨(some (true, 17)), .mv (.l 73), none⟩])
(.seq
(.reg [
  ⟨(some (false, 74)), .mv (.g 17), none⟩,
  ⟨(some (false, 75)), .call (.c (.fn 16 [])) [.l 74, .c (.lit (.int .i64 0)), .c (.lit (.int .i64 3000))], none⟩,
  ⟨(some (false, 76)), .un .not (.l 75), none⟩,
  ⟨(some (true, 18)), .mv (.l 76), none⟩])
(.seq
(.seq
(.reg [
  ⟨(some (false, 77)), .mv (.g 16), none⟩,
  ⟨(some (false, 78)), .bin .gtr (.l 77) (.c (.lit (.int .i64 0))), none⟩,
  ⟨(some (false, 79)), .mv (.l 78), none⟩,
  ⟨(some (false, 80)), .mv (.g 18), (some (.l 79, true))⟩,
  ⟨(some (false, 81)), .un .not (.l 80), (some (.l 79, true))⟩,
  ⟨(some (true, 82)), .pick (.l 79) (.l 81) (.c (.lit (.bool false))), none⟩])
(.cond (.g 82)
(.seq
(.reg [
  ⟨(some (false, 83)), .fa (.g 11) 5, none⟩,
  ⟨(some (false, 84)), .ld none (.l 83), none⟩,
  ⟨(some (false, 85)), .mv (.g 16), none⟩,
  ⟨(some (false, 86)), .bin .sub (.l 85) (.c (.lit (.int .i64 1))), none⟩,
  ⟨(some (false, 87)), .ia 5 (.l 84) (.l 86), none⟩,
  ⟨(some (false, 88)), .fa (.l 87) 1, none⟩,
  ⟨(some (false, 89)), .ld none (.l 88), none⟩,
  ⟨(some (true, 19)), .mv (.l 89), none⟩])
(.draw [
  ⟨⟨(some (false, 90)), .mv (.g 17), none⟩, 0, true, []⟩,
  ⟨⟨(some (false, 91)), .mv (.g 15), none⟩, 1, true, []⟩,
  ⟨⟨(some (false, 92)), .mv (.g 16), none⟩, 2, true, []⟩,
  ⟨⟨(some (false, 93)), .bin .sub (.l 92) (.c (.lit (.int .i64 1))), none⟩, 3, true, []⟩,
  ⟨⟨(some (false, 94)), .ia 1 (.l 91) (.l 93), none⟩, 4, true, []⟩,
  ⟨⟨(some (false, 95)), .ld none (.l 94), none⟩, 5, true, []⟩,
  ⟨⟨(some (false, 96)), .mv (.g 19), none⟩, 6, true, []⟩,
  ⟨⟨(some (false, 97)), .bin .sub (.l 95) (.l 96), none⟩, 7, true, []⟩,
  ⟨⟨(some (false, 98)), .mv (.g 15), none⟩, 8, true, []⟩,
  ⟨⟨(some (false, 99)), .mv (.g 16), none⟩, 9, true, []⟩,
  ⟨⟨(some (false, 100)), .bin .sub (.l 99) (.c (.lit (.int .i64 1))), none⟩, 10, true, []⟩,
  ⟨⟨(some (false, 101)), .ia 1 (.l 98) (.l 100), none⟩, 11, true, []⟩,
  ⟨⟨(some (false, 102)), .ld none (.l 101), none⟩, 12, true, []⟩,
  ⟨⟨(some (false, 103)), .mv (.g 19), none⟩, 13, true, []⟩,
  ⟨⟨(some (false, 104)), .bin .add (.l 102) (.l 103), none⟩, 14, true, []⟩,
  ⟨⟨(some (false, 105)), .call (.c (.fn 16 [])) [.l 90, .l 97, .l 104], none⟩, 15, false, []⟩,
  ⟨⟨(some (false, 106)), .un .not (.l 105), none⟩, 16, true, []⟩,
  ⟨⟨(some (true, 18)), .mv (.l 106), none⟩, 17, true, []⟩]))
.skip))
(.seq
(.seq
(.reg [
  ⟨(some (false, 107)), .mv (.g 14), none⟩,
  ⟨(some (false, 108)), .bin .gtr (.l 107) (.c (.lit (.int .i64 0))), none⟩,
  ⟨(some (false, 109)), .mv (.l 108), none⟩,
  ⟨(some (false, 110)), .mv (.g 18), (some (.l 109, true))⟩,
  ⟨(some (false, 111)), .un .not (.l 110), (some (.l 109, true))⟩,
  ⟨(some (true, 112)), .pick (.l 109) (.l 111) (.c (.lit (.bool false))), none⟩])
(.cond (.g 112)
(.seq
(.reg [
  ⟨(some (false, 113)), .mv (.g 3), none⟩,
  ⟨(some (false, 114)), .mv (.g 14), none⟩,
  ⟨(some (false, 115)), .bin .sub (.l 114) (.c (.lit (.int .i64 1))), none⟩,
  ⟨(some (false, 116)), .ia 1 (.l 113) (.l 115), none⟩,
  ⟨(some (false, 117)), .ld none (.l 116), none⟩,
  ⟨(some (false, 118)), .mv (.g 16), none⟩,
  ⟨(some (false, 119)), .ia 1 (.l 117) (.l 118), none⟩,
  ⟨(some (false, 120)), .ld none (.l 119), none⟩,
  ⟨(some (true, 20)), .mv (.l 120), none⟩])
(.draw [
  ⟨⟨(some (false, 121)), .mv (.g 17), none⟩, 0, true, []⟩,
  ⟨⟨(some (false, 122)), .mv (.g 20), none⟩, 1, true, []⟩,
  ⟨⟨(some (false, 123)), .fa (.g 11) 5, none⟩, 2, true, []⟩,
  ⟨⟨(some (false, 124)), .ld none (.l 123), none⟩, 3, true, []⟩,
  ⟨⟨(some (false, 125)), .mv (.g 16), none⟩, 4, true, []⟩,
  ⟨⟨(some (false, 126)), .ia 5 (.l 124) (.l 125), none⟩, 5, true, []⟩,
  ⟨⟨(some (false, 127)), .fa (.l 126) 2, none⟩, 6, true, []⟩,
  ⟨⟨(some (false, 128)), .ld none (.l 127), none⟩, 7, true, []⟩,
  ⟨⟨(some (false, 129)), .bin .sub (.l 122) (.l 128), none⟩, 8, true, []⟩,
  ⟨⟨(some (false, 130)), .mv (.g 20), none⟩, 9, true, []⟩,
  ⟨⟨(some (false, 131)), .fa (.g 11) 5, none⟩, 10, true, []⟩,
  ⟨⟨(some (false, 132)), .ld none (.l 131), none⟩, 11, true, []⟩,
  ⟨⟨(some (false, 133)), .mv (.g 16), none⟩, 12, true, []⟩,
  ⟨⟨(some (false, 134)), .ia 5 (.l 132) (.l 133), none⟩, 13, true, []⟩,
  ⟨⟨(some (false, 135)), .fa (.l 134) 3, none⟩, 14, true, []⟩,
  ⟨⟨(some (false, 136)), .ld none (.l 135), none⟩, 15, true, []⟩,
  ⟨⟨(some (false, 137)), .bin .add (.l 130) (.l 136), none⟩, 16, true, []⟩,
  ⟨⟨(some (false, 138)), .call (.c (.fn 16 [])) [.l 121, .l 129, .l 137], none⟩, 17, false, []⟩,
  ⟨⟨(some (false, 139)), .un .not (.l 138), none⟩, 18, true, []⟩,
  ⟨⟨(some (true, 18)), .mv (.l 139), none⟩, 19, true, []⟩]))
.skip))
(.seq
(.seq
(.reg [
  ⟨(some (true, 140)), .mv (.g 1), none⟩,
  ⟨(some (true, 141)), .len (.g 140), none⟩,
  ⟨(some (true, 142)), .mv (.c (.lit (.int .i64 0))), none⟩])
(.block 7
(.loop
(.seq
(.reg [
  ⟨(some (true, 143)), .bin .lss (.g 142) (.g 141), none⟩])
(.seq
(.cond (.g 143)
.skip
(.exit 7))
(.seq
(.block 8
(.seq
(.reg [
  ⟨(some (false, 144)), .ia 5 (.g 140) (.g 142), none⟩,
  ⟨(some (false, 145)), .ld (some 5) (.l 144), none⟩,
  ⟨(some (true, 22)), .new [.int .i64 0, .int .i64 0, .int .i64 0, .int .i64 0, .int .i64 0], none⟩,
  ⟨none, .st 5 (.g 22) (.l 145), none⟩])
(.reg [
  ⟨(some (false, 146)), .mv (.g 18), none⟩,
  ⟨(some (false, 147)), .mv (.l 146), none⟩,
  ⟨(some (false, 148)), .fa (.g 22) 2, (some (.l 147, false))⟩,
  ⟨(some (false, 149)), .ld none (.l 148), (some (.l 147, false))⟩,
  ⟨(some (false, 150)), .mv (.g 2), (some (.l 147, false))⟩,
  ⟨(some (false, 151)), .mv (.g 14), (some (.l 147, false))⟩,
  ⟨(some (false, 152)), .bin .add (.l 150) (.l 151), (some (.l 147, false))⟩,
  ⟨(some (false, 153)), .bin .eql (.l 149) (.l 152), (some (.l 147, false))⟩,
  ⟨(some (false, 154)), .mv (.l 153), (some (.l 147, false))⟩,
  ⟨(some (false, 155)), .fa (.g 22) 1, (some (.l 154, true))⟩,
  ⟨(some (false, 156)), .ld none (.l 155), (some (.l 154, true))⟩,
  ⟨(some (false, 157)), .mv (.g 16), (some (.l 154, true))⟩,
  ⟨(some (false, 158)), .bin .eql (.l 156) (.l 157), (some (.l 154, true))⟩,
  ⟨(some (false, 159)), .pick (.l 154) (.l 158) (.c (.lit (.bool false))), (some (.l 147, false))⟩,
  ⟨(some (false, 160)), .mv (.l 159), (some (.l 147, false))⟩,
  ⟨(some (false, 161)), .mv (.g 17), (some (.l 160, true))⟩,
  ⟨(some (false, 162)), .fa (.g 22) 3, (some (.l 160, true))⟩,
  ⟨(some (false, 163)), .fa (.l 162) 0, (some (.l 160, true))⟩,
  ⟨(some (false, 164)), .ld none (.l 163), (some (.l 160, true))⟩,
  ⟨(some (false, 165)), .fa (.g 22) 3, (some (.l 160, true))⟩,
  ⟨(some (false, 166)), .fa (.l 165) 1, (some (.l 160, true))⟩,
  ⟨(some (false, 167)), .ld none (.l 166), (some (.l 160, true))⟩,
  ⟨(some (false, 168)), .call (.c (.fn 16 [])) [.l 161, .l 164, .l 167], (some (.l 160, true))⟩,
  ⟨(some (false, 169)), .un .not (.l 168), (some (.l 160, true))⟩,
  ⟨(some (false, 170)), .pick (.l 160) (.l 169) (.c (.lit (.bool false))), (some (.l 147, false))⟩,
  ⟨(some (false, 171)), .pick (.l 147) (.c (.lit (.bool true))) (.l 170), none⟩,
  ⟨(some (true, 18)), .mv (.l 171), none⟩])))
(.reg [
  ⟨(some (false, 172)), .bin .add (.g 142) (.c (.lit (.int .i64 1))), none⟩,
  ⟨(some (true, 142)), .mv (.l 172), none⟩])))))))
(.seq
(.reg [
  ⟨(some (true, 173)), .mv (.g 18), none⟩])
(.cond (.g 173)
(.seq
(.reg [
  ⟨(some (false, 174)), .mv (.g 14), none⟩,
  ⟨(some (false, 175)), .mv (.g 16), none⟩,
  ⟨(some (true, 8)), .mv (.l 174), none⟩,
  ⟨(some (true, 9)), .mv (.l 175), none⟩,
  ⟨(some (true, 10)), .mv (.c (.lit (.int .i64 0))), none⟩])
.ret)
.skip))))))))
(.reg [
  ⟨(some (false, 176)), .bin .add (.g 69) (.c (.lit (.int .i64 1))), none⟩,
  ⟨(some (true, 69)), .mv (.l 176), none⟩])))))))))
(.reg [
  ⟨(some (false, 177)), .bin .add (.g 62) (.c (.lit (.int .i64 1))), none⟩,
  ⟨(some (true, 62)), .mv (.l 177), none⟩])))))))
(.seq
(.reg [
  ⟨(some (true, 8)), .mv (.c (.lit (.int .i64 (-1)))), none⟩,
  ⟨(some (true, 9)), .mv (.c (.lit (.int .i64 (-1)))), none⟩,
  ⟨(some (true, 10)), .mv (.c (.lit (.int .i64 0))), none⟩])
.ret))))))
def K11 : List Nat := [0, 1, 2, 3, 29, 33, 37, 41, 50, 58, 63, 70, 82, 112, 143, 173, 8, 9, 10, 4, 11, 47, 48, 49, 13, 60, 61, 62, 14, 15, 67, 68, 69, 16, 17, 18, 19, 20, 140, 141, 142, 22]
noncomputable def b11 : Code := match Tryd.f11.body with | some c => c | none => .skip
theorem t11 : trCode ⟨Tryd.prog, K11, [], 178, none⟩ b11 = some c11 := by kernel_rfl
theorem go11 {args : List AV} {H : AHeap} {Kk : AV → AHeap → Prop} (hn : args.length = 4) (h : AGo ⟨Tryd.prog, K11, [], 178, none⟩ H.length [.code c11] (RetP [.t (.g 8), .t (.g 9), .t (.g 10)] H.length Kk) ⟨[], argsG 0 args⟩ H) : ACalls Tryd.prog 11 args H Kk :=
  ACalls_of Tryd.func11 (c := b11) rfl (by kernel_rfl) t11 (rs := [.t (.g 8), .t (.g 9), .t (.g 10)]) (by kernel_rfl) (by rw [hn]; exact Nat.le_of_ble_eq_true rfl) (by rw [hn]; rfl) (h.weaken (fun _ _ => RetP.hands) (by simp))

end Go.Sas
namespace Go.Sas
open Go.Proofs
set_option maxRecDepth 100000
/-- sastrugi/sastrugilaw02.road -/
def c6 : ACode :=
  (.seq
(.reg [
  ⟨(some (true, 0)), .new [.slice none 0 0, .int .i64 0, .int .i64 0, .int .i64 0], none⟩])
(.seq
(.reg [
  ⟨(some (false, 1)), .mk [.int .i64 0, .int .i64 0, .int .i64 0, .int .i64 0, .int .i64 0] [(0, 1, .c (.lit (.int .i64 3))), (1, 1, .c (.lit (.int .i64 10))), (2, 1, .c (.lit (.int .i64 2))), (3, 1, .c (.lit (.int .i64 1))), (4, 1, .c (.lit (.int .i64 24)))], none⟩,
  ⟨(some (false, 2)), .mk [.int .i64 0, .int .i64 0, .int .i64 0, .int .i64 0, .int .i64 0] [(0, 1, .c (.lit (.int .i64 2))), (1, 1, .c (.lit (.int .i64 50))), (2, 1, .c (.lit (.int .i64 5))), (4, 1, .c (.lit (.int .i64 12)))], none⟩,
  ⟨(some (false, 3)), .mks false 5 [.l 1, .l 2], none⟩,
  ⟨(some (false, 4)), .mk [.int .i64 0, .int .i64 0, .int .i64 0] [(0, 1, .c (.lit (.int .i64 0))), (1, 1, .c (.lit (.int .i64 1))), (2, 1, .c (.lit (.int .i64 2)))], none⟩,
  ⟨(some (false, 5)), .mk [.slice none 0 0, .int .i64 0, .int .i64 0, .int .i64 0] [(0, 1, .l 3), (1, 3, .l 4)], none⟩,
  ⟨none, .st 4 (.g 0) (.l 5), none⟩])
.ret))
def K6 : List Nat := [0]
noncomputable def b6 : Code := match Tryd.f6.body with | some c => c | none => .skip
theorem t6 : trCode ⟨Tryd.prog, K6, [], 6, none⟩ b6 = some c6 := by kernel_rfl
theorem go6 {args : List AV} {H : AHeap} {Kk : AV → AHeap → Prop} (hn : args.length = 0) (h : AGo ⟨Tryd.prog, K6, [], 6, none⟩ H.length [.code c6] (RetP [.cell (.g 0) (some 4)] H.length Kk) ⟨[], argsG 0 args⟩ H) : ACalls Tryd.prog 6 args H Kk :=
  ACalls_of Tryd.func6 (c := b6) rfl (by kernel_rfl) t6 (rs := [.cell (.g 0) (some 4)]) (by kernel_rfl) (by rw [hn]; exact Nat.le_of_ble_eq_true rfl) (by rw [hn]; rfl) (h.weaken (fun _ _ => RetP.hands) (by simp))

/-- sastrugi/sastrugilaw02.looked -/
def c7 : ACode :=
  (.seq
(.reg [
  ⟨(some (true, 0)), .mv (.c (.lit (.slice none 0 0))), none⟩])
(.seq
(.reg [
  ⟨(some (false, 1)), .call (.c (.fn 10 [])) [.c (.lit (.int .i64 0)), .c (.lit (.int .i64 10)), .c (.lit (.int .i64 500))], none⟩,
  ⟨(some (false, 2)), .mks false 5 [.l 1], none⟩,
  ⟨(some (true, 0)), .mv (.l 2), none⟩])
.ret))
def K7 : List Nat := [0]
noncomputable def b7 : Code := match Tryd.f7.body with | some c => c | none => .skip
theorem t7 : trCode ⟨Tryd.prog, K7, [], 3, none⟩ b7 = some c7 := by kernel_rfl
theorem go7 {args : List AV} {H : AHeap} {Kk : AV → AHeap → Prop} (hn : args.length = 0) (h : AGo ⟨Tryd.prog, K7, [], 3, none⟩ H.length [.code c7] (RetP [.t (.g 0)] H.length Kk) ⟨[], argsG 0 args⟩ H) : ACalls Tryd.prog 7 args H Kk :=
  ACalls_of Tryd.func7 (c := b7) rfl (by kernel_rfl) t7 (rs := [.t (.g 0)]) (by kernel_rfl) (by rw [hn]; exact Nat.le_of_ble_eq_true rfl) (by rw [hn]; rfl) (h.weaken (fun _ _ => RetP.hands) (by simp))

/-- sastrugi/sastrugilaw02.core -/
def c10 : ACode :=
  (.seq
(.reg [
  ⟨(some (true, 6)), .new [.int .i64 0, .int .i64 0, .int .i64 0, .int .i64 0, .int .i64 0], none⟩])
(.seq
(.reg [
  ⟨(some (false, 7)), .mv (.g 0), none⟩,
  ⟨(some (false, 8)), .mv (.g 1), none⟩,
  ⟨(some (false, 9)), .mv (.g 2), none⟩,
  ⟨(some (false, 10)), .mv (.g 2), none⟩,
  ⟨(some (false, 11)), .call (.c (.fn 4 [])) [.l 9, .l 10], none⟩,
  ⟨(some (false, 12)), .mk [.int .i64 0, .int .i64 0, .int .i64 0, .int .i64 0, .int .i64 0] [(0, 1, .c (.lit (.int .i64 1))), (1, 1, .l 7), (2, 1, .l 8), (3, 2, .l 11)], none⟩,
  ⟨none, .st 5 (.g 6) (.l 12), none⟩])
.ret))
def K10 : List Nat := [0, 1, 2, 6]
noncomputable def b10 : Code := match Tryd.f10.body with | some c => c | none => .skip
theorem t10 : trCode ⟨Tryd.prog, K10, [], 13, none⟩ b10 = some c10 := by kernel_rfl
theorem go10 {args : List AV} {H : AHeap} {Kk : AV → AHeap → Prop} (hn : args.length = 3) (h : AGo ⟨Tryd.prog, K10, [], 13, none⟩ H.length [.code c10] (RetP [.cell (.g 6) (some 5)] H.length Kk) ⟨[], argsG 0 args⟩ H) : ACalls Tryd.prog 10 args H Kk :=
  ACalls_of Tryd.func10 (c := b10) rfl (by kernel_rfl) t10 (rs := [.cell (.g 6) (some 5)]) (by kernel_rfl) (by rw [hn]; exact Nat.le_of_ble_eq_true rfl) (by rw [hn]; rfl) (h.weaken (fun _ _ => RetP.hands) (by simp))

/-- sastrugi/sastrugilaw02.span -/
def c4 : ACode :=
  (.seq
(.reg [
  ⟨(some (true, 4)), .new [.int .i64 0, .int .i64 0], none⟩])
(.seq
(.reg [
  ⟨(some (false, 5)), .mv (.g 0), none⟩,
  ⟨(some (false, 6)), .mv (.g 1), none⟩,
  ⟨(some (false, 7)), .mk [.int .i64 0, .int .i64 0] [(0, 1, .l 5), (1, 1, .l 6)], none⟩,
  ⟨none, .st 2 (.g 4) (.l 7), none⟩])
.ret))
def K4 : List Nat := [0, 1, 4]
noncomputable def b4 : Code := match Tryd.f4.body with | some c => c | none => .skip
theorem t4 : trCode ⟨Tryd.prog, K4, [], 8, none⟩ b4 = some c4 := by kernel_rfl
theorem go4 {args : List AV} {H : AHeap} {Kk : AV → AHeap → Prop} (hn : args.length = 2) (h : AGo ⟨Tryd.prog, K4, [], 8, none⟩ H.length [.code c4] (RetP [.cell (.g 4) (some 2)] H.length Kk) ⟨[], argsG 0 args⟩ H) : ACalls Tryd.prog 4 args H Kk :=
  ACalls_of Tryd.func4 (c := b4) rfl (by kernel_rfl) t4 (rs := [.cell (.g 4) (some 2)]) (by kernel_rfl) (by rw [hn]; exact Nat.le_of_ble_eq_true rfl) (by rw [hn]; rfl) (h.weaken (fun _ _ => RetP.hands) (by simp))

/-- sastrugi/sastrugikit.SameClosures -/
def c26 : ACode :=
  (.seq
(.reg [
  ⟨(some (true, 4)), .mv (.c (.lit (.bool false))), none⟩])
(.seq
(.seq
(.reg [
  ⟨(some (false, 6)), .mv (.g 0), none⟩,
  ⟨(some (false, 7)), .len (.l 6), none⟩,
  ⟨(some (false, 8)), .mv (.g 1), none⟩,
  ⟨(some (false, 9)), .len (.l 8), none⟩,
  ⟨(some (true, 10)), .bin .neq (.l 7) (.l 9), none⟩])
(.cond (.g 10)
(.seq
(.reg [
  ⟨(some (true, 4)), .mv (.c (.lit (.bool false))), none⟩])
.ret)
.skip))
(.seq
(.seq
(.reg [
  ⟨(some (true, 5)), .mv (.c (.lit (.int .i64 0))), none⟩])
(.block 0
(.loop
(.seq
(.seq
(.reg [
  ⟨(some (false, 11)), .mv (.g 5), none⟩,
  ⟨(some (false, 12)), .mv (.g 0), none⟩,
  ⟨(some (false, 13)), .len (.l 12), none⟩,
  ⟨(some (true, 14)), .bin .lss (.l 11) (.l 13), none⟩])
(.cond (.g 14)
.skip
(.exit 0)))
(.seq
(.block 1
(.seq
(.draw [
  ⟨⟨(some (false, 17)), .mv (.g 0), none⟩, 0, true, []⟩,
  ⟨⟨(some (false, 18)), .mv (.g 5), none⟩, 1, true, []⟩,
  ⟨⟨(some (false, 19)), .ia 3 (.l 17) (.l 18), none⟩, 2, true, []⟩,
  ⟨⟨(some (false, 20)), .ld (some 3) (.l 19), none⟩, 3, true, []⟩,
  ⟨⟨(some (false, 21)), .mv (.g 1), none⟩, 4, true, []⟩,
  ⟨⟨(some (false, 22)), .mv (.g 5), none⟩, 5, true, []⟩,
  ⟨⟨(some (false, 23)), .ia 3 (.l 21) (.l 22), none⟩, 6, true, []⟩,
  ⟨⟨(some (false, 24)), .ld (some 3) (.l 23), none⟩, 7, true, []⟩,
  ⟨⟨(some (true, 25)), .eqs true (.fld 0 none .i (.fld 1 none .i (.fld 2 none .i .nil))) (.l 20) (.l 24), none⟩, 8, true, []⟩])
(.cond (.g 25)
(.seq
(.reg [
  ⟨(some (true, 4)), .mv (.c (.lit (.bool false))), none⟩])
.ret)
.skip)))
(.reg [
  ⟨(some (false, 15)), .mv (.g 5), none⟩,
  ⟨(some (false, 16)), .bin .add (.l 15) (.c (.lit (.int .i64 1))), none⟩,
  ⟨(some (true, 5)), .mv (.l 16), none⟩]))))))
(.seq
(.reg [
  ⟨(some (true, 4)), .mv (.c (.lit (.bool true))), none⟩])
.ret))))
def K26 : List Nat := [0, 1, 10, 14, 25, 4, 5]
noncomputable def b26 : Code := match Tryd.f26.body with | some c => c | none => .skip
theorem t26 : trCode ⟨Tryd.prog, K26, [], 26, none⟩ b26 = some c26 := by kernel_rfl
theorem go26 {args : List AV} {H : AHeap} {Kk : AV → AHeap → Prop} (hn : args.length = 2) (h : AGo ⟨Tryd.prog, K26, [], 26, none⟩ H.length [.code c26] (RetP [.t (.g 4)] H.length Kk) ⟨[], argsG 0 args⟩ H) : ACalls Tryd.prog 26 args H Kk :=
  ACalls_of Tryd.func26 (c := b26) rfl (by kernel_rfl) t26 (rs := [.t (.g 4)]) (by kernel_rfl) (by rw [hn]; exact Nat.le_of_ble_eq_true rfl) (by rw [hn]; rfl) (h.weaken (fun _ _ => RetP.hands) (by simp))

end Go.Sas
