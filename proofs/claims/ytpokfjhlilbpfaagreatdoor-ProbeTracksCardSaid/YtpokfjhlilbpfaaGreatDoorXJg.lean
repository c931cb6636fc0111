/-
The code of some functions with its types resolved, printed by a program; that it is the code is checked by the kernel.
The code of some functions with its types resolved, printed by a program; that it is the code is checked by the kernel.
Conditions: none.
-/
import Derived.Test.YtpokfjhlilbpfaaGreatDoorP4g
import Derived.Test.YtpokfjhlilbpfaaGreatDoorProg
set_option linter.unusedVariables false
set_option linter.unusedSimpArgs false
namespace Go.Sas
open Go.Proofs
set_option maxRecDepth 100000
/-- sastrugi/sastrugiref02.checkTrack -/
def c35 : ACode :=
  (.seq
(.reg [
  ⟨(some (true, 1)), .box (.g 0), none⟩,
  ⟨(some (true, 2)), .mv (.c (.lit (.int .i64 0))), none⟩])
(.seq
(.seq
(.reg [
  ⟨(some (false, 5)), .fa (.g 1) 0, none⟩,
  ⟨(some (false, 6)), .fa (.l 5) 0, none⟩,
  ⟨(some (false, 7)), .ld none (.l 6), none⟩,
  ⟨(some (false, 8)), .call (.c (.fn 53 [])) [.l 7, .c (.lit (.int .i64 1)), .c (.lit (.int .i64 1000))], none⟩,
  ⟨(some (false, 9)), .un .not (.l 8), none⟩,
  ⟨(some (false, 10)), .mv (.l 9), none⟩,
  ⟨(some (false, 11)), .fa (.g 1) 0, (some (.l 10, false))⟩,
  ⟨(some (false, 12)), .fa (.l 11) 1, (some (.l 10, false))⟩,
  ⟨(some (false, 13)), .ld none (.l 12), (some (.l 10, false))⟩,
  ⟨(some (false, 14)), .call (.c (.fn 53 [])) [.l 13, .c (.lit (.int .i64 1)), .c (.lit (.int .i64 1000))], (some (.l 10, false))⟩,
  ⟨(some (false, 15)), .un .not (.l 14), (some (.l 10, false))⟩,
  ⟨(some (true, 16)), .pick (.l 10) (.c (.lit (.bool true))) (.l 15), none⟩])
(.cond (.g 16)
(.seq
(.reg [
  ⟨(some (true, 2)), .mv (.c (.lit (.int .i64 2))), none⟩])
.ret)
.skip))
(.seq
(.seq
(.reg [
  ⟨(some (false, 17)), .fa (.g 1) 0, none⟩,
  ⟨(some (false, 18)), .fa (.l 17) 0, none⟩,
  ⟨(some (false, 19)), .ld none (.l 18), none⟩,
  ⟨(some (false, 20)), .fa (.g 1) 0, none⟩,
  ⟨(some (false, 21)), .fa (.l 20) 1, none⟩,
  ⟨(some (false, 22)), .ld none (.l 21), none⟩,
  ⟨(some (true, 23)), .bin .gtr (.l 19) (.l 22), none⟩])
(.cond (.g 23)
(.seq
(.reg [
  ⟨(some (true, 2)), .mv (.c (.lit (.int .i64 11))), none⟩])
.ret)
.skip))
(.seq
(.seq
(.reg [
  ⟨(some (false, 24)), .fa (.g 1) 2, none⟩,
  ⟨(some (false, 25)), .ld none (.l 24), none⟩,
  ⟨(some (false, 26)), .len (.l 25), none⟩,
  ⟨(some (true, 27)), .bin .gtr (.l 26) (.c (.lit (.int .i64 200))), none⟩])
(.cond (.g 27)
(.seq
(.reg [
  ⟨(some (true, 2)), .mv (.c (.lit (.int .i64 8))), none⟩])
.ret)
.skip))
(.seq
(.seq
(.reg [
  ⟨(some (true, 3)), .mv (.c (.lit (.int .i64 0))), none⟩])
(.block 0
(.loop
(.seq
(.seq
(.reg [
  ⟨(some (false, 28)), .mv (.g 3), none⟩,
  ⟨(some (false, 29)), .fa (.g 1) 2, none⟩,
  ⟨(some (false, 30)), .ld none (.l 29), none⟩,
  ⟨(some (false, 31)), .len (.l 30), none⟩,
  ⟨(some (true, 32)), .bin .lss (.l 28) (.l 31), none⟩])
(.cond (.g 32)
.skip
(.exit 0)))
(.seq
(.block 1
(.seq
(.reg [
  ⟨(some (false, 35)), .fa (.g 1) 2, none⟩,
  ⟨(some (false, 36)), .ld none (.l 35), none⟩,
  ⟨(some (false, 37)), .mv (.g 3), none⟩,
  ⟨(some (false, 38)), .ia 4 (.l 36) (.l 37), none⟩,
  ⟨(some (false, 39)), .ld (some 4) (.l 38), none⟩,
  ⟨(some (true, 4)), .new [.int .i64 0, .int .i64 0, .int .i64 0, .int .i64 0], none⟩,
  ⟨none, .st 4 (.g 4) (.l 39), none⟩])
(.seq
(.seq
(.reg [
  ⟨(some (false, 40)), .fa (.g 4) 0, none⟩,
  ⟨(some (false, 41)), .ld none (.l 40), none⟩,
  ⟨(some (false, 42)), .call (.c (.fn 53 [])) [.l 41, .c (.lit (.int .i64 0)), .c (.lit (.int .i64 999))], none⟩,
  ⟨(some (false, 43)), .un .not (.l 42), none⟩,
  ⟨(some (false, 44)), .mv (.l 43), none⟩,
  ⟨(some (false, 45)), .fa (.g 4) 1, (some (.l 44, false))⟩,
  ⟨(some (false, 46)), .ld none (.l 45), (some (.l 44, false))⟩,
  ⟨(some (false, 47)), .call (.c (.fn 53 [])) [.l 46, .c (.lit (.int .i64 0)), .c (.lit (.int .i64 10000))], (some (.l 44, false))⟩,
  ⟨(some (false, 48)), .un .not (.l 47), (some (.l 44, false))⟩,
  ⟨(some (false, 49)), .pick (.l 44) (.c (.lit (.bool true))) (.l 48), none⟩,
  ⟨(some (false, 50)), .mv (.l 49), none⟩,
  ⟨(some (false, 51)), .fa (.g 4) 2, (some (.l 50, false))⟩,
  ⟨(some (false, 52)), .fa (.l 51) 0, (some (.l 50, false))⟩,
  ⟨(some (false, 53)), .ld none (.l 52), (some (.l 50, false))⟩,
  ⟨(some (false, 54)), .call (.c (.fn 53 [])) [.l 53, .c (.lit (.int .i64 0)), .c (.lit (.int .i64 1000000))], (some (.l 50, false))⟩,
  ⟨(some (false, 55)), .un .not (.l 54), (some (.l 50, false))⟩,
  ⟨(some (false, 56)), .pick (.l 50) (.c (.lit (.bool true))) (.l 55), none⟩,
  ⟨(some (false, 57)), .mv (.l 56), none⟩,
  ⟨(some (false, 58)), .fa (.g 4) 2, (some (.l 57, false))⟩,
  ⟨(some (false, 59)), .fa (.l 58) 1, (some (.l 57, false))⟩,
  ⟨(some (false, 60)), .ld none (.l 59), (some (.l 57, false))⟩,
  ⟨(some (false, 61)), .call (.c (.fn 53 [])) [.l 60, .c (.lit (.int .i64 0)), .c (.lit (.int .i64 1000000))], (some (.l 57, false))⟩,
  ⟨(some (false, 62)), .un .not (.l 61), (some (.l 57, false))⟩,
  ⟨(some (true, 63)), .pick (.l 57) (.c (.lit (.bool true))) (.l 62), none⟩])
(.cond (.g 63)
(.seq
(.reg [
  ⟨(some (true, 2)), .mv (.c (.lit (.int .i64 2))), none⟩])
.ret)
.skip))
(.seq
(.reg [
  ⟨(some (false, 64)), .fa (.g 4) 2, none⟩,
  ⟨(some (false, 65)), .fa (.l 64) 0, none⟩,
  ⟨(some (false, 66)), .ld none (.l 65), none⟩,
  ⟨(some (false, 67)), .fa (.g 4) 2, none⟩,
  ⟨(some (false, 68)), .fa (.l 67) 1, none⟩,
  ⟨(some (false, 69)), .ld none (.l 68), none⟩,
  ⟨(some (true, 70)), .bin .gtr (.l 66) (.l 69), none⟩])
(.cond (.g 70)
(.seq
(.reg [
  ⟨(some (true, 2)), .mv (.c (.lit (.int .i64 11))), none⟩])
.ret)
.skip)))))
(.reg [
  ⟨(some (false, 33)), .mv (.g 3), none⟩,
  ⟨(some (false, 34)), .bin .add (.l 33) (.c (.lit (.int .i64 1))), none⟩,
  ⟨(some (true, 3)), .mv (.l 34), none⟩]))))))
(.seq
(.reg [
  ⟨(some (true, 2)), .mv (.c (.lit (.int .i64 0))), none⟩])
.ret))))))
def K35 : List Nat := [0, 16, 23, 27, 32, 63, 70, 2, 1, 3, 4]
noncomputable def b35 : Code := match Tryz.f35.body with | some c => c | none => .skip
theorem t35 : trCode ⟨Tryz.prog, K35, [], 71, none⟩ b35 = some c35 := by kernel_rfl
theorem go35 {args : List AV} {H : AHeap} {Kk : AV → AHeap → Prop} (hn : args.length = 1) (h : AGo ⟨Tryz.prog, K35, [], 71, none⟩ H.length [.code c35] (RetP [.t (.g 2)] H.length Kk) ⟨[], argsG 0 args⟩ H) : ACalls Tryz.prog 35 args H Kk :=
  ACalls_of Tryz.func35 (c := b35) rfl (by kernel_rfl) t35 (rs := [.t (.g 2)]) (by kernel_rfl) (by rw [hn]; exact Nat.le_of_ble_eq_true rfl) (by rw [hn]; rfl) (h.weaken (fun _ _ => RetP.hands) (by simp))

/-- sastrugi/sastrugiref02.row -/
def c36 : ACode :=
  (.seq
(.reg [
  ⟨(some (true, 4)), .mv (.c (.lit (.string ⟨[].toArray⟩))), none⟩])
(.seq
(.seq
(.reg [
  ⟨(some (true, 5)), .mv (.c (.lit (.int .i64 0))), none⟩])
(.block 0
(.loop
(.seq
(.seq
(.reg [
  ⟨(some (false, 6)), .mv (.g 5), none⟩,
  ⟨(some (false, 7)), .mv (.g 1), none⟩,
  ⟨(some (false, 8)), .len (.l 7), none⟩,
  ⟨(some (true, 9)), .bin .lss (.l 6) (.l 8), none⟩])
(.cond (.g 9)
.skip
(.exit 0)))
(.seq
(.block 1
(.reg [
  ⟨(some (false, 12)), .mv (.g 0), none⟩,
  ⟨(some (false, 13)), .bin .add (.l 12) (.c (.lit (.string ⟨[32].toArray⟩))), none⟩,
  ⟨(some (false, 14)), .mv (.g 1), none⟩,
  ⟨(some (false, 15)), .mv (.g 5), none⟩,
  ⟨(some (false, 16)), .ia 1 (.l 14) (.l 15), none⟩,
  ⟨(some (false, 17)), .ld none (.l 16), none⟩,
  ⟨(some (false, 18)), .call (.c (.fn 30 [])) [.l 17], none⟩,
  ⟨(some (false, 19)), .bin .add (.l 13) (.l 18), none⟩,
  ⟨(some (true, 0)), .mv (.l 19), none⟩]))
(.reg [
  ⟨(some (false, 10)), .mv (.g 5), none⟩,
  ⟨(some (false, 11)), .bin .add (.l 10) (.c (.lit (.int .i64 1))), none⟩,
  ⟨(some (true, 5)), .mv (.l 11), none⟩]))))))
(.seq
(.reg [
  ⟨(some (false, 20)), .mv (.g 0), none⟩,
  ⟨(some (false, 21)), .bin .add (.l 20) (.c (.lit (.string ⟨[10].toArray⟩))), none⟩,
  ⟨(some (true, 4)), .mv (.l 21), none⟩])
.ret)))
def K36 : List Nat := [0, 1, 9, 4, 5]
noncomputable def b36 : Code := match Tryz.f36.body with | some c => c | none => .skip
theorem t36 : trCode ⟨Tryz.prog, K36, [], 22, none⟩ b36 = some c36 := by kernel_rfl
theorem go36 {args : List AV} {H : AHeap} {Kk : AV → AHeap → Prop} (hn : args.length = 2) (h : AGo ⟨Tryz.prog, K36, [], 22, none⟩ H.length [.code c36] (RetP [.t (.g 4)] H.length Kk) ⟨[], argsG 0 args⟩ H) : ACalls Tryz.prog 36 args H Kk :=
  ACalls_of Tryz.func36 (c := b36) rfl (by kernel_rfl) t36 (rs := [.t (.g 4)]) (by kernel_rfl) (by rw [hn]; exact Nat.le_of_ble_eq_true rfl) (by rw [hn]; rfl) (h.weaken (fun _ _ => RetP.hands) (by simp))

/-- sastrugi/sastrugiref02.split -/
def c38 : ACode :=
  (.seq
(.reg [
  ⟨(some (true, 4)), .mv (.c (.lit (.slice none 0 0))), none⟩])
(.seq
(.reg [
  ⟨(some (true, 5)), .mv (.c (.lit (.slice none 0 0))), none⟩])
(.seq
(.reg [
  ⟨(some (true, 6)), .mv (.c (.lit (.int .i64 0))), none⟩])
(.seq
(.seq
(.reg [
  ⟨(some (true, 7)), .mv (.c (.lit (.int .i64 0))), none⟩])
(.block 0
(.loop
(.seq
(.seq
(.reg [
  ⟨(some (false, 8)), .mv (.g 7), none⟩,
  ⟨(some (false, 9)), .mv (.g 0), none⟩,
  ⟨(some (false, 10)), .lens (.l 9), none⟩,
  ⟨(some (true, 11)), .bin .leq (.l 8) (.l 10), none⟩])
(.cond (.g 11)
.skip
(.exit 0)))
(.seq
(.block 1
(.seq
(.reg [
  ⟨(some (false, 14)), .mv (.g 7), none⟩,
  ⟨(some (false, 15)), .mv (.g 0), none⟩,
  ⟨(some (false, 16)), .lens (.l 15), none⟩,
  ⟨(some (false, 17)), .bin .eql (.l 14) (.l 16), none⟩,
  ⟨(some (false, 18)), .mv (.l 17), none⟩,
  ⟨(some (false, 19)), .mv (.g 0), (some (.l 18, false))⟩,
  ⟨(some (false, 20)), .mv (.g 7), (some (.l 18, false))⟩,
  ⟨(some (false, 21)), .sx (.l 19) (.l 20), (some (.l 18, false))⟩,
  ⟨(some (false, 22)), .mv (.g 1), (some (.l 18, false))⟩,
  ⟨(some (false, 23)), .bin .eql (.l 21) (.l 22), (some (.l 18, false))⟩,
  ⟨(some (true, 24)), .pick (.l 18) (.c (.lit (.bool true))) (.l 23), none⟩])
(.cond (.g 24)
(.seq
(.reg [
  ⟨(some (false, 25)), .mv (.g 5), none⟩,
  ⟨(some (false, 26)), .mv (.g 0), none⟩,
  ⟨(some (false, 27)), .mv (.g 6), none⟩,
  ⟨(some (false, 28)), .mv (.g 7), none⟩,
  ⟨(some (false, 29)), .ssl (.l 26) (some (.l 27)) (some (.l 28)), none⟩,
  ⟨(some (false, 30)), .mks false 1 [.l 29], none⟩,
  ⟨(some (false, 31)), .app 1 16 (.l 25) (.l 30), none⟩,
  ⟨(some (true, 5)), .mv (.l 31), none⟩])
(.reg [
  ⟨(some (false, 32)), .mv (.g 7), none⟩,
  ⟨(some (false, 33)), .bin .add (.l 32) (.c (.lit (.int .i64 1))), none⟩,
  ⟨(some (true, 6)), .mv (.l 33), none⟩]))
.skip)))
(.reg [
  ⟨(some (false, 12)), .mv (.g 7), none⟩,
  ⟨(some (false, 13)), .bin .add (.l 12) (.c (.lit (.int .i64 1))), none⟩,
  ⟨(some (true, 7)), .mv (.l 13), none⟩]))))))
(.seq
(.reg [
  ⟨(some (false, 34)), .mv (.g 5), none⟩,
  ⟨(some (true, 4)), .mv (.l 34), none⟩])
.ret)))))
def K38 : List Nat := [0, 1, 11, 24, 4, 5, 6, 7]
noncomputable def b38 : Code := match Tryz.f38.body with | some c => c | none => .skip
theorem t38 : trCode ⟨Tryz.prog, K38, [], 35, none⟩ b38 = some c38 := by kernel_rfl
theorem go38 {args : List AV} {H : AHeap} {Kk : AV → AHeap → Prop} (hn : args.length = 2) (h : AGo ⟨Tryz.prog, K38, [], 35, none⟩ H.length [.code c38] (RetP [.t (.g 4)] H.length Kk) ⟨[], argsG 0 args⟩ H) : ACalls Tryz.prog 38 args H Kk :=
  ACalls_of Tryz.func38 (c := b38) rfl (by kernel_rfl) t38 (rs := [.t (.g 4)]) (by kernel_rfl) (by rw [hn]; exact Nat.le_of_ble_eq_true rfl) (by rw [hn]; rfl) (h.weaken (fun _ _ => RetP.hands) (by simp))

/-- sastrugi/sastrugiref02.numbers -/
def c39 : ACode :=
  (.seq
(.reg [
  ⟨(some (true, 6)), .mv (.c (.lit (.slice none 0 0))), none⟩,
  ⟨(some (true, 7)), .mv (.c (.lit (.bool false))), none⟩])
(.seq
(.reg [
  ⟨(some (false, 13)), .mv (.g 0), none⟩,
  ⟨(some (false, 14)), .call (.c (.fn 38 [])) [.l 13, .c (.lit (.int .u8 32))], none⟩,
  ⟨(some (true, 8)), .mv (.l 14), none⟩])
(.seq
(.seq
(.reg [
  ⟨(some (false, 15)), .mv (.g 8), none⟩,
  ⟨(some (false, 16)), .len (.l 15), none⟩,
  ⟨(some (false, 17)), .mv (.g 2), none⟩,
  ⟨(some (false, 18)), .bin .add (.l 17) (.c (.lit (.int .i64 1))), none⟩,
  ⟨(some (false, 19)), .bin .neq (.l 16) (.l 18), none⟩,
  ⟨(some (false, 20)), .mv (.l 19), none⟩,
  ⟨(some (false, 21)), .mv (.g 8), (some (.l 20, false))⟩,
  ⟨(some (false, 22)), .ia 1 (.l 21) (.c (.lit (.int .i64 0))), (some (.l 20, false))⟩,
  ⟨(some (false, 23)), .ld none (.l 22), (some (.l 20, false))⟩,
  ⟨(some (false, 24)), .mv (.g 1), (some (.l 20, false))⟩,
  ⟨(some (false, 25)), .bin .neq (.l 23) (.l 24), (some (.l 20, false))⟩,
  ⟨(some (true, 26)), .pick (.l 20) (.c (.lit (.bool true))) (.l 25), none⟩])
(.cond (.g 26)
(.seq
(.reg [
  ⟨(some (true, 6)), .mv (.c (.lit (.slice none 0 0))), none⟩,
  ⟨(some (true, 7)), .mv (.c (.lit (.bool false))), none⟩])
.ret)
.skip))
(.seq
(.reg [
  ⟨(some (true, 9)), .mv (.c (.lit (.slice none 0 0))), none⟩])
(.seq
(.seq
(.reg [
  ⟨(some (true, 10)), .mv (.c (.lit (.int .i64 1))), none⟩])
(.block 0
(.loop
(.seq
(.seq
(.reg [
  ⟨(some (false, 27)), .mv (.g 10), none⟩,
  ⟨(some (false, 28)), .mv (.g 8), none⟩,
  ⟨(some (false, 29)), .len (.l 28), none⟩,
  ⟨(some (true, 30)), .bin .lss (.l 27) (.l 29), none⟩])
(.cond (.g 30)
.skip
(.exit 0)))
(.seq
(.block 1
(.seq
(.reg [
  ⟨(some (false, 34)), .mv (.g 8), none⟩,
  ⟨(some (false, 35)), .mv (.g 10), none⟩,
  ⟨(some (false, 36)), .ia 1 (.l 34) (.l 35), none⟩,
  ⟨(some (false, 37)), .ld none (.l 36), none⟩,
  ⟨(some (false, 38)), .call (.c (.fn 54 [])) [.l 37], none⟩,
  ⟨(some (false, 33)), .mv (.l 38), none⟩,
  ⟨(some (false, 39)), .ex (.l 33) 0, none⟩,
  ⟨(some (false, 40)), .ex (.l 33) 1, none⟩,
  ⟨(some (true, 11)), .mv (.l 39), none⟩,
  ⟨(some (true, 12)), .mv (.l 40), none⟩])
(.seq
(.seq
(.reg [
  ⟨(some (false, 41)), .mv (.g 12), none⟩,
  ⟨(some (true, 42)), .un .not (.l 41), none⟩])
(.cond (.g 42)
(.seq
(.reg [
  ⟨(some (true, 6)), .mv (.c (.lit (.slice none 0 0))), none⟩,
  ⟨(some (true, 7)), .mv (.c (.lit (.bool false))), none⟩])
.ret)
.skip))
(.reg [
  ⟨(some (false, 43)), .mv (.g 9), none⟩,
  ⟨(some (false, 44)), .mv (.g 11), none⟩,
  ⟨(some (false, 45)), .mks false 1 [.l 44], none⟩,
  ⟨(some (false, 46)), .app 1 8 (.l 43) (.l 45), none⟩,
  ⟨(some (true, 9)), .mv (.l 46), none⟩]))))
(.reg [
  ⟨(some (false, 31)), .mv (.g 10), none⟩,
  ⟨(some (false, 32)), .bin .add (.l 31) (.c (.lit (.int .i64 1))), none⟩,
  ⟨(some (true, 10)), .mv (.l 32), none⟩]))))))
(.seq
(.reg [
  ⟨(some (false, 47)), .mv (.g 9), none⟩,
  ⟨(some (true, 6)), .mv (.l 47), none⟩,
  ⟨(some (true, 7)), .mv (.c (.lit (.bool true))), none⟩])
.ret))))))
def K39 : List Nat := [0, 1, 2, 26, 30, 42, 6, 7, 8, 9, 10, 11, 12]
noncomputable def b39 : Code := match Tryz.f39.body with | some c => c | none => .skip
theorem t39 : trCode ⟨Tryz.prog, K39, [], 48, none⟩ b39 = some c39 := by kernel_rfl
theorem go39 {args : List AV} {H : AHeap} {Kk : AV → AHeap → Prop} (hn : args.length = 3) (h : AGo ⟨Tryz.prog, K39, [], 48, none⟩ H.length [.code c39] (RetP [.t (.g 6), .t (.g 7)] H.length Kk) ⟨[], argsG 0 args⟩ H) : ACalls Tryz.prog 39 args H Kk :=
  ACalls_of Tryz.func39 (c := b39) rfl (by kernel_rfl) t39 (rs := [.t (.g 6), .t (.g 7)]) (by kernel_rfl) (by rw [hn]; exact Nat.le_of_ble_eq_true rfl) (by rw [hn]; rfl) (h.weaken (fun _ _ => RetP.hands) (by simp))

/-- sastrugi/sastrugiref02.number -/
def c54 : ACode :=
  (.seq
(.reg [
  ⟨(some (true, 2)), .mv (.c (.lit (.int .i64 0))), none⟩,
  ⟨(some (true, 3)), .mv (.c (.lit (.bool false))), none⟩])
(.seq
(.seq
(.reg [
  ⟨(some (false, 6)), .mv (.g 0), none⟩,
  ⟨(some (false, 7)), .lens (.l 6), none⟩,
  ⟨(some (false, 8)), .bin .lss (.l 7) (.c (.lit (.int .i64 1))), none⟩,
  ⟨(some (false, 9)), .mv (.l 8), none⟩,
  ⟨(some (false, 10)), .mv (.g 0), (some (.l 9, false))⟩,
  ⟨(some (false, 11)), .lens (.l 10), (some (.l 9, false))⟩,
  ⟨(some (false, 12)), .bin .gtr (.l 11) (.c (.lit (.int .i64 9))), (some (.l 9, false))⟩,
  ⟨(some (false, 13)), .pick (.l 9) (.c (.lit (.bool true))) (.l 12), none⟩,
  ⟨(some (false, 14)), .mv (.l 13), none⟩,
  ⟨(some (false, 15)), .mv (.g 0), (some (.l 14, false))⟩,
  ⟨(some (false, 16)), .sx (.l 15) (.c (.lit (.int .i64 0))), (some (.l 14, false))⟩,
  ⟨(some (false, 17)), .bin .eql (.l 16) (.c (.lit (.int .u8 48))), (some (.l 14, false))⟩,
  ⟨(some (false, 18)), .mv (.l 17), (some (.l 14, false))⟩,
  ⟨(some (false, 19)), .mv (.g 0), (some (.l 18, true))⟩,
  ⟨(some (false, 20)), .lens (.l 19), (some (.l 18, true))⟩,
  ⟨(some (false, 21)), .bin .gtr (.l 20) (.c (.lit (.int .i64 1))), (some (.l 18, true))⟩,
  ⟨(some (false, 22)), .pick (.l 18) (.l 21) (.c (.lit (.bool false))), (some (.l 14, false))⟩,
  ⟨(some (true, 23)), .pick (.l 14) (.c (.lit (.bool true))) (.l 22), none⟩])
(.cond (.g 23)
(.seq
(.reg [
  ⟨(some (true, 2)), .mv (.c (.lit (.int .i64 0))), none⟩,
  ⟨(some (true, 3)), .mv (.c (.lit (.bool false))), none⟩])
.ret)
.skip))
(.seq
(.reg [
  ⟨(some (true, 4)), .mv (.c (.lit (.int .i64 0))), none⟩])
(.seq
(.seq
(.reg [
  ⟨(some (true, 5)), .mv (.c (.lit (.int .i64 0))), none⟩])
(.block 0
(.loop
(.seq
(.seq
(.reg [
  ⟨(some (false, 24)), .mv (.g 5), none⟩,
  ⟨(some (false, 25)), .mv (.g 0), none⟩,
  ⟨(some (false, 26)), .lens (.l 25), none⟩,
  ⟨(some (true, 27)), .bin .lss (.l 24) (.l 26), none⟩])
(.cond (.g 27)
.skip
(.exit 0)))
(.seq
(.block 1
(.seq
(.seq
(.reg [
  ⟨(some (false, 30)), .mv (.g 0), none⟩,
  ⟨(some (false, 31)), .mv (.g 5), none⟩,
  ⟨(some (false, 32)), .sx (.l 30) (.l 31), none⟩,
  ⟨(some (false, 33)), .bin .lss (.l 32) (.c (.lit (.int .u8 48))), none⟩,
  ⟨(some (false, 34)), .mv (.l 33), none⟩,
  ⟨(some (false, 35)), .mv (.g 0), (some (.l 34, false))⟩,
  ⟨(some (false, 36)), .mv (.g 5), (some (.l 34, false))⟩,
  ⟨(some (false, 37)), .sx (.l 35) (.l 36), (some (.l 34, false))⟩,
  ⟨(some (false, 38)), .bin .gtr (.l 37) (.c (.lit (.int .u8 57))), (some (.l 34, false))⟩,
  ⟨(some (true, 39)), .pick (.l 34) (.c (.lit (.bool true))) (.l 38), none⟩])
(.cond (.g 39)
(.seq
(.reg [
  ⟨(some (true, 2)), .mv (.c (.lit (.int .i64 0))), none⟩,
  ⟨(some (true, 3)), .mv (.c (.lit (.bool false))), none⟩])
.ret)
.skip))
(.reg [
  ⟨(some (false, 40)), .mv (.g 4), none⟩,
  ⟨(some (false, 41)), .bin .mul (.c (.lit (.int .i64 10))) (.l 40), none⟩,
  ⟨(some (false, 42)), .mv (.g 0), none⟩,
  ⟨(some (false, 43)), .mv (.g 5), none⟩,
  ⟨(some (false, 44)), .sx (.l 42) (.l 43), none⟩,
  ⟨(some (false, 45)), .bin .sub (.l 44) (.c (.lit (.int .u8 48))), none⟩,
  ⟨(some (false, 46)), .cv .i64 (.l 45), none⟩,
  ⟨(some (false, 47)), .bin .add (.l 41) (.l 46), none⟩,
  ⟨(some (true, 4)), .mv (.l 47), none⟩])))
(.reg [
  ⟨(some (false, 28)), .mv (.g 5), none⟩,
  ⟨(some (false, 29)), .bin .add (.l 28) (.c (.lit (.int .i64 1))), none⟩,
  ⟨(some (true, 5)), .mv (.l 29), none⟩]))))))
(.seq
(.reg [
  ⟨(some (false, 48)), .mv (.g 4), none⟩,
  ⟨(some (true, 2)), .mv (.l 48), none⟩,
  ⟨(some (true, 3)), .mv (.c (.lit (.bool true))), none⟩])
.ret)))))
def K54 : List Nat := [0, 23, 27, 39, 2, 3, 4, 5]
noncomputable def b54 : Code := match Tryz.f54.body with | some c => c | none => .skip
theorem t54 : trCode ⟨Tryz.prog, K54, [], 49, none⟩ b54 = some c54 := by kernel_rfl
theorem go54 {args : List AV} {H : AHeap} {Kk : AV → AHeap → Prop} (hn : args.length = 1) (h : AGo ⟨Tryz.prog, K54, [], 49, none⟩ H.length [.code c54] (RetP [.t (.g 2), .t (.g 3)] H.length Kk) ⟨[], argsG 0 args⟩ H) : ACalls Tryz.prog 54 args H Kk :=
  ACalls_of Tryz.func54 (c := b54) rfl (by kernel_rfl) t54 (rs := [.t (.g 2), .t (.g 3)]) (by kernel_rfl) (by rw [hn]; exact Nat.le_of_ble_eq_true rfl) (by rw [hn]; rfl) (h.weaken (fun _ _ => RetP.hands) (by simp))

/-- sastrugi/sastrugikit.Wrap -/
def c37 : ACode :=
  (.seq
(.reg [
  ⟨(some (true, 4)), .mv (.c (.lit (.int .i64 0))), none⟩])
(.seq
(.seq
(.reg [
  ⟨(some (false, 5)), .mv (.g 1), none⟩,
  ⟨(some (true, 6)), .bin .lss (.l 5) (.c (.lit (.int .i64 2))), none⟩])
(.cond (.g 6)
(.seq
(.reg [
  ⟨(some (true, 4)), .mv (.c (.lit (.int .i64 0))), none⟩])
.ret)
.skip))
(.seq
(.reg [
  ⟨(some (false, 7)), .mv (.g 0), none⟩,
  ⟨(some (false, 8)), .mv (.g 1), none⟩,
  ⟨(some (false, 9)), .bin .rem (.l 7) (.l 8), none⟩,
  ⟨(some (false, 10)), .mv (.g 1), none⟩,
  ⟨(some (false, 11)), .bin .add (.l 9) (.l 10), none⟩,
  ⟨(some (false, 12)), .mv (.g 1), none⟩,
  ⟨(some (false, 13)), .bin .rem (.l 11) (.l 12), none⟩,
  ⟨(some (true, 4)), .mv (.l 13), none⟩])
.ret)))
def K37 : List Nat := [0, 1, 6, 4]
noncomputable def b37 : Code := match Tryz.f37.body with | some c => c | none => .skip
theorem t37 : trCode ⟨Tryz.prog, K37, [], 14, none⟩ b37 = some c37 := by kernel_rfl
theorem go37 {args : List AV} {H : AHeap} {Kk : AV → AHeap → Prop} (hn : args.length = 2) (h : AGo ⟨Tryz.prog, K37, [], 14, none⟩ H.length [.code c37] (RetP [.t (.g 4)] H.length Kk) ⟨[], argsG 0 args⟩ H) : ACalls Tryz.prog 37 args H Kk :=
  ACalls_of Tryz.func37 (c := b37) rfl (by kernel_rfl) t37 (rs := [.t (.g 4)]) (by kernel_rfl) (by rw [hn]; exact Nat.le_of_ble_eq_true rfl) (by rw [hn]; rfl) (h.weaken (fun _ _ => RetP.hands) (by simp))

/-- sastrugi/sastrugikit.Damage -/
def c15 : ACode :=
  (.seq
(.reg [
  ⟨(some (true, 8)), .mv (.c (.lit (.string ⟨[].toArray⟩))), none⟩])
(.seq
(.seq
(.reg [
  ⟨(some (false, 9)), .mv (.g 0), none⟩,
  ⟨(some (false, 10)), .lens (.l 9), none⟩,
  ⟨(some (true, 11)), .bin .eql (.l 10) (.c (.lit (.int .i64 0))), none⟩])
(.cond (.g 11)
(.seq
(.reg [
  ⟨(some (false, 12)), .mv (.g 0), none⟩,
  ⟨(some (true, 8)), .mv (.l 12), none⟩])
.ret)
.skip))
(.seq
(.reg [
  ⟨(some (false, 13)), .mv (.g 1), none⟩,
  ⟨(some (false, 14)), .mv (.g 0), none⟩,
  ⟨(some (false, 15)), .lens (.l 14), none⟩,
  ⟨(some (false, 16)), .call (.c (.fn 37 [])) [.l 13, .l 15], none⟩,
  ⟨(some (true, 1)), .mv (.l 16), none⟩])
(.seq
(.seq
(.reg [
  ⟨(some (false, 17)), .mv (.g 2), none⟩,
  ⟨(some (true, 18)), .call (.c (.fn 37 [])) [.l 17, .c (.lit (.int .i64 3))], none⟩])
(.block 0
(.seq
(.reg [
  ⟨(some (false, 20)), .bin .eql (.g 18) (.c (.lit (.int .i64 0))), none⟩,
  ⟨(some (true, 19)), .mv (.l 20), none⟩])
(.cond (.g 19)
(.seq
(.draw [
  ⟨⟨(some (false, 21)), .mv (.g 0), none⟩, 0, true, []⟩,
  ⟨⟨(some (false, 22)), .mv (.g 1), none⟩, 1, true, []⟩,
  ⟨⟨(some (false, 23)), .ssl (.l 21) none (some (.l 22)), none⟩, 2, true, []⟩,
  ⟨⟨(some (false, 24)), .mv (.g 3), none⟩, 3, true, []⟩,
  ⟨⟨(some (false, 25)), .mks false 1 [.l 24], none⟩, 4, true, []⟩,
  ⟨⟨(some (false, 26)), .cvs (.l 25), none⟩, 5, true, []⟩,
  ⟨⟨(some (false, 27)), .bin .add (.l 23) (.l 26), none⟩, 6, true, []⟩,
  ⟨⟨(some (false, 28)), .mv (.g 0), none⟩, 7, true, []⟩,
  ⟨⟨(some (false, 29)), .mv (.g 1), none⟩, 8, true, []⟩,
  ⟨⟨(some (false, 30)), .bin .add (.l 29) (.c (.lit (.int .i64 1))), none⟩, 9, true, []⟩,
  ⟨⟨(some (false, 31)), .ssl (.l 28) (some (.l 30)) none, none⟩, 10, true, []⟩,
  ⟨⟨(some (false, 32)), .bin .add (.l 27) (.l 31), none⟩, 11, true, []⟩,
  ⟨⟨(some (true, 8)), .mv (.l 32), none⟩, 12, true, []⟩])
.ret)
(.seq
(.reg [
  ⟨(some (false, 34)), .bin .eql (.g 18) (.c (.lit (.int .i64 1))), none⟩,
  ⟨(some (true, 33)), .mv (.l 34), none⟩])
(.cond (.g 33)
(.seq
(.draw [
  ⟨⟨(some (false, 35)), .mv (.g 0), none⟩, 0, true, []⟩,
  ⟨⟨(some (false, 36)), .mv (.g 1), none⟩, 1, true, []⟩,
  ⟨⟨(some (false, 37)), .ssl (.l 35) none (some (.l 36)), none⟩, 2, true, []⟩,
  ⟨⟨(some (false, 38)), .mv (.g 0), none⟩, 3, true, []⟩,
  ⟨⟨(some (false, 39)), .mv (.g 1), none⟩, 4, true, []⟩,
  ⟨⟨(some (false, 40)), .bin .add (.l 39) (.c (.lit (.int .i64 1))), none⟩, 5, true, []⟩,
  ⟨⟨(some (false, 41)), .ssl (.l 38) (some (.l 40)) none, none⟩, 6, true, []⟩,
  ⟨⟨(some (false, 42)), .bin .add (.l 37) (.l 41), none⟩, 7, true, []⟩,
  ⟨⟨(some (true, 8)), .mv (.l 42), none⟩, 8, true, []⟩])
.ret)
.skip))))))
(.seq
(.draw [
  ⟨⟨(some (false, 43)), .mv (.g 0), none⟩, 0, true, []⟩,
  ⟨⟨(some (false, 44)), .mv (.g 1), none⟩, 1, true, []⟩,
  ⟨⟨(some (false, 45)), .ssl (.l 43) none (some (.l 44)), none⟩, 2, true, []⟩,
  ⟨⟨(some (false, 46)), .mv (.g 3), none⟩, 3, true, []⟩,
  ⟨⟨(some (false, 47)), .mks false 1 [.l 46], none⟩, 4, true, []⟩,
  ⟨⟨(some (false, 48)), .cvs (.l 47), none⟩, 5, true, []⟩,
  ⟨⟨(some (false, 49)), .bin .add (.l 45) (.l 48), none⟩, 6, true, []⟩,
  ⟨⟨(some (false, 50)), .mv (.g 0), none⟩, 7, true, []⟩,
  ⟨⟨(some (false, 51)), .mv (.g 1), none⟩, 8, true, []⟩,
  ⟨⟨(some (false, 52)), .ssl (.l 50) (some (.l 51)) none, none⟩, 9, true, []⟩,
  ⟨⟨(some (false, 53)), .bin .add (.l 49) (.l 52), none⟩, 10, true, []⟩,
  ⟨⟨(some (true, 8)), .mv (.l 53), none⟩, 11, true, []⟩])
.ret)))))
def K15 : List Nat := [0, 1, 2, 3, 11, 19, 33, 8, 18]
noncomputable def b15 : Code := match Tryz.f15.body with | some c => c | none => .skip
theorem t15 : trCode ⟨Tryz.prog, K15, [], 54, none⟩ b15 = some c15 := by kernel_rfl
theorem go15 {args : List AV} {H : AHeap} {Kk : AV → AHeap → Prop} (hn : args.length = 4) (h : AGo ⟨Tryz.prog, K15, [], 54, none⟩ H.length [.code c15] (RetP [.t (.g 8)] H.length Kk) ⟨[], argsG 0 args⟩ H) : ACalls Tryz.prog 15 args H Kk :=
  ACalls_of Tryz.func15 (c := b15) rfl (by kernel_rfl) t15 (rs := [.t (.g 8)]) (by kernel_rfl) (by rw [hn]; exact Nat.le_of_ble_eq_true rfl) (by rw [hn]; rfl) (h.weaken (fun _ _ => RetP.hands) (by simp))

/-- sastrugi/sastrugiref02.Write -/
def c13 : ACode :=
  (.seq
(.reg [
  ⟨(some (true, 1)), .box (.g 0), none⟩,
  ⟨(some (true, 2)), .mv (.c (.lit (.string ⟨[].toArray⟩))), none⟩,
  ⟨(some (true, 3)), .mv (.c (.lit (.int .i64 0))), none⟩])
(.seq
(.seq
(.reg [
  ⟨(some (false, 8)), .ld (some 3) (.g 1), none⟩,
  ⟨(some (false, 9)), .call (.c (.fn 35 [])) [.l 8], none⟩,
  ⟨(some (true, 4)), .mv (.l 9), none⟩])
(.seq
(.reg [
  ⟨(some (false, 10)), .mv (.g 4), none⟩,
  ⟨(some (true, 11)), .bin .neq (.l 10) (.c (.lit (.int .i64 0))), none⟩])
(.cond (.g 11)
(.seq
(.reg [
  ⟨(some (false, 12)), .mv (.g 4), none⟩,
  ⟨(some (true, 2)), .mv (.c (.lit (.string ⟨[].toArray⟩))), none⟩,
  ⟨(some (true, 3)), .mv (.l 12), none⟩])
.ret)
.skip)))
(.seq
(.reg [
  ⟨(some (false, 13)), .fa (.g 1) 0, none⟩,
  ⟨(some (false, 14)), .fa (.l 13) 0, none⟩,
  ⟨(some (false, 15)), .ld none (.l 14), none⟩,
  ⟨(some (false, 16)), .fa (.g 1) 0, none⟩,
  ⟨(some (false, 17)), .fa (.l 16) 1, none⟩,
  ⟨(some (false, 18)), .ld none (.l 17), none⟩,
  ⟨(some (false, 19)), .mks false 1 [.l 15, .l 18], none⟩,
  ⟨(some (false, 20)), .call (.c (.fn 36 [])) [.c (.lit (.string ⟨[114, 97, 100, 97, 114].toArray⟩)), .l 19], none⟩,
  ⟨(some (true, 5)), .mv (.l 20), none⟩])
(.seq
(.seq
(.reg [
  ⟨(some (true, 6)), .mv (.c (.lit (.int .i64 0))), none⟩])
(.block 0
(.loop
(.seq
(.seq
(.reg [
  ⟨(some (false, 21)), .mv (.g 6), none⟩,
  ⟨(some (false, 22)), .fa (.g 1) 2, none⟩,
  ⟨(some (false, 23)), .ld none (.l 22), none⟩,
  ⟨(some (false, 24)), .len (.l 23), none⟩,
  ⟨(some (true, 25)), .bin .lss (.l 21) (.l 24), none⟩])
(.cond (.g 25)
.skip
(.exit 0)))
(.seq
(.block 1
(.seq
(.reg [
  ⟨(some (false, 28)), .fa (.g 1) 2, none⟩,
  ⟨(some (false, 29)), .ld none (.l 28), none⟩,
  ⟨(some (false, 30)), .mv (.g 6), none⟩,
  ⟨(some (false, 31)), .ia 4 (.l 29) (.l 30), none⟩,
  ⟨(some (false, 32)), .ld (some 4) (.l 31), none⟩,
  ⟨(some (true, 7)), .new [.int .i64 0, .int .i64 0, .int .i64 0, .int .i64 0], none⟩,
  ⟨none, .st 4 (.g 7) (.l 32), none⟩])
(.reg [
  ⟨(some (false, 33)), .mv (.g 5), none⟩,
  ⟨(some (false, 34)), .fa (.g 7) 0, none⟩,
  ⟨(some (false, 35)), .ld none (.l 34), none⟩,
  ⟨(some (false, 36)), .fa (.g 7) 1, none⟩,
  ⟨(some (false, 37)), .ld none (.l 36), none⟩,
  ⟨(some (false, 38)), .fa (.g 7) 2, none⟩,
  ⟨(some (false, 39)), .fa (.l 38) 0, none⟩,
  ⟨(some (false, 40)), .ld none (.l 39), none⟩,
  ⟨(some (false, 41)), .fa (.g 7) 2, none⟩,
  ⟨(some (false, 42)), .fa (.l 41) 1, none⟩,
  ⟨(some (false, 43)), .ld none (.l 42), none⟩,
  ⟨(some (false, 44)), .mks false 1 [.l 35, .l 37, .l 40, .l 43], none⟩,
  ⟨(some (false, 45)), .call (.c (.fn 36 [])) [.c (.lit (.string ⟨[101, 99, 104, 111].toArray⟩)), .l 44], none⟩,
  ⟨(some (false, 46)), .bin .add (.l 33) (.l 45), none⟩,
  ⟨(some (true, 5)), .mv (.l 46), none⟩])))
(.reg [
  ⟨(some (false, 26)), .mv (.g 6), none⟩,
  ⟨(some (false, 27)), .bin .add (.l 26) (.c (.lit (.int .i64 1))), none⟩,
  ⟨(some (true, 6)), .mv (.l 27), none⟩]))))))
(.seq
(.reg [
  ⟨(some (false, 47)), .mv (.g 5), none⟩,
  ⟨(some (true, 2)), .mv (.l 47), none⟩,
  ⟨(some (true, 3)), .mv (.c (.lit (.int .i64 0))), none⟩])
.ret)))))
def K13 : List Nat := [0, 11, 25, 2, 3, 1, 4, 5, 6, 7]
noncomputable def b13 : Code := match Tryz.f13.body with | some c => c | none => .skip
theorem t13 : trCode ⟨Tryz.prog, K13, [], 48, none⟩ b13 = some c13 := by kernel_rfl
theorem go13 {args : List AV} {H : AHeap} {Kk : AV → AHeap → Prop} (hn : args.length = 1) (h : AGo ⟨Tryz.prog, K13, [], 48, none⟩ H.length [.code c13] (RetP [.t (.g 2), .t (.g 3)] H.length Kk) ⟨[], argsG 0 args⟩ H) : ACalls Tryz.prog 13 args H Kk :=
  ACalls_of Tryz.func13 (c := b13) rfl (by kernel_rfl) t13 (rs := [.t (.g 2), .t (.g 3)]) (by kernel_rfl) (by rw [hn]; exact Nat.le_of_ble_eq_true rfl) (by rw [hn]; rfl) (h.weaken (fun _ _ => RetP.hands) (by simp))

/-- sastrugi/sastrugiref02.Read -/
def c16 : ACode :=
  (.seq
(.reg [
  ⟨(some (true, 2)), .new [.int .i64 0, .int .i64 0, .slice none 0 0], none⟩,
  ⟨(some (true, 3)), .mv (.c (.lit (.int .i64 0))), none⟩,
  ⟨(some (true, 4)), .mv (.c (.lit (.int .i64 0))), none⟩])
(.seq
(.seq
(.reg [
  ⟨(some (false, 13)), .mv (.g 0), none⟩,
  ⟨(some (false, 14)), .lens (.l 13), none⟩,
  ⟨(some (true, 15)), .bin .gtr (.l 14) (.c (.lit (.int .i64 20000))), none⟩])
(.cond (.g 15)
(.seq
(.reg [
  ⟨(some (false, 16)), .mk [.int .i64 0, .int .i64 0, .slice none 0 0] [], none⟩,
  ⟨none, .st 3 (.g 2) (.l 16), none⟩,
  ⟨(some (true, 3)), .mv (.c (.lit (.int .i64 0))), none⟩,
  ⟨(some (true, 4)), .mv (.c (.lit (.int .i64 5))), none⟩])
.ret)
.skip))
(.seq
(.reg [
  ⟨(some (false, 17)), .mv (.g 0), none⟩,
  ⟨(some (false, 18)), .call (.c (.fn 38 [])) [.l 17, .c (.lit (.int .u8 10))], none⟩,
  ⟨(some (true, 5)), .mv (.l 18), none⟩])
(.seq
(.reg [
  ⟨(some (true, 6)), .new [.int .i64 0, .int .i64 0, .slice none 0 0], none⟩])
(.seq
(.seq
(.reg [
  ⟨(some (true, 7)), .mv (.c (.lit (.int .i64 0))), none⟩])
(.block 0
(.loop
(.seq
(.seq
(.reg [
  ⟨(some (false, 19)), .mv (.g 7), none⟩,
  ⟨(some (false, 20)), .mv (.g 5), none⟩,
  ⟨(some (false, 21)), .len (.l 20), none⟩,
  ⟨(some (false, 22)), .bin .sub (.l 21) (.c (.lit (.int .i64 1))), none⟩,
  ⟨(some (true, 23)), .bin .lss (.l 19) (.l 22), none⟩])
(.cond (.g 23)
.skip
(.exit 0)))
(.seq
(.block 1
(.seq
(.seq
(.reg [
  ⟨(some (false, 26)), .mv (.g 7), none⟩,
  ⟨(some (true, 27)), .bin .eql (.l 26) (.c (.lit (.int .i64 0))), none⟩])
(.cond (.g 27)
(.seq
(.reg [
  ⟨(some (false, 29)), .mv (.g 5), none⟩,
  ⟨(some (false, 30)), .ia 1 (.l 29) (.c (.lit (.int .i64 0))), none⟩,
  ⟨(some (false, 31)), .ld none (.l 30), none⟩,
  ⟨(some (false, 32)), .call (.c (.fn 39 [])) [.l 31, .c (.lit (.string ⟨[114, 97, 100, 97, 114].toArray⟩)), .c (.lit (.int .i64 2))], none⟩,
  ⟨(some (false, 28)), .mv (.l 32), none⟩,
  ⟨(some (false, 33)), .ex (.l 28) 0, none⟩,
  ⟨(some (false, 34)), .ex (.l 28) 1, none⟩,
  ⟨(some (true, 8)), .mv (.l 33), none⟩,
  ⟨(some (true, 9)), .mv (.l 34), none⟩])
(.seq
(.seq
(.reg [
  ⟨(some (false, 35)), .mv (.g 9), none⟩,
  ⟨(some (true, 36)), .un .not (.l 35), none⟩])
(.cond (.g 36)
(.seq
(.reg [
  ⟨(some (false, 37)), .mk [.int .i64 0, .int .i64 0, .slice none 0 0] [], none⟩,
  ⟨none, .st 3 (.g 2) (.l 37), none⟩,
  ⟨(some (true, 3)), .mv (.c (.lit (.int .i64 1))), none⟩,
  ⟨(some (true, 4)), .mv (.c (.lit (.int .i64 3))), none⟩])
.ret)
.skip))
(.seq
(.draw [
  ⟨⟨(some (false, 38)), .mv (.g 8), none⟩, 0, true, []⟩,
  ⟨⟨(some (false, 39)), .ia 1 (.l 38) (.c (.lit (.int .i64 0))), none⟩, 1, true, []⟩,
  ⟨⟨(some (false, 40)), .ld none (.l 39), none⟩, 2, true, []⟩,
  ⟨⟨(some (false, 41)), .mv (.g 8), none⟩, 3, true, []⟩,
  ⟨⟨(some (false, 42)), .ia 1 (.l 41) (.c (.lit (.int .i64 1))), none⟩, 4, true, []⟩,
  ⟨⟨(some (false, 43)), .ld none (.l 42), none⟩, 5, true, []⟩,
  ⟨⟨(some (false, 44)), .mk [.int .i64 0, .int .i64 0] [(0, 1, .l 40), (1, 1, .l 43)], none⟩, 6, true, []⟩,
  ⟨⟨(some (false, 45)), .fa (.g 6) 0, none⟩, 7, true, []⟩,
  ⟨⟨none, .st 2 (.l 45) (.l 44), none⟩, 8, true, []⟩])
(.exit 1))))
.skip))
(.seq
(.reg [
  ⟨(some (false, 47)), .mv (.g 5), none⟩,
  ⟨(some (false, 48)), .mv (.g 7), none⟩,
  ⟨(some (false, 49)), .ia 1 (.l 47) (.l 48), none⟩,
  ⟨(some (false, 50)), .ld none (.l 49), none⟩,
  ⟨(some (false, 51)), .call (.c (.fn 39 [])) [.l 50, .c (.lit (.string ⟨[101, 99, 104, 111].toArray⟩)), .c (.lit (.int .i64 4))], none⟩,
  ⟨(some (false, 46)), .mv (.l 51), none⟩,
  ⟨(some (false, 52)), .ex (.l 46) 0, none⟩,
  ⟨(some (false, 53)), .ex (.l 46) 1, none⟩,
  ⟨(some (true, 10)), .mv (.l 52), none⟩,
  ⟨(some (true, 11)), .mv (.l 53), none⟩])
(.seq
(.seq
(.reg [
  ⟨(some (false, 54)), .mv (.g 11), none⟩,
  ⟨(some (true, 55)), .un .not (.l 54), none⟩])
(.cond (.g 55)
(.seq
(.reg [
  ⟨(some (false, 56)), .mk [.int .i64 0, .int .i64 0, .slice none 0 0] [], none⟩,
  ⟨(some (false, 57)), .mv (.g 7), none⟩,
  ⟨(some (false, 58)), .bin .add (.l 57) (.c (.lit (.int .i64 1))), none⟩,
  ⟨none, .st 3 (.g 2) (.l 56), none⟩,
  ⟨(some (true, 3)), .mv (.l 58), none⟩,
  ⟨(some (true, 4)), .mv (.c (.lit (.int .i64 3))), none⟩])
.ret)
.skip))
(.draw [
  ⟨⟨(some (false, 59)), .fa (.g 6) 2, none⟩, 0, true, []⟩,
  ⟨⟨(some (false, 60)), .ld none (.l 59), none⟩, 1, true, []⟩,
  ⟨⟨(some (false, 61)), .mv (.g 10), none⟩, 2, true, []⟩,
  ⟨⟨(some (false, 62)), .ia 1 (.l 61) (.c (.lit (.int .i64 0))), none⟩, 3, true, []⟩,
  ⟨⟨(some (false, 63)), .ld none (.l 62), none⟩, 4, true, []⟩,
  ⟨⟨(some (false, 64)), .mv (.g 10), none⟩, 5, true, []⟩,
  ⟨⟨(some (false, 65)), .ia 1 (.l 64) (.c (.lit (.int .i64 1))), none⟩, 6, true, []⟩,
  ⟨⟨(some (false, 66)), .ld none (.l 65), none⟩, 7, true, []⟩,
  ⟨⟨(some (false, 67)), .mv (.g 10), none⟩, 8, true, []⟩,
  ⟨⟨(some (false, 68)), .ia 1 (.l 67) (.c (.lit (.int .i64 2))), none⟩, 9, true, []⟩,
  ⟨⟨(some (false, 69)), .ld none (.l 68), none⟩, 10, true, []⟩,
  ⟨⟨(some (false, 70)), .mv (.g 10), none⟩, 11, true, []⟩,
  ⟨⟨(some (false, 71)), .ia 1 (.l 70) (.c (.lit (.int .i64 3))), none⟩, 12, true, []⟩,
  ⟨⟨(some (false, 72)), .ld none (.l 71), none⟩, 13, true, []⟩,
  ⟨⟨(some (false, 73)), .mk [.int .i64 0, .int .i64 0] [(0, 1, .l 69), (1, 1, .l 72)], none⟩, 14, true, []⟩,
  ⟨⟨(some (false, 74)), .mk [.int .i64 0, .int .i64 0, .int .i64 0, .int .i64 0] [(0, 1, .l 63), (1, 1, .l 66), (2, 2, .l 73)], none⟩, 15, true, []⟩,
  ⟨⟨(some (false, 75)), .mks false 4 [.l 74], none⟩, 16, true, []⟩,
  ⟨⟨(some (false, 76)), .app 4 32 (.l 60) (.l 75), none⟩, 17, false, []⟩,
  ⟨⟨(some (false, 77)), .fa (.g 6) 2, none⟩, 18, true, []⟩,
  ⟨⟨none, .st 1 (.l 77) (.l 76), none⟩, 19, true, []⟩])))))
(.reg [
  ⟨(some (false, 24)), .mv (.g 7), none⟩,
  ⟨(some (false, 25)), .bin .add (.l 24) (.c (.lit (.int .i64 1))), none⟩,
  ⟨(some (true, 7)), .mv (.l 25), none⟩]))))))
(.seq
(.seq
(.reg [
  ⟨(some (false, 78)), .mv (.g 5), none⟩,
  ⟨(some (false, 79)), .len (.l 78), none⟩,
  ⟨(some (false, 80)), .bin .eql (.l 79) (.c (.lit (.int .i64 1))), none⟩,
  ⟨(some (false, 81)), .mv (.l 80), none⟩,
  ⟨(some (false, 82)), .mv (.g 5), (some (.l 81, false))⟩,
  ⟨(some (false, 83)), .mv (.g 5), (some (.l 81, false))⟩,
  ⟨(some (false, 84)), .len (.l 83), (some (.l 81, false))⟩,
  ⟨(some (false, 85)), .bin .sub (.l 84) (.c (.lit (.int .i64 1))), (some (.l 81, false))⟩,
  ⟨(some (false, 86)), .ia 1 (.l 82) (.l 85), (some (.l 81, false))⟩,
  ⟨(some (false, 87)), .ld none (.l 86), (some (.l 81, false))⟩,
  ⟨(some (false, 88)), .bin .neq (.l 87) (.c (.lit (.string ⟨[].toArray⟩))), (some (.l 81, false))⟩,
  ⟨(some (true, 89)), .pick (.l 81) (.c (.lit (.bool true))) (.l 88), none⟩])
(.cond (.g 89)
(.seq
(.reg [
  ⟨(some (false, 90)), .mk [.int .i64 0, .int .i64 0, .slice none 0 0] [], none⟩,
  ⟨(some (false, 91)), .mv (.g 5), none⟩,
  ⟨(some (false, 92)), .len (.l 91), none⟩,
  ⟨none, .st 3 (.g 2) (.l 90), none⟩,
  ⟨(some (true, 3)), .mv (.l 92), none⟩,
  ⟨(some (true, 4)), .mv (.c (.lit (.int .i64 3))), none⟩])
.ret)
.skip))
(.seq
(.seq
(.reg [
  ⟨(some (false, 93)), .ld (some 3) (.g 6), none⟩,
  ⟨(some (false, 94)), .call (.c (.fn 35 [])) [.l 93], none⟩,
  ⟨(some (true, 12)), .mv (.l 94), none⟩])
(.seq
(.reg [
  ⟨(some (false, 95)), .mv (.g 12), none⟩,
  ⟨(some (true, 96)), .bin .neq (.l 95) (.c (.lit (.int .i64 0))), none⟩])
(.cond (.g 96)
(.seq
(.reg [
  ⟨(some (false, 97)), .mk [.int .i64 0, .int .i64 0, .slice none 0 0] [], none⟩,
  ⟨(some (false, 98)), .mv (.g 12), none⟩,
  ⟨none, .st 3 (.g 2) (.l 97), none⟩,
  ⟨(some (true, 3)), .mv (.c (.lit (.int .i64 0))), none⟩,
  ⟨(some (true, 4)), .mv (.l 98), none⟩])
.ret)
.skip)))
(.seq
(.reg [
  ⟨(some (false, 99)), .ld (some 3) (.g 6), none⟩,
  ⟨none, .st 3 (.g 2) (.l 99), none⟩,
  ⟨(some (true, 3)), .mv (.c (.lit (.int .i64 0))), none⟩,
  ⟨(some (true, 4)), .mv (.c (.lit (.int .i64 0))), none⟩])
.ret))))))))
def K16 : List Nat := [0, 15, 23, 27, 36, 55, 89, 96, 2, 3, 4, 5, 6, 7, 8, 9, 10, 11, 12]
noncomputable def b16 : Code := match Tryz.f16.body with | some c => c | none => .skip
theorem t16 : trCode ⟨Tryz.prog, K16, [], 100, none⟩ b16 = some c16 := by kernel_rfl
theorem go16 {args : List AV} {H : AHeap} {Kk : AV → AHeap → Prop} (hn : args.length = 1) (h : AGo ⟨Tryz.prog, K16, [], 100, none⟩ H.length [.code c16] (RetP [.cell (.g 2) (some 3), .t (.g 3), .t (.g 4)] H.length Kk) ⟨[], argsG 0 args⟩ H) : ACalls Tryz.prog 16 args H Kk :=
  ACalls_of Tryz.func16 (c := b16) rfl (by kernel_rfl) t16 (rs := [.cell (.g 2) (some 3), .t (.g 3), .t (.g 4)]) (by kernel_rfl) (by rw [hn]; exact Nat.le_of_ble_eq_true rfl) (by rw [hn]; rfl) (h.weaken (fun _ _ => RetP.hands) (by simp))

/-- sastrugi/probe.Looks -/
def c11 : ACode :=
  (.seq
(.reg [
  ⟨(some (true, 1)), .box (.g 0), none⟩,
  ⟨(some (true, 2)), .mv (.c (.lit (.slice none 0 0))), none⟩,
  ⟨(some (true, 3)), .mv (.c (.lit (.int .i64 0))), none⟩])
(.seq
(.seq
(.reg [
  ⟨(some (false, 10)), .ld (some 3) (.g 1), none⟩,
  ⟨(some (false, 11)), .call (.c (.fn 27 [])) [.l 10], none⟩,
  ⟨(some (true, 4)), .mv (.l 11), none⟩])
(.seq
(.reg [
  ⟨(some (false, 12)), .mv (.g 4), none⟩,
  ⟨(some (true, 13)), .bin .neq (.l 12) (.c (.lit (.int .i64 0))), none⟩])
(.cond (.g 13)
(.seq
(.reg [
  ⟨(some (false, 14)), .mv (.g 4), none⟩,
  ⟨(some (true, 2)), .mv (.c (.lit (.slice none 0 0))), none⟩,
  ⟨(some (true, 3)), .mv (.l 14), none⟩])
.ret)
.skip)))
(.seq
(.reg [
  ⟨(some (true, 5)), .mv (.c (.lit (.slice none 0 0))), none⟩])
(.seq
(.seq
(.reg [
  ⟨(some (false, 15)), .fa (.g 1) 2, none⟩,
  ⟨(some (true, 16)), .ld none (.l 15), none⟩,
  ⟨(some (true, 17)), .len (.g 16), none⟩,
  ⟨(some (true, 18)), .mv (.c (.lit (.int .i64 0))), none⟩])
(.block 0
(.loop
(.seq
(.reg [
  ⟨(some (true, 19)), .bin .lss (.g 18) (.g 17), none⟩])
(.seq
(.cond (.g 19)
.skip
(.exit 0))
(.seq
(.block 1
(.seq
(.reg [
  ⟨(some (false, 20)), .ia 4 (.g 16) (.g 18), none⟩,
  ⟨(some (false, 21)), .ld (some 4) (.l 20), none⟩,
  ⟨(some (true, 7)), .new [.int .i64 0, .int .i64 0, .int .i64 0, .int .i64 0], none⟩,
  ⟨none, .st 4 (.g 7) (.l 21), none⟩])
(.seq
(.draw [
  ⟨⟨(some (false, 22)), .fa (.g 1) 0, none⟩, 0, true, []⟩,
  ⟨⟨(some (false, 23)), .fa (.l 22) 0, none⟩, 1, true, []⟩,
  ⟨⟨(some (false, 24)), .ld none (.l 23), none⟩, 2, true, []⟩,
  ⟨⟨(some (false, 25)), .fa (.g 7) 2, none⟩, 3, true, []⟩,
  ⟨⟨(some (false, 26)), .fa (.l 25) 0, none⟩, 4, true, []⟩,
  ⟨⟨(some (false, 27)), .ld none (.l 26), none⟩, 5, true, []⟩,
  ⟨⟨(some (false, 28)), .bin .mul (.l 24) (.l 27), none⟩, 6, true, []⟩,
  ⟨⟨(some (false, 29)), .bin .quo (.l 28) (.c (.lit (.int .i64 2000))), none⟩, 7, true, []⟩,
  ⟨⟨(some (false, 30)), .fa (.g 1) 0, none⟩, 8, true, []⟩,
  ⟨⟨(some (false, 31)), .fa (.l 30) 1, none⟩, 9, true, []⟩,
  ⟨⟨(some (false, 32)), .ld none (.l 31), none⟩, 10, true, []⟩,
  ⟨⟨(some (false, 33)), .fa (.g 7) 2, none⟩, 11, true, []⟩,
  ⟨⟨(some (false, 34)), .fa (.l 33) 1, none⟩, 12, true, []⟩,
  ⟨⟨(some (false, 35)), .ld none (.l 34), none⟩, 13, true, []⟩,
  ⟨⟨(some (false, 36)), .bin .mul (.l 32) (.l 35), none⟩, 14, true, []⟩,
  ⟨⟨(some (false, 37)), .bin .add (.l 36) (.c (.lit (.int .i64 1999))), none⟩, 15, true, []⟩,
  ⟨⟨(some (false, 38)), .bin .quo (.l 37) (.c (.lit (.int .i64 2000))), none⟩, 16, true, []⟩,
  ⟨⟨(some (true, 8)), .mv (.l 29), none⟩, 17, true, []⟩,
  ⟨⟨(some (true, 9)), .mv (.l 38), none⟩, 18, true, []⟩])
(.reg [
  ⟨(some (false, 39)), .mv (.g 5), none⟩,
  ⟨(some (false, 40)), .fa (.g 7) 0, none⟩,
  ⟨(some (false, 41)), .ld none (.l 40), none⟩,
  ⟨(some (false, 42)), .fa (.g 7) 1, none⟩,
  ⟨(some (false, 43)), .ld none (.l 42), none⟩,
  ⟨(some (false, 44)), .mv (.g 8), none⟩,
  ⟨(some (false, 45)), .mn [.l 44, .c (.lit (.int .i64 3000))], none⟩,
  ⟨(some (false, 46)), .mv (.g 9), none⟩,
  ⟨(some (false, 47)), .mn [.l 46, .c (.lit (.int .i64 3000))], none⟩,
  ⟨(some (false, 48)), .mk [.int .i64 0, .int .i64 0] [(0, 1, .l 45), (1, 1, .l 47)], none⟩,
  ⟨(some (false, 49)), .mk [.int .i64 0, .int .i64 0, .int .i64 0, .int .i64 0, .int .i64 0] [(0, 1, .c (.lit (.int .i64 3))), (1, 1, .l 41), (2, 1, .l 43), (3, 2, .l 48)], none⟩,
  ⟨(some (false, 50)), .mks false 5 [.l 49], none⟩,
  ⟨(some (false, 51)), .app 5 40 (.l 39) (.l 50), none⟩,
  ⟨(some (true, 5)), .mv (.l 51), none⟩]))))
(.reg [
  ⟨(some (false, 52)), .bin .add (.g 18) (.c (.lit (.int .i64 1))), none⟩,
  ⟨(some (true, 18)), .mv (.l 52), none⟩])))))))
(.seq
(.reg [
  ⟨(some (false, 53)), .mv (.g 5), none⟩,
  ⟨(some (true, 2)), .mv (.l 53), none⟩,
  ⟨(some (true, 3)), .mv (.c (.lit (.int .i64 0))), none⟩])
.ret)))))
def K11 : List Nat := [0, 13, 19, 2, 3, 1, 4, 5, 16, 17, 18, 7, 8, 9]
noncomputable def b11 : Code := match Tryz.f11.body with | some c => c | none => .skip
theorem t11 : trCode ⟨Tryz.prog, K11, [], 54, none⟩ b11 = some c11 := by kernel_rfl
theorem go11 {args : List AV} {H : AHeap} {Kk : AV → AHeap → Prop} (hn : args.length = 1) (h : AGo ⟨Tryz.prog, K11, [], 54, none⟩ H.length [.code c11] (RetP [.t (.g 2), .t (.g 3)] H.length Kk) ⟨[], argsG 0 args⟩ H) : ACalls Tryz.prog 11 args H Kk :=
  ACalls_of Tryz.func11 (c := b11) rfl (by kernel_rfl) t11 (rs := [.t (.g 2), .t (.g 3)]) (by kernel_rfl) (by rw [hn]; exact Nat.le_of_ble_eq_true rfl) (by rw [hn]; rfl) (h.weaken (fun _ _ => RetP.hands) (by simp))

/-- sastrugi/sastrugiref02.Looks -/
def c12 : ACode :=
  (.seq
(.reg [
  ⟨(some (true, 1)), .box (.g 0), none⟩,
  ⟨(some (true, 2)), .mv (.c (.lit (.slice none 0 0))), none⟩,
  ⟨(some (true, 3)), .mv (.c (.lit (.int .i64 0))), none⟩])
(.seq
(.seq
(.reg [
  ⟨(some (false, 9)), .ld (some 3) (.g 1), none⟩,
  ⟨(some (false, 10)), .call (.c (.fn 35 [])) [.l 9], none⟩,
  ⟨(some (true, 4)), .mv (.l 10), none⟩])
(.seq
(.reg [
  ⟨(some (false, 11)), .mv (.g 4), none⟩,
  ⟨(some (true, 12)), .bin .neq (.l 11) (.c (.lit (.int .i64 0))), none⟩])
(.cond (.g 12)
(.seq
(.reg [
  ⟨(some (false, 13)), .mv (.g 4), none⟩,
  ⟨(some (true, 2)), .mv (.c (.lit (.slice none 0 0))), none⟩,
  ⟨(some (true, 3)), .mv (.l 13), none⟩])
.ret)
.skip)))
(.seq
(.reg [
  ⟨(some (true, 5)), .mv (.c (.lit (.slice none 0 0))), none⟩])
(.seq
(.seq
(.reg [
  ⟨(some (true, 6)), .mv (.c (.lit (.int .i64 0))), none⟩])
(.block 0
(.loop
(.seq
(.seq
(.reg [
  ⟨(some (false, 14)), .mv (.g 6), none⟩,
  ⟨(some (false, 15)), .fa (.g 1) 2, none⟩,
  ⟨(some (false, 16)), .ld none (.l 15), none⟩,
  ⟨(some (false, 17)), .len (.l 16), none⟩,
  ⟨(some (true, 18)), .bin .lss (.l 14) (.l 17), none⟩])
(.cond (.g 18)
.skip
(.exit 0)))
(.seq
(.block 1
(.seq
(.reg [
  ⟨(some (false, 21)), .fa (.g 1) 2, none⟩,
  ⟨(some (false, 22)), .ld none (.l 21), none⟩,
  ⟨(some (false, 23)), .mv (.g 6), none⟩,
  ⟨(some (false, 24)), .ia 4 (.l 22) (.l 23), none⟩,
  ⟨(some (false, 25)), .ld (some 4) (.l 24), none⟩,
  ⟨(some (true, 7)), .new [.int .i64 0, .int .i64 0, .int .i64 0, .int .i64 0], none⟩,
  ⟨none, .st 4 (.g 7) (.l 25), none⟩])
(.seq
(.reg [
  ⟨(some (false, 26)), .fa (.g 1) 0, none⟩,
  ⟨(some (false, 27)), .fa (.l 26) 0, none⟩,
  ⟨(some (false, 28)), .ld none (.l 27), none⟩,
  ⟨(some (false, 29)), .fa (.g 7) 2, none⟩,
  ⟨(some (false, 30)), .fa (.l 29) 0, none⟩,
  ⟨(some (false, 31)), .ld none (.l 30), none⟩,
  ⟨(some (false, 32)), .bin .mul (.l 28) (.l 31), none⟩,
  ⟨(some (false, 33)), .bin .quo (.l 32) (.c (.lit (.int .i64 2000))), none⟩,
  ⟨(some (false, 34)), .mn [.c (.lit (.int .i64 3000)), .l 33], none⟩,
  ⟨(some (false, 35)), .fa (.g 1) 0, none⟩,
  ⟨(some (false, 36)), .fa (.l 35) 1, none⟩,
  ⟨(some (false, 37)), .ld none (.l 36), none⟩,
  ⟨(some (false, 38)), .fa (.g 7) 2, none⟩,
  ⟨(some (false, 39)), .fa (.l 38) 1, none⟩,
  ⟨(some (false, 40)), .ld none (.l 39), none⟩,
  ⟨(some (false, 41)), .bin .mul (.l 37) (.l 40), none⟩,
  ⟨(some (false, 42)), .bin .add (.l 41) (.c (.lit (.int .i64 1999))), none⟩,
  ⟨(some (false, 43)), .bin .quo (.l 42) (.c (.lit (.int .i64 2000))), none⟩,
  ⟨(some (false, 44)), .mn [.c (.lit (.int .i64 3000)), .l 43], none⟩,
  ⟨(some (false, 45)), .mk [.int .i64 0, .int .i64 0] [(0, 1, .l 34), (1, 1, .l 44)], none⟩,
  ⟨(some (true, 8)), .new [.int .i64 0, .int .i64 0], none⟩,
  ⟨none, .st 2 (.g 8) (.l 45), none⟩])
(.reg [
  ⟨(some (false, 46)), .mv (.g 5), none⟩,
  ⟨(some (false, 47)), .fa (.g 7) 0, none⟩,
  ⟨(some (false, 48)), .ld none (.l 47), none⟩,
  ⟨(some (false, 49)), .fa (.g 7) 1, none⟩,
  ⟨(some (false, 50)), .ld none (.l 49), none⟩,
  ⟨(some (false, 51)), .ld (some 2) (.g 8), none⟩,
  ⟨(some (false, 52)), .mk [.int .i64 0, .int .i64 0, .int .i64 0, .int .i64 0, .int .i64 0] [(0, 1, .c (.lit (.int .i64 3))), (1, 1, .l 48), (2, 1, .l 50), (3, 2, .l 51)], none⟩,
  ⟨(some (false, 53)), .mks false 5 [.l 52], none⟩,
  ⟨(some (false, 54)), .app 5 40 (.l 46) (.l 53), none⟩,
  ⟨(some (true, 5)), .mv (.l 54), none⟩]))))
(.reg [
  ⟨(some (false, 19)), .mv (.g 6), none⟩,
  ⟨(some (false, 20)), .bin .add (.l 19) (.c (.lit (.int .i64 1))), none⟩,
  ⟨(some (true, 6)), .mv (.l 20), none⟩]))))))
(.seq
(.reg [
  ⟨(some (false, 55)), .mv (.g 5), none⟩,
  ⟨(some (true, 2)), .mv (.l 55), none⟩,
  ⟨(some (true, 3)), .mv (.c (.lit (.int .i64 0))), none⟩])
.ret)))))
def K12 : List Nat := [0, 12, 18, 2, 3, 1, 4, 5, 6, 7, 8]
noncomputable def b12 : Code := match Tryz.f12.body with | some c => c | none => .skip
theorem t12 : trCode ⟨Tryz.prog, K12, [], 56, none⟩ b12 = some c12 := by kernel_rfl
theorem go12 {args : List AV} {H : AHeap} {Kk : AV → AHeap → Prop} (hn : args.length = 1) (h : AGo ⟨Tryz.prog, K12, [], 56, none⟩ H.length [.code c12] (RetP [.t (.g 2), .t (.g 3)] H.length Kk) ⟨[], argsG 0 args⟩ H) : ACalls Tryz.prog 12 args H Kk :=
  ACalls_of Tryz.func12 (c := b12) rfl (by kernel_rfl) t12 (rs := [.t (.g 2), .t (.g 3)]) (by kernel_rfl) (by rw [hn]; exact Nat.le_of_ble_eq_true rfl) (by rw [hn]; rfl) (h.weaken (fun _ _ => RetP.hands) (by simp))

end Go.Sas
namespace Go.Sas
open Go.Proofs
set_option maxRecDepth 100000
/-- sastrugi/sastrugilaw02.ProbeTracks -/
def c4 : ACode :=
  (.seq
(.reg [
  ⟨(some (true, 6)), .box (.g 0), none⟩,
  ⟨(some (true, 12)), .mv (.c (.lit (.bool false))), none⟩])
(.seq
(.seq
(.reg [
  ⟨(some (false, 33)), .fa (.g 6) 2, none⟩,
  ⟨(some (false, 34)), .ld none (.l 33), none⟩,
  ⟨(some (false, 35)), .len (.l 34), none⟩,
  ⟨(some (false, 36)), .bin .gtr (.l 35) (.c (.lit (.int .i64 210))), none⟩,
  ⟨(some (false, 37)), .mv (.l 36), none⟩,
  ⟨(some (false, 38)), .mv (.g 1), (some (.l 37, false))⟩,
  ⟨(some (false, 39)), .lens (.l 38), (some (.l 37, false))⟩,
  ⟨(some (false, 40)), .bin .gtr (.l 39) (.c (.lit (.int .i64 2000))), (some (.l 37, false))⟩,
  ⟨(some (false, 41)), .mv (.l 40), (some (.l 37, false))⟩,
  ⟨(some (false, 42)), .mv (.g 1), (some (.l 41, true))⟩,
  ⟨(some (false, 43)), .lens (.l 42), (some (.l 41, true))⟩,
  ⟨(some (false, 44)), .bin .leq (.l 43) (.c (.lit (.int .i64 20000))), (some (.l 41, true))⟩,
  ⟨(some (false, 45)), .pick (.l 41) (.l 44) (.c (.lit (.bool false))), (some (.l 37, false))⟩,
  ⟨(some (true, 46)), .pick (.l 37) (.c (.lit (.bool true))) (.l 45), none⟩])
(.cond (.g 46)
(.seq
(.reg [
  ⟨(some (false, 47)), .call (.c (.fn 5 [])) [], none⟩,
  ⟨(some (true, 12)), .mv (.l 47), none⟩])
.ret)
.skip))
(.seq
(.reg [
  ⟨(some (false, 48)), .mv (.g 2), none⟩,
  ⟨(some (false, 49)), .call (.c (.fn 7 [])) [.l 48], none⟩,
  ⟨(some (false, 50)), .call (.c (.fn 6 [])) [.l 49, .c (.lit (.int .i64 6))], none⟩,
  ⟨(some (true, 13)), .new [.int .i64 0, .int .i64 0, .slice none 0 0], none⟩,
  ⟨none, .st 3 (.g 13) (.l 50), none⟩])
(.seq
(.reg [
  ⟨(some (false, 51)), .ld (some 3) (.g 6), none⟩,
  ⟨(some (false, 52)), .ld (some 3) (.g 13), none⟩,
  ⟨(some (false, 53)), .mks false 3 [.l 51, .l 52], none⟩,
  ⟨(some (false, 54)), .mv (.g 1), none⟩,
  ⟨(some (false, 55)), .mks true 1 [.l 54], none⟩,
  ⟨(some (true, 14)), .mv (.l 53), none⟩,
  ⟨(some (true, 15)), .mv (.l 55), none⟩])
(.seq
(.seq
(.reg [
  ⟨(some (true, 16)), .mv (.c (.lit (.int .i64 0))), none⟩])
(.block 0
(.loop
(.seq
(.seq
(.reg [
  ⟨(some (false, 56)), .mv (.g 16), none⟩,
  ⟨(some (false, 57)), .mv (.g 14), none⟩,
  ⟨(some (false, 58)), .len (.l 57), none⟩,
  ⟨(some (true, 59)), .bin .lss (.l 56) (.l 58), none⟩])
(.cond (.g 59)
.skip
(.exit 0)))
(.seq
(.block 1
(.seq
(.draw [
  ⟨⟨(some (false, 62)), .mv (.g 14), none⟩, 0, true, []⟩,
  ⟨⟨(some (false, 63)), .mv (.g 16), none⟩, 1, true, []⟩,
  ⟨⟨(some (false, 64)), .ia 3 (.l 62) (.l 63), none⟩, 2, true, []⟩,
  ⟨⟨(some (false, 65)), .fa (.l 64) 0, none⟩, 3, true, []⟩,
  ⟨⟨(some (false, 66)), .ld (some 2) (.l 65), none⟩, 4, true, []⟩,
  ⟨⟨(some (false, 67)), .mks false 4 [], none⟩, 5, true, []⟩,
  ⟨⟨(some (false, 68)), .mv (.g 14), none⟩, 6, true, []⟩,
  ⟨⟨(some (false, 69)), .mv (.g 16), none⟩, 7, true, []⟩,
  ⟨⟨(some (false, 70)), .ia 3 (.l 68) (.l 69), none⟩, 8, true, []⟩,
  ⟨⟨(some (false, 71)), .fa (.l 70) 2, none⟩, 9, true, []⟩,
  ⟨⟨(some (false, 72)), .ld none (.l 71), none⟩, 10, true, []⟩,
  ⟨⟨(some (true, 17)), .new [.int .i64 0, .int .i64 0, .slice none 0 0], none⟩, 13, true, []⟩,
  ⟨⟨(some (false, 73)), .app 4 32 (.l 67) (.l 72), none⟩, 11, false, []⟩,
  ⟨⟨(some (false, 74)), .mk [.int .i64 0, .int .i64 0, .slice none 0 0] [(0, 2, .l 66), (2, 1, .l 73)], none⟩, 12, true, []⟩,
  ⟨⟨none, .st 3 (.g 17) (.l 74), none⟩, 14, true, [13]⟩])
(.seq
(.reg [
  ⟨(some (false, 76)), .ld (some 3) (.g 17), none⟩,
  ⟨(some (false, 77)), .call (.c (.fn 11 [])) [.l 76], none⟩,
  ⟨(some (false, 75)), .mv (.l 77), none⟩,
  ⟨(some (false, 78)), .ex (.l 75) 0, none⟩,
  ⟨(some (false, 79)), .ex (.l 75) 1, none⟩,
  ⟨(some (true, 18)), .mv (.l 78), none⟩,
  ⟨(some (true, 19)), .mv (.l 79), none⟩])
(.seq
(.reg [
  ⟨(some (false, 81)), .mv (.g 14), none⟩,
  ⟨(some (false, 82)), .mv (.g 16), none⟩,
  ⟨(some (false, 83)), .ia 3 (.l 81) (.l 82), none⟩,
  ⟨(some (false, 84)), .ld (some 3) (.l 83), none⟩,
  ⟨(some (false, 85)), .call (.c (.fn 12 [])) [.l 84], none⟩,
  ⟨(some (false, 80)), .mv (.l 85), none⟩,
  ⟨(some (false, 86)), .ex (.l 80) 0, none⟩,
  ⟨(some (false, 87)), .ex (.l 80) 1, none⟩,
  ⟨(some (true, 20)), .mv (.l 86), none⟩,
  ⟨(some (true, 21)), .mv (.l 87), none⟩])
(.seq
(.reg [
  ⟨(some (false, 89)), .ld (some 3) (.g 17), none⟩,
  ⟨(some (false, 90)), .call (.c (.fn 8 [])) [.l 89], none⟩,
  ⟨(some (false, 88)), .mv (.l 90), none⟩,
  ⟨(some (false, 91)), .ex (.l 88) 0, none⟩,
  ⟨(some (false, 92)), .ex (.l 88) 1, none⟩,
  ⟨(some (true, 22)), .mv (.l 91), none⟩,
  ⟨(some (true, 23)), .mv (.l 92), none⟩])
(.seq
(.reg [
  ⟨(some (false, 94)), .mv (.g 14), none⟩,
  ⟨(some (false, 95)), .mv (.g 16), none⟩,
  ⟨(some (false, 96)), .ia 3 (.l 94) (.l 95), none⟩,
  ⟨(some (false, 97)), .ld (some 3) (.l 96), none⟩,
  ⟨(some (false, 98)), .call (.c (.fn 13 [])) [.l 97], none⟩,
  ⟨(some (false, 93)), .mv (.l 98), none⟩,
  ⟨(some (false, 99)), .ex (.l 93) 0, none⟩,
  ⟨(some (false, 100)), .ex (.l 93) 1, none⟩,
  ⟨(some (true, 24)), .mv (.l 99), none⟩,
  ⟨(some (true, 25)), .mv (.l 100), none⟩])
(.seq
(.seq
(.draw [
  ⟨⟨(some (false, 101)), .mv (.g 19), none⟩, 0, true, []⟩,
  ⟨⟨(some (false, 102)), .mv (.g 21), none⟩, 1, true, []⟩,
  ⟨⟨(some (false, 103)), .bin .neq (.l 101) (.l 102), none⟩, 2, true, []⟩,
  ⟨⟨(some (false, 104)), .mv (.l 103), none⟩, 3, true, []⟩,
  ⟨⟨(some (false, 105)), .mv (.g 23), (some (.l 104, false))⟩, 4, true, []⟩,
  ⟨⟨(some (false, 106)), .mv (.g 25), (some (.l 104, false))⟩, 5, true, []⟩,
  ⟨⟨(some (false, 107)), .bin .neq (.l 105) (.l 106), (some (.l 104, false))⟩, 6, true, []⟩,
  ⟨⟨(some (false, 108)), .pick (.l 104) (.c (.lit (.bool true))) (.l 107), none⟩, 7, true, []⟩,
  ⟨⟨(some (false, 109)), .mv (.l 108), none⟩, 8, true, []⟩,
  ⟨⟨(some (false, 110)), .mv (.g 22), (some (.l 109, false))⟩, 9, true, []⟩,
  ⟨⟨(some (false, 111)), .mv (.g 24), (some (.l 109, false))⟩, 10, true, []⟩,
  ⟨⟨(some (false, 112)), .bin .neq (.l 110) (.l 111), (some (.l 109, false))⟩, 11, true, []⟩,
  ⟨⟨(some (false, 113)), .pick (.l 109) (.c (.lit (.bool true))) (.l 112), none⟩, 12, true, []⟩,
  ⟨⟨(some (false, 114)), .mv (.l 113), none⟩, 13, true, []⟩,
  ⟨⟨(some (false, 115)), .mv (.g 18), (some (.l 114, false))⟩, 14, true, []⟩,
  ⟨⟨(some (false, 116)), .mv (.g 20), (some (.l 114, false))⟩, 15, true, []⟩,
  ⟨⟨(some (false, 117)), .call (.c (.fn 14 [])) [.l 115, .l 116], (some (.l 114, false))⟩, 16, false, []⟩,
  ⟨⟨(some (false, 118)), .un .not (.l 117), (some (.l 114, false))⟩, 17, true, []⟩,
  ⟨⟨(some (false, 119)), .pick (.l 114) (.c (.lit (.bool true))) (.l 118), none⟩, 18, true, []⟩,
  ⟨⟨(some (false, 120)), .mv (.l 119), none⟩, 19, true, []⟩,
  ⟨⟨(some (false, 121)), .ld (some 3) (.g 17), (some (.l 120, false))⟩, 20, true, []⟩,
  ⟨⟨(some (false, 122)), .mv (.g 14), (some (.l 120, false))⟩, 21, true, []⟩,
  ⟨⟨(some (false, 123)), .mv (.g 16), (some (.l 120, false))⟩, 22, true, []⟩,
  ⟨⟨(some (false, 124)), .ia 3 (.l 122) (.l 123), (some (.l 120, false))⟩, 23, true, []⟩,
  ⟨⟨(some (false, 125)), .ld (some 3) (.l 124), (some (.l 120, false))⟩, 24, true, []⟩,
  ⟨⟨(some (false, 126)), .call (.c (.fn 10 [])) [.l 121, .l 125], (some (.l 120, false))⟩, 25, false, []⟩,
  ⟨⟨(some (false, 127)), .un .not (.l 126), (some (.l 120, false))⟩, 26, true, []⟩,
  ⟨⟨(some (true, 128)), .pick (.l 120) (.c (.lit (.bool true))) (.l 127), none⟩, 27, true, []⟩])
(.cond (.g 128)
(.seq
(.reg [
  ⟨(some (true, 12)), .mv (.c (.lit (.bool false))), none⟩])
.ret)
.skip))
(.reg [
  ⟨(some (false, 129)), .mv (.g 15), none⟩,
  ⟨(some (false, 130)), .mv (.g 24), none⟩,
  ⟨(some (false, 131)), .mks false 1 [.l 130], none⟩,
  ⟨(some (false, 132)), .app 1 16 (.l 129) (.l 131), none⟩,
  ⟨(some (true, 15)), .mv (.l 132), none⟩]))))))))
(.reg [
  ⟨(some (false, 60)), .mv (.g 16), none⟩,
  ⟨(some (false, 61)), .bin .add (.l 60) (.c (.lit (.int .i64 1))), none⟩,
  ⟨(some (true, 16)), .mv (.l 61), none⟩]))))))
(.seq
(.reg [
  ⟨(some (false, 133)), .mv (.g 15), none⟩,
  ⟨(some (false, 134)), .mv (.g 15), none⟩,
  ⟨(some (false, 135)), .ia 1 (.l 134) (.c (.lit (.int .i64 2))), none⟩,
  ⟨(some (false, 136)), .ld none (.l 135), none⟩,
  ⟨(some (false, 137)), .mv (.g 3), none⟩,
  ⟨(some (false, 138)), .mv (.g 4), none⟩,
  ⟨(some (false, 139)), .mv (.g 5), none⟩,
  ⟨(some (false, 140)), .call (.c (.fn 15 [])) [.l 136, .l 137, .l 138, .l 139], none⟩,
  ⟨(some (false, 141)), .mks false 1 [.l 140], none⟩,
  ⟨(some (false, 142)), .app 1 16 (.l 133) (.l 141), none⟩,
  ⟨(some (true, 15)), .mv (.l 142), none⟩])
(.seq
(.seq
(.reg [
  ⟨(some (true, 26)), .mv (.c (.lit (.int .i64 0))), none⟩])
(.block 2
(.loop
(.seq
(.seq
(.reg [
  ⟨(some (false, 143)), .mv (.g 26), none⟩,
  ⟨(some (false, 144)), .mv (.g 15), none⟩,
  ⟨(some (false, 145)), .len (.l 144), none⟩,
  ⟨(some (true, 146)), .bin .lss (.l 143) (.l 145), none⟩])
(.cond (.g 146)
.skip
(.exit 2)))
(.seq
(.block 3
(.seq
(.reg [
  ⟨(some (false, 150)), .mv (.g 15), none⟩,
  ⟨(some (false, 151)), .mv (.g 26), none⟩,
  ⟨(some (false, 152)), .ia 1 (.l 150) (.l 151), none⟩,
  ⟨(some (false, 153)), .ld none (.l 152), none⟩,
  ⟨(some (false, 154)), .call (.c (.fn 9 [])) [.l 153], none⟩,
  ⟨(some (false, 149)), .mv (.l 154), none⟩,
  ⟨(some (false, 155)), .ex (.l 149) 0, none⟩,
  ⟨(some (false, 156)), .ex (.l 149) 1, none⟩,
  ⟨(some (false, 157)), .ex (.l 149) 2, none⟩,
  ⟨(some (true, 27)), .new [.int .i64 0, .int .i64 0, .slice none 0 0], none⟩,
  ⟨none, .st 3 (.g 27) (.l 155), none⟩,
  ⟨(some (true, 28)), .mv (.l 156), none⟩,
  ⟨(some (true, 29)), .mv (.l 157), none⟩])
(.seq
(.reg [
  ⟨(some (false, 159)), .mv (.g 15), none⟩,
  ⟨(some (false, 160)), .mv (.g 26), none⟩,
  ⟨(some (false, 161)), .ia 1 (.l 159) (.l 160), none⟩,
  ⟨(some (false, 162)), .ld none (.l 161), none⟩,
  ⟨(some (false, 163)), .call (.c (.fn 16 [])) [.l 162], none⟩,
  ⟨(some (false, 158)), .mv (.l 163), none⟩,
  ⟨(some (false, 164)), .ex (.l 158) 0, none⟩,
  ⟨(some (false, 165)), .ex (.l 158) 1, none⟩,
  ⟨(some (false, 166)), .ex (.l 158) 2, none⟩,
  ⟨(some (true, 30)), .new [.int .i64 0, .int .i64 0, .slice none 0 0], none⟩,
  ⟨none, .st 3 (.g 30) (.l 164), none⟩,
  ⟨(some (true, 31)), .mv (.l 165), none⟩,
  ⟨(some (true, 32)), .mv (.l 166), none⟩])
(.seq
(.reg [
  ⟨(some (false, 167)), .mv (.g 28), none⟩,
  ⟨(some (false, 168)), .mv (.g 31), none⟩,
  ⟨(some (false, 169)), .bin .neq (.l 167) (.l 168), none⟩,
  ⟨(some (false, 170)), .mv (.l 169), none⟩,
  ⟨(some (false, 171)), .mv (.g 29), (some (.l 170, false))⟩,
  ⟨(some (false, 172)), .mv (.g 32), (some (.l 170, false))⟩,
  ⟨(some (false, 173)), .bin .neq (.l 171) (.l 172), (some (.l 170, false))⟩,
  ⟨(some (false, 174)), .pick (.l 170) (.c (.lit (.bool true))) (.l 173), none⟩,
  ⟨(some (false, 175)), .mv (.l 174), none⟩,
  ⟨(some (false, 176)), .ld (some 3) (.g 27), (some (.l 175, false))⟩,
  ⟨(some (false, 177)), .ld (some 3) (.g 30), (some (.l 175, false))⟩,
  ⟨(some (false, 178)), .call (.c (.fn 10 [])) [.l 176, .l 177], (some (.l 175, false))⟩,
  ⟨(some (false, 179)), .un .not (.l 178), (some (.l 175, false))⟩,
  ⟨(some (true, 180)), .pick (.l 175) (.c (.lit (.bool true))) (.l 179), none⟩])
(.cond (.g 180)
(.seq
(.reg [
  ⟨(some (true, 12)), .mv (.c (.lit (.bool false))), none⟩])
.ret)
.skip)))))
(.reg [
  ⟨(some (false, 147)), .mv (.g 26), none⟩,
  ⟨(some (false, 148)), .bin .add (.l 147) (.c (.lit (.int .i64 1))), none⟩,
  ⟨(some (true, 26)), .mv (.l 148), none⟩]))))))
(.seq
(.reg [
  ⟨(some (false, 181)), .call (.c (.fn 5 [])) [], none⟩,
  ⟨(some (true, 12)), .mv (.l 181), none⟩])
.ret))))))))
def K4 : List Nat := [0, 1, 2, 3, 4, 5, 46, 59, 128, 146, 180, 12, 6, 13, 14, 15, 16, 17, 18, 19, 20, 21, 22, 23, 24, 25, 26, 27, 28, 29, 30, 31, 32]
noncomputable def b4 : Code := match Tryz.f4.body with | some c => c | none => .skip
theorem t4 : trCode ⟨Tryz.prog, K4, [55], 182, none⟩ b4 = some c4 := by kernel_rfl
theorem go4 {args : List AV} {H : AHeap} {Kk : AV → AHeap → Prop} (hn : args.length = 6) (h : AGo ⟨Tryz.prog, K4, [55], 182, none⟩ H.length [.code c4] (RetP [.t (.g 12)] H.length Kk) ⟨[], argsG 0 args⟩ H) : ACalls Tryz.prog 4 args H Kk :=
  ACalls_of Tryz.func4 (c := b4) rfl (by kernel_rfl) t4 (rs := [.t (.g 12)]) (by kernel_rfl) (by rw [hn]; exact Nat.le_of_ble_eq_true rfl) (by rw [hn]; rfl) (h.weaken (fun _ _ => RetP.hands) (by simp))

end Go.Sas
