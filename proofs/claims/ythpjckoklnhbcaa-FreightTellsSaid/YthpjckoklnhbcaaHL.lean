/-
The code of some functions with its types resolved, printed by a program; that it is the code is checked by the kernel.
The code of some functions with its types resolved, printed by a program; that it is the code is checked by the kernel.
Conditions: none.
-/
import Derived.Test.YthpjckoklnhbcaaH4
import Derived.Test.YthpjckoklnhbcaaProg
set_option linter.unusedVariables false
set_option linter.unusedSimpArgs false
namespace Go.Sas
open Go.Proofs
set_option maxRecDepth 100000
/-- slices.Min[[]int,int] -/
def c80 : ACode :=
  (.seq
(.reg [
  ⟨(some (true, 2)), .mv (.c (.lit (.int .i64 0))), none⟩])
(.seq
(.seq
(.reg [
  ⟨(some (false, 5)), .mv (.g 0), none⟩,
  ⟨(some (false, 6)), .len (.l 5), none⟩,
  ⟨(some (true, 7)), .bin .lss (.l 6) (.c (.lit (.int .i64 1))), none⟩])
(.cond (.g 7)
(.other .skip)
.skip))
(.seq
(.reg [
  ⟨(some (false, 9)), .mv (.g 0), none⟩,
  ⟨(some (false, 10)), .ia 1 (.l 9) (.c (.lit (.int .i64 0))), none⟩,
  ⟨(some (false, 11)), .ld none (.l 10), none⟩,
  ⟨(some (true, 3)), .mv (.l 11), none⟩])
(.seq
(.seq
(.reg [
  ⟨(some (true, 4)), .mv (.c (.lit (.int .i64 1))), none⟩])
(.block 0
(.loop
(.seq
(.seq
(.reg [
  ⟨(some (false, 12)), .mv (.g 4), none⟩,
  ⟨(some (false, 13)), .mv (.g 0), none⟩,
  ⟨(some (false, 14)), .len (.l 13), none⟩,
  ⟨(some (true, 15)), .bin .lss (.l 12) (.l 14), none⟩])
(.cond (.g 15)
.skip
(.exit 0)))
(.seq
(.block 1
(.reg [
  ⟨(some (false, 18)), .mv (.g 3), none⟩,
  ⟨(some (false, 19)), .mv (.g 0), none⟩,
  ⟨(some (false, 20)), .mv (.g 4), none⟩,
  ⟨(some (false, 21)), .ia 1 (.l 19) (.l 20), none⟩,
  ⟨(some (false, 22)), .ld none (.l 21), none⟩,
  ⟨(some (false, 23)), .mn [.l 18, .l 22], none⟩,
  ⟨(some (true, 3)), .mv (.l 23), none⟩]))
(.reg [
  ⟨(some (false, 16)), .mv (.g 4), none⟩,
  ⟨(some (false, 17)), .bin .add (.l 16) (.c (.lit (.int .i64 1))), none⟩,
  ⟨(some (true, 4)), .mv (.l 17), none⟩]))))))
(.seq
(.reg [
  ⟨(some (false, 24)), .mv (.g 3), none⟩,
  ⟨(some (true, 2)), .mv (.l 24), none⟩])
.ret)))))
def K80 : List Nat := [0, 7, 15, 2, 3, 4]
noncomputable def b80 : Code := match Try.f80.body with | some c => c | none => .skip
theorem t80 : trCode ⟨Try.prog, K80, [], 25, none⟩ b80 = some c80 := by kernel_rfl
theorem go80 {args : List AV} {H : AHeap} {Kk : AV → AHeap → Prop} (hn : args.length = 1) (h : AGo ⟨Try.prog, K80, [], 25, none⟩ H.length [.code c80] (RetP [.t (.g 2)] H.length Kk) ⟨[], argsG 0 args⟩ H) : ACalls Try.prog 80 args H Kk :=
  ACalls_of Try.func80 (c := b80) rfl (by kernel_rfl) t80 (rs := [.t (.g 2)]) (by kernel_rfl) (by rw [hn]; exact Nat.le_of_ble_eq_true rfl) (by rw [hn]; rfl) (h.weaken (fun _ _ => RetP.hands) (by simp))

/-- sastrugi/freight.Bills -/
def c59 : ACode :=
  (.seq
(.reg [
  ⟨(some (true, 5)), .box (.g 0), none⟩,
  ⟨(some (true, 6)), .box (.g 1), none⟩,
  ⟨(some (true, 10)), .mv (.c (.lit (.slice none 0 0))), none⟩,
  ⟨(some (true, 11)), .mv (.c (.lit (.int .i64 0))), none⟩])
(.seq
(.seq
(.reg [
  ⟨(some (false, 19)), .ld (some 6) (.g 5), none⟩,
  ⟨(some (false, 20)), .ld (some 3) (.g 6), none⟩,
  ⟨(some (false, 21)), .mv (.g 2), none⟩,
  ⟨(some (false, 22)), .call (.c (.fn 95 [])) [.l 19, .l 20, .l 21], none⟩,
  ⟨(some (true, 12)), .mv (.l 22), none⟩])
(.seq
(.reg [
  ⟨(some (false, 23)), .mv (.g 12), none⟩,
  ⟨(some (true, 24)), .bin .neq (.l 23) (.c (.lit (.int .i64 0))), none⟩])
(.cond (.g 24)
(.seq
(.reg [
  ⟨(some (false, 25)), .mv (.g 12), none⟩,
  ⟨(some (true, 10)), .mv (.c (.lit (.slice none 0 0))), none⟩,
  ⟨(some (true, 11)), .mv (.l 25), none⟩])
.ret)
.skip)))
(.seq
(.seq
(.reg [
  ⟨(some (false, 26)), .mv (.g 3), none⟩,
  ⟨(some (false, 27)), .call (.c (.fn 65 [])) [.l 26, .c (.lit (.int .i64 0)), .c (.lit (.int .i64 1000000))], none⟩,
  ⟨(some (false, 28)), .un .not (.l 27), none⟩,
  ⟨(some (false, 29)), .mv (.l 28), none⟩,
  ⟨(some (false, 30)), .mv (.g 4), (some (.l 29, false))⟩,
  ⟨(some (false, 31)), .call (.c (.fn 65 [])) [.l 30, .c (.lit (.int .i64 0)), .c (.lit (.int .i64 1000000000000))], (some (.l 29, false))⟩,
  ⟨(some (false, 32)), .un .not (.l 31), (some (.l 29, false))⟩,
  ⟨(some (true, 33)), .pick (.l 29) (.c (.lit (.bool true))) (.l 32), none⟩])
(.cond (.g 33)
(.seq
(.reg [
  ⟨(some (true, 10)), .mv (.c (.lit (.slice none 0 0))), none⟩,
  ⟨(some (true, 11)), .mv (.c (.lit (.int .i64 2))), none⟩])
.ret)
.skip))
(.seq
(.reg [
  ⟨(some (true, 13)), .mv (.c (.lit (.slice none 0 0))), none⟩])
(.seq
(.seq
(.reg [
  ⟨(some (true, 34)), .mv (.g 2), none⟩,
  ⟨(some (true, 35)), .len (.g 34), none⟩,
  ⟨(some (true, 36)), .mv (.c (.lit (.int .i64 0))), none⟩])
(.block 0
(.loop
(.seq
(.reg [
  ⟨(some (true, 37)), .bin .lss (.g 36) (.g 35), none⟩])
(.seq
(.cond (.g 37)
.skip
(.exit 0))
(.seq
(.block 1
(.seq
(.reg [
  ⟨(some (false, 38)), .ia 1 (.g 34) (.g 36), none⟩,
  ⟨(some (false, 39)), .ld none (.l 38), none⟩,
  ⟨(some (true, 15)), .mv (.l 39), none⟩])
(.reg [
  ⟨(some (false, 40)), .mv (.g 13), none⟩,
  ⟨(some (false, 41)), .mv (.g 15), none⟩,
  ⟨(some (false, 42)), .call (.c (.fn 101 [])) [.l 41], none⟩,
  ⟨(some (false, 43)), .mks false 1 [.l 42], none⟩,
  ⟨(some (false, 44)), .app 1 8 (.l 40) (.l 43), none⟩,
  ⟨(some (true, 13)), .mv (.l 44), none⟩])))
(.reg [
  ⟨(some (false, 45)), .bin .add (.g 36) (.c (.lit (.int .i64 1))), none⟩,
  ⟨(some (true, 36)), .mv (.l 45), none⟩])))))))
(.seq
(.reg [
  ⟨(some (false, 46)), .mv (.g 4), none⟩,
  ⟨(some (false, 47)), .mv (.g 13), none⟩,
  ⟨(some (false, 48)), .call (.c (.fn 98 [])) [.l 46, .l 47], none⟩,
  ⟨(some (true, 16)), .mv (.l 48), none⟩])
(.seq
(.seq
(.reg [
  ⟨(some (true, 49)), .mv (.g 13), none⟩,
  ⟨(some (true, 50)), .len (.g 49), none⟩,
  ⟨(some (true, 51)), .mv (.c (.lit (.int .i64 0))), none⟩])
(.block 2
(.loop
(.seq
(.reg [
  ⟨(some (true, 52)), .bin .lss (.g 51) (.g 50), none⟩])
(.seq
(.cond (.g 52)
.skip
(.exit 2))
(.seq
(.block 3
(.seq
(.reg [
  ⟨(some (false, 53)), .mv (.g 51), none⟩,
  ⟨(some (false, 54)), .ia 1 (.g 49) (.g 51), none⟩,
  ⟨(some (false, 55)), .ld none (.l 54), none⟩,
  ⟨(some (true, 17)), .mv (.l 53), none⟩,
  ⟨(some (true, 18)), .mv (.l 55), none⟩])
(.reg [
  ⟨(some (false, 56)), .mv (.g 16), none⟩,
  ⟨(some (false, 57)), .mv (.g 17), none⟩,
  ⟨(some (false, 58)), .ia 1 (.l 56) (.l 57), none⟩,
  ⟨(some (false, 59)), .ld none (.l 58), none⟩,
  ⟨(some (false, 60)), .mv (.g 3), none⟩,
  ⟨(some (false, 61)), .mv (.g 18), none⟩,
  ⟨(some (false, 62)), .bin .mul (.l 60) (.l 61), none⟩,
  ⟨(some (false, 63)), .bin .add (.l 59) (.l 62), none⟩,
  ⟨(some (false, 64)), .ia 1 (.l 56) (.l 57), none⟩,
  ⟨none, .st 1 (.l 64) (.l 63), none⟩])))
(.reg [
  ⟨(some (false, 65)), .bin .add (.g 51) (.c (.lit (.int .i64 1))), none⟩,
  ⟨(some (true, 51)), .mv (.l 65), none⟩])))))))
(.seq
(.reg [
  ⟨(some (false, 66)), .mv (.g 16), none⟩,
  ⟨(some (true, 10)), .mv (.l 66), none⟩,
  ⟨(some (true, 11)), .mv (.c (.lit (.int .i64 0))), none⟩])
.ret))))))))
def K59 : List Nat := [0, 1, 2, 3, 4, 24, 33, 37, 52, 10, 11, 5, 6, 12, 13, 34, 35, 36, 15, 16, 49, 50, 51, 17, 18]
noncomputable def b59 : Code := match Try.f59.body with | some c => c | none => .skip
theorem t59 : trCode ⟨Try.prog, K59, [], 67, none⟩ b59 = some c59 := by kernel_rfl
theorem go59 {args : List AV} {H : AHeap} {Kk : AV → AHeap → Prop} (hn : args.length = 5) (h : AGo ⟨Try.prog, K59, [], 67, none⟩ H.length [.code c59] (RetP [.t (.g 10), .t (.g 11)] H.length Kk) ⟨[], argsG 0 args⟩ H) : ACalls Try.prog 59 args H Kk :=
  ACalls_of Try.func59 (c := b59) rfl (by kernel_rfl) t59 (rs := [.t (.g 10), .t (.g 11)]) (by kernel_rfl) (by rw [hn]; exact Nat.le_of_ble_eq_true rfl) (by rw [hn]; rfl) (h.weaken (fun _ _ => RetP.hands) (by simp))

/-- sastrugi/sastrugiref08.Bills -/
def c60 : ACode :=
  (.seq
(.reg [
  ⟨(some (true, 5)), .box (.g 0), none⟩,
  ⟨(some (true, 6)), .box (.g 1), none⟩,
  ⟨(some (true, 10)), .mv (.c (.lit (.slice none 0 0))), none⟩,
  ⟨(some (true, 11)), .mv (.c (.lit (.int .i64 0))), none⟩])
(.seq
(.seq
(.reg [
  ⟨(some (false, 20)), .ld (some 6) (.g 5), none⟩,
  ⟨(some (false, 21)), .ld (some 3) (.g 6), none⟩,
  ⟨(some (false, 22)), .mv (.g 2), none⟩,
  ⟨(some (false, 23)), .call (.c (.fn 58 [])) [.l 20, .l 21, .l 22], none⟩,
  ⟨(some (false, 19)), .mv (.l 23), none⟩,
  ⟨(some (false, 24)), .ex (.l 19) 0, none⟩,
  ⟨(some (false, 25)), .ex (.l 19) 1, none⟩,
  ⟨(some (false, 26)), .ex (.l 19) 2, none⟩,
  ⟨(some (false, 12)), .mv (.l 24), none⟩,
  ⟨(some (false, 13)), .mv (.l 25), none⟩,
  ⟨(some (true, 14)), .mv (.l 26), none⟩])
(.seq
(.reg [
  ⟨(some (false, 27)), .mv (.g 14), none⟩,
  ⟨(some (true, 28)), .bin .neq (.l 27) (.c (.lit (.int .i64 0))), none⟩])
(.cond (.g 28)
(.seq
(.reg [
  ⟨(some (false, 29)), .mv (.g 14), none⟩,
  ⟨(some (true, 10)), .mv (.c (.lit (.slice none 0 0))), none⟩,
  ⟨(some (true, 11)), .mv (.l 29), none⟩])
.ret)
.skip)))
(.seq
(.seq
(.reg [
  ⟨(some (false, 30)), .mv (.g 3), none⟩,
  ⟨(some (false, 31)), .call (.c (.fn 67 [])) [.l 30, .c (.lit (.int .i64 0)), .c (.lit (.int .i64 1000000))], none⟩,
  ⟨(some (false, 32)), .un .not (.l 31), none⟩,
  ⟨(some (false, 33)), .mv (.l 32), none⟩,
  ⟨(some (false, 34)), .mv (.g 4), (some (.l 33, false))⟩,
  ⟨(some (false, 35)), .call (.c (.fn 67 [])) [.l 34, .c (.lit (.int .i64 0)), .c (.lit (.int .i64 1000000000000))], (some (.l 33, false))⟩,
  ⟨(some (false, 36)), .un .not (.l 35), (some (.l 33, false))⟩,
  ⟨(some (true, 37)), .pick (.l 33) (.c (.lit (.bool true))) (.l 36), none⟩])
(.cond (.g 37)
(.seq
(.reg [
  ⟨(some (true, 10)), .mv (.c (.lit (.slice none 0 0))), none⟩,
  ⟨(some (true, 11)), .mv (.c (.lit (.int .i64 2))), none⟩])
.ret)
.skip))
(.seq
(.reg [
  ⟨(some (true, 15)), .mv (.c (.lit (.slice none 0 0))), none⟩])
(.seq
(.seq
(.reg [
  ⟨(some (true, 16)), .mv (.c (.lit (.int .i64 0))), none⟩])
(.block 0
(.loop
(.seq
(.seq
(.reg [
  ⟨(some (false, 38)), .mv (.g 16), none⟩,
  ⟨(some (false, 39)), .mv (.g 2), none⟩,
  ⟨(some (false, 40)), .len (.l 39), none⟩,
  ⟨(some (true, 41)), .bin .lss (.l 38) (.l 40), none⟩])
(.cond (.g 41)
.skip
(.exit 0)))
(.seq
(.block 1
(.reg [
  ⟨(some (false, 44)), .mv (.g 15), none⟩,
  ⟨(some (false, 45)), .mv (.g 2), none⟩,
  ⟨(some (false, 46)), .mv (.g 16), none⟩,
  ⟨(some (false, 47)), .ia 1 (.l 45) (.l 46), none⟩,
  ⟨(some (false, 48)), .ld none (.l 47), none⟩,
  ⟨(some (false, 49)), .call (.c (.fn 102 [])) [.l 48], none⟩,
  ⟨(some (false, 50)), .mks false 1 [.l 49], none⟩,
  ⟨(some (false, 51)), .app 1 8 (.l 44) (.l 50), none⟩,
  ⟨(some (true, 15)), .mv (.l 51), none⟩]))
(.reg [
  ⟨(some (false, 42)), .mv (.g 16), none⟩,
  ⟨(some (false, 43)), .bin .add (.l 42) (.c (.lit (.int .i64 1))), none⟩,
  ⟨(some (true, 16)), .mv (.l 43), none⟩]))))))
(.seq
(.reg [
  ⟨(some (false, 52)), .mv (.g 4), none⟩,
  ⟨(some (false, 53)), .mv (.g 15), none⟩,
  ⟨(some (false, 54)), .call (.c (.fn 99 [])) [.l 52, .l 53], none⟩,
  ⟨(some (true, 17)), .mv (.l 54), none⟩])
(.seq
(.seq
(.reg [
  ⟨(some (true, 18)), .mv (.c (.lit (.int .i64 0))), none⟩])
(.block 2
(.loop
(.seq
(.seq
(.reg [
  ⟨(some (false, 55)), .mv (.g 18), none⟩,
  ⟨(some (false, 56)), .mv (.g 17), none⟩,
  ⟨(some (false, 57)), .len (.l 56), none⟩,
  ⟨(some (true, 58)), .bin .lss (.l 55) (.l 57), none⟩])
(.cond (.g 58)
.skip
(.exit 2)))
(.seq
(.block 3
(.draw [
  ⟨⟨(some (false, 61)), .mv (.g 17), none⟩, 0, true, []⟩,
  ⟨⟨(some (false, 62)), .mv (.g 18), none⟩, 1, true, []⟩,
  ⟨⟨(some (false, 63)), .mv (.g 17), none⟩, 2, true, []⟩,
  ⟨⟨(some (false, 64)), .mv (.g 18), none⟩, 3, true, []⟩,
  ⟨⟨(some (false, 65)), .ia 1 (.l 63) (.l 64), none⟩, 4, true, []⟩,
  ⟨⟨(some (false, 66)), .ld none (.l 65), none⟩, 5, true, []⟩,
  ⟨⟨(some (false, 67)), .mv (.g 3), none⟩, 6, true, []⟩,
  ⟨⟨(some (false, 68)), .mv (.g 15), none⟩, 7, true, []⟩,
  ⟨⟨(some (false, 69)), .mv (.g 18), none⟩, 8, true, []⟩,
  ⟨⟨(some (false, 70)), .ia 1 (.l 68) (.l 69), none⟩, 9, true, []⟩,
  ⟨⟨(some (false, 71)), .ld none (.l 70), none⟩, 10, true, []⟩,
  ⟨⟨(some (false, 72)), .bin .mul (.l 67) (.l 71), none⟩, 11, true, []⟩,
  ⟨⟨(some (false, 73)), .bin .add (.l 66) (.l 72), none⟩, 12, true, []⟩,
  ⟨⟨(some (false, 74)), .ia 1 (.l 61) (.l 62), none⟩, 13, true, []⟩,
  ⟨⟨none, .st 1 (.l 74) (.l 73), none⟩, 14, true, []⟩]))
(.reg [
  ⟨(some (false, 59)), .mv (.g 18), none⟩,
  ⟨(some (false, 60)), .bin .add (.l 59) (.c (.lit (.int .i64 1))), none⟩,
  ⟨(some (true, 18)), .mv (.l 60), none⟩]))))))
(.seq
(.reg [
  ⟨(some (false, 75)), .mv (.g 17), none⟩,
  ⟨(some (true, 10)), .mv (.l 75), none⟩,
  ⟨(some (true, 11)), .mv (.c (.lit (.int .i64 0))), none⟩])
.ret))))))))
def K60 : List Nat := [0, 1, 2, 3, 4, 28, 37, 41, 58, 10, 11, 5, 6, 14, 15, 16, 17, 18]
noncomputable def b60 : Code := match Try.f60.body with | some c => c | none => .skip
theorem t60 : trCode ⟨Try.prog, K60, [], 76, none⟩ b60 = some c60 := by kernel_rfl
theorem go60 {args : List AV} {H : AHeap} {Kk : AV → AHeap → Prop} (hn : args.length = 5) (h : AGo ⟨Try.prog, K60, [], 76, none⟩ H.length [.code c60] (RetP [.t (.g 10), .t (.g 11)] H.length Kk) ⟨[], argsG 0 args⟩ H) : ACalls Try.prog 60 args H Kk :=
  ACalls_of Try.func60 (c := b60) rfl (by kernel_rfl) t60 (rs := [.t (.g 10), .t (.g 11)]) (by kernel_rfl) (by rw [hn]; exact Nat.le_of_ble_eq_true rfl) (by rw [hn]; rfl) (h.weaken (fun _ _ => RetP.hands) (by simp))

/-- sastrugi/freight.share -/
def c98 : ACode :=
  (.seq
(.reg [
  ⟨(some (true, 4)), .mv (.c (.lit (.slice none 0 0))), none⟩])
(.seq
(.reg [
  ⟨(some (false, 13)), .mv (.g 1), none⟩,
  ⟨(some (false, 14)), .call (.c (.fn 101 [])) [.l 13], none⟩,
  ⟨(some (true, 5)), .mv (.l 14), none⟩])
(.seq
(.seq
(.reg [
  ⟨(some (false, 15)), .mv (.g 5), none⟩,
  ⟨(some (true, 16)), .bin .eql (.l 15) (.c (.lit (.int .i64 0))), none⟩])
(.cond (.g 16)
(.seq
(.reg [
  ⟨(some (false, 17)), .mks false 1 [.c (.lit (.int .i64 1))], none⟩,
  ⟨(some (false, 18)), .mv (.g 1), none⟩,
  ⟨(some (false, 19)), .len (.l 18), none⟩,
  ⟨(some (false, 20)), .call (.c (.fn 115 [])) [.l 17, .l 19], none⟩,
  ⟨(some (true, 1)), .mv (.l 20), none⟩])
(.reg [
  ⟨(some (false, 21)), .mv (.g 1), none⟩,
  ⟨(some (false, 22)), .len (.l 21), none⟩,
  ⟨(some (true, 5)), .mv (.l 22), none⟩]))
.skip))
(.seq
(.reg [
  ⟨(some (true, 6)), .mv (.c (.lit (.slice none 0 0))), none⟩,
  ⟨(some (true, 7)), .mv (.c (.lit (.slice none 0 0))), none⟩,
  ⟨(some (true, 8)), .new [.slice none 0 0], none⟩])
(.seq
(.seq
(.reg [
  ⟨(some (true, 23)), .mv (.g 1), none⟩,
  ⟨(some (true, 24)), .len (.g 23), none⟩,
  ⟨(some (true, 25)), .mv (.c (.lit (.int .i64 0))), none⟩])
(.block 0
(.loop
(.seq
(.reg [
  ⟨(some (true, 26)), .bin .lss (.g 25) (.g 24), none⟩])
(.seq
(.cond (.g 26)
.skip
(.exit 0))
(.seq
(.block 1
(.seq
(.reg [
  ⟨(some (false, 27)), .mv (.g 25), none⟩,
  ⟨(some (false, 28)), .ia 1 (.g 23) (.g 25), none⟩,
  ⟨(some (false, 29)), .ld none (.l 28), none⟩,
  ⟨(some (true, 9)), .mv (.l 27), none⟩,
  ⟨(some (true, 10)), .mv (.l 29), none⟩])
(.draw [
  ⟨⟨(some (false, 30)), .mv (.g 6), none⟩, 0, true, []⟩,
  ⟨⟨(some (false, 31)), .mv (.g 0), none⟩, 1, true, []⟩,
  ⟨⟨(some (false, 32)), .mv (.g 10), none⟩, 2, true, []⟩,
  ⟨⟨(some (false, 33)), .bin .mul (.l 31) (.l 32), none⟩, 3, true, []⟩,
  ⟨⟨(some (false, 34)), .mv (.g 5), none⟩, 4, true, []⟩,
  ⟨⟨(some (false, 35)), .bin .quo (.l 33) (.l 34), none⟩, 5, true, []⟩,
  ⟨⟨(some (false, 36)), .mks false 1 [.l 35], none⟩, 6, true, []⟩,
  ⟨⟨(some (false, 38)), .mv (.g 7), none⟩, 8, true, []⟩,
  ⟨⟨(some (false, 39)), .mv (.g 9), none⟩, 9, true, []⟩,
  ⟨⟨(some (false, 40)), .mks false 1 [.l 39], none⟩, 10, true, []⟩,
  ⟨⟨(some (false, 42)), .ld none (.g 8), none⟩, 12, true, []⟩,
  ⟨⟨(some (false, 43)), .mv (.g 0), none⟩, 13, true, []⟩,
  ⟨⟨(some (false, 44)), .mv (.g 10), none⟩, 14, true, []⟩,
  ⟨⟨(some (false, 45)), .bin .mul (.l 43) (.l 44), none⟩, 15, true, []⟩,
  ⟨⟨(some (false, 46)), .mv (.g 5), none⟩, 16, true, []⟩,
  ⟨⟨(some (false, 47)), .bin .rem (.l 45) (.l 46), none⟩, 17, true, []⟩,
  ⟨⟨(some (false, 48)), .mks false 1 [.l 47], none⟩, 18, true, []⟩,
  ⟨⟨(some (false, 37)), .app 1 8 (.l 30) (.l 36), none⟩, 7, false, []⟩,
  ⟨⟨(some (false, 41)), .app 1 8 (.l 38) (.l 40), none⟩, 11, false, []⟩,
  ⟨⟨(some (false, 49)), .app 1 8 (.l 42) (.l 48), none⟩, 19, false, []⟩,
  ⟨⟨(some (true, 6)), .mv (.l 37), none⟩, 20, true, []⟩,
  ⟨⟨(some (true, 7)), .mv (.l 41), none⟩, 21, true, []⟩,
  ⟨⟨none, .st 1 (.g 8) (.l 49), none⟩, 22, true, []⟩])))
(.reg [
  ⟨(some (false, 50)), .bin .add (.g 25) (.c (.lit (.int .i64 1))), none⟩,
  ⟨(some (true, 25)), .mv (.l 50), none⟩])))))))
(.seq
(.reg [
  ⟨(some (false, 51)), .mv (.g 7), none⟩,
  ⟨(some (false, 52)), .mkf 117 [.g 8], none⟩,
  ⟨(some (false, 53)), .call (.c (.fn 116 [])) [.l 51, .l 52], none⟩])
(.seq
(.seq
(.reg [
  ⟨(some (false, 54)), .mv (.g 7), none⟩,
  ⟨(some (false, 55)), .mv (.g 0), none⟩,
  ⟨(some (false, 56)), .mv (.g 6), none⟩,
  ⟨(some (false, 57)), .call (.c (.fn 101 [])) [.l 56], none⟩,
  ⟨(some (false, 58)), .bin .sub (.l 55) (.l 57), none⟩,
  ⟨(some (true, 59)), .sl 1 (.l 54) none (some (.l 58)) none, none⟩,
  ⟨(some (true, 60)), .len (.g 59), none⟩,
  ⟨(some (true, 61)), .mv (.c (.lit (.int .i64 0))), none⟩])
(.block 2
(.loop
(.seq
(.reg [
  ⟨(some (true, 62)), .bin .lss (.g 61) (.g 60), none⟩])
(.seq
(.cond (.g 62)
.skip
(.exit 2))
(.seq
(.block 3
(.seq
(.reg [
  ⟨(some (false, 63)), .ia 1 (.g 59) (.g 61), none⟩,
  ⟨(some (false, 64)), .ld none (.l 63), none⟩,
  ⟨(some (true, 12)), .mv (.l 64), none⟩])
(.reg [
  ⟨(some (false, 65)), .mv (.g 6), none⟩,
  ⟨(some (false, 66)), .mv (.g 12), none⟩,
  ⟨(some (false, 67)), .ia 1 (.l 65) (.l 66), none⟩,
  ⟨(some (false, 68)), .ld none (.l 67), none⟩,
  ⟨(some (false, 69)), .bin .add (.l 68) (.c (.lit (.int .i64 1))), none⟩,
  ⟨(some (false, 70)), .ia 1 (.l 65) (.l 66), none⟩,
  ⟨none, .st 1 (.l 70) (.l 69), none⟩])))
(.reg [
  ⟨(some (false, 71)), .bin .add (.g 61) (.c (.lit (.int .i64 1))), none⟩,
  ⟨(some (true, 61)), .mv (.l 71), none⟩])))))))
(.seq
(.reg [
  ⟨(some (false, 72)), .mv (.g 6), none⟩,
  ⟨(some (true, 4)), .mv (.l 72), none⟩])
.ret))))))))
def K98 : List Nat := [0, 1, 16, 26, 62, 4, 5, 6, 7, 8, 23, 24, 25, 9, 10, 59, 60, 61, 12]
noncomputable def b98 : Code := match Try.f98.body with | some c => c | none => .skip
theorem t98 : trCode ⟨Try.prog, K98, [], 73, none⟩ b98 = some c98 := by kernel_rfl
theorem go98 {args : List AV} {H : AHeap} {Kk : AV → AHeap → Prop} (hn : args.length = 2) (h : AGo ⟨Try.prog, K98, [], 73, none⟩ H.length [.code c98] (RetP [.t (.g 4)] H.length Kk) ⟨[], argsG 0 args⟩ H) : ACalls Try.prog 98 args H Kk :=
  ACalls_of Try.func98 (c := b98) rfl (by kernel_rfl) t98 (rs := [.t (.g 4)]) (by kernel_rfl) (by rw [hn]; exact Nat.le_of_ble_eq_true rfl) (by rw [hn]; rfl) (h.weaken (fun _ _ => RetP.hands) (by simp))

/-- sastrugi/sastrugiref08.share -/
def c99 : ACode :=
  (.seq
(.reg [
  ⟨(some (true, 4)), .mv (.c (.lit (.slice none 0 0))), none⟩])
(.seq
(.reg [
  ⟨(some (false, 15)), .mv (.g 1), none⟩,
  ⟨(some (false, 16)), .call (.c (.fn 102 [])) [.l 15], none⟩,
  ⟨(some (true, 5)), .mv (.l 16), none⟩])
(.seq
(.reg [
  ⟨(some (false, 17)), .mks false 1 [], none⟩,
  ⟨(some (false, 18)), .mv (.g 1), none⟩,
  ⟨(some (false, 19)), .app 1 8 (.l 17) (.l 18), none⟩,
  ⟨(some (true, 6)), .mv (.l 19), none⟩])
(.seq
(.seq
(.reg [
  ⟨(some (false, 20)), .mv (.g 5), none⟩,
  ⟨(some (true, 21)), .bin .eql (.l 20) (.c (.lit (.int .i64 0))), none⟩])
(.cond (.g 21)
(.seq
(.seq
(.reg [
  ⟨(some (true, 7)), .mv (.c (.lit (.int .i64 0))), none⟩])
(.block 0
(.loop
(.seq
(.seq
(.reg [
  ⟨(some (false, 22)), .mv (.g 7), none⟩,
  ⟨(some (false, 23)), .mv (.g 6), none⟩,
  ⟨(some (false, 24)), .len (.l 23), none⟩,
  ⟨(some (true, 25)), .bin .lss (.l 22) (.l 24), none⟩])
(.cond (.g 25)
.skip
(.exit 0)))
(.seq
(.block 1
(.reg [
  ⟨(some (false, 28)), .mv (.g 6), none⟩,
  ⟨(some (false, 29)), .mv (.g 7), none⟩,
  ⟨(some (false, 30)), .ia 1 (.l 28) (.l 29), none⟩,
  ⟨none, .st 1 (.l 30) (.c (.lit (.int .i64 1))), none⟩]))
(.reg [
  ⟨(some (false, 26)), .mv (.g 7), none⟩,
  ⟨(some (false, 27)), .bin .add (.l 26) (.c (.lit (.int .i64 1))), none⟩,
  ⟨(some (true, 7)), .mv (.l 27), none⟩]))))))
(.reg [
  ⟨(some (false, 31)), .mv (.g 6), none⟩,
  ⟨(some (false, 32)), .len (.l 31), none⟩,
  ⟨(some (true, 5)), .mv (.l 32), none⟩]))
.skip))
(.seq
(.reg [
  ⟨(some (true, 8)), .mv (.c (.lit (.slice none 0 0))), none⟩,
  ⟨(some (true, 9)), .mv (.c (.lit (.slice none 0 0))), none⟩])
(.seq
(.reg [
  ⟨(some (false, 33)), .mv (.g 0), none⟩,
  ⟨(some (true, 10)), .mv (.l 33), none⟩])
(.seq
(.seq
(.reg [
  ⟨(some (true, 11)), .mv (.c (.lit (.int .i64 0))), none⟩])
(.block 2
(.loop
(.seq
(.seq
(.reg [
  ⟨(some (false, 34)), .mv (.g 11), none⟩,
  ⟨(some (false, 35)), .mv (.g 6), none⟩,
  ⟨(some (false, 36)), .len (.l 35), none⟩,
  ⟨(some (true, 37)), .bin .lss (.l 34) (.l 36), none⟩])
(.cond (.g 37)
.skip
(.exit 2)))
(.seq
(.block 3
(.seq
(.reg [
  ⟨(some (false, 40)), .mv (.g 0), none⟩,
  ⟨(some (false, 41)), .mv (.g 6), none⟩,
  ⟨(some (false, 42)), .mv (.g 11), none⟩,
  ⟨(some (false, 43)), .ia 1 (.l 41) (.l 42), none⟩,
  ⟨(some (false, 44)), .ld none (.l 43), none⟩,
  ⟨(some (false, 45)), .bin .mul (.l 40) (.l 44), none⟩,
  ⟨(some (false, 46)), .mv (.g 5), none⟩,
  ⟨(some (false, 47)), .bin .quo (.l 45) (.l 46), none⟩,
  ⟨(some (true, 12)), .mv (.l 47), none⟩])
(.draw [
  ⟨⟨(some (false, 48)), .mv (.g 8), none⟩, 0, true, []⟩,
  ⟨⟨(some (false, 49)), .mv (.g 12), none⟩, 1, true, []⟩,
  ⟨⟨(some (false, 50)), .mks false 1 [.l 49], none⟩, 2, true, []⟩,
  ⟨⟨(some (false, 52)), .mv (.g 9), none⟩, 4, true, []⟩,
  ⟨⟨(some (false, 53)), .mv (.g 0), none⟩, 5, true, []⟩,
  ⟨⟨(some (false, 54)), .mv (.g 6), none⟩, 6, true, []⟩,
  ⟨⟨(some (false, 55)), .mv (.g 11), none⟩, 7, true, []⟩,
  ⟨⟨(some (false, 56)), .ia 1 (.l 54) (.l 55), none⟩, 8, true, []⟩,
  ⟨⟨(some (false, 57)), .ld none (.l 56), none⟩, 9, true, []⟩,
  ⟨⟨(some (false, 58)), .bin .mul (.l 53) (.l 57), none⟩, 10, true, []⟩,
  ⟨⟨(some (false, 59)), .mv (.g 5), none⟩, 11, true, []⟩,
  ⟨⟨(some (false, 60)), .bin .rem (.l 58) (.l 59), none⟩, 12, true, []⟩,
  ⟨⟨(some (false, 61)), .mks false 1 [.l 60], none⟩, 13, true, []⟩,
  ⟨⟨(some (false, 63)), .mv (.g 10), none⟩, 15, true, []⟩,
  ⟨⟨(some (false, 64)), .mv (.g 12), none⟩, 16, true, []⟩,
  ⟨⟨(some (false, 65)), .bin .sub (.l 63) (.l 64), none⟩, 17, true, []⟩,
  ⟨⟨(some (false, 51)), .app 1 8 (.l 48) (.l 50), none⟩, 3, false, []⟩,
  ⟨⟨(some (false, 62)), .app 1 8 (.l 52) (.l 61), none⟩, 14, false, []⟩,
  ⟨⟨(some (true, 8)), .mv (.l 51), none⟩, 18, true, []⟩,
  ⟨⟨(some (true, 9)), .mv (.l 62), none⟩, 19, true, []⟩,
  ⟨⟨(some (true, 10)), .mv (.l 65), none⟩, 20, true, []⟩])))
(.reg [
  ⟨(some (false, 38)), .mv (.g 11), none⟩,
  ⟨(some (false, 39)), .bin .add (.l 38) (.c (.lit (.int .i64 1))), none⟩,
  ⟨(some (true, 11)), .mv (.l 39), none⟩]))))))
(.seq
(.reg [
  ⟨(some (false, 66)), .mv (.g 9), none⟩,
  ⟨(some (false, 67)), .call (.c (.fn 82 [])) [.l 66], none⟩,
  ⟨(some (true, 13)), .mv (.l 67), none⟩])
(.seq
(.seq
(.reg [
  ⟨(some (true, 14)), .mv (.c (.lit (.int .i64 0))), none⟩])
(.block 4
(.loop
(.seq
(.seq
(.reg [
  ⟨(some (false, 68)), .mv (.g 14), none⟩,
  ⟨(some (false, 69)), .mv (.g 10), none⟩,
  ⟨(some (true, 70)), .bin .lss (.l 68) (.l 69), none⟩])
(.cond (.g 70)
.skip
(.exit 4)))
(.seq
(.block 5
(.reg [
  ⟨(some (false, 73)), .mv (.g 8), none⟩,
  ⟨(some (false, 74)), .mv (.g 13), none⟩,
  ⟨(some (false, 75)), .mv (.g 14), none⟩,
  ⟨(some (false, 76)), .ia 1 (.l 74) (.l 75), none⟩,
  ⟨(some (false, 77)), .ld none (.l 76), none⟩,
  ⟨(some (false, 78)), .ia 1 (.l 73) (.l 77), none⟩,
  ⟨(some (false, 79)), .ld none (.l 78), none⟩,
  ⟨(some (false, 80)), .bin .add (.l 79) (.c (.lit (.int .i64 1))), none⟩,
  ⟨(some (false, 81)), .ia 1 (.l 73) (.l 77), none⟩,
  ⟨none, .st 1 (.l 81) (.l 80), none⟩]))
(.reg [
  ⟨(some (false, 71)), .mv (.g 14), none⟩,
  ⟨(some (false, 72)), .bin .add (.l 71) (.c (.lit (.int .i64 1))), none⟩,
  ⟨(some (true, 14)), .mv (.l 72), none⟩]))))))
(.seq
(.reg [
  ⟨(some (false, 82)), .mv (.g 8), none⟩,
  ⟨(some (true, 4)), .mv (.l 82), none⟩])
.ret))))))))))
def K99 : List Nat := [0, 1, 21, 25, 37, 70, 4, 5, 6, 7, 8, 9, 10, 11, 12, 13, 14]
noncomputable def b99 : Code := match Try.f99.body with | some c => c | none => .skip
theorem t99 : trCode ⟨Try.prog, K99, [], 83, none⟩ b99 = some c99 := by kernel_rfl
theorem go99 {args : List AV} {H : AHeap} {Kk : AV → AHeap → Prop} (hn : args.length = 2) (h : AGo ⟨Try.prog, K99, [], 83, none⟩ H.length [.code c99] (RetP [.t (.g 4)] H.length Kk) ⟨[], argsG 0 args⟩ H) : ACalls Try.prog 99 args H Kk :=
  ACalls_of Try.func99 (c := b99) rfl (by kernel_rfl) t99 (rs := [.t (.g 4)]) (by kernel_rfl) (by rw [hn]; exact Nat.le_of_ble_eq_true rfl) (by rw [hn]; rfl) (h.weaken (fun _ _ => RetP.hands) (by simp))

/-- slices.Repeat[[]int,int] -/
def c115 : ACode :=
  (.seq
(.reg [
  ⟨(some (true, 4)), .mv (.c (.lit (.slice none 0 0))), none⟩])
(.seq
(.seq
(.reg [
  ⟨(some (false, 9)), .mv (.g 1), none⟩,
  ⟨(some (true, 10)), .bin .lss (.l 9) (.c (.lit (.int .i64 0))), none⟩])
(.cond (.g 10)
(.other .skip)
.skip))
(.seq
(.reg [
  ⟨(some (false, 13)), .mv (.g 0), none⟩,
  ⟨(some (false, 14)), .len (.l 13), none⟩,
  ⟨(some (false, 15)), .cv .u64 (.l 14), none⟩,
  ⟨(some (false, 16)), .mv (.g 1), none⟩,
  ⟨(some (false, 17)), .cv .u64 (.l 16), none⟩,
  ⟨(some (false, 18)), .call (.c (.fn 122 [])) [.l 15, .l 17], none⟩,
  ⟨(some (false, 12)), .mv (.l 18), none⟩,
  ⟨(some (false, 19)), .ex (.l 12) 0, none⟩,
  ⟨(some (false, 20)), .ex (.l 12) 1, none⟩,
  ⟨(some (true, 5)), .mv (.l 19), none⟩,
  ⟨(some (true, 6)), .mv (.l 20), none⟩])
(.seq
(.seq
(.reg [
  ⟨(some (false, 21)), .mv (.g 5), none⟩,
  ⟨(some (false, 22)), .bin .gtr (.l 21) (.c (.lit (.int .u64 0))), none⟩,
  ⟨(some (false, 23)), .mv (.l 22), none⟩,
  ⟨(some (false, 24)), .mv (.g 6), (some (.l 23, false))⟩,
  ⟨(some (false, 25)), .bin .gtr (.l 24) (.c (.lit (.int .u64 9223372036854775807))), (some (.l 23, false))⟩,
  ⟨(some (true, 26)), .pick (.l 23) (.c (.lit (.bool true))) (.l 25), none⟩])
(.cond (.g 26)
(.other .skip)
.skip))
(.seq
(.reg [
  ⟨(some (false, 28)), .mv (.g 6), none⟩,
  ⟨(some (false, 29)), .cv .i64 (.l 28), none⟩,
  ⟨(some (false, 30)), .mksl 1 8 [.int .i64 0] (.l 29) (.l 29), none⟩,
  ⟨(some (true, 7)), .mv (.l 30), none⟩])
(.seq
(.reg [
  ⟨(some (false, 31)), .mv (.g 7), none⟩,
  ⟨(some (false, 32)), .mv (.g 0), none⟩,
  ⟨(some (false, 33)), .cpy 1 (.l 31) (.l 32), none⟩,
  ⟨(some (true, 8)), .mv (.l 33), none⟩])
(.seq
(.block 0
(.loop
(.seq
(.seq
(.reg [
  ⟨(some (false, 34)), .mv (.g 8), none⟩,
  ⟨(some (false, 35)), .mv (.g 7), none⟩,
  ⟨(some (false, 36)), .len (.l 35), none⟩,
  ⟨(some (true, 37)), .bin .lss (.l 34) (.l 36), none⟩])
(.cond (.g 37)
.skip
(.exit 0)))
(.block 1
(.draw [
  ⟨⟨(some (false, 38)), .mv (.g 8), none⟩, 0, true, []⟩,
  ⟨⟨(some (false, 39)), .mv (.g 7), none⟩, 1, true, []⟩,
  ⟨⟨(some (false, 40)), .mv (.g 8), none⟩, 2, true, []⟩,
  ⟨⟨(some (false, 41)), .sl 1 (.l 39) (some (.l 40)) none none, none⟩, 3, true, []⟩,
  ⟨⟨(some (false, 42)), .mv (.g 7), none⟩, 4, true, []⟩,
  ⟨⟨(some (false, 43)), .mv (.g 8), none⟩, 5, true, []⟩,
  ⟨⟨(some (false, 44)), .sl 1 (.l 42) none (some (.l 43)) none, none⟩, 6, true, []⟩,
  ⟨⟨(some (false, 45)), .cpy 1 (.l 41) (.l 44), none⟩, 7, false, []⟩,
  ⟨⟨(some (false, 46)), .bin .add (.l 38) (.l 45), none⟩, 8, true, []⟩,
  ⟨⟨(some (true, 8)), .mv (.l 46), none⟩, 9, true, []⟩])))))
(.seq
(.reg [
  ⟨(some (false, 47)), .mv (.g 7), none⟩,
  ⟨(some (true, 4)), .mv (.l 47), none⟩])
.ret))))))))
def K115 : List Nat := [0, 1, 10, 26, 37, 4, 5, 6, 7, 8]
noncomputable def b115 : Code := match Try.f115.body with | some c => c | none => .skip
theorem t115 : trCode ⟨Try.prog, K115, [], 48, none⟩ b115 = some c115 := by kernel_rfl
theorem go115 {args : List AV} {H : AHeap} {Kk : AV → AHeap → Prop} (hn : args.length = 2) (h : AGo ⟨Try.prog, K115, [], 48, none⟩ H.length [.code c115] (RetP [.t (.g 4)] H.length Kk) ⟨[], argsG 0 args⟩ H) : ACalls Try.prog 115 args H Kk :=
  ACalls_of Try.func115 (c := b115) rfl (by kernel_rfl) t115 (rs := [.t (.g 4)]) (by kernel_rfl) (by rw [hn]; exact Nat.le_of_ble_eq_true rfl) (by rw [hn]; rfl) (h.weaken (fun _ _ => RetP.hands) (by simp))

/-- slices.SortStableFunc[[]int,int] -/
def c116 : ACode :=
  (.reg [
  ⟨(some (false, 4)), .mv (.g 0), none⟩,
  ⟨(some (false, 5)), .mv (.g 0), none⟩,
  ⟨(some (false, 6)), .len (.l 5), none⟩,
  ⟨(some (false, 7)), .mv (.g 1), none⟩,
  ⟨(some (false, 8)), .call (.c (.fn 123 [])) [.l 4, .l 6, .l 7], none⟩])
def K116 : List Nat := [0, 1]
noncomputable def b116 : Code := match Try.f116.body with | some c => c | none => .skip
theorem t116 : trCode ⟨Try.prog, K116, [], 9, none⟩ b116 = some c116 := by kernel_rfl
theorem go116 {args : List AV} {H : AHeap} {Kk : AV → AHeap → Prop} (hn : args.length = 2) (h : AGo ⟨Try.prog, K116, [], 9, none⟩ H.length [.code c116] (RetP [] H.length Kk) ⟨[], argsG 0 args⟩ H) : ACalls Try.prog 116 args H Kk :=
  ACalls_of Try.func116 (c := b116) rfl (by kernel_rfl) t116 (rs := []) (by kernel_rfl) (by rw [hn]; exact Nat.le_of_ble_eq_true rfl) (by rw [hn]; rfl) (h.weaken (fun _ _ => RetP.hands) (by simp))

/-- sastrugi/freight.share$1 -/
def c117 : ACode :=
  (.seq
(.reg [
  ⟨(some (true, 5)), .mv (.c (.lit (.int .i64 0))), none⟩])
(.seq
(.draw [
  ⟨⟨(some (false, 6)), .ld none (.g 2), none⟩, 0, true, []⟩,
  ⟨⟨(some (false, 7)), .mv (.g 1), none⟩, 1, true, []⟩,
  ⟨⟨(some (false, 8)), .ia 1 (.l 6) (.l 7), none⟩, 2, true, []⟩,
  ⟨⟨(some (false, 9)), .ld none (.l 8), none⟩, 3, true, []⟩,
  ⟨⟨(some (false, 10)), .ld none (.g 2), none⟩, 4, true, []⟩,
  ⟨⟨(some (false, 11)), .mv (.g 0), none⟩, 5, true, []⟩,
  ⟨⟨(some (false, 12)), .ia 1 (.l 10) (.l 11), none⟩, 6, true, []⟩,
  ⟨⟨(some (false, 13)), .ld none (.l 12), none⟩, 7, true, []⟩,
  ⟨⟨(some (false, 14)), .call (.c (.fn 110 [])) [.l 9, .l 13], none⟩, 8, false, []⟩,
  ⟨⟨(some (true, 5)), .mv (.l 14), none⟩, 9, true, []⟩])
.ret))
def K117 : List Nat := [0, 1, 2, 5]
noncomputable def b117 : Code := match Try.f117.body with | some c => c | none => .skip
theorem t117 : trCode ⟨Try.prog, K117, [], 15, none⟩ b117 = some c117 := by kernel_rfl
theorem go117 {args : List AV} {H : AHeap} {Kk : AV → AHeap → Prop} (hn : args.length = 3) (h : AGo ⟨Try.prog, K117, [], 15, none⟩ H.length [.code c117] (RetP [.t (.g 5)] H.length Kk) ⟨[], argsG 0 args⟩ H) : ACalls Try.prog 117 args H Kk :=
  ACalls_of Try.func117 (c := b117) rfl (by kernel_rfl) t117 (rs := [.t (.g 5)]) (by kernel_rfl) (by rw [hn]; exact Nat.le_of_ble_eq_true rfl) (by rw [hn]; rfl) (h.weaken (fun _ _ => RetP.hands) (by simp))

/-- slices.stableCmpFunc[int] -/
def c123 : ACode :=
  (.seq
(.reg [
  ⟨(some (true, 6)), .mv (.c (.lit (.int .i64 20))), none⟩])
(.seq
(.reg [
  ⟨(some (false, 10)), .mv (.g 6), none⟩,
  ⟨(some (true, 7)), .mv (.c (.lit (.int .i64 0))), none⟩,
  ⟨(some (true, 8)), .mv (.l 10), none⟩])
(.seq
(.block 0
(.loop
(.seq
(.seq
(.reg [
  ⟨(some (false, 11)), .mv (.g 8), none⟩,
  ⟨(some (false, 12)), .mv (.g 1), none⟩,
  ⟨(some (true, 13)), .bin .leq (.l 11) (.l 12), none⟩])
(.cond (.g 13)
.skip
(.exit 0)))
(.block 1
(.seq
(.reg [
  ⟨(some (false, 14)), .mv (.g 0), none⟩,
  ⟨(some (false, 15)), .mv (.g 7), none⟩,
  ⟨(some (false, 16)), .mv (.g 8), none⟩,
  ⟨(some (false, 17)), .mv (.g 2), none⟩,
  ⟨(some (false, 18)), .call (.c (.fn 128 [])) [.l 14, .l 15, .l 16, .l 17], none⟩])
(.seq
(.reg [
  ⟨(some (false, 19)), .mv (.g 8), none⟩,
  ⟨(some (true, 7)), .mv (.l 19), none⟩])
(.reg [
  ⟨(some (false, 20)), .mv (.g 8), none⟩,
  ⟨(some (false, 21)), .mv (.g 6), none⟩,
  ⟨(some (false, 22)), .bin .add (.l 20) (.l 21), none⟩,
  ⟨(some (true, 8)), .mv (.l 22), none⟩])))))))
(.seq
(.reg [
  ⟨(some (false, 23)), .mv (.g 0), none⟩,
  ⟨(some (false, 24)), .mv (.g 7), none⟩,
  ⟨(some (false, 25)), .mv (.g 1), none⟩,
  ⟨(some (false, 26)), .mv (.g 2), none⟩,
  ⟨(some (false, 27)), .call (.c (.fn 128 [])) [.l 23, .l 24, .l 25, .l 26], none⟩])
(.block 2
(.loop
(.seq
(.seq
(.reg [
  ⟨(some (false, 28)), .mv (.g 6), none⟩,
  ⟨(some (false, 29)), .mv (.g 1), none⟩,
  ⟨(some (true, 30)), .bin .lss (.l 28) (.l 29), none⟩])
(.cond (.g 30)
.skip
(.exit 2)))
(.block 3
(.seq
(.reg [
  ⟨(some (false, 31)), .mv (.g 6), none⟩,
  ⟨(some (false, 32)), .bin .mul (.c (.lit (.int .i64 2))) (.l 31), none⟩,
  ⟨(some (true, 7)), .mv (.c (.lit (.int .i64 0))), none⟩,
  ⟨(some (true, 8)), .mv (.l 32), none⟩])
(.seq
(.block 4
(.loop
(.seq
(.seq
(.reg [
  ⟨(some (false, 33)), .mv (.g 8), none⟩,
  ⟨(some (false, 34)), .mv (.g 1), none⟩,
  ⟨(some (true, 35)), .bin .leq (.l 33) (.l 34), none⟩])
(.cond (.g 35)
.skip
(.exit 4)))
(.block 5
(.seq
(.reg [
  ⟨(some (false, 36)), .mv (.g 0), none⟩,
  ⟨(some (false, 37)), .mv (.g 7), none⟩,
  ⟨(some (false, 38)), .mv (.g 7), none⟩,
  ⟨(some (false, 39)), .mv (.g 6), none⟩,
  ⟨(some (false, 40)), .bin .add (.l 38) (.l 39), none⟩,
  ⟨(some (false, 41)), .mv (.g 8), none⟩,
  ⟨(some (false, 42)), .mv (.g 2), none⟩,
  ⟨(some (false, 43)), .call (.c (.fn 129 [])) [.l 36, .l 37, .l 40, .l 41, .l 42], none⟩])
(.seq
(.reg [
  ⟨(some (false, 44)), .mv (.g 8), none⟩,
  ⟨(some (true, 7)), .mv (.l 44), none⟩])
(.reg [
  ⟨(some (false, 45)), .mv (.g 8), none⟩,
  ⟨(some (false, 46)), .mv (.g 6), none⟩,
  ⟨(some (false, 47)), .bin .mul (.c (.lit (.int .i64 2))) (.l 46), none⟩,
  ⟨(some (false, 48)), .bin .add (.l 45) (.l 47), none⟩,
  ⟨(some (true, 8)), .mv (.l 48), none⟩])))))))
(.seq
(.seq
(.reg [
  ⟨(some (false, 49)), .mv (.g 7), none⟩,
  ⟨(some (false, 50)), .mv (.g 6), none⟩,
  ⟨(some (false, 51)), .bin .add (.l 49) (.l 50), none⟩,
  ⟨(some (true, 9)), .mv (.l 51), none⟩])
(.seq
(.reg [
  ⟨(some (false, 52)), .mv (.g 9), none⟩,
  ⟨(some (false, 53)), .mv (.g 1), none⟩,
  ⟨(some (true, 54)), .bin .lss (.l 52) (.l 53), none⟩])
(.cond (.g 54)
(.reg [
  ⟨(some (false, 55)), .mv (.g 0), none⟩,
  ⟨(some (false, 56)), .mv (.g 7), none⟩,
  ⟨(some (false, 57)), .mv (.g 9), none⟩,
  ⟨(some (false, 58)), .mv (.g 1), none⟩,
  ⟨(some (false, 59)), .mv (.g 2), none⟩,
  ⟨(some (false, 60)), .call (.c (.fn 129 [])) [.l 55, .l 56, .l 57, .l 58, .l 59], none⟩])
.skip)))
(.reg [
  ⟨(some (false, 61)), .mv (.g 6), none⟩,
  ⟨(some (false, 62)), .bin .mul (.l 61) (.c (.lit (.int .i64 2))), none⟩,
  ⟨(some (true, 6)), .mv (.l 62), none⟩]))))))))))))
def K123 : List Nat := [0, 1, 2, 13, 30, 35, 54, 6, 7, 8, 9]
noncomputable def b123 : Code := match Try.f123.body with | some c => c | none => .skip
theorem t123 : trCode ⟨Try.prog, K123, [], 63, none⟩ b123 = some c123 := by kernel_rfl
theorem go123 {args : List AV} {H : AHeap} {Kk : AV → AHeap → Prop} (hn : args.length = 3) (h : AGo ⟨Try.prog, K123, [], 63, none⟩ H.length [.code c123] (RetP [] H.length Kk) ⟨[], argsG 0 args⟩ H) : ACalls Try.prog 123 args H Kk :=
  ACalls_of Try.func123 (c := b123) rfl (by kernel_rfl) t123 (rs := []) (by kernel_rfl) (by rw [hn]; exact Nat.le_of_ble_eq_true rfl) (by rw [hn]; rfl) (h.weaken (fun _ _ => RetP.hands) (by simp))

/-- slices.insertionSortCmpFunc[int] -/
def c128 : ACode :=
  (.seq
(.reg [
  ⟨(some (false, 10)), .mv (.g 1), none⟩,
  ⟨(some (false, 11)), .bin .add (.l 10) (.c (.lit (.int .i64 1))), none⟩,
  ⟨(some (true, 8)), .mv (.l 11), none⟩])
(.block 0
(.loop
(.seq
(.seq
(.reg [
  ⟨(some (false, 12)), .mv (.g 8), none⟩,
  ⟨(some (false, 13)), .mv (.g 2), none⟩,
  ⟨(some (true, 14)), .bin .lss (.l 12) (.l 13), none⟩])
(.cond (.g 14)
.skip
(.exit 0)))
(.seq
(.block 1
(.seq
(.reg [
  ⟨(some (false, 17)), .mv (.g 8), none⟩,
  ⟨(some (true, 9)), .mv (.l 17), none⟩])
(.block 2
(.loop
(.seq
(.seq
(.draw [
  ⟨⟨(some (false, 18)), .mv (.g 9), none⟩, 0, true, []⟩,
  ⟨⟨(some (false, 19)), .mv (.g 1), none⟩, 1, true, []⟩,
  ⟨⟨(some (false, 20)), .bin .gtr (.l 18) (.l 19), none⟩, 2, true, []⟩,
  ⟨⟨(some (false, 21)), .mv (.l 20), none⟩, 3, true, []⟩,
  ⟨⟨(some (false, 22)), .mv (.g 3), (some (.l 21, true))⟩, 4, true, []⟩,
  ⟨⟨(some (false, 23)), .mv (.g 0), (some (.l 21, true))⟩, 5, true, []⟩,
  ⟨⟨(some (false, 24)), .mv (.g 9), (some (.l 21, true))⟩, 6, true, []⟩,
  ⟨⟨(some (false, 25)), .ia 1 (.l 23) (.l 24), (some (.l 21, true))⟩, 7, true, []⟩,
  ⟨⟨(some (false, 26)), .ld none (.l 25), (some (.l 21, true))⟩, 8, true, []⟩,
  ⟨⟨(some (false, 27)), .mv (.g 0), (some (.l 21, true))⟩, 9, true, []⟩,
  ⟨⟨(some (false, 28)), .mv (.g 9), (some (.l 21, true))⟩, 10, true, []⟩,
  ⟨⟨(some (false, 29)), .bin .sub (.l 28) (.c (.lit (.int .i64 1))), (some (.l 21, true))⟩, 11, true, []⟩,
  ⟨⟨(some (false, 30)), .ia 1 (.l 27) (.l 29), (some (.l 21, true))⟩, 12, true, []⟩,
  ⟨⟨(some (false, 31)), .ld none (.l 30), (some (.l 21, true))⟩, 13, true, []⟩,
  ⟨⟨(some (false, 32)), .call (.l 22) [.l 26, .l 31], (some (.l 21, true))⟩, 14, false, []⟩,
  ⟨⟨(some (false, 33)), .bin .lss (.l 32) (.c (.lit (.int .i64 0))), (some (.l 21, true))⟩, 15, true, []⟩,
  ⟨⟨(some (true, 34)), .pick (.l 21) (.l 33) (.c (.lit (.bool false))), none⟩, 16, true, []⟩])
(.cond (.g 34)
.skip
(.exit 2)))
(.seq
(.block 3
(.draw [
  ⟨⟨(some (false, 37)), .mv (.g 0), none⟩, 0, true, []⟩,
  ⟨⟨(some (false, 38)), .mv (.g 9), none⟩, 1, true, []⟩,
  ⟨⟨(some (false, 39)), .mv (.g 0), none⟩, 2, false, []⟩,
  ⟨⟨(some (false, 40)), .mv (.g 9), none⟩, 3, false, []⟩,
  ⟨⟨(some (false, 41)), .bin .sub (.l 40) (.c (.lit (.int .i64 1))), none⟩, 4, false, []⟩,
  ⟨⟨(some (false, 42)), .mv (.g 0), none⟩, 5, true, []⟩,
  ⟨⟨(some (false, 43)), .mv (.g 9), none⟩, 6, true, []⟩,
  ⟨⟨(some (false, 44)), .bin .sub (.l 43) (.c (.lit (.int .i64 1))), none⟩, 7, true, []⟩,
  ⟨⟨(some (false, 45)), .ia 1 (.l 42) (.l 44), none⟩, 8, true, []⟩,
  ⟨⟨(some (false, 46)), .ld none (.l 45), none⟩, 9, true, []⟩,
  ⟨⟨(some (false, 47)), .mv (.g 0), none⟩, 10, false, []⟩,
  ⟨⟨(some (false, 48)), .mv (.g 9), none⟩, 11, false, []⟩,
  ⟨⟨(some (false, 49)), .ia 1 (.l 47) (.l 48), none⟩, 12, true, []⟩,
  ⟨⟨(some (false, 50)), .ld none (.l 49), none⟩, 13, true, []⟩,
  ⟨⟨(some (false, 51)), .ia 1 (.l 37) (.l 38), none⟩, 14, true, []⟩,
  ⟨⟨none, .st 1 (.l 51) (.l 46), none⟩, 15, false, []⟩,
  ⟨⟨(some (false, 52)), .ia 1 (.l 39) (.l 41), none⟩, 16, false, []⟩,
  ⟨⟨none, .st 1 (.l 52) (.l 50), none⟩, 17, true, []⟩]))
(.reg [
  ⟨(some (false, 35)), .mv (.g 9), none⟩,
  ⟨(some (false, 36)), .bin .sub (.l 35) (.c (.lit (.int .i64 1))), none⟩,
  ⟨(some (true, 9)), .mv (.l 36), none⟩])))))))
(.reg [
  ⟨(some (false, 15)), .mv (.g 8), none⟩,
  ⟨(some (false, 16)), .bin .add (.l 15) (.c (.lit (.int .i64 1))), none⟩,
  ⟨(some (true, 8)), .mv (.l 16), none⟩]))))))
def K128 : List Nat := [0, 1, 2, 3, 14, 34, 8, 9]
noncomputable def b128 : Code := match Try.f128.body with | some c => c | none => .skip
theorem t128 : trCode ⟨Try.prog, K128, [], 53, none⟩ b128 = some c128 := by kernel_rfl
theorem go128 {args : List AV} {H : AHeap} {Kk : AV → AHeap → Prop} (hn : args.length = 4) (h : AGo ⟨Try.prog, K128, [], 53, none⟩ H.length [.code c128] (RetP [] H.length Kk) ⟨[], argsG 0 args⟩ H) : ACalls Try.prog 128 args H Kk :=
  ACalls_of Try.func128 (c := b128) rfl (by kernel_rfl) t128 (rs := []) (by kernel_rfl) (by rw [hn]; exact Nat.le_of_ble_eq_true rfl) (by rw [hn]; rfl) (h.weaken (fun _ _ => RetP.hands) (by simp))

end Go.Sas
namespace Go.Sas
open Go.Proofs
set_option maxRecDepth 100000
end Go.Sas
