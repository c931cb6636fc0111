/-
The code of some functions with its types resolved, printed by a program; that it is the code is checked by the kernel.
Conditions: none.
-/
import Derived.Test.YthpjckoklnhbcaaH4
import Derived.Test.YthpjckoklnhbcaaProg
set_option linter.unusedVariables false
set_option linter.unusedSimpArgs false
namespace Go.Sas
open Go.Proofs
set_option maxRecDepth 100000
/-- sastrugi/sastrugikit.NewSeed -/
def c22 : ACode :=
  (.seq
(.reg [
  ⟨(some (true, 2)), .mv (.c (.lit (.pointer none))), none⟩])
(.seq
(.reg [
  ⟨(some (false, 5)), .mk [.int .u64 0] [(0, 1, .c (.lit (.int .u64 1)))], none⟩,
  ⟨(some (false, 6)), .box (.l 5), none⟩,
  ⟨(some (true, 3)), .mv (.l 6), none⟩])
(.seq
(.seq
(.reg [
  ⟨(some (true, 4)), .mv (.c (.lit (.int .i64 0))), none⟩])
(.block 0
(.loop
(.seq
(.seq
(.reg [
  ⟨(some (false, 7)), .mv (.g 4), none⟩,
  ⟨(some (false, 8)), .mv (.g 0), none⟩,
  ⟨(some (false, 9)), .len (.l 8), none⟩,
  ⟨(some (true, 10)), .bin .lss (.l 7) (.l 9), none⟩])
(.cond (.g 10)
.skip
(.exit 0)))
(.seq
(.block 1
(.seq
(.draw [
  ⟨⟨(some (false, 13)), .mv (.g 3), none⟩, 0, true, []⟩,
  ⟨⟨(some (false, 14)), .mv (.g 3), none⟩, 1, true, []⟩,
  ⟨⟨(some (false, 15)), .nilc (.l 14), none⟩, 2, true, []⟩,
  ⟨⟨(some (false, 16)), .fa (.l 15) 0, none⟩, 3, true, []⟩,
  ⟨⟨(some (false, 17)), .ld none (.l 16), none⟩, 4, true, []⟩,
  ⟨⟨(some (false, 18)), .bin .mul (.l 17) (.c (.lit (.int .u64 6364136223846793005))), none⟩, 5, true, []⟩,
  ⟨⟨(some (false, 19)), .mv (.g 0), none⟩, 6, true, []⟩,
  ⟨⟨(some (false, 20)), .mv (.g 4), none⟩, 7, true, []⟩,
  ⟨⟨(some (false, 21)), .ia 1 (.l 19) (.l 20), none⟩, 8, true, []⟩,
  ⟨⟨(some (false, 22)), .ld none (.l 21), none⟩, 9, true, []⟩,
  ⟨⟨(some (false, 23)), .cv .u64 (.l 22), none⟩, 10, true, []⟩,
  ⟨⟨(some (false, 24)), .bin .add (.l 18) (.l 23), none⟩, 11, true, []⟩,
  ⟨⟨(some (false, 25)), .bin .add (.l 24) (.c (.lit (.int .u64 1442695040888963407))), none⟩, 12, true, []⟩,
  ⟨⟨(some (false, 26)), .nilc (.l 13), none⟩, 13, true, []⟩,
  ⟨⟨(some (false, 27)), .fa (.l 26) 0, none⟩, 14, true, []⟩,
  ⟨⟨none, .st 1 (.l 27) (.l 25), none⟩, 15, true, []⟩])
(.reg [
  ⟨(some (false, 28)), .mv (.g 3), none⟩,
  ⟨(some (false, 29)), .call (.c (.fn 69 [])) [.l 28], none⟩])))
(.reg [
  ⟨(some (false, 11)), .mv (.g 4), none⟩,
  ⟨(some (false, 12)), .bin .add (.l 11) (.c (.lit (.int .i64 1))), none⟩,
  ⟨(some (true, 4)), .mv (.l 12), none⟩]))))))
(.seq
(.reg [
  ⟨(some (false, 30)), .mv (.g 3), none⟩,
  ⟨(some (true, 2)), .mv (.l 30), none⟩])
.ret))))
def K22 : List Nat := [0, 10, 2, 3, 4]
noncomputable def b22 : Code := match Try.f22.body with | some c => c | none => .skip
theorem t22 : trCode ⟨Try.prog, K22, [], 31, none⟩ b22 = some c22 := by kernel_rfl
theorem go22 {args : List AV} {H : AHeap} {Kk : AV → AHeap → Prop} (hn : args.length = 1) (h : AGo ⟨Try.prog, K22, [], 31, none⟩ H.length [.code c22] (RetP [.t (.g 2)] H.length Kk) ⟨[], argsG 0 args⟩ H) : ACalls Try.prog 22 args H Kk :=
  ACalls_of Try.func22 (c := b22) rfl (by kernel_rfl) t22 (rs := [.t (.g 2)]) (by kernel_rfl) (by rw [hn]; exact Nat.le_of_ble_eq_true rfl) (by rw [hn]; rfl) (h.weaken (fun _ _ => RetP.hands) (by simp))

/-- sastrugi/sastrugikit.FreightOf -/
def c23 : ACode :=
  (.seq
(.reg [
  ⟨(some (true, 6)), .new [.int .i64 0, .int .i64 0, .int .i64 0, .int .i64 0, .slice none 0 0, .slice none 0 0], none⟩])
(.seq
(.reg [
  ⟨(some (true, 7)), .new [.int .i64 0, .int .i64 0, .int .i64 0, .int .i64 0, .slice none 0 0, .slice none 0 0], none⟩])
(.seq
(.reg [
  ⟨(some (false, 12)), .mv (.g 0), none⟩,
  ⟨(some (false, 13)), .mv (.g 1), none⟩,
  ⟨(some (false, 14)), .call (.c (.fn 45 [])) [.l 12, .c (.lit (.int .i64 1)), .l 13], none⟩,
  ⟨(some (true, 8)), .mv (.l 14), none⟩])
(.seq
(.seq
(.reg [
  ⟨(some (true, 9)), .mv (.c (.lit (.int .i64 0))), none⟩])
(.block 0
(.loop
(.seq
(.seq
(.reg [
  ⟨(some (false, 15)), .mv (.g 9), none⟩,
  ⟨(some (false, 16)), .mv (.g 8), none⟩,
  ⟨(some (true, 17)), .bin .lss (.l 15) (.l 16), none⟩])
(.cond (.g 17)
.skip
(.exit 0)))
(.seq
(.block 1
(.draw [
  ⟨⟨(some (false, 20)), .fa (.g 7) 4, none⟩, 0, true, []⟩,
  ⟨⟨(some (false, 21)), .ld none (.l 20), none⟩, 1, true, []⟩,
  ⟨⟨(some (false, 22)), .mv (.g 0), none⟩, 2, true, []⟩,
  ⟨⟨(some (false, 23)), .mv (.g 0), none⟩, 3, true, []⟩,
  ⟨⟨(some (false, 24)), .mks false 1 [.c (.lit (.int .i64 3)), .c (.lit (.int .i64 9))], none⟩, 4, true, []⟩,
  ⟨⟨(some (false, 25)), .call (.c (.fn 46 [])) [.l 23, .l 24], none⟩, 5, false, []⟩,
  ⟨⟨(some (false, 26)), .call (.c (.fn 70 [])) [.l 22, .c (.lit (.int .i64 0)), .l 25], none⟩, 6, false, []⟩,
  ⟨⟨(some (false, 27)), .mks false 2 [.l 26], none⟩, 7, true, []⟩,
  ⟨⟨(some (false, 28)), .app 2 16 (.l 21) (.l 27), none⟩, 8, false, []⟩,
  ⟨⟨(some (false, 29)), .fa (.g 7) 4, none⟩, 9, true, []⟩,
  ⟨⟨none, .st 1 (.l 29) (.l 28), none⟩, 10, true, []⟩]))
(.reg [
  ⟨(some (false, 18)), .mv (.g 9), none⟩,
  ⟨(some (false, 19)), .bin .add (.l 18) (.c (.lit (.int .i64 1))), none⟩,
  ⟨(some (true, 9)), .mv (.l 19), none⟩]))))))
(.seq
(.reg [
  ⟨(some (false, 30)), .mv (.g 0), none⟩,
  ⟨(some (false, 31)), .mv (.g 8), none⟩,
  ⟨(some (false, 32)), .bin .sub (.l 31) (.c (.lit (.int .i64 1))), none⟩,
  ⟨(some (false, 33)), .bin .quo (.l 32) (.c (.lit (.int .i64 2))), none⟩,
  ⟨(some (false, 34)), .call (.c (.fn 70 [])) [.l 30, .c (.lit (.int .i64 0)), .l 33], none⟩,
  ⟨(some (false, 35)), .mv (.g 0), none⟩,
  ⟨(some (false, 36)), .mv (.g 8), none⟩,
  ⟨(some (false, 37)), .bin .sub (.l 36) (.c (.lit (.int .i64 1))), none⟩,
  ⟨(some (false, 38)), .bin .quo (.l 37) (.c (.lit (.int .i64 2))), none⟩,
  ⟨(some (false, 39)), .mv (.g 8), none⟩,
  ⟨(some (false, 40)), .bin .sub (.l 39) (.c (.lit (.int .i64 1))), none⟩,
  ⟨(some (false, 41)), .call (.c (.fn 70 [])) [.l 35, .l 38, .l 40], none⟩,
  ⟨(some (false, 42)), .fa (.g 7) 0, none⟩,
  ⟨none, .st 2 (.l 42) (.l 34), none⟩,
  ⟨(some (false, 43)), .fa (.g 7) 2, none⟩,
  ⟨none, .st 2 (.l 43) (.l 41), none⟩])
(.seq
(.seq
(.reg [
  ⟨(some (false, 44)), .mv (.g 0), none⟩,
  ⟨(some (true, 45)), .call (.c (.fn 56 [])) [.l 44, .c (.lit (.int .i64 8))], none⟩])
(.cond (.g 45)
(.reg [
  ⟨(some (false, 46)), .mv (.g 0), none⟩,
  ⟨(some (false, 47)), .mv (.g 8), none⟩,
  ⟨(some (false, 48)), .bin .sub (.l 47) (.c (.lit (.int .i64 1))), none⟩,
  ⟨(some (false, 49)), .call (.c (.fn 70 [])) [.l 46, .c (.lit (.int .i64 0)), .l 48], none⟩,
  ⟨(some (false, 50)), .mv (.g 0), none⟩,
  ⟨(some (false, 51)), .mv (.g 8), none⟩,
  ⟨(some (false, 52)), .bin .sub (.l 51) (.c (.lit (.int .i64 1))), none⟩,
  ⟨(some (false, 53)), .call (.c (.fn 70 [])) [.l 50, .c (.lit (.int .i64 0)), .l 52], none⟩,
  ⟨(some (false, 54)), .fa (.g 7) 0, none⟩,
  ⟨none, .st 2 (.l 54) (.l 49), none⟩,
  ⟨(some (false, 55)), .fa (.g 7) 2, none⟩,
  ⟨none, .st 2 (.l 55) (.l 53), none⟩])
.skip))
(.seq
(.seq
(.reg [
  ⟨(some (false, 56)), .mv (.g 0), none⟩,
  ⟨(some (false, 57)), .mv (.g 2), none⟩,
  ⟨(some (false, 58)), .call (.c (.fn 45 [])) [.l 56, .c (.lit (.int .i64 1)), .l 57], none⟩,
  ⟨(some (true, 10)), .mv (.l 58), none⟩])
(.block 2
(.loop
(.seq
(.seq
(.reg [
  ⟨(some (false, 59)), .mv (.g 10), none⟩,
  ⟨(some (true, 60)), .bin .gtr (.l 59) (.c (.lit (.int .i64 0))), none⟩])
(.cond (.g 60)
.skip
(.exit 2)))
(.seq
(.block 3
(.seq
(.reg [
  ⟨(some (false, 63)), .mv (.g 0), none⟩,
  ⟨(some (false, 64)), .mv (.g 0), none⟩,
  ⟨(some (false, 65)), .mks false 1 [.c (.lit (.int .i64 4)), .c (.lit (.int .i64 20))], none⟩,
  ⟨(some (false, 66)), .call (.c (.fn 46 [])) [.l 64, .l 65], none⟩,
  ⟨(some (false, 67)), .call (.c (.fn 45 [])) [.l 63, .c (.lit (.int .i64 1)), .l 66], none⟩,
  ⟨(some (false, 68)), .mv (.g 0), none⟩,
  ⟨(some (false, 69)), .mv (.g 8), none⟩,
  ⟨(some (false, 70)), .bin .add (.l 69) (.c (.lit (.int .i64 1))), none⟩,
  ⟨(some (false, 71)), .call (.c (.fn 47 [])) [.l 68, .l 70], none⟩,
  ⟨(some (false, 72)), .mv (.g 0), none⟩,
  ⟨(some (false, 73)), .call (.c (.fn 47 [])) [.l 72, .c (.lit (.int .i64 10))], none⟩,
  ⟨(some (false, 74)), .mk [.int .i64 0, .int .i64 0, .int .i64 0, .int .i64 0] [(0, 1, .l 67), (1, 1, .l 71), (2, 1, .l 73)], none⟩,
  ⟨(some (true, 11)), .new [.int .i64 0, .int .i64 0, .int .i64 0, .int .i64 0], none⟩,
  ⟨none, .st 4 (.g 11) (.l 74), none⟩])
(.seq
(.draw [
  ⟨⟨(some (false, 75)), .fa (.g 11) 2, none⟩, 0, true, []⟩,
  ⟨⟨(some (false, 76)), .ld none (.l 75), none⟩, 1, true, []⟩,
  ⟨⟨(some (false, 77)), .mv (.g 0), none⟩, 2, true, []⟩,
  ⟨⟨(some (false, 78)), .mv (.g 0), none⟩, 3, true, []⟩,
  ⟨⟨(some (false, 79)), .call (.c (.fn 47 [])) [.l 78, .c (.lit (.int .i64 20))], none⟩, 4, false, []⟩,
  ⟨⟨(some (false, 80)), .mks false 1 [.c (.lit (.int .i64 0)), .l 79], none⟩, 5, true, []⟩,
  ⟨⟨(some (false, 81)), .call (.c (.fn 46 [])) [.l 77, .l 80], none⟩, 6, false, []⟩,
  ⟨⟨(some (false, 82)), .bin .add (.l 76) (.l 81), none⟩, 7, true, []⟩,
  ⟨⟨(some (false, 83)), .fa (.g 11) 3, none⟩, 8, true, []⟩,
  ⟨⟨none, .st 1 (.l 83) (.l 82), none⟩, 9, true, []⟩])
(.reg [
  ⟨(some (false, 84)), .fa (.g 7) 5, none⟩,
  ⟨(some (false, 85)), .ld none (.l 84), none⟩,
  ⟨(some (false, 86)), .ld (some 4) (.g 11), none⟩,
  ⟨(some (false, 87)), .mks false 4 [.l 86], none⟩,
  ⟨(some (false, 88)), .app 4 32 (.l 85) (.l 87), none⟩,
  ⟨(some (false, 89)), .fa (.g 7) 5, none⟩,
  ⟨none, .st 1 (.l 89) (.l 88), none⟩]))))
(.reg [
  ⟨(some (false, 61)), .mv (.g 10), none⟩,
  ⟨(some (false, 62)), .bin .sub (.l 61) (.c (.lit (.int .i64 1))), none⟩,
  ⟨(some (true, 10)), .mv (.l 62), none⟩]))))))
(.seq
(.reg [
  ⟨(some (false, 90)), .ld (some 6) (.g 7), none⟩,
  ⟨none, .st 6 (.g 6) (.l 90), none⟩])
.ret))))))))
def K23 : List Nat := [0, 1, 2, 17, 45, 60, 6, 7, 8, 9, 10, 11]
noncomputable def b23 : Code := match Try.f23.body with | some c => c | none => .skip
theorem t23 : trCode ⟨Try.prog, K23, [], 91, none⟩ b23 = some c23 := by kernel_rfl
theorem go23 {args : List AV} {H : AHeap} {Kk : AV → AHeap → Prop} (hn : args.length = 3) (h : AGo ⟨Try.prog, K23, [], 91, none⟩ H.length [.code c23] (RetP [.cell (.g 6) (some 6)] H.length Kk) ⟨[], argsG 0 args⟩ H) : ACalls Try.prog 23 args H Kk :=
  ACalls_of Try.func23 (c := b23) rfl (by kernel_rfl) t23 (rs := [.cell (.g 6) (some 6)]) (by kernel_rfl) (by rw [hn]; exact Nat.le_of_ble_eq_true rfl) (by rw [hn]; rfl) (h.weaken (fun _ _ => RetP.hands) (by simp))

/-- sastrugi/sastrugikit.Same -/
def c28 : ACode :=
  (.seq
(.reg [
  ⟨(some (true, 4)), .mv (.c (.lit (.bool false))), none⟩])
(.seq
(.seq
(.reg [
  ⟨(some (false, 6)), .mv (.g 0), none⟩,
  ⟨(some (false, 7)), .len (.l 6), none⟩,
  ⟨(some (false, 8)), .mv (.g 1), none⟩,
  ⟨(some (false, 9)), .len (.l 8), none⟩,
  ⟨(some (true, 10)), .bin .neq (.l 7) (.l 9), none⟩])
(.cond (.g 10)
(.seq
(.reg [
  ⟨(some (true, 4)), .mv (.c (.lit (.bool false))), none⟩])
.ret)
.skip))
(.seq
(.seq
(.reg [
  ⟨(some (true, 5)), .mv (.c (.lit (.int .i64 0))), none⟩])
(.block 0
(.loop
(.seq
(.seq
(.reg [
  ⟨(some (false, 11)), .mv (.g 5), none⟩,
  ⟨(some (false, 12)), .mv (.g 0), none⟩,
  ⟨(some (false, 13)), .len (.l 12), none⟩,
  ⟨(some (true, 14)), .bin .lss (.l 11) (.l 13), none⟩])
(.cond (.g 14)
.skip
(.exit 0)))
(.seq
(.block 1
(.seq
(.draw [
  ⟨⟨(some (false, 17)), .mv (.g 0), none⟩, 0, true, []⟩,
  ⟨⟨(some (false, 18)), .mv (.g 5), none⟩, 1, true, []⟩,
  ⟨⟨(some (false, 19)), .ia 1 (.l 17) (.l 18), none⟩, 2, true, []⟩,
  ⟨⟨(some (false, 20)), .ld none (.l 19), none⟩, 3, true, []⟩,
  ⟨⟨(some (false, 21)), .mv (.g 1), none⟩, 4, true, []⟩,
  ⟨⟨(some (false, 22)), .mv (.g 5), none⟩, 5, true, []⟩,
  ⟨⟨(some (false, 23)), .ia 1 (.l 21) (.l 22), none⟩, 6, true, []⟩,
  ⟨⟨(some (false, 24)), .ld none (.l 23), none⟩, 7, true, []⟩,
  ⟨⟨(some (true, 25)), .bin .neq (.l 20) (.l 24), none⟩, 8, true, []⟩])
(.cond (.g 25)
(.seq
(.reg [
  ⟨(some (true, 4)), .mv (.c (.lit (.bool false))), none⟩])
.ret)
.skip)))
(.reg [
  ⟨(some (false, 15)), .mv (.g 5), none⟩,
  ⟨(some (false, 16)), .bin .add (.l 15) (.c (.lit (.int .i64 1))), none⟩,
  ⟨(some (true, 5)), .mv (.l 16), none⟩]))))))
(.seq
(.reg [
  ⟨(some (true, 4)), .mv (.c (.lit (.bool true))), none⟩])
.ret))))
def K28 : List Nat := [0, 1, 10, 14, 25, 4, 5]
noncomputable def b28 : Code := match Try.f28.body with | some c => c | none => .skip
theorem t28 : trCode ⟨Try.prog, K28, [], 26, none⟩ b28 = some c28 := by kernel_rfl
theorem go28 {args : List AV} {H : AHeap} {Kk : AV → AHeap → Prop} (hn : args.length = 2) (h : AGo ⟨Try.prog, K28, [], 26, none⟩ H.length [.code c28] (RetP [.t (.g 4)] H.length Kk) ⟨[], argsG 0 args⟩ H) : ACalls Try.prog 28 args H Kk :=
  ACalls_of Try.func28 (c := b28) rfl (by kernel_rfl) t28 (rs := [.t (.g 4)]) (by kernel_rfl) (by rw [hn]; exact Nat.le_of_ble_eq_true rfl) (by rw [hn]; rfl) (h.weaken (fun _ _ => RetP.hands) (by simp))

/-- sastrugi/sastrugikit.PlanOf -/
def c31 : ACode :=
  (.seq
(.reg [
  ⟨(some (true, 4)), .mv (.c (.lit (.slice none 0 0))), none⟩])
(.seq
(.reg [
  ⟨(some (true, 5)), .mv (.c (.lit (.slice none 0 0))), none⟩])
(.seq
(.seq
(.reg [
  ⟨(some (true, 6)), .mv (.c (.lit (.int .i64 0))), none⟩])
(.block 0
(.loop
(.seq
(.seq
(.reg [
  ⟨(some (false, 9)), .mv (.g 6), none⟩,
  ⟨(some (false, 10)), .mv (.g 1), none⟩,
  ⟨(some (true, 11)), .bin .lss (.l 9) (.l 10), none⟩])
(.cond (.g 11)
.skip
(.exit 0)))
(.seq
(.block 1
(.reg [
  ⟨(some (false, 14)), .mv (.g 5), none⟩,
  ⟨(some (false, 15)), .mv (.g 6), none⟩,
  ⟨(some (false, 16)), .mks false 1 [.l 15], none⟩,
  ⟨(some (false, 17)), .app 1 8 (.l 14) (.l 16), none⟩,
  ⟨(some (true, 5)), .mv (.l 17), none⟩]))
(.reg [
  ⟨(some (false, 12)), .mv (.g 6), none⟩,
  ⟨(some (false, 13)), .bin .add (.l 12) (.c (.lit (.int .i64 1))), none⟩,
  ⟨(some (true, 6)), .mv (.l 13), none⟩]))))))
(.seq
(.seq
(.reg [
  ⟨(some (false, 18)), .mv (.g 1), none⟩,
  ⟨(some (false, 19)), .bin .sub (.l 18) (.c (.lit (.int .i64 1))), none⟩,
  ⟨(some (true, 7)), .mv (.l 19), none⟩])
(.block 2
(.loop
(.seq
(.seq
(.reg [
  ⟨(some (false, 20)), .mv (.g 7), none⟩,
  ⟨(some (true, 21)), .bin .gtr (.l 20) (.c (.lit (.int .i64 0))), none⟩])
(.cond (.g 21)
.skip
(.exit 2)))
(.seq
(.block 3
(.seq
(.reg [
  ⟨(some (false, 24)), .mv (.g 0), none⟩,
  ⟨(some (false, 25)), .mv (.g 7), none⟩,
  ⟨(some (false, 26)), .bin .add (.l 25) (.c (.lit (.int .i64 1))), none⟩,
  ⟨(some (false, 27)), .call (.c (.fn 47 [])) [.l 24, .l 26], none⟩,
  ⟨(some (true, 8)), .mv (.l 27), none⟩])
(.draw [
  ⟨⟨(some (false, 28)), .mv (.g 5), none⟩, 0, true, []⟩,
  ⟨⟨(some (false, 29)), .mv (.g 7), none⟩, 1, true, []⟩,
  ⟨⟨(some (false, 30)), .mv (.g 5), none⟩, 2, false, []⟩,
  ⟨⟨(some (false, 31)), .mv (.g 8), none⟩, 3, false, []⟩,
  ⟨⟨(some (false, 32)), .mv (.g 5), none⟩, 4, true, []⟩,
  ⟨⟨(some (false, 33)), .mv (.g 8), none⟩, 5, true, []⟩,
  ⟨⟨(some (false, 34)), .ia 1 (.l 32) (.l 33), none⟩, 6, true, []⟩,
  ⟨⟨(some (false, 35)), .ld none (.l 34), none⟩, 7, true, []⟩,
  ⟨⟨(some (false, 36)), .mv (.g 5), none⟩, 8, false, []⟩,
  ⟨⟨(some (false, 37)), .mv (.g 7), none⟩, 9, false, []⟩,
  ⟨⟨(some (false, 38)), .ia 1 (.l 36) (.l 37), none⟩, 10, true, []⟩,
  ⟨⟨(some (false, 39)), .ld none (.l 38), none⟩, 11, true, []⟩,
  ⟨⟨(some (false, 40)), .ia 1 (.l 28) (.l 29), none⟩, 12, true, []⟩,
  ⟨⟨none, .st 1 (.l 40) (.l 35), none⟩, 13, false, []⟩,
  ⟨⟨(some (false, 41)), .ia 1 (.l 30) (.l 31), none⟩, 14, false, []⟩,
  ⟨⟨none, .st 1 (.l 41) (.l 39), none⟩, 15, true, []⟩])))
(.reg [
  ⟨(some (false, 22)), .mv (.g 7), none⟩,
  ⟨(some (false, 23)), .bin .sub (.l 22) (.c (.lit (.int .i64 1))), none⟩,
  ⟨(some (true, 7)), .mv (.l 23), none⟩]))))))
(.seq
(.reg [
  ⟨(some (false, 42)), .mv (.g 5), none⟩,
  ⟨(some (true, 4)), .mv (.l 42), none⟩])
.ret)))))
def K31 : List Nat := [0, 1, 11, 21, 4, 5, 6, 7, 8]
noncomputable def b31 : Code := match Try.f31.body with | some c => c | none => .skip
theorem t31 : trCode ⟨Try.prog, K31, [], 43, none⟩ b31 = some c31 := by kernel_rfl
theorem go31 {args : List AV} {H : AHeap} {Kk : AV → AHeap → Prop} (hn : args.length = 2) (h : AGo ⟨Try.prog, K31, [], 43, none⟩ H.length [.code c31] (RetP [.t (.g 4)] H.length Kk) ⟨[], argsG 0 args⟩ H) : ACalls Try.prog 31 args H Kk :=
  ACalls_of Try.func31 (c := b31) rfl (by kernel_rfl) t31 (rs := [.t (.g 4)]) (by kernel_rfl) (by rw [hn]; exact Nat.le_of_ble_eq_true rfl) (by rw [hn]; rfl) (h.weaken (fun _ _ => RetP.hands) (by simp))

/-- sastrugi/sastrugikit.WinterOf -/
def c35 : ACode :=
  (.seq
(.reg [
  ⟨(some (true, 3)), .box (.g 1), none⟩,
  ⟨(some (true, 4)), .new [.int .i64 0, .int .i64 0, .slice none 0 0], none⟩])
(.seq
(.draw [
  ⟨⟨(some (false, 7)), .mv (.g 0), none⟩, 0, true, []⟩,
  ⟨⟨(some (false, 8)), .fa (.g 3) 0, none⟩, 1, true, []⟩,
  ⟨⟨(some (false, 9)), .ld (some 2) (.l 8), none⟩, 2, true, []⟩,
  ⟨⟨(some (false, 11)), .mv (.g 0), none⟩, 4, true, []⟩,
  ⟨⟨(some (false, 12)), .fa (.g 3) 2, none⟩, 5, true, []⟩,
  ⟨⟨(some (false, 13)), .ld (some 2) (.l 12), none⟩, 6, true, []⟩,
  ⟨⟨(some (true, 5)), .new [.int .i64 0, .int .i64 0, .slice none 0 0], none⟩, 9, true, []⟩,
  ⟨⟨(some (false, 10)), .call (.c (.fn 91 [])) [.l 7, .l 9], none⟩, 3, false, []⟩,
  ⟨⟨(some (false, 14)), .call (.c (.fn 91 [])) [.l 11, .l 13], none⟩, 7, false, []⟩,
  ⟨⟨(some (false, 15)), .mk [.int .i64 0, .int .i64 0, .slice none 0 0] [(0, 1, .l 10), (1, 1, .l 14)], none⟩, 8, true, []⟩,
  ⟨⟨none, .st 3 (.g 5) (.l 15), none⟩, 10, true, [9]⟩])
(.seq
(.seq
(.reg [
  ⟨(some (true, 6)), .mv (.c (.lit (.int .i64 0))), none⟩])
(.block 0
(.loop
(.seq
(.seq
(.reg [
  ⟨(some (false, 16)), .mv (.g 6), none⟩,
  ⟨(some (false, 17)), .fa (.g 3) 4, none⟩,
  ⟨(some (false, 18)), .ld none (.l 17), none⟩,
  ⟨(some (false, 19)), .len (.l 18), none⟩,
  ⟨(some (true, 20)), .bin .lss (.l 16) (.l 19), none⟩])
(.cond (.g 20)
.skip
(.exit 0)))
(.seq
(.block 1
(.draw [
  ⟨⟨(some (false, 23)), .fa (.g 5) 2, none⟩, 0, true, []⟩,
  ⟨⟨(some (false, 24)), .ld none (.l 23), none⟩, 1, true, []⟩,
  ⟨⟨(some (false, 25)), .mv (.g 0), none⟩, 2, true, []⟩,
  ⟨⟨(some (false, 26)), .fa (.g 3) 4, none⟩, 3, true, []⟩,
  ⟨⟨(some (false, 27)), .ld none (.l 26), none⟩, 4, true, []⟩,
  ⟨⟨(some (false, 28)), .mv (.g 6), none⟩, 5, true, []⟩,
  ⟨⟨(some (false, 29)), .ia 2 (.l 27) (.l 28), none⟩, 6, true, []⟩,
  ⟨⟨(some (false, 30)), .ld (some 2) (.l 29), none⟩, 7, true, []⟩,
  ⟨⟨(some (false, 31)), .call (.c (.fn 91 [])) [.l 25, .l 30], none⟩, 8, false, []⟩,
  ⟨⟨(some (false, 32)), .mks false 1 [.l 31], none⟩, 9, true, []⟩,
  ⟨⟨(some (false, 33)), .app 1 8 (.l 24) (.l 32), none⟩, 10, false, []⟩,
  ⟨⟨(some (false, 34)), .fa (.g 5) 2, none⟩, 11, true, []⟩,
  ⟨⟨none, .st 1 (.l 34) (.l 33), none⟩, 12, true, []⟩]))
(.reg [
  ⟨(some (false, 21)), .mv (.g 6), none⟩,
  ⟨(some (false, 22)), .bin .add (.l 21) (.c (.lit (.int .i64 1))), none⟩,
  ⟨(some (true, 6)), .mv (.l 22), none⟩]))))))
(.seq
(.reg [
  ⟨(some (false, 35)), .ld (some 3) (.g 5), none⟩,
  ⟨none, .st 3 (.g 4) (.l 35), none⟩])
.ret))))
def K35 : List Nat := [0, 1, 20, 4, 3, 5, 6]
noncomputable def b35 : Code := match Try.f35.body with | some c => c | none => .skip
theorem t35 : trCode ⟨Try.prog, K35, [], 36, none⟩ b35 = some c35 := by kernel_rfl
theorem go35 {args : List AV} {H : AHeap} {Kk : AV → AHeap → Prop} (hn : args.length = 2) (h : AGo ⟨Try.prog, K35, [], 36, none⟩ H.length [.code c35] (RetP [.cell (.g 4) (some 3)] H.length Kk) ⟨[], argsG 0 args⟩ H) : ACalls Try.prog 35 args H Kk :=
  ACalls_of Try.func35 (c := b35) rfl (by kernel_rfl) t35 (rs := [.cell (.g 4) (some 3)]) (by kernel_rfl) (by rw [hn]; exact Nat.le_of_ble_eq_true rfl) (by rw [hn]; rfl) (h.weaken (fun _ _ => RetP.hands) (by simp))

/-- sastrugi/sastrugikit.WayOf -/
def c42 : ACode :=
  (.seq
(.reg [
  ⟨(some (true, 4)), .box (.g 1), none⟩,
  ⟨(some (true, 5)), .box (.g 2), none⟩,
  ⟨(some (true, 6)), .mv (.c (.lit (.slice none 0 0))), none⟩])
(.seq
(.reg [
  ⟨(some (false, 16)), .fa (.g 4) 5, none⟩,
  ⟨(some (false, 17)), .ld none (.l 16), none⟩,
  ⟨(some (false, 18)), .len (.l 17), none⟩,
  ⟨(some (false, 19)), .mksl 1 24 [.slice none 0 0] (.l 18) (.l 18), none⟩,
  ⟨(some (true, 7)), .mv (.l 19), none⟩])
(.seq
(.reg [
  ⟨(some (false, 20)), .fa (.g 4) 5, none⟩,
  ⟨(some (false, 21)), .ld none (.l 20), none⟩,
  ⟨(some (false, 22)), .len (.l 21), none⟩,
  ⟨(some (false, 23)), .mksl 1 8 [.int .i64 0] (.l 22) (.l 22), none⟩,
  ⟨(some (true, 8)), .mv (.l 23), none⟩])
(.seq
(.seq
(.reg [
  ⟨(some (true, 9)), .mv (.c (.lit (.int .i64 0))), none⟩])
(.block 0
(.loop
(.seq
(.seq
(.reg [
  ⟨(some (false, 24)), .mv (.g 9), none⟩,
  ⟨(some (false, 25)), .fa (.g 4) 5, none⟩,
  ⟨(some (false, 26)), .ld none (.l 25), none⟩,
  ⟨(some (false, 27)), .len (.l 26), none⟩,
  ⟨(some (true, 28)), .bin .lss (.l 24) (.l 27), none⟩])
(.cond (.g 28)
.skip
(.exit 0)))
(.seq
(.block 1
(.draw [
  ⟨⟨(some (false, 31)), .mv (.g 8), none⟩, 0, true, []⟩,
  ⟨⟨(some (false, 32)), .mv (.g 9), none⟩, 1, true, []⟩,
  ⟨⟨(some (false, 33)), .mv (.g 7), none⟩, 2, false, []⟩,
  ⟨⟨(some (false, 34)), .mv (.g 9), none⟩, 3, false, []⟩,
  ⟨⟨(some (false, 35)), .fa (.g 4) 5, none⟩, 4, true, []⟩,
  ⟨⟨(some (false, 36)), .ld none (.l 35), none⟩, 5, true, []⟩,
  ⟨⟨(some (false, 37)), .mv (.g 9), none⟩, 6, true, []⟩,
  ⟨⟨(some (false, 38)), .ia 4 (.l 36) (.l 37), none⟩, 7, true, []⟩,
  ⟨⟨(some (false, 39)), .fa (.l 38) 0, none⟩, 8, true, []⟩,
  ⟨⟨(some (false, 40)), .ld none (.l 39), none⟩, 9, true, []⟩,
  ⟨⟨(some (false, 41)), .fa (.g 5) 2, none⟩, 10, false, []⟩,
  ⟨⟨(some (false, 42)), .ld none (.l 41), none⟩, 11, false, []⟩,
  ⟨⟨(some (false, 43)), .len (.l 42), none⟩, 12, false, []⟩,
  ⟨⟨(some (false, 44)), .newl 1 8 [.int .i64 0] (.l 43) (.l 43), none⟩, 13, false, []⟩,
  ⟨⟨(some (false, 45)), .ia 1 (.l 31) (.l 32), none⟩, 14, true, []⟩,
  ⟨⟨none, .st 1 (.l 45) (.l 40), none⟩, 15, false, []⟩,
  ⟨⟨(some (false, 46)), .ia 1 (.l 33) (.l 34), none⟩, 16, false, [13]⟩,
  ⟨⟨none, .st 1 (.l 46) (.l 44), none⟩, 17, true, [13]⟩]))
(.reg [
  ⟨(some (false, 29)), .mv (.g 9), none⟩,
  ⟨(some (false, 30)), .bin .add (.l 29) (.c (.lit (.int .i64 1))), none⟩,
  ⟨(some (true, 9)), .mv (.l 30), none⟩]))))))
(.seq
(.reg [
  ⟨(some (false, 47)), .mv (.g 0), none⟩,
  ⟨(some (false, 48)), .call (.c (.fn 56 [])) [.l 47, .c (.lit (.int .i64 3))], none⟩,
  ⟨(some (true, 10)), .mv (.l 48), none⟩])
(.seq
(.seq
(.reg [
  ⟨(some (true, 11)), .mv (.c (.lit (.int .i64 0))), none⟩])
(.block 2
(.loop
(.seq
(.seq
(.reg [
  ⟨(some (false, 49)), .mv (.g 11), none⟩,
  ⟨(some (false, 50)), .fa (.g 5) 2, none⟩,
  ⟨(some (false, 51)), .ld none (.l 50), none⟩,
  ⟨(some (false, 52)), .len (.l 51), none⟩,
  ⟨(some (true, 53)), .bin .lss (.l 49) (.l 52), none⟩])
(.cond (.g 53)
.skip
(.exit 2)))
(.seq
(.block 3
(.seq
(.reg [
  ⟨(some (false, 56)), .ld (some 3) (.g 5), none⟩,
  ⟨(some (false, 57)), .mv (.g 11), none⟩,
  ⟨(some (false, 58)), .call (.c (.fn 44 [])) [.l 56, .l 57], none⟩,
  ⟨(some (true, 12)), .mv (.l 58), none⟩])
(.seq
(.reg [
  ⟨(some (false, 59)), .mv (.g 0), none⟩,
  ⟨(some (false, 60)), .fa (.g 4) 5, none⟩,
  ⟨(some (false, 61)), .ld none (.l 60), none⟩,
  ⟨(some (false, 62)), .len (.l 61), none⟩,
  ⟨(some (false, 63)), .call (.c (.fn 31 [])) [.l 59, .l 62], none⟩,
  ⟨(some (true, 13)), .mv (.l 63), none⟩])
(.seq
(.reg [
  ⟨(some (true, 14)), .mv (.c (.lit (.int .i64 0))), none⟩])
(.block 4
(.loop
(.seq
(.seq
(.reg [
  ⟨(some (false, 64)), .mv (.g 14), none⟩,
  ⟨(some (false, 65)), .mv (.g 13), none⟩,
  ⟨(some (false, 66)), .len (.l 65), none⟩,
  ⟨(some (true, 67)), .bin .lss (.l 64) (.l 66), none⟩])
(.cond (.g 67)
.skip
(.exit 4)))
(.seq
(.block 5
(.seq
(.reg [
  ⟨(some (false, 70)), .mv (.g 12), none⟩,
  ⟨(some (false, 71)), .mv (.g 8), none⟩,
  ⟨(some (false, 72)), .mv (.g 13), none⟩,
  ⟨(some (false, 73)), .mv (.g 14), none⟩,
  ⟨(some (false, 74)), .ia 1 (.l 72) (.l 73), none⟩,
  ⟨(some (false, 75)), .ld none (.l 74), none⟩,
  ⟨(some (false, 76)), .ia 1 (.l 71) (.l 75), none⟩,
  ⟨(some (false, 77)), .ld none (.l 76), none⟩,
  ⟨(some (false, 78)), .mn [.l 70, .l 77], none⟩,
  ⟨(some (true, 15)), .mv (.l 78), none⟩])
(.seq
(.seq
(.reg [
  ⟨(some (false, 79)), .mv (.g 10), none⟩,
  ⟨(some (false, 80)), .mv (.l 79), none⟩,
  ⟨(some (false, 81)), .mv (.g 0), (some (.l 80, false))⟩,
  ⟨(some (false, 82)), .call (.c (.fn 56 [])) [.l 81, .c (.lit (.int .i64 4))], (some (.l 80, false))⟩,
  ⟨(some (true, 83)), .pick (.l 80) (.c (.lit (.bool true))) (.l 82), none⟩])
(.cond (.g 83)
(.reg [
  ⟨(some (false, 84)), .mv (.g 0), none⟩,
  ⟨(some (false, 85)), .mv (.g 15), none⟩,
  ⟨(some (false, 86)), .bin .add (.l 85) (.c (.lit (.int .i64 1))), none⟩,
  ⟨(some (false, 87)), .call (.c (.fn 47 [])) [.l 84, .l 86], none⟩,
  ⟨(some (true, 15)), .mv (.l 87), none⟩])
.skip))
(.seq
(.reg [
  ⟨(some (false, 88)), .mv (.g 7), none⟩,
  ⟨(some (false, 89)), .mv (.g 13), none⟩,
  ⟨(some (false, 90)), .mv (.g 14), none⟩,
  ⟨(some (false, 91)), .ia 1 (.l 89) (.l 90), none⟩,
  ⟨(some (false, 92)), .ld none (.l 91), none⟩,
  ⟨(some (false, 93)), .ia 1 (.l 88) (.l 92), none⟩,
  ⟨(some (false, 94)), .ld none (.l 93), none⟩,
  ⟨(some (false, 95)), .mv (.g 11), none⟩,
  ⟨(some (false, 96)), .mv (.g 15), none⟩,
  ⟨(some (false, 97)), .ia 1 (.l 94) (.l 95), none⟩,
  ⟨none, .st 1 (.l 97) (.l 96), none⟩])
(.draw [
  ⟨⟨(some (false, 98)), .mv (.g 8), none⟩, 0, true, []⟩,
  ⟨⟨(some (false, 99)), .mv (.g 13), none⟩, 1, true, []⟩,
  ⟨⟨(some (false, 100)), .mv (.g 14), none⟩, 2, true, []⟩,
  ⟨⟨(some (false, 101)), .ia 1 (.l 99) (.l 100), none⟩, 3, true, []⟩,
  ⟨⟨(some (false, 102)), .ld none (.l 101), none⟩, 4, true, []⟩,
  ⟨⟨(some (false, 103)), .mv (.g 8), none⟩, 5, true, []⟩,
  ⟨⟨(some (false, 104)), .mv (.g 13), none⟩, 6, true, []⟩,
  ⟨⟨(some (false, 105)), .mv (.g 14), none⟩, 7, true, []⟩,
  ⟨⟨(some (false, 106)), .ia 1 (.l 104) (.l 105), none⟩, 8, true, []⟩,
  ⟨⟨(some (false, 107)), .ld none (.l 106), none⟩, 9, true, []⟩,
  ⟨⟨(some (false, 108)), .ia 1 (.l 103) (.l 107), none⟩, 10, true, []⟩,
  ⟨⟨(some (false, 109)), .ld none (.l 108), none⟩, 11, true, []⟩,
  ⟨⟨(some (false, 110)), .mv (.g 15), none⟩, 12, true, []⟩,
  ⟨⟨(some (false, 111)), .bin .sub (.l 109) (.l 110), none⟩, 13, true, []⟩,
  ⟨⟨(some (false, 112)), .mv (.g 12), none⟩, 14, false, []⟩,
  ⟨⟨(some (false, 113)), .mv (.g 15), none⟩, 15, false, []⟩,
  ⟨⟨(some (false, 114)), .bin .sub (.l 112) (.l 113), none⟩, 16, false, []⟩,
  ⟨⟨(some (false, 115)), .ia 1 (.l 98) (.l 102), none⟩, 17, true, []⟩,
  ⟨⟨none, .st 1 (.l 115) (.l 111), none⟩, 18, false, []⟩,
  ⟨⟨(some (true, 12)), .mv (.l 114), none⟩, 19, false, []⟩])))))
(.reg [
  ⟨(some (false, 68)), .mv (.g 14), none⟩,
  ⟨(some (false, 69)), .bin .add (.l 68) (.c (.lit (.int .i64 1))), none⟩,
  ⟨(some (true, 14)), .mv (.l 69), none⟩])))))))))
(.reg [
  ⟨(some (false, 54)), .mv (.g 11), none⟩,
  ⟨(some (false, 55)), .bin .add (.l 54) (.c (.lit (.int .i64 1))), none⟩,
  ⟨(some (true, 11)), .mv (.l 55), none⟩]))))))
(.seq
(.reg [
  ⟨(some (false, 116)), .mv (.g 7), none⟩,
  ⟨(some (true, 6)), .mv (.l 116), none⟩])
.ret)))))))
def K42 : List Nat := [0, 1, 2, 28, 53, 67, 83, 6, 4, 5, 7, 8, 9, 10, 11, 12, 13, 14, 15]
noncomputable def b42 : Code := match Try.f42.body with | some c => c | none => .skip
theorem t42 : trCode ⟨Try.prog, K42, [], 117, none⟩ b42 = some c42 := by kernel_rfl
theorem go42 {args : List AV} {H : AHeap} {Kk : AV → AHeap → Prop} (hn : args.length = 3) (h : AGo ⟨Try.prog, K42, [], 117, none⟩ H.length [.code c42] (RetP [.t (.g 6)] H.length Kk) ⟨[], argsG 0 args⟩ H) : ACalls Try.prog 42 args H Kk :=
  ACalls_of Try.func42 (c := b42) rfl (by kernel_rfl) t42 (rs := [.t (.g 6)]) (by kernel_rfl) (by rw [hn]; exact Nat.le_of_ble_eq_true rfl) (by rw [hn]; rfl) (h.weaken (fun _ _ => RetP.hands) (by simp))

/-- sastrugi/sastrugikit.Room -/
def c44 : ACode :=
  (.seq
(.reg [
  ⟨(some (true, 2)), .box (.g 0), none⟩,
  ⟨(some (true, 4)), .mv (.c (.lit (.int .i64 0))), none⟩])
(.seq
(.seq
(.reg [
  ⟨(some (false, 5)), .mv (.g 1), none⟩,
  ⟨(some (false, 6)), .fa (.g 2) 0, none⟩,
  ⟨(some (false, 7)), .ld none (.l 6), none⟩,
  ⟨(some (false, 8)), .bin .lss (.l 5) (.l 7), none⟩,
  ⟨(some (false, 9)), .mv (.l 8), none⟩,
  ⟨(some (false, 10)), .mv (.g 1), (some (.l 9, false))⟩,
  ⟨(some (false, 11)), .fa (.g 2) 1, (some (.l 9, false))⟩,
  ⟨(some (false, 12)), .ld none (.l 11), (some (.l 9, false))⟩,
  ⟨(some (false, 13)), .bin .gtr (.l 10) (.l 12), (some (.l 9, false))⟩,
  ⟨(some (false, 14)), .pick (.l 9) (.c (.lit (.bool true))) (.l 13), none⟩,
  ⟨(some (false, 15)), .mv (.l 14), none⟩,
  ⟨(some (false, 16)), .mv (.g 1), (some (.l 15, false))⟩,
  ⟨(some (false, 17)), .bin .lss (.l 16) (.c (.lit (.int .i64 0))), (some (.l 15, false))⟩,
  ⟨(some (false, 18)), .pick (.l 15) (.c (.lit (.bool true))) (.l 17), none⟩,
  ⟨(some (false, 19)), .mv (.l 18), none⟩,
  ⟨(some (false, 20)), .mv (.g 1), (some (.l 19, false))⟩,
  ⟨(some (false, 21)), .fa (.g 2) 2, (some (.l 19, false))⟩,
  ⟨(some (false, 22)), .ld none (.l 21), (some (.l 19, false))⟩,
  ⟨(some (false, 23)), .len (.l 22), (some (.l 19, false))⟩,
  ⟨(some (false, 24)), .bin .geq (.l 20) (.l 23), (some (.l 19, false))⟩,
  ⟨(some (true, 25)), .pick (.l 19) (.c (.lit (.bool true))) (.l 24), none⟩])
(.cond (.g 25)
(.seq
(.reg [
  ⟨(some (true, 4)), .mv (.c (.lit (.int .i64 0))), none⟩])
.ret)
.skip))
(.seq
(.reg [
  ⟨(some (false, 26)), .fa (.g 2) 2, none⟩,
  ⟨(some (false, 27)), .ld none (.l 26), none⟩,
  ⟨(some (false, 28)), .mv (.g 1), none⟩,
  ⟨(some (false, 29)), .ia 1 (.l 27) (.l 28), none⟩,
  ⟨(some (false, 30)), .ld none (.l 29), none⟩,
  ⟨(some (true, 4)), .mv (.l 30), none⟩])
.ret)))
def K44 : List Nat := [0, 1, 25, 4, 2]
noncomputable def b44 : Code := match Try.f44.body with | some c => c | none => .skip
theorem t44 : trCode ⟨Try.prog, K44, [], 31, none⟩ b44 = some c44 := by kernel_rfl
theorem go44 {args : List AV} {H : AHeap} {Kk : AV → AHeap → Prop} (hn : args.length = 2) (h : AGo ⟨Try.prog, K44, [], 31, none⟩ H.length [.code c44] (RetP [.t (.g 4)] H.length Kk) ⟨[], argsG 0 args⟩ H) : ACalls Try.prog 44 args H Kk :=
  ACalls_of Try.func44 (c := b44) rfl (by kernel_rfl) t44 (rs := [.t (.g 4)]) (by kernel_rfl) (by rw [hn]; exact Nat.le_of_ble_eq_true rfl) (by rw [hn]; rfl) (h.weaken (fun _ _ => RetP.hands) (by simp))

/-- (*sastrugi/sastrugikit.Seed).From -/
def c45 : ACode :=
  (.seq
(.reg [
  ⟨(some (true, 6)), .mv (.c (.lit (.int .i64 0))), none⟩])
(.seq
(.reg [
  ⟨(some (false, 7)), .mv (.g 1), none⟩,
  ⟨(some (false, 8)), .mv (.g 0), none⟩,
  ⟨(some (false, 9)), .mv (.g 2), none⟩,
  ⟨(some (false, 10)), .mv (.g 1), none⟩,
  ⟨(some (false, 11)), .bin .sub (.l 9) (.l 10), none⟩,
  ⟨(some (false, 12)), .bin .add (.l 11) (.c (.lit (.int .i64 1))), none⟩,
  ⟨(some (false, 13)), .call (.c (.fn 47 [])) [.l 8, .l 12], none⟩,
  ⟨(some (false, 14)), .bin .add (.l 7) (.l 13), none⟩,
  ⟨(some (true, 6)), .mv (.l 14), none⟩])
.ret))
def K45 : List Nat := [0, 1, 2, 6]
noncomputable def b45 : Code := match Try.f45.body with | some c => c | none => .skip
theorem t45 : trCode ⟨Try.prog, K45, [], 15, none⟩ b45 = some c45 := by kernel_rfl
theorem go45 {args : List AV} {H : AHeap} {Kk : AV → AHeap → Prop} (hn : args.length = 3) (h : AGo ⟨Try.prog, K45, [], 15, none⟩ H.length [.code c45] (RetP [.t (.g 6)] H.length Kk) ⟨[], argsG 0 args⟩ H) : ACalls Try.prog 45 args H Kk :=
  ACalls_of Try.func45 (c := b45) rfl (by kernel_rfl) t45 (rs := [.t (.g 6)]) (by kernel_rfl) (by rw [hn]; exact Nat.le_of_ble_eq_true rfl) (by rw [hn]; rfl) (h.weaken (fun _ _ => RetP.hands) (by simp))

/-- (*sastrugi/sastrugikit.Seed).Of -/
def c46 : ACode :=
  (.seq
(.reg [
  ⟨(some (true, 4)), .mv (.c (.lit (.int .i64 0))), none⟩])
(.seq
(.seq
(.reg [
  ⟨(some (false, 5)), .mv (.g 1), none⟩,
  ⟨(some (false, 6)), .len (.l 5), none⟩,
  ⟨(some (true, 7)), .bin .eql (.l 6) (.c (.lit (.int .i64 0))), none⟩])
(.cond (.g 7)
(.seq
(.reg [
  ⟨(some (true, 4)), .mv (.c (.lit (.int .i64 0))), none⟩])
.ret)
.skip))
(.seq
(.reg [
  ⟨(some (false, 8)), .mv (.g 1), none⟩,
  ⟨(some (false, 9)), .mv (.g 0), none⟩,
  ⟨(some (false, 10)), .mv (.g 1), none⟩,
  ⟨(some (false, 11)), .len (.l 10), none⟩,
  ⟨(some (false, 12)), .call (.c (.fn 47 [])) [.l 9, .l 11], none⟩,
  ⟨(some (false, 13)), .ia 1 (.l 8) (.l 12), none⟩,
  ⟨(some (false, 14)), .ld none (.l 13), none⟩,
  ⟨(some (true, 4)), .mv (.l 14), none⟩])
.ret)))
def K46 : List Nat := [0, 1, 7, 4]
noncomputable def b46 : Code := match Try.f46.body with | some c => c | none => .skip
theorem t46 : trCode ⟨Try.prog, K46, [], 15, none⟩ b46 = some c46 := by kernel_rfl
theorem go46 {args : List AV} {H : AHeap} {Kk : AV → AHeap → Prop} (hn : args.length = 2) (h : AGo ⟨Try.prog, K46, [], 15, none⟩ H.length [.code c46] (RetP [.t (.g 4)] H.length Kk) ⟨[], argsG 0 args⟩ H) : ACalls Try.prog 46 args H Kk :=
  ACalls_of Try.func46 (c := b46) rfl (by kernel_rfl) t46 (rs := [.t (.g 4)]) (by kernel_rfl) (by rw [hn]; exact Nat.le_of_ble_eq_true rfl) (by rw [hn]; rfl) (h.weaken (fun _ _ => RetP.hands) (by simp))

/-- (*sastrugi/sastrugikit.Seed).Below -/
def c47 : ACode :=
  (.seq
(.reg [
  ⟨(some (true, 4)), .mv (.c (.lit (.int .i64 0))), none⟩])
(.seq
(.seq
(.reg [
  ⟨(some (false, 5)), .mv (.g 1), none⟩,
  ⟨(some (true, 6)), .bin .lss (.l 5) (.c (.lit (.int .i64 2))), none⟩])
(.cond (.g 6)
(.seq
(.reg [
  ⟨(some (true, 4)), .mv (.c (.lit (.int .i64 0))), none⟩])
.ret)
.skip))
(.seq
(.reg [
  ⟨(some (false, 7)), .mv (.g 0), none⟩,
  ⟨(some (false, 8)), .call (.c (.fn 69 [])) [.l 7], none⟩,
  ⟨(some (false, 9)), .bin .shr (.l 8) (.c (.lit (.int .u64 1))), none⟩,
  ⟨(some (false, 10)), .mv (.g 1), none⟩,
  ⟨(some (false, 11)), .cv .u64 (.l 10), none⟩,
  ⟨(some (false, 12)), .bin .rem (.l 9) (.l 11), none⟩,
  ⟨(some (false, 13)), .cv .i64 (.l 12), none⟩,
  ⟨(some (true, 4)), .mv (.l 13), none⟩])
.ret)))
def K47 : List Nat := [0, 1, 6, 4]
noncomputable def b47 : Code := match Try.f47.body with | some c => c | none => .skip
theorem t47 : trCode ⟨Try.prog, K47, [], 14, none⟩ b47 = some c47 := by kernel_rfl
theorem go47 {args : List AV} {H : AHeap} {Kk : AV → AHeap → Prop} (hn : args.length = 2) (h : AGo ⟨Try.prog, K47, [], 14, none⟩ H.length [.code c47] (RetP [.t (.g 4)] H.length Kk) ⟨[], argsG 0 args⟩ H) : ACalls Try.prog 47 args H Kk :=
  ACalls_of Try.func47 (c := b47) rfl (by kernel_rfl) t47 (rs := [.t (.g 4)]) (by kernel_rfl) (by rw [hn]; exact Nat.le_of_ble_eq_true rfl) (by rw [hn]; rfl) (h.weaken (fun _ _ => RetP.hands) (by simp))

/-- sastrugi/sastrugilaw08.span -/
def c53 : ACode :=
  (.seq
(.reg [
  ⟨(some (true, 4)), .new [.int .i64 0, .int .i64 0], none⟩])
(.seq
(.reg [
  ⟨(some (false, 5)), .mv (.g 0), none⟩,
  ⟨(some (false, 6)), .mv (.g 1), none⟩,
  ⟨(some (false, 7)), .mk [.int .i64 0, .int .i64 0] [(0, 1, .l 5), (1, 1, .l 6)], none⟩,
  ⟨none, .st 2 (.g 4) (.l 7), none⟩])
.ret))
def K53 : List Nat := [0, 1, 4]
noncomputable def b53 : Code := match Try.f53.body with | some c => c | none => .skip
theorem t53 : trCode ⟨Try.prog, K53, [], 8, none⟩ b53 = some c53 := by kernel_rfl
theorem go53 {args : List AV} {H : AHeap} {Kk : AV → AHeap → Prop} (hn : args.length = 2) (h : AGo ⟨Try.prog, K53, [], 8, none⟩ H.length [.code c53] (RetP [.cell (.g 4) (some 2)] H.length Kk) ⟨[], argsG 0 args⟩ H) : ACalls Try.prog 53 args H Kk :=
  ACalls_of Try.func53 (c := b53) rfl (by kernel_rfl) t53 (rs := [.cell (.g 4) (some 2)]) (by kernel_rfl) (by rw [hn]; exact Nat.le_of_ble_eq_true rfl) (by rw [hn]; rfl) (h.weaken (fun _ _ => RetP.hands) (by simp))

/-- (*sastrugi/sastrugikit.Seed).Part -/
def c54 : ACode :=
  (.seq
(.reg [
  ⟨(some (true, 3)), .box (.g 1), none⟩,
  ⟨(some (true, 4)), .new [.int .i64 0, .int .i64 0], none⟩])
(.seq
(.draw [
  ⟨⟨(some (false, 7)), .mv (.g 0), none⟩, 0, true, []⟩,
  ⟨⟨(some (false, 8)), .ld (some 2) (.g 3), none⟩, 1, true, []⟩,
  ⟨⟨(some (false, 10)), .mv (.g 0), none⟩, 3, true, []⟩,
  ⟨⟨(some (false, 11)), .ld (some 2) (.g 3), none⟩, 4, true, []⟩,
  ⟨⟨(some (false, 9)), .call (.c (.fn 91 [])) [.l 7, .l 8], none⟩, 2, false, []⟩,
  ⟨⟨(some (false, 12)), .call (.c (.fn 91 [])) [.l 10, .l 11], none⟩, 5, false, []⟩,
  ⟨⟨(some (true, 5)), .mv (.l 9), none⟩, 6, true, []⟩,
  ⟨⟨(some (true, 6)), .mv (.l 12), none⟩, 7, true, []⟩])
(.seq
(.reg [
  ⟨(some (false, 13)), .mv (.g 5), none⟩,
  ⟨(some (false, 14)), .mv (.g 6), none⟩,
  ⟨(some (false, 15)), .mn [.l 13, .l 14], none⟩,
  ⟨(some (false, 16)), .mv (.g 5), none⟩,
  ⟨(some (false, 17)), .mv (.g 6), none⟩,
  ⟨(some (false, 18)), .mx [.l 16, .l 17], none⟩,
  ⟨(some (false, 19)), .mk [.int .i64 0, .int .i64 0] [(0, 1, .l 15), (1, 1, .l 18)], none⟩,
  ⟨none, .st 2 (.g 4) (.l 19), none⟩])
.ret)))
def K54 : List Nat := [0, 1, 4, 3, 5, 6]
noncomputable def b54 : Code := match Try.f54.body with | some c => c | none => .skip
theorem t54 : trCode ⟨Try.prog, K54, [], 20, none⟩ b54 = some c54 := by kernel_rfl
theorem go54 {args : List AV} {H : AHeap} {Kk : AV → AHeap → Prop} (hn : args.length = 2) (h : AGo ⟨Try.prog, K54, [], 20, none⟩ H.length [.code c54] (RetP [.cell (.g 4) (some 2)] H.length Kk) ⟨[], argsG 0 args⟩ H) : ACalls Try.prog 54 args H Kk :=
  ACalls_of Try.func54 (c := b54) rfl (by kernel_rfl) t54 (rs := [.cell (.g 4) (some 2)]) (by kernel_rfl) (by rw [hn]; exact Nat.le_of_ble_eq_true rfl) (by rw [hn]; rfl) (h.weaken (fun _ _ => RetP.hands) (by simp))

/-- (*sastrugi/sastrugikit.Seed).Yes -/
def c56 : ACode :=
  (.seq
(.reg [
  ⟨(some (true, 4)), .mv (.c (.lit (.bool false))), none⟩])
(.seq
(.reg [
  ⟨(some (false, 5)), .mv (.g 0), none⟩,
  ⟨(some (false, 6)), .mv (.g 1), none⟩,
  ⟨(some (false, 7)), .call (.c (.fn 47 [])) [.l 5, .l 6], none⟩,
  ⟨(some (false, 8)), .bin .eql (.l 7) (.c (.lit (.int .i64 0))), none⟩,
  ⟨(some (true, 4)), .mv (.l 8), none⟩])
.ret))
def K56 : List Nat := [0, 1, 4]
noncomputable def b56 : Code := match Try.f56.body with | some c => c | none => .skip
theorem t56 : trCode ⟨Try.prog, K56, [], 9, none⟩ b56 = some c56 := by kernel_rfl
theorem go56 {args : List AV} {H : AHeap} {Kk : AV → AHeap → Prop} (hn : args.length = 2) (h : AGo ⟨Try.prog, K56, [], 9, none⟩ H.length [.code c56] (RetP [.t (.g 4)] H.length Kk) ⟨[], argsG 0 args⟩ H) : ACalls Try.prog 56 args H Kk :=
  ACalls_of Try.func56 (c := b56) rfl (by kernel_rfl) t56 (rs := [.t (.g 4)]) (by kernel_rfl) (by rw [hn]; exact Nat.le_of_ble_eq_true rfl) (by rw [hn]; rfl) (h.weaken (fun _ _ => RetP.hands) (by simp))

/-- (*sastrugi/sastrugikit.Seed).next -/
def c69 : ACode :=
  (.seq
(.reg [
  ⟨(some (true, 2)), .mv (.c (.lit (.int .u64 0))), none⟩])
(.seq
(.reg [
  ⟨(some (false, 4)), .mv (.g 0), none⟩,
  ⟨(some (false, 5)), .mv (.g 0), none⟩,
  ⟨(some (false, 6)), .nilc (.l 5), none⟩,
  ⟨(some (false, 7)), .fa (.l 6) 0, none⟩,
  ⟨(some (false, 8)), .ld none (.l 7), none⟩,
  ⟨(some (false, 9)), .bin .add (.l 8) (.c (.lit (.int .u64 11400714819323198485))), none⟩,
  ⟨(some (false, 10)), .nilc (.l 4), none⟩,
  ⟨(some (false, 11)), .fa (.l 10) 0, none⟩,
  ⟨none, .st 1 (.l 11) (.l 9), none⟩])
(.seq
(.reg [
  ⟨(some (false, 12)), .mv (.g 0), none⟩,
  ⟨(some (false, 13)), .nilc (.l 12), none⟩,
  ⟨(some (false, 14)), .fa (.l 13) 0, none⟩,
  ⟨(some (false, 15)), .ld none (.l 14), none⟩,
  ⟨(some (true, 3)), .mv (.l 15), none⟩])
(.seq
(.reg [
  ⟨(some (false, 16)), .mv (.g 3), none⟩,
  ⟨(some (false, 17)), .mv (.g 3), none⟩,
  ⟨(some (false, 18)), .bin .shr (.l 17) (.c (.lit (.int .u64 30))), none⟩,
  ⟨(some (false, 19)), .bin .xor (.l 16) (.l 18), none⟩,
  ⟨(some (false, 20)), .bin .mul (.l 19) (.c (.lit (.int .u64 13787848793156543929))), none⟩,
  ⟨(some (true, 3)), .mv (.l 20), none⟩])
(.seq
(.reg [
  ⟨(some (false, 21)), .mv (.g 3), none⟩,
  ⟨(some (false, 22)), .mv (.g 3), none⟩,
  ⟨(some (false, 23)), .bin .shr (.l 22) (.c (.lit (.int .u64 27))), none⟩,
  ⟨(some (false, 24)), .bin .xor (.l 21) (.l 23), none⟩,
  ⟨(some (false, 25)), .bin .mul (.l 24) (.c (.lit (.int .u64 10723151780598845931))), none⟩,
  ⟨(some (true, 3)), .mv (.l 25), none⟩])
(.seq
(.reg [
  ⟨(some (false, 26)), .mv (.g 3), none⟩,
  ⟨(some (false, 27)), .mv (.g 3), none⟩,
  ⟨(some (false, 28)), .bin .shr (.l 27) (.c (.lit (.int .u64 31))), none⟩,
  ⟨(some (false, 29)), .bin .xor (.l 26) (.l 28), none⟩,
  ⟨(some (true, 2)), .mv (.l 29), none⟩])
.ret))))))
def K69 : List Nat := [0, 2, 3]
noncomputable def b69 : Code := match Try.f69.body with | some c => c | none => .skip
theorem t69 : trCode ⟨Try.prog, K69, [], 30, none⟩ b69 = some c69 := by kernel_rfl
theorem go69 {args : List AV} {H : AHeap} {Kk : AV → AHeap → Prop} (hn : args.length = 1) (h : AGo ⟨Try.prog, K69, [], 30, none⟩ H.length [.code c69] (RetP [.t (.g 2)] H.length Kk) ⟨[], argsG 0 args⟩ H) : ACalls Try.prog 69 args H Kk :=
  ACalls_of Try.func69 (c := b69) rfl (by kernel_rfl) t69 (rs := [.t (.g 2)]) (by kernel_rfl) (by rw [hn]; exact Nat.le_of_ble_eq_true rfl) (by rw [hn]; rfl) (h.weaken (fun _ _ => RetP.hands) (by simp))

/-- (*sastrugi/sastrugikit.Seed).Span -/
def c70 : ACode :=
  (.seq
(.reg [
  ⟨(some (true, 6)), .new [.int .i64 0, .int .i64 0], none⟩])
(.seq
(.reg [
  ⟨(some (false, 8)), .mv (.g 0), none⟩,
  ⟨(some (false, 9)), .mv (.g 1), none⟩,
  ⟨(some (false, 10)), .mv (.g 2), none⟩,
  ⟨(some (false, 11)), .call (.c (.fn 45 [])) [.l 8, .l 9, .l 10], none⟩,
  ⟨(some (false, 12)), .mk [.int .i64 0, .int .i64 0] [(0, 1, .l 11)], none⟩,
  ⟨(some (true, 7)), .new [.int .i64 0, .int .i64 0], none⟩,
  ⟨none, .st 2 (.g 7) (.l 12), none⟩])
(.seq
(.reg [
  ⟨(some (false, 13)), .fa (.g 7) 0, none⟩,
  ⟨(some (false, 14)), .ld none (.l 13), none⟩,
  ⟨(some (false, 15)), .fa (.g 7) 1, none⟩,
  ⟨none, .st 1 (.l 15) (.l 14), none⟩])
(.seq
(.seq
(.reg [
  ⟨(some (false, 16)), .mv (.g 0), none⟩,
  ⟨(some (true, 17)), .call (.c (.fn 47 [])) [.l 16, .c (.lit (.int .i64 3))], none⟩])
(.block 0
(.seq
(.reg [
  ⟨(some (false, 19)), .bin .eql (.g 17) (.c (.lit (.int .i64 0))), none⟩,
  ⟨(some (true, 18)), .mv (.l 19), none⟩])
(.cond (.g 18)
(.reg [
  ⟨(some (false, 20)), .mv (.g 0), none⟩,
  ⟨(some (false, 21)), .fa (.g 7) 0, none⟩,
  ⟨(some (false, 22)), .ld none (.l 21), none⟩,
  ⟨(some (false, 23)), .mv (.g 2), none⟩,
  ⟨(some (false, 24)), .fa (.g 7) 0, none⟩,
  ⟨(some (false, 25)), .ld none (.l 24), none⟩,
  ⟨(some (false, 26)), .bin .add (.l 25) (.c (.lit (.int .i64 1))), none⟩,
  ⟨(some (false, 27)), .mv (.g 2), none⟩,
  ⟨(some (false, 28)), .mv (.g 1), none⟩,
  ⟨(some (false, 29)), .bin .sub (.l 27) (.l 28), none⟩,
  ⟨(some (false, 30)), .bin .quo (.l 29) (.c (.lit (.int .i64 10))), none⟩,
  ⟨(some (false, 31)), .bin .add (.l 26) (.l 30), none⟩,
  ⟨(some (false, 32)), .mn [.l 23, .l 31], none⟩,
  ⟨(some (false, 33)), .call (.c (.fn 45 [])) [.l 20, .l 22, .l 32], none⟩,
  ⟨(some (false, 34)), .fa (.g 7) 1, none⟩,
  ⟨none, .st 1 (.l 34) (.l 33), none⟩])
(.seq
(.reg [
  ⟨(some (false, 36)), .bin .eql (.g 17) (.c (.lit (.int .i64 1))), none⟩,
  ⟨(some (true, 35)), .mv (.l 36), none⟩])
(.cond (.g 35)
(.reg [
  ⟨(some (false, 37)), .mv (.g 0), none⟩,
  ⟨(some (false, 38)), .fa (.g 7) 0, none⟩,
  ⟨(some (false, 39)), .ld none (.l 38), none⟩,
  ⟨(some (false, 40)), .mv (.g 2), none⟩,
  ⟨(some (false, 41)), .call (.c (.fn 45 [])) [.l 37, .l 39, .l 40], none⟩,
  ⟨(some (false, 42)), .fa (.g 7) 1, none⟩,
  ⟨none, .st 1 (.l 42) (.l 41), none⟩])
.skip))))))
(.seq
(.reg [
  ⟨(some (false, 43)), .ld (some 2) (.g 7), none⟩,
  ⟨none, .st 2 (.g 6) (.l 43), none⟩])
.ret)))))
def K70 : List Nat := [0, 1, 2, 18, 35, 6, 7, 17]
noncomputable def b70 : Code := match Try.f70.body with | some c => c | none => .skip
theorem t70 : trCode ⟨Try.prog, K70, [], 44, none⟩ b70 = some c70 := by kernel_rfl
theorem go70 {args : List AV} {H : AHeap} {Kk : AV → AHeap → Prop} (hn : args.length = 3) (h : AGo ⟨Try.prog, K70, [], 44, none⟩ H.length [.code c70] (RetP [.cell (.g 6) (some 2)] H.length Kk) ⟨[], argsG 0 args⟩ H) : ACalls Try.prog 70 args H Kk :=
  ACalls_of Try.func70 (c := b70) rfl (by kernel_rfl) t70 (rs := [.cell (.g 6) (some 2)]) (by kernel_rfl) (by rw [hn]; exact Nat.le_of_ble_eq_true rfl) (by rw [hn]; rfl) (h.weaken (fun _ _ => RetP.hands) (by simp))

end Go.Sas
