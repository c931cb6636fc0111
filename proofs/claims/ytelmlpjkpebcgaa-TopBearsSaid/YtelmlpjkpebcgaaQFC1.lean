/-
The code of some functions with its types resolved, printed by a program; that it is the code is checked by the kernel.
Conditions: none.
-/
import Derived.Test.YtelmlpjkpebcgaaH4
import Derived.Test.YtelmlpjkpebcgaaProg
set_option linter.unusedVariables false
set_option linter.unusedSimpArgs false
namespace Go.Sas
open Go.Proofs
set_option maxRecDepth 100000
/-- sastrugi/sastrugikit.FrostOf -/
def c65 : ACode :=
  (.seq
(.reg [
  ⟨(some (true, 2)), .new [.int .i64 0, .int .i64 0, .slice none 0 0, .int .i64 0, .int .i64 0, .int .i64 0, .int .i64 0, .int .i64 0], none⟩])
(.seq
(.reg [
  ⟨(some (false, 7)), .mv (.g 0), none⟩,
  ⟨(some (false, 8)), .mv (.g 0), none⟩,
  ⟨(some (false, 9)), .call (.c (.fn 45 [])) [.l 8, .c (.lit (.int .i64 50)), .c (.lit (.int .i64 200))], none⟩,
  ⟨(some (false, 10)), .mv (.g 0), none⟩,
  ⟨(some (false, 11)), .call (.c (.fn 45 [])) [.l 10, .c (.lit (.int .i64 0)), .c (.lit (.int .i64 10000))], none⟩,
  ⟨(some (false, 12)), .mks false 1 [.c (.lit (.int .i64 0)), .l 9, .l 11], none⟩,
  ⟨(some (false, 13)), .call (.c (.fn 41 [])) [.l 7, .l 12], none⟩,
  ⟨(some (false, 14)), .mv (.g 0), none⟩,
  ⟨(some (false, 15)), .mv (.g 0), none⟩,
  ⟨(some (false, 16)), .call (.c (.fn 45 [])) [.l 15, .c (.lit (.int .i64 2)), .c (.lit (.int .i64 30))], none⟩,
  ⟨(some (false, 17)), .mks false 1 [.c (.lit (.int .i64 1)), .l 16], none⟩,
  ⟨(some (false, 18)), .call (.c (.fn 41 [])) [.l 14, .l 17], none⟩,
  ⟨(some (false, 19)), .mv (.g 0), none⟩,
  ⟨(some (false, 20)), .mv (.g 0), none⟩,
  ⟨(some (false, 21)), .mks false 1 [.c (.lit (.int .i64 300000)), .c (.lit (.int .i64 3000000))], none⟩,
  ⟨(some (false, 22)), .call (.c (.fn 41 [])) [.l 20, .l 21], none⟩,
  ⟨(some (false, 23)), .call (.c (.fn 38 [])) [.l 19, .c (.lit (.int .i64 0)), .l 22], none⟩,
  ⟨(some (false, 24)), .mv (.g 0), none⟩,
  ⟨(some (false, 25)), .call (.c (.fn 45 [])) [.l 24, .c (.lit (.int .i64 0)), .c (.lit (.int .i64 1000000))], none⟩,
  ⟨(some (false, 26)), .mv (.g 0), none⟩,
  ⟨(some (false, 27)), .call (.c (.fn 38 [])) [.l 26, .c (.lit (.int .i64 0)), .c (.lit (.int .i64 1000000))], none⟩,
  ⟨(some (false, 28)), .mk [.int .i64 0, .int .i64 0, .slice none 0 0, .int .i64 0, .int .i64 0, .int .i64 0, .int .i64 0, .int .i64 0] [(0, 1, .l 13), (1, 1, .l 18), (3, 2, .l 23), (5, 1, .l 25), (6, 2, .l 27)], none⟩,
  ⟨(some (true, 3)), .new [.int .i64 0, .int .i64 0, .slice none 0 0, .int .i64 0, .int .i64 0, .int .i64 0, .int .i64 0, .int .i64 0], none⟩,
  ⟨none, .st 8 (.g 3) (.l 28), none⟩])
(.seq
(.reg [
  ⟨(some (false, 29)), .mv (.g 0), none⟩,
  ⟨(some (false, 30)), .call (.c (.fn 45 [])) [.l 29, .c (.lit (.int .i64 500000)), .c (.lit (.int .i64 1000000))], none⟩,
  ⟨(some (false, 31)), .mk [.int .i64 0, .int .i64 0] [(0, 1, .l 30), (1, 1, .c (.lit (.int .i64 1000000)))], none⟩,
  ⟨(some (true, 4)), .new [.int .i64 0, .int .i64 0], none⟩,
  ⟨none, .st 2 (.g 4) (.l 31), none⟩])
(.seq
(.reg [
  ⟨(some (true, 5)), .mv (.c (.lit (.int .i64 0))), none⟩])
(.seq
(.seq
(.reg [
  ⟨(some (false, 32)), .mv (.g 0), none⟩,
  ⟨(some (false, 33)), .call (.c (.fn 45 [])) [.l 32, .c (.lit (.int .i64 1)), .c (.lit (.int .i64 4))], none⟩,
  ⟨(some (true, 6)), .mv (.l 33), none⟩])
(.block 0
(.loop
(.seq
(.seq
(.reg [
  ⟨(some (false, 34)), .mv (.g 6), none⟩,
  ⟨(some (true, 35)), .bin .gtr (.l 34) (.c (.lit (.int .i64 0))), none⟩])
(.cond (.g 35)
.skip
(.exit 0)))
(.seq
(.block 1
(.seq
(.reg [
  ⟨(some (false, 38)), .fa (.g 3) 2, none⟩,
  ⟨(some (false, 39)), .ld none (.l 38), none⟩,
  ⟨(some (false, 40)), .mv (.g 5), none⟩,
  ⟨(some (false, 41)), .ld (some 2) (.g 4), none⟩,
  ⟨(some (false, 42)), .mk [.int .i64 0, .int .i64 0, .int .i64 0] [(0, 1, .l 40), (1, 2, .l 41)], none⟩,
  ⟨(some (false, 43)), .mks false 3 [.l 42], none⟩,
  ⟨(some (false, 44)), .app 3 24 (.l 39) (.l 43), none⟩,
  ⟨(some (false, 45)), .fa (.g 3) 2, none⟩,
  ⟨none, .st 1 (.l 45) (.l 44), none⟩])
(.seq
(.reg [
  ⟨(some (false, 46)), .mv (.g 5), none⟩,
  ⟨(some (false, 47)), .mv (.g 0), none⟩,
  ⟨(some (false, 48)), .call (.c (.fn 45 [])) [.l 47, .c (.lit (.int .i64 1)), .c (.lit (.int .i64 120))], none⟩,
  ⟨(some (false, 49)), .bin .add (.l 46) (.l 48), none⟩,
  ⟨(some (true, 5)), .mv (.l 49), none⟩])
(.seq
(.draw [
  ⟨⟨(some (false, 50)), .mv (.g 0), none⟩, 0, true, []⟩,
  ⟨⟨(some (false, 51)), .fa (.g 4) 0, none⟩, 1, true, []⟩,
  ⟨⟨(some (false, 52)), .ld none (.l 51), none⟩, 2, true, []⟩,
  ⟨⟨(some (false, 54)), .fa (.g 4) 1, none⟩, 4, true, []⟩,
  ⟨⟨(some (false, 55)), .ld none (.l 54), none⟩, 5, true, []⟩,
  ⟨⟨(some (false, 53)), .call (.c (.fn 45 [])) [.l 50, .c (.lit (.int .i64 0)), .l 52], none⟩, 3, false, []⟩,
  ⟨⟨(some (false, 56)), .mk [.int .i64 0, .int .i64 0] [(0, 1, .l 53), (1, 1, .l 55)], none⟩, 6, true, []⟩,
  ⟨⟨none, .st 2 (.g 4) (.l 56), none⟩, 7, true, []⟩])
(.reg [
  ⟨(some (false, 57)), .mv (.g 0), none⟩,
  ⟨(some (false, 58)), .fa (.g 4) 0, none⟩,
  ⟨(some (false, 59)), .ld none (.l 58), none⟩,
  ⟨(some (false, 60)), .fa (.g 4) 1, none⟩,
  ⟨(some (false, 61)), .ld none (.l 60), none⟩,
  ⟨(some (false, 62)), .call (.c (.fn 45 [])) [.l 57, .l 59, .l 61], none⟩,
  ⟨(some (false, 63)), .fa (.g 4) 1, none⟩,
  ⟨none, .st 1 (.l 63) (.l 62), none⟩])))))
(.reg [
  ⟨(some (false, 36)), .mv (.g 6), none⟩,
  ⟨(some (false, 37)), .bin .sub (.l 36) (.c (.lit (.int .i64 1))), none⟩,
  ⟨(some (true, 6)), .mv (.l 37), none⟩]))))))
(.seq
(.reg [
  ⟨(some (false, 64)), .ld (some 8) (.g 3), none⟩,
  ⟨none, .st 8 (.g 2) (.l 64), none⟩])
.ret))))))
def K65 : List Nat := [0, 35, 2, 3, 4, 5, 6]
noncomputable def b65 : Code := match Try.f65.body with | some c => c | none => .skip
theorem t65 : trCode ⟨Try.prog, K65, [], 65, none⟩ b65 = some c65 := by kernel_rfl
theorem go65 {args : List AV} {H : AHeap} {Kk : AV → AHeap → Prop} (hn : args.length = 1) (h : AGo ⟨Try.prog, K65, [], 65, none⟩ H.length [.code c65] (RetP [.cell (.g 2) (some 8)] H.length Kk) ⟨[], argsG 0 args⟩ H) : ACalls Try.prog 65 args H Kk :=
  ACalls_of Try.func65 (c := b65) rfl (by kernel_rfl) t65 (rs := [.cell (.g 2) (some 8)]) (by kernel_rfl) (by rw [hn]; exact Nat.le_of_ble_eq_true rfl) (by rw [hn]; rfl) (h.weaken (fun _ _ => RetP.hands) (by simp))

/-- sastrugi/sastrugikit.IceOf -/
def c66 : ACode :=
  (.seq
(.reg [
  ⟨(some (true, 2)), .new [.int .i64 0, .int .i64 0, .int .i64 0, .int .i64 0, .int .i64 0, .int .i64 0, .int .i64 0, .int .i64 0], none⟩])
(.seq
(.reg [
  ⟨(some (false, 3)), .mv (.g 0), none⟩,
  ⟨(some (false, 4)), .mv (.g 0), none⟩,
  ⟨(some (false, 5)), .mks false 1 [.c (.lit (.int .i64 60)), .c (.lit (.int .i64 1200))], none⟩,
  ⟨(some (false, 6)), .call (.c (.fn 41 [])) [.l 4, .l 5], none⟩,
  ⟨(some (false, 7)), .call (.c (.fn 38 [])) [.l 3, .c (.lit (.int .i64 0)), .l 6], none⟩,
  ⟨(some (false, 8)), .mv (.g 0), none⟩,
  ⟨(some (false, 9)), .mv (.g 0), none⟩,
  ⟨(some (false, 10)), .mks false 1 [.c (.lit (.int .i64 20)), .c (.lit (.int .i64 200))], none⟩,
  ⟨(some (false, 11)), .call (.c (.fn 41 [])) [.l 9, .l 10], none⟩,
  ⟨(some (false, 12)), .call (.c (.fn 38 [])) [.l 8, .c (.lit (.int .i64 0)), .l 11], none⟩,
  ⟨(some (false, 13)), .mv (.g 0), none⟩,
  ⟨(some (false, 14)), .mv (.g 0), none⟩,
  ⟨(some (false, 15)), .mks false 1 [.c (.lit (.int .i64 0)), .c (.lit (.int .i64 5)), .c (.lit (.int .i64 60))], none⟩,
  ⟨(some (false, 16)), .call (.c (.fn 41 [])) [.l 14, .l 15], none⟩,
  ⟨(some (false, 17)), .call (.c (.fn 38 [])) [.l 13, .c (.lit (.int .i64 0)), .l 16], none⟩,
  ⟨(some (false, 18)), .mv (.g 0), none⟩,
  ⟨(some (false, 19)), .mv (.g 0), none⟩,
  ⟨(some (false, 20)), .mks false 1 [.c (.lit (.int .i64 0)), .c (.lit (.int .i64 40)), .c (.lit (.int .i64 400))], none⟩,
  ⟨(some (false, 21)), .call (.c (.fn 41 [])) [.l 19, .l 20], none⟩,
  ⟨(some (false, 22)), .call (.c (.fn 38 [])) [.l 18, .c (.lit (.int .i64 0)), .l 21], none⟩,
  ⟨(some (false, 23)), .mk [.int .i64 0, .int .i64 0, .int .i64 0, .int .i64 0, .int .i64 0, .int .i64 0, .int .i64 0, .int .i64 0] [(0, 2, .l 7), (2, 2, .l 12), (4, 2, .l 17), (6, 2, .l 22)], none⟩,
  ⟨none, .st 8 (.g 2) (.l 23), none⟩])
.ret))
def K66 : List Nat := [0, 2]
noncomputable def b66 : Code := match Try.f66.body with | some c => c | none => .skip
theorem t66 : trCode ⟨Try.prog, K66, [], 24, none⟩ b66 = some c66 := by kernel_rfl
theorem go66 {args : List AV} {H : AHeap} {Kk : AV → AHeap → Prop} (hn : args.length = 1) (h : AGo ⟨Try.prog, K66, [], 24, none⟩ H.length [.code c66] (RetP [.cell (.g 2) (some 8)] H.length Kk) ⟨[], argsG 0 args⟩ H) : ACalls Try.prog 66 args H Kk :=
  ACalls_of Try.func66 (c := b66) rfl (by kernel_rfl) t66 (rs := [.cell (.g 2) (some 8)]) (by kernel_rfl) (by rw [hn]; exact Nat.le_of_ble_eq_true rfl) (by rw [hn]; rfl) (h.weaken (fun _ _ => RetP.hands) (by simp))

/-- sastrugi/sastrugikit.DaysOf -/
def c67 : ACode :=
  (.seq
(.reg [
  ⟨(some (true, 6)), .mv (.c (.lit (.slice none 0 0))), none⟩])
(.seq
(.reg [
  ⟨(some (true, 7)), .mv (.c (.lit (.slice none 0 0))), none⟩])
(.seq
(.seq
(.reg [
  ⟨(some (false, 10)), .mv (.g 0), none⟩,
  ⟨(some (false, 11)), .mv (.g 1), none⟩,
  ⟨(some (false, 12)), .bin .add (.l 11) (.c (.lit (.int .i64 1))), none⟩,
  ⟨(some (false, 13)), .call (.c (.fn 37 [])) [.l 10, .l 12], none⟩,
  ⟨(some (true, 8)), .mv (.l 13), none⟩])
(.block 0
(.loop
(.seq
(.seq
(.reg [
  ⟨(some (false, 14)), .mv (.g 8), none⟩,
  ⟨(some (true, 15)), .bin .gtr (.l 14) (.c (.lit (.int .i64 0))), none⟩])
(.cond (.g 15)
.skip
(.exit 0)))
(.seq
(.block 1
(.seq
(.reg [
  ⟨(some (false, 18)), .mv (.g 0), none⟩,
  ⟨(some (false, 19)), .mv (.g 0), none⟩,
  ⟨(some (false, 20)), .mks false 1 [.c (.lit (.int .i64 (-60))), .c (.lit (.int .i64 0)), .c (.lit (.int .i64 100))], none⟩,
  ⟨(some (false, 21)), .call (.c (.fn 41 [])) [.l 19, .l 20], none⟩,
  ⟨(some (false, 22)), .mv (.g 0), none⟩,
  ⟨(some (false, 23)), .mks false 1 [.c (.lit (.int .i64 100)), .c (.lit (.int .i64 300))], none⟩,
  ⟨(some (false, 24)), .call (.c (.fn 41 [])) [.l 22, .l 23], none⟩,
  ⟨(some (false, 25)), .call (.c (.fn 38 [])) [.l 18, .l 21, .l 24], none⟩,
  ⟨(some (false, 26)), .mv (.g 0), none⟩,
  ⟨(some (false, 27)), .call (.c (.fn 68 [])) [.l 26, .c (.lit (.int .i64 4))], none⟩,
  ⟨(some (false, 28)), .mk [.int .i64 0, .int .i64 0, .int .i64 0, .int .i64 0, .int .i64 0, .bool false] [(0, 2, .l 25), (5, 1, .l 27)], none⟩,
  ⟨(some (true, 9)), .new [.int .i64 0, .int .i64 0, .int .i64 0, .int .i64 0, .int .i64 0, .bool false], none⟩,
  ⟨none, .st 6 (.g 9) (.l 28), none⟩])
(.seq
(.seq
(.reg [
  ⟨(some (false, 29)), .mv (.g 2), none⟩,
  ⟨(some (false, 30)), .mv (.l 29), none⟩,
  ⟨(some (false, 31)), .fa (.g 9) 0, (some (.l 30, true))⟩,
  ⟨(some (false, 32)), .fa (.l 31) 0, (some (.l 30, true))⟩,
  ⟨(some (false, 33)), .ld none (.l 32), (some (.l 30, true))⟩,
  ⟨(some (false, 34)), .bin .lss (.l 33) (.c (.lit (.int .i64 0))), (some (.l 30, true))⟩,
  ⟨(some (true, 35)), .pick (.l 30) (.l 34) (.c (.lit (.bool false))), none⟩])
(.cond (.g 35)
(.reg [
  ⟨(some (false, 36)), .fa (.g 9) 0, none⟩,
  ⟨(some (false, 37)), .fa (.l 36) 1, none⟩,
  ⟨(some (false, 38)), .ld none (.l 37), none⟩,
  ⟨(some (false, 39)), .mx [.c (.lit (.int .i64 0)), .l 38], none⟩,
  ⟨(some (false, 40)), .mk [.int .i64 0, .int .i64 0] [(0, 1, .c (.lit (.int .i64 0))), (1, 1, .l 39)], none⟩,
  ⟨(some (false, 41)), .fa (.g 9) 0, none⟩,
  ⟨none, .st 2 (.l 41) (.l 40), none⟩])
.skip))
(.seq
(.seq
(.reg [
  ⟨(some (false, 42)), .mv (.g 0), none⟩,
  ⟨(some (true, 43)), .call (.c (.fn 68 [])) [.l 42, .c (.lit (.int .i64 3))], none⟩])
(.cond (.g 43)
(.reg [
  ⟨(some (false, 44)), .mv (.g 0), none⟩,
  ⟨(some (false, 45)), .call (.c (.fn 38 [])) [.l 44, .c (.lit (.int .i64 0)), .c (.lit (.int .i64 90))], none⟩,
  ⟨(some (false, 46)), .fa (.g 9) 2, none⟩,
  ⟨none, .st 2 (.l 46) (.l 45), none⟩])
.skip))
(.seq
(.seq
(.reg [
  ⟨(some (false, 47)), .mv (.g 0), none⟩,
  ⟨(some (true, 48)), .call (.c (.fn 68 [])) [.l 47, .c (.lit (.int .i64 4))], none⟩])
(.cond (.g 48)
(.reg [
  ⟨(some (false, 49)), .mv (.g 0), none⟩,
  ⟨(some (false, 50)), .call (.c (.fn 45 [])) [.l 49, .c (.lit (.int .i64 1)), .c (.lit (.int .i64 30))], none⟩,
  ⟨(some (false, 51)), .fa (.g 9) 4, none⟩,
  ⟨none, .st 1 (.l 51) (.l 50), none⟩])
.skip))
(.reg [
  ⟨(some (false, 52)), .mv (.g 7), none⟩,
  ⟨(some (false, 53)), .ld (some 6) (.g 9), none⟩,
  ⟨(some (false, 54)), .mks false 6 [.l 53], none⟩,
  ⟨(some (false, 55)), .app 6 48 (.l 52) (.l 54), none⟩,
  ⟨(some (true, 7)), .mv (.l 55), none⟩]))))))
(.reg [
  ⟨(some (false, 16)), .mv (.g 8), none⟩,
  ⟨(some (false, 17)), .bin .sub (.l 16) (.c (.lit (.int .i64 1))), none⟩,
  ⟨(some (true, 8)), .mv (.l 17), none⟩]))))))
(.seq
(.reg [
  ⟨(some (false, 56)), .mv (.g 7), none⟩,
  ⟨(some (true, 6)), .mv (.l 56), none⟩])
.ret))))
def K67 : List Nat := [0, 1, 2, 15, 35, 43, 48, 6, 7, 8, 9]
noncomputable def b67 : Code := match Try.f67.body with | some c => c | none => .skip
theorem t67 : trCode ⟨Try.prog, K67, [], 57, none⟩ b67 = some c67 := by kernel_rfl
theorem go67 {args : List AV} {H : AHeap} {Kk : AV → AHeap → Prop} (hn : args.length = 3) (h : AGo ⟨Try.prog, K67, [], 57, none⟩ H.length [.code c67] (RetP [.t (.g 6)] H.length Kk) ⟨[], argsG 0 args⟩ H) : ACalls Try.prog 67 args H Kk :=
  ACalls_of Try.func67 (c := b67) rfl (by kernel_rfl) t67 (rs := [.t (.g 6)]) (by kernel_rfl) (by rw [hn]; exact Nat.le_of_ble_eq_true rfl) (by rw [hn]; rfl) (h.weaken (fun _ _ => RetP.hands) (by simp))

/-- sastrugi/frost.Run -/
def c69 : ACode :=
  (.seq
(.reg [
  ⟨(some (true, 3)), .box (.g 0), none⟩,
  ⟨(some (true, 4)), .box (.g 1), none⟩,
  ⟨(some (true, 6)), .mv (.c (.lit (.slice none 0 0))), none⟩,
  ⟨(some (true, 7)), .mv (.c (.lit (.int .i64 0))), none⟩])
(.seq
(.seq
(.reg [
  ⟨(some (false, 12)), .ld (some 8) (.g 3), none⟩,
  ⟨(some (false, 13)), .ld (some 8) (.g 4), none⟩,
  ⟨(some (false, 14)), .mv (.g 2), none⟩,
  ⟨(some (false, 15)), .call (.c (.fn 114 [])) [.l 12, .l 13, .l 14], none⟩,
  ⟨(some (true, 8)), .mv (.l 15), none⟩])
(.seq
(.reg [
  ⟨(some (false, 16)), .mv (.g 8), none⟩,
  ⟨(some (true, 17)), .bin .neq (.l 16) (.c (.lit (.int .i64 0))), none⟩])
(.cond (.g 17)
(.seq
(.reg [
  ⟨(some (false, 18)), .mv (.g 8), none⟩,
  ⟨(some (true, 6)), .mv (.c (.lit (.slice none 0 0))), none⟩,
  ⟨(some (true, 7)), .mv (.l 18), none⟩])
.ret)
.skip)))
(.seq
(.reg [
  ⟨(some (true, 9)), .new [.slice none 0 0], none⟩])
(.seq
(.seq
(.draw [
  ⟨⟨(some (false, 19)), .ld (some 8) (.g 3), none⟩, 0, true, []⟩,
  ⟨⟨(some (false, 20)), .mk [.int .i64 0, .int .i64 0, .slice none 0 0, .int .i64 0, .int .i64 0, .int .i64 0, .int .i64 0, .int .i64 0] [(0, 8, .l 19)], none⟩, 1, true, []⟩,
  ⟨⟨(some (false, 21)), .ld (some 8) (.g 4), none⟩, 2, true, []⟩,
  ⟨⟨(some (false, 23)), .mv (.g 2), none⟩, 4, true, []⟩,
  ⟨⟨(some (false, 22)), .call (.c (.fn 116 [])) [.l 21], none⟩, 3, false, []⟩,
  ⟨⟨(some (true, 24)), .call (.c (.fn 115 [])) [.l 20, .l 22, .l 23], none⟩, 5, true, []⟩])
(.block 0
(.rng (.g 24) [25, 26]
(.reg [
  ⟨(some (true, 11)), .new [.int .i64 0, .int .i64 0, .int .i64 0, .int .i64 0, .int .i64 0, .int .i64 0, .int .i64 0, .int .i64 0], none⟩,
  ⟨none, .st 8 (.g 11) (.g 26), none⟩])
(.block 1
(.draw [
  ⟨⟨(some (false, 27)), .ld none (.g 9), none⟩, 0, true, []⟩,
  ⟨⟨(some (false, 28)), .ld (some 8) (.g 11), none⟩, 1, true, []⟩,
  ⟨⟨(some (false, 29)), .call (.c (.fn 117 [])) [.l 28], none⟩, 2, false, []⟩,
  ⟨⟨(some (false, 30)), .mks false 8 [.l 29], none⟩, 3, true, []⟩,
  ⟨⟨(some (false, 31)), .app 8 64 (.l 27) (.l 30), none⟩, 4, true, []⟩,
  ⟨⟨none, .st 1 (.g 9) (.l 31), none⟩, 5, true, []⟩])))))
(.seq
(.reg [
  ⟨(some (false, 32)), .ld none (.g 9), none⟩,
  ⟨(some (true, 6)), .mv (.l 32), none⟩,
  ⟨(some (true, 7)), .mv (.c (.lit (.int .i64 0))), none⟩])
.ret)))))
def K69 : List Nat := [0, 1, 2, 17, 24, 25, 26, 6, 7, 3, 4, 8, 9, 11]
noncomputable def b69 : Code := match Try.f69.body with | some c => c | none => .skip
theorem t69 : trCode ⟨Try.prog, K69, [], 33, none⟩ b69 = some c69 := by kernel_rfl
theorem go69 {args : List AV} {H : AHeap} {Kk : AV → AHeap → Prop} (hn : args.length = 3) (h : AGo ⟨Try.prog, K69, [], 33, none⟩ H.length [.code c69] (RetP [.t (.g 6), .t (.g 7)] H.length Kk) ⟨[], argsG 0 args⟩ H) : ACalls Try.prog 69 args H Kk :=
  ACalls_of Try.func69 (c := b69) rfl (by kernel_rfl) t69 (rs := [.t (.g 6), .t (.g 7)]) (by kernel_rfl) (by rw [hn]; exact Nat.le_of_ble_eq_true rfl) (by rw [hn]; rfl) (h.weaken (fun _ _ => RetP.hands) (by simp))

/-- sastrugi/sastrugikit.TrueIce -/
def c70 : ACode :=
  (.seq
(.reg [
  ⟨(some (true, 3)), .box (.g 1), none⟩,
  ⟨(some (true, 4)), .new [.int .i64 0, .int .i64 0, .int .i64 0, .int .i64 0], none⟩])
(.seq
(.draw [
  ⟨⟨(some (false, 5)), .mv (.g 0), none⟩, 0, true, []⟩,
  ⟨⟨(some (false, 6)), .fa (.g 3) 0, none⟩, 1, true, []⟩,
  ⟨⟨(some (false, 7)), .ld (some 2) (.l 6), none⟩, 2, true, []⟩,
  ⟨⟨(some (false, 9)), .mv (.g 0), none⟩, 4, true, []⟩,
  ⟨⟨(some (false, 10)), .fa (.g 3) 2, none⟩, 5, true, []⟩,
  ⟨⟨(some (false, 11)), .ld (some 2) (.l 10), none⟩, 6, true, []⟩,
  ⟨⟨(some (false, 13)), .mv (.g 0), none⟩, 8, true, []⟩,
  ⟨⟨(some (false, 14)), .fa (.g 3) 4, none⟩, 9, true, []⟩,
  ⟨⟨(some (false, 15)), .ld (some 2) (.l 14), none⟩, 10, true, []⟩,
  ⟨⟨(some (false, 17)), .mv (.g 0), none⟩, 12, true, []⟩,
  ⟨⟨(some (false, 18)), .fa (.g 3) 6, none⟩, 13, true, []⟩,
  ⟨⟨(some (false, 19)), .ld (some 2) (.l 18), none⟩, 14, true, []⟩,
  ⟨⟨(some (false, 8)), .call (.c (.fn 29 [])) [.l 5, .l 7], none⟩, 3, false, []⟩,
  ⟨⟨(some (false, 12)), .call (.c (.fn 29 [])) [.l 9, .l 11], none⟩, 7, false, []⟩,
  ⟨⟨(some (false, 16)), .call (.c (.fn 29 [])) [.l 13, .l 15], none⟩, 11, false, []⟩,
  ⟨⟨(some (false, 20)), .call (.c (.fn 29 [])) [.l 17, .l 19], none⟩, 15, false, []⟩,
  ⟨⟨(some (false, 21)), .mk [.int .i64 0, .int .i64 0, .int .i64 0, .int .i64 0] [(0, 1, .l 8), (1, 1, .l 12), (2, 1, .l 16), (3, 1, .l 20)], none⟩, 16, true, []⟩,
  ⟨⟨none, .st 4 (.g 4) (.l 21), none⟩, 17, true, []⟩])
.ret))
def K70 : List Nat := [0, 1, 4, 3]
noncomputable def b70 : Code := match Try.f70.body with | some c => c | none => .skip
theorem t70 : trCode ⟨Try.prog, K70, [], 22, none⟩ b70 = some c70 := by kernel_rfl
theorem go70 {args : List AV} {H : AHeap} {Kk : AV → AHeap → Prop} (hn : args.length = 2) (h : AGo ⟨Try.prog, K70, [], 22, none⟩ H.length [.code c70] (RetP [.cell (.g 4) (some 4)] H.length Kk) ⟨[], argsG 0 args⟩ H) : ACalls Try.prog 70 args H Kk :=
  ACalls_of Try.func70 (c := b70) rfl (by kernel_rfl) t70 (rs := [.cell (.g 4) (some 4)]) (by kernel_rfl) (by rw [hn]; exact Nat.le_of_ble_eq_true rfl) (by rw [hn]; rfl) (h.weaken (fun _ _ => RetP.hands) (by simp))

/-- sastrugi/sastrugikit.After -/
def c71 : ACode :=
  (.seq
(.reg [
  ⟨(some (true, 5)), .box (.g 1), none⟩,
  ⟨(some (true, 6)), .box (.g 2), none⟩,
  ⟨(some (true, 7)), .box (.g 3), none⟩,
  ⟨(some (true, 8)), .new [.int .i64 0, .int .i64 0, .int .i64 0, .int .i64 0], none⟩])
(.seq
(.reg [
  ⟨(some (false, 10)), .mv (.g 0), none⟩,
  ⟨(some (false, 11)), .fa (.g 7) 0, none⟩,
  ⟨(some (false, 12)), .ld (some 2) (.l 11), none⟩,
  ⟨(some (false, 13)), .call (.c (.fn 29 [])) [.l 10, .l 12], none⟩,
  ⟨(some (true, 9)), .mv (.l 13), none⟩])
(.seq
(.draw [
  ⟨⟨(some (false, 14)), .ld (some 8) (.g 5), none⟩, 0, true, []⟩,
  ⟨⟨(some (false, 15)), .ld (some 4) (.g 6), none⟩, 1, true, []⟩,
  ⟨⟨(some (false, 16)), .ld (some 6) (.g 7), none⟩, 2, true, []⟩,
  ⟨⟨(some (false, 17)), .mv (.g 0), none⟩, 3, true, []⟩,
  ⟨⟨(some (false, 18)), .fa (.g 7) 2, none⟩, 4, true, []⟩,
  ⟨⟨(some (false, 19)), .ld (some 2) (.l 18), none⟩, 5, true, []⟩,
  ⟨⟨(some (false, 20)), .call (.c (.fn 29 [])) [.l 17, .l 19], none⟩, 6, false, []⟩,
  ⟨⟨(some (false, 21)), .call (.c (.fn 118 [])) [.l 14, .l 15, .l 16, .l 20], none⟩, 7, false, []⟩,
  ⟨⟨none, .st 4 (.g 6) (.l 21), none⟩, 8, true, []⟩])
(.seq
(.seq
(.reg [
  ⟨(some (false, 22)), .mv (.g 9), none⟩,
  ⟨(some (true, 23)), .bin .lss (.l 22) (.c (.lit (.int .i64 0))), none⟩])
(.cond (.g 23)
(.seq
(.draw [
  ⟨⟨(some (false, 24)), .ld (some 4) (.g 6), none⟩, 0, true, []⟩,
  ⟨⟨(some (false, 25)), .mv (.g 0), none⟩, 1, true, []⟩,
  ⟨⟨(some (false, 26)), .ld (some 8) (.g 5), none⟩, 2, true, []⟩,
  ⟨⟨(some (false, 27)), .mv (.g 9), none⟩, 3, true, []⟩,
  ⟨⟨(some (false, 28)), .un .neg (.l 27), none⟩, 4, true, []⟩,
  ⟨⟨(some (false, 29)), .call (.c (.fn 120 [])) [.l 26, .l 28], none⟩, 5, false, []⟩,
  ⟨⟨(some (false, 30)), .call (.c (.fn 29 [])) [.l 25, .l 29], none⟩, 6, false, []⟩,
  ⟨⟨(some (false, 31)), .call (.c (.fn 119 [])) [.l 24, .l 30], none⟩, 7, false, []⟩,
  ⟨⟨none, .st 4 (.g 8) (.l 31), none⟩, 8, true, []⟩])
.ret)
.skip))
(.seq
(.draw [
  ⟨⟨(some (false, 32)), .ld (some 8) (.g 5), none⟩, 0, true, []⟩,
  ⟨⟨(some (false, 33)), .ld (some 4) (.g 6), none⟩, 1, true, []⟩,
  ⟨⟨(some (false, 34)), .mv (.g 0), none⟩, 2, true, []⟩,
  ⟨⟨(some (false, 35)), .ld (some 8) (.g 5), none⟩, 3, true, []⟩,
  ⟨⟨(some (false, 36)), .fa (.g 6) 3, none⟩, 4, true, []⟩,
  ⟨⟨(some (false, 37)), .ld none (.l 36), none⟩, 5, true, []⟩,
  ⟨⟨(some (false, 38)), .mv (.g 9), none⟩, 6, true, []⟩,
  ⟨⟨(some (false, 41)), .mv (.g 0), none⟩, 9, true, []⟩,
  ⟨⟨(some (false, 39)), .call (.c (.fn 122 [])) [.l 35, .l 37, .l 38], none⟩, 7, false, []⟩,
  ⟨⟨(some (false, 40)), .call (.c (.fn 29 [])) [.l 34, .l 39], none⟩, 8, false, []⟩,
  ⟨⟨(some (false, 42)), .call (.c (.fn 68 [])) [.l 41, .c (.lit (.int .i64 2))], none⟩, 10, false, []⟩,
  ⟨⟨(some (false, 43)), .call (.c (.fn 121 [])) [.l 32, .l 33, .l 40, .l 42], none⟩, 11, false, []⟩,
  ⟨⟨none, .st 4 (.g 8) (.l 43), none⟩, 12, true, []⟩])
.ret)))))
def K71 : List Nat := [0, 1, 2, 3, 23, 8, 5, 6, 7, 9]
noncomputable def b71 : Code := match Try.f71.body with | some c => c | none => .skip
theorem t71 : trCode ⟨Try.prog, K71, [], 44, none⟩ b71 = some c71 := by kernel_rfl
theorem go71 {args : List AV} {H : AHeap} {Kk : AV → AHeap → Prop} (hn : args.length = 4) (h : AGo ⟨Try.prog, K71, [], 44, none⟩ H.length [.code c71] (RetP [.cell (.g 8) (some 4)] H.length Kk) ⟨[], argsG 0 args⟩ H) : ACalls Try.prog 71 args H Kk :=
  ACalls_of Try.func71 (c := b71) rfl (by kernel_rfl) t71 (rs := [.cell (.g 8) (some 4)]) (by kernel_rfl) (by rw [hn]; exact Nat.le_of_ble_eq_true rfl) (by rw [hn]; rfl) (h.weaken (fun _ _ => RetP.hands) (by simp))

/-- sastrugi/sastrugiref01.CheckIce -/
def c72 : ACode :=
  (.seq
(.reg [
  ⟨(some (true, 1)), .box (.g 0), none⟩,
  ⟨(some (true, 2)), .mv (.c (.lit (.int .i64 0))), none⟩])
(.seq
(.reg [
  ⟨(some (false, 6)), .fa (.g 1) 0, none⟩,
  ⟨(some (false, 7)), .ld (some 2) (.l 6), none⟩,
  ⟨(some (false, 8)), .fa (.g 1) 2, none⟩,
  ⟨(some (false, 9)), .ld (some 2) (.l 8), none⟩,
  ⟨(some (false, 10)), .fa (.g 1) 4, none⟩,
  ⟨(some (false, 11)), .ld (some 2) (.l 10), none⟩,
  ⟨(some (false, 12)), .fa (.g 1) 6, none⟩,
  ⟨(some (false, 13)), .ld (some 2) (.l 12), none⟩,
  ⟨(some (false, 14)), .mks false 2 [.l 7, .l 9, .l 11, .l 13], none⟩,
  ⟨(some (true, 3)), .mv (.l 14), none⟩])
(.seq
(.seq
(.reg [
  ⟨(some (true, 4)), .mv (.c (.lit (.int .i64 0))), none⟩])
(.block 0
(.loop
(.seq
(.seq
(.reg [
  ⟨(some (false, 15)), .mv (.g 4), none⟩,
  ⟨(some (false, 16)), .mv (.g 3), none⟩,
  ⟨(some (false, 17)), .len (.l 16), none⟩,
  ⟨(some (true, 18)), .bin .lss (.l 15) (.l 17), none⟩])
(.cond (.g 18)
.skip
(.exit 0)))
(.seq
(.block 1
(.seq
(.reg [
  ⟨(some (false, 21)), .mv (.g 3), none⟩,
  ⟨(some (false, 22)), .mv (.g 4), none⟩,
  ⟨(some (false, 23)), .ia 2 (.l 21) (.l 22), none⟩,
  ⟨(some (false, 24)), .ld (some 2) (.l 23), none⟩,
  ⟨(some (false, 25)), .call (.c (.fn 123 [])) [.l 24, .c (.lit (.int .i64 0)), .c (.lit (.int .i64 5000))], none⟩,
  ⟨(some (true, 5)), .mv (.l 25), none⟩])
(.seq
(.reg [
  ⟨(some (false, 26)), .mv (.g 5), none⟩,
  ⟨(some (true, 27)), .bin .neq (.l 26) (.c (.lit (.int .i64 0))), none⟩])
(.cond (.g 27)
(.seq
(.reg [
  ⟨(some (false, 28)), .mv (.g 5), none⟩,
  ⟨(some (true, 2)), .mv (.l 28), none⟩])
.ret)
.skip))))
(.reg [
  ⟨(some (false, 19)), .mv (.g 4), none⟩,
  ⟨(some (false, 20)), .bin .add (.l 19) (.c (.lit (.int .i64 1))), none⟩,
  ⟨(some (true, 4)), .mv (.l 20), none⟩]))))))
(.seq
(.reg [
  ⟨(some (true, 2)), .mv (.c (.lit (.int .i64 0))), none⟩])
.ret))))
def K72 : List Nat := [0, 18, 27, 2, 1, 3, 4, 5]
noncomputable def b72 : Code := match Try.f72.body with | some c => c | none => .skip
theorem t72 : trCode ⟨Try.prog, K72, [], 29, none⟩ b72 = some c72 := by kernel_rfl
theorem go72 {args : List AV} {H : AHeap} {Kk : AV → AHeap → Prop} (hn : args.length = 1) (h : AGo ⟨Try.prog, K72, [], 29, none⟩ H.length [.code c72] (RetP [.t (.g 2)] H.length Kk) ⟨[], argsG 0 args⟩ H) : ACalls Try.prog 72 args H Kk :=
  ACalls_of Try.func72 (c := b72) rfl (by kernel_rfl) t72 (rs := [.t (.g 2)]) (by kernel_rfl) (by rw [hn]; exact Nat.le_of_ble_eq_true rfl) (by rw [hn]; rfl) (h.weaken (fun _ _ => RetP.hands) (by simp))

/-- sastrugi/sastrugitop.awake3 -/
def c73 : ACode :=
  (.seq
(.reg [
  ⟨(some (true, 0)), .mv (.c (.lit (.bool false))), none⟩])
(.seq
(.reg [
  ⟨(some (false, 4)), .mk [.int .i64 0, .int .i64 0] [(0, 1, .c (.lit (.int .i64 40000))), (1, 1, .c (.lit (.int .i64 50000)))], none⟩,
  ⟨(some (false, 5)), .mk [.int .i64 0, .int .i64 0] [(1, 1, .c (.lit (.int .i64 1000000)))], none⟩,
  ⟨(some (false, 6)), .mks false 2 [.l 5], none⟩,
  ⟨(some (false, 7)), .mk [.int .i64 0, .int .i64 0] [(1, 1, .c (.lit (.int .i64 1000000)))], none⟩,
  ⟨(some (false, 8)), .mks false 2 [.l 7], none⟩,
  ⟨(some (false, 9)), .mk [.int .i64 0, .int .i64 0, .slice none 0 0, .slice none 0 0, .int .i64 0, .int .i64 0, .int .i64 0, .int .i64 0, .int .i64 0, .int .i64 0, .int .i64 0] [(0, 2, .l 4), (2, 1, .l 6), (3, 1, .l 8), (6, 1, .c (.lit (.int .i64 98))), (7, 1, .c (.lit (.int .i64 640000))), (8, 1, .c (.lit (.int .i64 1440000)))], none⟩,
  ⟨(some (true, 1)), .new [.int .i64 0, .int .i64 0, .slice none 0 0, .slice none 0 0, .int .i64 0, .int .i64 0, .int .i64 0, .int .i64 0, .int .i64 0, .int .i64 0, .int .i64 0], none⟩,
  ⟨none, .st 11 (.g 1) (.l 9), none⟩])
(.seq
(.reg [
  ⟨(some (false, 11)), .ld (some 11) (.g 1), none⟩,
  ⟨(some (false, 12)), .call (.c (.fn 54 [])) [.l 11, .c (.lit (.int .i64 500)), .c (.lit (.int .i64 0))], none⟩,
  ⟨(some (false, 10)), .mv (.l 12), none⟩,
  ⟨(some (false, 13)), .ex (.l 10) 0, none⟩,
  ⟨(some (false, 14)), .ex (.l 10) 1, none⟩,
  ⟨(some (true, 2)), .mv (.l 13), none⟩,
  ⟨(some (true, 3)), .mv (.l 14), none⟩])
(.seq
(.reg [
  ⟨(some (false, 15)), .mv (.g 3), none⟩,
  ⟨(some (false, 16)), .bin .eql (.l 15) (.c (.lit (.int .i64 0))), none⟩,
  ⟨(some (false, 17)), .mv (.l 16), none⟩,
  ⟨(some (false, 18)), .mv (.g 2), (some (.l 17, true))⟩,
  ⟨(some (false, 19)), .bin .eql (.l 18) (.c (.lit (.int .i64 10000))), (some (.l 17, true))⟩,
  ⟨(some (false, 20)), .pick (.l 17) (.l 19) (.c (.lit (.bool false))), none⟩,
  ⟨(some (false, 21)), .mv (.l 20), none⟩,
  ⟨(some (false, 22)), .call (.c (.fn 124 [])) [], (some (.l 21, true))⟩,
  ⟨(some (false, 23)), .pick (.l 21) (.l 22) (.c (.lit (.bool false))), none⟩,
  ⟨(some (true, 0)), .mv (.l 23), none⟩])
.ret))))
def K73 : List Nat := [0, 1, 2, 3]
noncomputable def b73 : Code := match Try.f73.body with | some c => c | none => .skip
theorem t73 : trCode ⟨Try.prog, K73, [], 24, none⟩ b73 = some c73 := by kernel_rfl
theorem go73 {args : List AV} {H : AHeap} {Kk : AV → AHeap → Prop} (hn : args.length = 0) (h : AGo ⟨Try.prog, K73, [], 24, none⟩ H.length [.code c73] (RetP [.t (.g 0)] H.length Kk) ⟨[], argsG 0 args⟩ H) : ACalls Try.prog 73 args H Kk :=
  ACalls_of Try.func73 (c := b73) rfl (by kernel_rfl) t73 (rs := [.t (.g 0)]) (by kernel_rfl) (by rw [hn]; exact Nat.le_of_ble_eq_true rfl) (by rw [hn]; rfl) (h.weaken (fun _ _ => RetP.hands) (by simp))

/-- sastrugi/frost.Bearing -/
def c74 : ACode :=
  (.seq
(.reg [
  ⟨(some (true, 2)), .box (.g 0), none⟩,
  ⟨(some (true, 3)), .box (.g 1), none⟩,
  ⟨(some (true, 4)), .new [.int .i64 0, .int .i64 0], none⟩,
  ⟨(some (true, 5)), .mv (.c (.lit (.int .i64 0))), none⟩,
  ⟨(some (true, 6)), .mv (.c (.lit (.int .i64 0))), none⟩])
(.seq
(.seq
(.reg [
  ⟨(some (false, 8)), .ld (some 8) (.g 2), none⟩,
  ⟨(some (false, 9)), .ld (some 8) (.g 3), none⟩,
  ⟨(some (false, 10)), .call (.c (.fn 114 [])) [.l 8, .l 9, .c (.lit (.slice none 0 0))], none⟩,
  ⟨(some (true, 7)), .mv (.l 10), none⟩])
(.seq
(.reg [
  ⟨(some (false, 11)), .mv (.g 7), none⟩,
  ⟨(some (true, 12)), .bin .neq (.l 11) (.c (.lit (.int .i64 0))), none⟩])
(.cond (.g 12)
(.seq
(.reg [
  ⟨(some (false, 13)), .mk [.int .i64 0, .int .i64 0] [], none⟩,
  ⟨(some (false, 14)), .mv (.g 7), none⟩,
  ⟨none, .st 2 (.g 4) (.l 13), none⟩,
  ⟨(some (true, 5)), .mv (.c (.lit (.int .i64 0))), none⟩,
  ⟨(some (true, 6)), .mv (.l 14), none⟩])
.ret)
.skip)))
(.seq
(.reg [
  ⟨(some (true, 5)), .mv (.c (.lit (.int .i64 3))), none⟩])
(.seq
(.block 0
(.seq
(.reg [
  ⟨(some (false, 16)), .fa (.g 3) 4, none⟩,
  ⟨(some (false, 17)), .fa (.l 16) 1, none⟩,
  ⟨(some (false, 18)), .ld none (.l 17), none⟩,
  ⟨(some (false, 19)), .bin .eql (.l 18) (.c (.lit (.int .i64 0))), none⟩,
  ⟨(some (true, 15)), .mv (.l 19), none⟩])
(.cond (.g 15)
(.reg [
  ⟨(some (true, 5)), .mv (.c (.lit (.int .i64 1))), none⟩])
(.seq
(.reg [
  ⟨(some (false, 21)), .fa (.g 3) 4, none⟩,
  ⟨(some (false, 22)), .fa (.l 21) 0, none⟩,
  ⟨(some (false, 23)), .ld none (.l 22), none⟩,
  ⟨(some (false, 24)), .bin .gtr (.l 23) (.c (.lit (.int .i64 0))), none⟩,
  ⟨(some (true, 20)), .mv (.l 24), none⟩])
(.cond (.g 20)
(.reg [
  ⟨(some (true, 5)), .mv (.c (.lit (.int .i64 2))), none⟩])
.skip)))))
(.seq
(.draw [
  ⟨⟨(some (false, 25)), .ld (some 8) (.g 2), none⟩, 0, true, []⟩,
  ⟨⟨(some (false, 26)), .mk [.int .i64 0, .int .i64 0, .slice none 0 0, .int .i64 0, .int .i64 0, .int .i64 0, .int .i64 0, .int .i64 0] [(0, 8, .l 25)], none⟩, 1, true, []⟩,
  ⟨⟨(some (false, 27)), .ld (some 8) (.g 3), none⟩, 2, true, []⟩,
  ⟨⟨(some (false, 30)), .mv (.g 5), none⟩, 5, false, []⟩,
  ⟨⟨(some (false, 28)), .call (.c (.fn 116 [])) [.l 27], none⟩, 3, false, []⟩,
  ⟨⟨(some (false, 29)), .call (.c (.fn 125 [])) [.l 26, .l 28], none⟩, 4, false, []⟩,
  ⟨⟨none, .st 2 (.g 4) (.l 29), none⟩, 6, false, []⟩,
  ⟨⟨(some (true, 5)), .mv (.l 30), none⟩, 7, false, []⟩,
  ⟨⟨(some (true, 6)), .mv (.c (.lit (.int .i64 0))), none⟩, 8, false, []⟩])
.ret)))))
def K74 : List Nat := [0, 1, 12, 15, 20, 4, 5, 6, 2, 3, 7]
noncomputable def b74 : Code := match Try.f74.body with | some c => c | none => .skip
theorem t74 : trCode ⟨Try.prog, K74, [], 31, none⟩ b74 = some c74 := by kernel_rfl
theorem go74 {args : List AV} {H : AHeap} {Kk : AV → AHeap → Prop} (hn : args.length = 2) (h : AGo ⟨Try.prog, K74, [], 31, none⟩ H.length [.code c74] (RetP [.cell (.g 4) (some 2), .t (.g 5), .t (.g 6)] H.length Kk) ⟨[], argsG 0 args⟩ H) : ACalls Try.prog 74 args H Kk :=
  ACalls_of Try.func74 (c := b74) rfl (by kernel_rfl) t74 (rs := [.cell (.g 4) (some 2), .t (.g 5), .t (.g 6)]) (by kernel_rfl) (by rw [hn]; exact Nat.le_of_ble_eq_true rfl) (by rw [hn]; rfl) (h.weaken (fun _ _ => RetP.hands) (by simp))

/-- sastrugi/sastrugitop.one -/
def c75 : ACode :=
  (.seq
(.reg [
  ⟨(some (true, 2)), .new [.int .i64 0, .int .i64 0], none⟩])
(.seq
(.reg [
  ⟨(some (false, 3)), .mv (.g 0), none⟩,
  ⟨(some (false, 4)), .mv (.g 0), none⟩,
  ⟨(some (false, 5)), .mk [.int .i64 0, .int .i64 0] [(0, 1, .l 3), (1, 1, .l 4)], none⟩,
  ⟨none, .st 2 (.g 2) (.l 5), none⟩])
.ret))
def K75 : List Nat := [0, 2]
noncomputable def b75 : Code := match Try.f75.body with | some c => c | none => .skip
theorem t75 : trCode ⟨Try.prog, K75, [], 6, none⟩ b75 = some c75 := by kernel_rfl
theorem go75 {args : List AV} {H : AHeap} {Kk : AV → AHeap → Prop} (hn : args.length = 1) (h : AGo ⟨Try.prog, K75, [], 6, none⟩ H.length [.code c75] (RetP [.cell (.g 2) (some 2)] H.length Kk) ⟨[], argsG 0 args⟩ H) : ACalls Try.prog 75 args H Kk :=
  ACalls_of Try.func75 (c := b75) rfl (by kernel_rfl) t75 (rs := [.cell (.g 2) (some 2)]) (by kernel_rfl) (by rw [hn]; exact Nat.le_of_ble_eq_true rfl) (by rw [hn]; rfl) (h.weaken (fun _ _ => RetP.hands) (by simp))

/-- sastrugi/sastrugitop.thickness -/
def c76 : ACode :=
  (.seq
(.reg [
  ⟨(some (true, 4)), .box (.g 1), none⟩,
  ⟨(some (true, 5)), .box (.g 2), none⟩,
  ⟨(some (true, 6)), .mv (.c (.lit (.int .i64 0))), none⟩])
(.seq
(.draw [
  ⟨⟨(some (false, 7)), .fa (.g 5) 0, none⟩, 0, true, []⟩,
  ⟨⟨(some (false, 8)), .ld none (.l 7), none⟩, 1, true, []⟩,
  ⟨⟨(some (false, 9)), .mv (.g 0), none⟩, 2, true, []⟩,
  ⟨⟨(some (false, 10)), .fa (.g 5) 1, none⟩, 3, true, []⟩,
  ⟨⟨(some (false, 11)), .ld none (.l 10), none⟩, 4, true, []⟩,
  ⟨⟨(some (false, 12)), .fa (.g 4) 6, none⟩, 5, true, []⟩,
  ⟨⟨(some (false, 13)), .fa (.l 12) 0, none⟩, 6, true, []⟩,
  ⟨⟨(some (false, 14)), .ld none (.l 13), none⟩, 7, true, []⟩,
  ⟨⟨(some (false, 16)), .fa (.g 5) 1, none⟩, 9, true, []⟩,
  ⟨⟨(some (false, 17)), .ld none (.l 16), none⟩, 10, true, []⟩,
  ⟨⟨(some (false, 18)), .fa (.g 4) 6, none⟩, 11, true, []⟩,
  ⟨⟨(some (false, 19)), .fa (.l 18) 1, none⟩, 12, true, []⟩,
  ⟨⟨(some (false, 20)), .ld none (.l 19), none⟩, 13, true, []⟩,
  ⟨⟨(some (false, 15)), .call (.c (.fn 126 [])) [.l 11, .l 14], none⟩, 8, false, []⟩,
  ⟨⟨(some (false, 21)), .call (.c (.fn 127 [])) [.l 17, .l 20], none⟩, 14, false, []⟩,
  ⟨⟨(some (false, 22)), .call (.c (.fn 45 [])) [.l 9, .l 15, .l 21], none⟩, 15, false, []⟩,
  ⟨⟨(some (false, 23)), .bin .add (.l 8) (.l 22), none⟩, 16, true, []⟩,
  ⟨⟨(some (true, 6)), .mv (.l 23), none⟩, 17, true, []⟩])
.ret))
def K76 : List Nat := [0, 1, 2, 6, 4, 5]
noncomputable def b76 : Code := match Try.f76.body with | some c => c | none => .skip
theorem t76 : trCode ⟨Try.prog, K76, [], 24, none⟩ b76 = some c76 := by kernel_rfl
theorem go76 {args : List AV} {H : AHeap} {Kk : AV → AHeap → Prop} (hn : args.length = 3) (h : AGo ⟨Try.prog, K76, [], 24, none⟩ H.length [.code c76] (RetP [.t (.g 6)] H.length Kk) ⟨[], argsG 0 args⟩ H) : ACalls Try.prog 76 args H Kk :=
  ACalls_of Try.func76 (c := b76) rfl (by kernel_rfl) t76 (rs := [.t (.g 6)]) (by kernel_rfl) (by rw [hn]; exact Nat.le_of_ble_eq_true rfl) (by rw [hn]; rfl) (h.weaken (fun _ _ => RetP.hands) (by simp))

/-- sastrugi/frost.checkAll -/
def c114 : ACode :=
  (.seq
(.reg [
  ⟨(some (true, 3)), .box (.g 0), none⟩,
  ⟨(some (true, 4)), .box (.g 1), none⟩,
  ⟨(some (true, 6)), .mv (.c (.lit (.int .i64 0))), none⟩])
(.seq
(.seq
(.reg [
  ⟨(some (false, 9)), .ld (some 8) (.g 3), none⟩,
  ⟨(some (false, 10)), .call (.c (.fn 143 [])) [.l 9], none⟩,
  ⟨(some (true, 7)), .mv (.l 10), none⟩])
(.seq
(.reg [
  ⟨(some (false, 11)), .mv (.g 7), none⟩,
  ⟨(some (true, 12)), .bin .neq (.l 11) (.c (.lit (.int .i64 0))), none⟩])
(.cond (.g 12)
(.seq
(.reg [
  ⟨(some (false, 13)), .mv (.g 7), none⟩,
  ⟨(some (true, 6)), .mv (.l 13), none⟩])
.ret)
.skip)))
(.seq
(.seq
(.reg [
  ⟨(some (false, 14)), .ld (some 8) (.g 4), none⟩,
  ⟨(some (false, 15)), .call (.c (.fn 144 [])) [.l 14], none⟩,
  ⟨(some (true, 8)), .mv (.l 15), none⟩])
(.seq
(.reg [
  ⟨(some (false, 16)), .mv (.g 8), none⟩,
  ⟨(some (true, 17)), .bin .neq (.l 16) (.c (.lit (.int .i64 0))), none⟩])
(.cond (.g 17)
(.seq
(.reg [
  ⟨(some (false, 18)), .mv (.g 8), none⟩,
  ⟨(some (true, 6)), .mv (.l 18), none⟩])
.ret)
.skip)))
(.seq
(.reg [
  ⟨(some (false, 19)), .mv (.g 2), none⟩,
  ⟨(some (false, 20)), .call (.c (.fn 145 [])) [.l 19], none⟩,
  ⟨(some (true, 6)), .mv (.l 20), none⟩])
.ret))))
def K114 : List Nat := [0, 1, 2, 12, 17, 6, 3, 4, 7, 8]
noncomputable def b114 : Code := match Try.f114.body with | some c => c | none => .skip
theorem t114 : trCode ⟨Try.prog, K114, [], 21, none⟩ b114 = some c114 := by kernel_rfl
theorem go114 {args : List AV} {H : AHeap} {Kk : AV → AHeap → Prop} (hn : args.length = 3) (h : AGo ⟨Try.prog, K114, [], 21, none⟩ H.length [.code c114] (RetP [.t (.g 6)] H.length Kk) ⟨[], argsG 0 args⟩ H) : ACalls Try.prog 114 args H Kk :=
  ACalls_of Try.func114 (c := b114) rfl (by kernel_rfl) t114 (rs := [.t (.g 6)]) (by kernel_rfl) (by rw [hn]; exact Nat.le_of_ble_eq_true rfl) (by rw [hn]; rfl) (h.weaken (fun _ _ => RetP.hands) (by simp))

/-- (sastrugi/frost.day).course -/
def c115 : ACode :=
  (.seq
(.reg [
  ⟨(some (true, 3)), .box (.g 0), none⟩,
  ⟨(some (true, 4)), .box (.g 1), none⟩,
  ⟨(some (true, 5)), .box (.g 2), none⟩,
  ⟨(some (true, 6)), .mv (.c (.lit (.nilFunc))), none⟩])
(.seq
(.reg [
  ⟨(some (false, 7)), .mkf 146 [.g 4, .g 5, .g 3], none⟩,
  ⟨(some (true, 6)), .mv (.l 7), none⟩])
.ret))
def K115 : List Nat := [0, 1, 2, 6, 3, 4, 5]
noncomputable def b115 : Code := match Try.f115.body with | some c => c | none => .skip
theorem t115 : trCode ⟨Try.prog, K115, [], 8, none⟩ b115 = some c115 := by kernel_rfl
theorem go115 {args : List AV} {H : AHeap} {Kk : AV → AHeap → Prop} (hn : args.length = 3) (h : AGo ⟨Try.prog, K115, [], 8, none⟩ H.length [.code c115] (RetP [.t (.g 6)] H.length Kk) ⟨[], argsG 0 args⟩ H) : ACalls Try.prog 115 args H Kk :=
  ACalls_of Try.func115 (c := b115) rfl (by kernel_rfl) t115 (rs := [.t (.g 6)]) (by kernel_rfl) (by rw [hn]; exact Nat.le_of_ble_eq_true rfl) (by rw [hn]; rfl) (h.weaken (fun _ _ => RetP.hands) (by simp))

/-- sastrugi/frost.layersOf -/
def c116 : ACode :=
  (.seq
(.reg [
  ⟨(some (true, 1)), .box (.g 0), none⟩,
  ⟨(some (true, 2)), .new [.int .i64 0, .int .i64 0, .int .i64 0, .int .i64 0, .int .i64 0, .int .i64 0, .int .i64 0, .int .i64 0], none⟩])
(.seq
(.reg [
  ⟨(some (false, 3)), .fa (.g 1) 0, none⟩,
  ⟨(some (false, 4)), .ld (some 2) (.l 3), none⟩,
  ⟨(some (false, 5)), .fa (.g 1) 2, none⟩,
  ⟨(some (false, 6)), .ld (some 2) (.l 5), none⟩,
  ⟨(some (false, 7)), .fa (.g 1) 4, none⟩,
  ⟨(some (false, 8)), .ld (some 2) (.l 7), none⟩,
  ⟨(some (false, 9)), .fa (.g 1) 6, none⟩,
  ⟨(some (false, 10)), .ld (some 2) (.l 9), none⟩,
  ⟨(some (false, 11)), .mk [.int .i64 0, .int .i64 0, .int .i64 0, .int .i64 0, .int .i64 0, .int .i64 0, .int .i64 0, .int .i64 0] [(0, 2, .l 4), (2, 2, .l 6), (4, 2, .l 8), (6, 2, .l 10)], none⟩,
  ⟨none, .st 8 (.g 2) (.l 11), none⟩])
.ret))
def K116 : List Nat := [0, 2, 1]
noncomputable def b116 : Code := match Try.f116.body with | some c => c | none => .skip
theorem t116 : trCode ⟨Try.prog, K116, [], 12, none⟩ b116 = some c116 := by kernel_rfl
theorem go116 {args : List AV} {H : AHeap} {Kk : AV → AHeap → Prop} (hn : args.length = 1) (h : AGo ⟨Try.prog, K116, [], 12, none⟩ H.length [.code c116] (RetP [.cell (.g 2) (some 8)] H.length Kk) ⟨[], argsG 0 args⟩ H) : ACalls Try.prog 116 args H Kk :=
  ACalls_of Try.func116 (c := b116) rfl (by kernel_rfl) t116 (rs := [.cell (.g 2) (some 8)]) (by kernel_rfl) (by rw [hn]; exact Nat.le_of_ble_eq_true rfl) (by rw [hn]; rfl) (h.weaken (fun _ _ => RetP.hands) (by simp))

/-- (sastrugi/frost.layers).ice -/
def c117 : ACode :=
  (.seq
(.reg [
  ⟨(some (true, 1)), .box (.g 0), none⟩,
  ⟨(some (true, 2)), .new [.int .i64 0, .int .i64 0, .int .i64 0, .int .i64 0, .int .i64 0, .int .i64 0, .int .i64 0, .int .i64 0], none⟩])
(.seq
(.reg [
  ⟨(some (false, 3)), .iaa 4 2 (.g 1) (.c (.lit (.int .i64 0))), none⟩,
  ⟨(some (false, 4)), .ld (some 2) (.l 3), none⟩,
  ⟨(some (false, 5)), .iaa 4 2 (.g 1) (.c (.lit (.int .i64 1))), none⟩,
  ⟨(some (false, 6)), .ld (some 2) (.l 5), none⟩,
  ⟨(some (false, 7)), .iaa 4 2 (.g 1) (.c (.lit (.int .i64 2))), none⟩,
  ⟨(some (false, 8)), .ld (some 2) (.l 7), none⟩,
  ⟨(some (false, 9)), .iaa 4 2 (.g 1) (.c (.lit (.int .i64 3))), none⟩,
  ⟨(some (false, 10)), .ld (some 2) (.l 9), none⟩,
  ⟨(some (false, 11)), .mk [.int .i64 0, .int .i64 0, .int .i64 0, .int .i64 0, .int .i64 0, .int .i64 0, .int .i64 0, .int .i64 0] [(0, 2, .l 4), (2, 2, .l 6), (4, 2, .l 8), (6, 2, .l 10)], none⟩,
  ⟨none, .st 8 (.g 2) (.l 11), none⟩])
.ret))
def K117 : List Nat := [0, 2, 1]
noncomputable def b117 : Code := match Try.f117.body with | some c => c | none => .skip
theorem t117 : trCode ⟨Try.prog, K117, [], 12, none⟩ b117 = some c117 := by kernel_rfl
theorem go117 {args : List AV} {H : AHeap} {Kk : AV → AHeap → Prop} (hn : args.length = 1) (h : AGo ⟨Try.prog, K117, [], 12, none⟩ H.length [.code c117] (RetP [.cell (.g 2) (some 8)] H.length Kk) ⟨[], argsG 0 args⟩ H) : ACalls Try.prog 117 args H Kk :=
  ACalls_of Try.func117 (c := b117) rfl (by kernel_rfl) t117 (rs := [.cell (.g 2) (some 8)]) (by kernel_rfl) (by rw [hn]; exact Nat.le_of_ble_eq_true rfl) (by rw [hn]; rfl) (h.weaken (fun _ _ => RetP.hands) (by simp))

/-- sastrugi/sastrugiref01.Opened -/
def c118 : ACode :=
  (.seq
(.reg [
  ⟨(some (true, 4)), .box (.g 0), none⟩,
  ⟨(some (true, 5)), .box (.g 1), none⟩,
  ⟨(some (true, 6)), .box (.g 2), none⟩,
  ⟨(some (true, 8)), .new [.int .i64 0, .int .i64 0, .int .i64 0, .int .i64 0], none⟩])
(.seq
(.seq
(.reg [
  ⟨(some (false, 9)), .fa (.g 6) 5, none⟩,
  ⟨(some (true, 10)), .ld none (.l 9), none⟩])
(.cond (.g 10)
(.reg [
  ⟨(some (false, 11)), .fa (.g 5) 3, none⟩,
  ⟨none, .st 1 (.l 11) (.c (.lit (.int .i64 0))), none⟩])
.skip))
(.seq
(.reg [
  ⟨(some (false, 12)), .fa (.g 5) 3, none⟩,
  ⟨(some (false, 13)), .ld none (.l 12), none⟩,
  ⟨(some (false, 14)), .mv (.g 3), none⟩,
  ⟨(some (false, 15)), .bin .add (.l 13) (.l 14), none⟩,
  ⟨(some (false, 16)), .fa (.g 5) 3, none⟩,
  ⟨none, .st 1 (.l 16) (.l 15), none⟩])
(.seq
(.seq
(.reg [
  ⟨(some (false, 17)), .fa (.g 6) 4, none⟩,
  ⟨(some (false, 18)), .ld none (.l 17), none⟩,
  ⟨(some (true, 19)), .bin .gtr (.l 18) (.c (.lit (.int .i64 0))), none⟩])
(.cond (.g 19)
(.draw [
  ⟨⟨(some (false, 20)), .fa (.g 5) 2, none⟩, 0, true, []⟩,
  ⟨⟨(some (false, 21)), .ld none (.l 20), none⟩, 1, true, []⟩,
  ⟨⟨(some (false, 22)), .fa (.g 6) 4, none⟩, 2, true, []⟩,
  ⟨⟨(some (false, 23)), .ld none (.l 22), none⟩, 3, true, []⟩,
  ⟨⟨(some (false, 24)), .bin .add (.l 21) (.l 23), none⟩, 4, true, []⟩,
  ⟨⟨(some (false, 25)), .fa (.g 5) 3, none⟩, 5, true, []⟩,
  ⟨⟨(some (false, 26)), .ld none (.l 25), none⟩, 6, true, []⟩,
  ⟨⟨(some (false, 27)), .fa (.g 4) 5, none⟩, 7, true, []⟩,
  ⟨⟨(some (false, 28)), .ld none (.l 27), none⟩, 8, true, []⟩,
  ⟨⟨(some (false, 29)), .call (.c (.fn 126 [])) [.l 26, .l 28], none⟩, 9, false, []⟩,
  ⟨⟨(some (false, 30)), .bin .add (.l 24) (.l 29), none⟩, 10, true, []⟩,
  ⟨⟨(some (false, 31)), .fa (.g 5) 2, none⟩, 11, true, []⟩,
  ⟨⟨none, .st 1 (.l 31) (.l 30), none⟩, 12, false, []⟩,
  ⟨⟨(some (false, 32)), .fa (.g 5) 3, none⟩, 13, false, []⟩,
  ⟨⟨none, .st 1 (.l 32) (.c (.lit (.int .i64 0))), none⟩, 14, true, []⟩])
.skip))
(.seq
(.reg [
  ⟨(some (false, 33)), .ld (some 4) (.g 5), none⟩,
  ⟨none, .st 4 (.g 8) (.l 33), none⟩])
.ret)))))
def K118 : List Nat := [0, 1, 2, 3, 10, 19, 8, 4, 5, 6]
noncomputable def b118 : Code := match Try.f118.body with | some c => c | none => .skip
theorem t118 : trCode ⟨Try.prog, K118, [], 34, none⟩ b118 = some c118 := by kernel_rfl
theorem go118 {args : List AV} {H : AHeap} {Kk : AV → AHeap → Prop} (hn : args.length = 4) (h : AGo ⟨Try.prog, K118, [], 34, none⟩ H.length [.code c118] (RetP [.cell (.g 8) (some 4)] H.length Kk) ⟨[], argsG 0 args⟩ H) : ACalls Try.prog 118 args H Kk :=
  ACalls_of Try.func118 (c := b118) rfl (by kernel_rfl) t118 (rs := [.cell (.g 8) (some 4)]) (by kernel_rfl) (by rw [hn]; exact Nat.le_of_ble_eq_true rfl) (by rw [hn]; rfl) (h.weaken (fun _ _ => RetP.hands) (by simp))

/-- sastrugi/sastrugiref01.Melted -/
def c119 : ACode :=
  (.seq
(.reg [
  ⟨(some (true, 2)), .box (.g 0), none⟩,
  ⟨(some (true, 4)), .new [.int .i64 0, .int .i64 0, .int .i64 0, .int .i64 0], none⟩])
(.seq
(.reg [
  ⟨(some (false, 6)), .fa (.g 2) 3, none⟩,
  ⟨(some (false, 7)), .ld none (.l 6), none⟩,
  ⟨(some (false, 8)), .mv (.g 1), none⟩,
  ⟨(some (false, 9)), .mn [.l 7, .l 8], none⟩,
  ⟨(some (true, 5)), .mv (.l 9), none⟩])
(.seq
(.reg [
  ⟨(some (false, 10)), .fa (.g 2) 3, none⟩,
  ⟨(some (false, 11)), .ld none (.l 10), none⟩,
  ⟨(some (false, 12)), .mv (.g 5), none⟩,
  ⟨(some (false, 13)), .bin .sub (.l 11) (.l 12), none⟩,
  ⟨(some (false, 14)), .mv (.g 1), none⟩,
  ⟨(some (false, 15)), .mv (.g 5), none⟩,
  ⟨(some (false, 16)), .bin .sub (.l 14) (.l 15), none⟩,
  ⟨(some (false, 17)), .fa (.g 2) 3, none⟩,
  ⟨none, .st 1 (.l 17) (.l 13), none⟩,
  ⟨(some (true, 1)), .mv (.l 16), none⟩])
(.seq
(.reg [
  ⟨(some (false, 18)), .fa (.g 2) 1, none⟩,
  ⟨(some (false, 19)), .ld none (.l 18), none⟩,
  ⟨(some (false, 20)), .mv (.g 1), none⟩,
  ⟨(some (false, 21)), .mn [.l 19, .l 20], none⟩,
  ⟨(some (true, 5)), .mv (.l 21), none⟩])
(.seq
(.reg [
  ⟨(some (false, 22)), .fa (.g 2) 1, none⟩,
  ⟨(some (false, 23)), .ld none (.l 22), none⟩,
  ⟨(some (false, 24)), .mv (.g 5), none⟩,
  ⟨(some (false, 25)), .bin .sub (.l 23) (.l 24), none⟩,
  ⟨(some (false, 26)), .mv (.g 1), none⟩,
  ⟨(some (false, 27)), .mv (.g 5), none⟩,
  ⟨(some (false, 28)), .bin .sub (.l 26) (.l 27), none⟩,
  ⟨(some (false, 29)), .fa (.g 2) 1, none⟩,
  ⟨none, .st 1 (.l 29) (.l 25), none⟩,
  ⟨(some (true, 1)), .mv (.l 28), none⟩])
(.seq
(.reg [
  ⟨(some (false, 30)), .fa (.g 2) 0, none⟩,
  ⟨(some (false, 31)), .ld none (.l 30), none⟩,
  ⟨(some (false, 32)), .fa (.g 2) 0, none⟩,
  ⟨(some (false, 33)), .ld none (.l 32), none⟩,
  ⟨(some (false, 34)), .mv (.g 1), none⟩,
  ⟨(some (false, 35)), .mn [.l 33, .l 34], none⟩,
  ⟨(some (false, 36)), .bin .sub (.l 31) (.l 35), none⟩,
  ⟨(some (false, 37)), .fa (.g 2) 0, none⟩,
  ⟨none, .st 1 (.l 37) (.l 36), none⟩])
(.seq
(.reg [
  ⟨(some (false, 38)), .ld (some 4) (.g 2), none⟩,
  ⟨none, .st 4 (.g 4) (.l 38), none⟩])
.ret)))))))
def K119 : List Nat := [0, 1, 4, 2, 5]
noncomputable def b119 : Code := match Try.f119.body with | some c => c | none => .skip
theorem t119 : trCode ⟨Try.prog, K119, [], 39, none⟩ b119 = some c119 := by kernel_rfl
theorem go119 {args : List AV} {H : AHeap} {Kk : AV → AHeap → Prop} (hn : args.length = 2) (h : AGo ⟨Try.prog, K119, [], 39, none⟩ H.length [.code c119] (RetP [.cell (.g 4) (some 4)] H.length Kk) ⟨[], argsG 0 args⟩ H) : ACalls Try.prog 119 args H Kk :=
  ACalls_of Try.func119 (c := b119) rfl (by kernel_rfl) t119 (rs := [.cell (.g 4) (some 4)]) (by kernel_rfl) (by rw [hn]; exact Nat.le_of_ble_eq_true rfl) (by rw [hn]; rfl) (h.weaken (fun _ _ => RetP.hands) (by simp))

/-- sastrugi/sastrugiref01.Thawed -/
def c120 : ACode :=
  (.seq
(.reg [
  ⟨(some (true, 2)), .box (.g 0), none⟩,
  ⟨(some (true, 4)), .new [.int .i64 0, .int .i64 0], none⟩])
(.seq
(.draw [
  ⟨⟨(some (false, 5)), .mv (.g 1), none⟩, 0, true, []⟩,
  ⟨⟨(some (false, 6)), .fa (.g 2) 3, none⟩, 1, true, []⟩,
  ⟨⟨(some (false, 7)), .fa (.l 6) 0, none⟩, 2, true, []⟩,
  ⟨⟨(some (false, 8)), .ld none (.l 7), none⟩, 3, true, []⟩,
  ⟨⟨(some (false, 10)), .mv (.g 1), none⟩, 5, true, []⟩,
  ⟨⟨(some (false, 11)), .fa (.g 2) 3, none⟩, 6, true, []⟩,
  ⟨⟨(some (false, 12)), .fa (.l 11) 1, none⟩, 7, true, []⟩,
  ⟨⟨(some (false, 13)), .ld none (.l 12), none⟩, 8, true, []⟩,
  ⟨⟨(some (false, 9)), .call (.c (.fn 126 [])) [.l 5, .l 8], none⟩, 4, false, []⟩,
  ⟨⟨(some (false, 14)), .call (.c (.fn 127 [])) [.l 10, .l 13], none⟩, 9, false, []⟩,
  ⟨⟨(some (false, 15)), .mk [.int .i64 0, .int .i64 0] [(0, 1, .l 9), (1, 1, .l 14)], none⟩, 10, true, []⟩,
  ⟨⟨none, .st 2 (.g 4) (.l 15), none⟩, 11, true, []⟩])
.ret))
def K120 : List Nat := [0, 1, 4, 2]
noncomputable def b120 : Code := match Try.f120.body with | some c => c | none => .skip
theorem t120 : trCode ⟨Try.prog, K120, [], 16, none⟩ b120 = some c120 := by kernel_rfl
theorem go120 {args : List AV} {H : AHeap} {Kk : AV → AHeap → Prop} (hn : args.length = 2) (h : AGo ⟨Try.prog, K120, [], 16, none⟩ H.length [.code c120] (RetP [.cell (.g 4) (some 2)] H.length Kk) ⟨[], argsG 0 args⟩ H) : ACalls Try.prog 120 args H Kk :=
  ACalls_of Try.func120 (c := b120) rfl (by kernel_rfl) t120 (rs := [.cell (.g 4) (some 2)]) (by kernel_rfl) (by rw [hn]; exact Nat.le_of_ble_eq_true rfl) (by rw [hn]; rfl) (h.weaken (fun _ _ => RetP.hands) (by simp))

/-- sastrugi/sastrugiref01.Frozen -/
def c121 : ACode :=
  (.seq
(.reg [
  ⟨(some (true, 4)), .box (.g 0), none⟩,
  ⟨(some (true, 5)), .box (.g 1), none⟩,
  ⟨(some (true, 8)), .new [.int .i64 0, .int .i64 0, .int .i64 0, .int .i64 0], none⟩])
(.seq
(.draw [
  ⟨⟨(some (false, 12)), .fa (.g 5) 2, none⟩, 0, true, []⟩,
  ⟨⟨(some (false, 13)), .ld none (.l 12), none⟩, 1, true, []⟩,
  ⟨⟨(some (false, 14)), .mv (.g 2), none⟩, 2, true, []⟩,
  ⟨⟨(some (false, 15)), .fa (.g 4) 1, none⟩, 3, true, []⟩,
  ⟨⟨(some (false, 16)), .ld none (.l 15), none⟩, 4, true, []⟩,
  ⟨⟨(some (false, 17)), .bin .quo (.l 14) (.l 16), none⟩, 5, true, []⟩,
  ⟨⟨(some (false, 18)), .mn [.l 13, .l 17], none⟩, 6, true, []⟩,
  ⟨⟨(some (true, 9)), .mv (.l 18), none⟩, 7, true, []⟩])
(.seq
(.reg [
  ⟨(some (false, 19)), .fa (.g 5) 1, none⟩,
  ⟨(some (false, 20)), .ld none (.l 19), none⟩,
  ⟨(some (false, 21)), .mv (.g 9), none⟩,
  ⟨(some (false, 22)), .bin .add (.l 20) (.l 21), none⟩,
  ⟨(some (false, 23)), .fa (.g 5) 2, none⟩,
  ⟨(some (false, 24)), .ld none (.l 23), none⟩,
  ⟨(some (false, 25)), .mv (.g 9), none⟩,
  ⟨(some (false, 26)), .bin .sub (.l 24) (.l 25), none⟩,
  ⟨(some (false, 27)), .fa (.g 5) 1, none⟩,
  ⟨none, .st 1 (.l 27) (.l 22), none⟩,
  ⟨(some (false, 28)), .fa (.g 5) 2, none⟩,
  ⟨none, .st 1 (.l 28) (.l 26), none⟩])
(.seq
(.seq
(.reg [
  ⟨(some (false, 29)), .fa (.g 5) 2, none⟩,
  ⟨(some (false, 30)), .ld none (.l 29), none⟩,
  ⟨(some (true, 31)), .bin .gtr (.l 30) (.c (.lit (.int .i64 0))), none⟩])
(.cond (.g 31)
(.seq
(.reg [
  ⟨(some (false, 32)), .ld (some 4) (.g 5), none⟩,
  ⟨none, .st 4 (.g 8) (.l 32), none⟩])
.ret)
.skip))
(.seq
(.reg [
  ⟨(some (false, 33)), .fa (.g 5) 0, none⟩,
  ⟨(some (false, 34)), .ld none (.l 33), none⟩,
  ⟨(some (false, 35)), .fa (.g 5) 1, none⟩,
  ⟨(some (false, 36)), .ld none (.l 35), none⟩,
  ⟨(some (false, 37)), .bin .add (.l 34) (.l 36), none⟩,
  ⟨(some (true, 10)), .mv (.l 37), none⟩])
(.seq
(.reg [
  ⟨(some (false, 38)), .mv (.g 10), none⟩,
  ⟨(some (false, 39)), .mv (.g 10), none⟩,
  ⟨(some (false, 40)), .bin .mul (.l 38) (.l 39), none⟩,
  ⟨(some (false, 41)), .fa (.g 4) 0, none⟩,
  ⟨(some (false, 42)), .ld none (.l 41), none⟩,
  ⟨(some (false, 43)), .mv (.g 2), none⟩,
  ⟨(some (false, 44)), .mv (.g 9), none⟩,
  ⟨(some (false, 45)), .fa (.g 4) 1, none⟩,
  ⟨(some (false, 46)), .ld none (.l 45), none⟩,
  ⟨(some (false, 47)), .bin .mul (.l 44) (.l 46), none⟩,
  ⟨(some (false, 48)), .bin .sub (.l 43) (.l 47), none⟩,
  ⟨(some (false, 49)), .bin .mul (.l 42) (.l 48), none⟩,
  ⟨(some (false, 50)), .bin .add (.l 40) (.l 49), none⟩,
  ⟨(some (true, 11)), .mv (.l 50), none⟩])
(.seq
(.reg [
  ⟨(some (false, 51)), .mv (.g 11), none⟩,
  ⟨(some (false, 52)), .call (.c (.fn 148 [])) [.l 51], none⟩,
  ⟨(some (true, 10)), .mv (.l 52), none⟩])
(.seq
(.seq
(.reg [
  ⟨(some (true, 53)), .mv (.g 3), none⟩])
(.cond (.g 53)
(.reg [
  ⟨(some (false, 54)), .mv (.g 11), none⟩,
  ⟨(some (false, 55)), .call (.c (.fn 149 [])) [.l 54], none⟩,
  ⟨(some (true, 10)), .mv (.l 55), none⟩])
.skip))
(.seq
(.reg [
  ⟨(some (false, 56)), .mv (.g 10), none⟩,
  ⟨(some (false, 57)), .fa (.g 5) 1, none⟩,
  ⟨(some (false, 58)), .ld none (.l 57), none⟩,
  ⟨(some (false, 59)), .bin .sub (.l 56) (.l 58), none⟩,
  ⟨(some (false, 60)), .fa (.g 5) 0, none⟩,
  ⟨none, .st 1 (.l 60) (.l 59), none⟩])
(.seq
(.reg [
  ⟨(some (false, 61)), .ld (some 4) (.g 5), none⟩,
  ⟨none, .st 4 (.g 8) (.l 61), none⟩])
.ret))))))))))
def K121 : List Nat := [0, 1, 2, 3, 31, 53, 8, 4, 5, 9, 10, 11]
noncomputable def b121 : Code := match Try.f121.body with | some c => c | none => .skip
theorem t121 : trCode ⟨Try.prog, K121, [], 62, none⟩ b121 = some c121 := by kernel_rfl
theorem go121 {args : List AV} {H : AHeap} {Kk : AV → AHeap → Prop} (hn : args.length = 4) (h : AGo ⟨Try.prog, K121, [], 62, none⟩ H.length [.code c121] (RetP [.cell (.g 8) (some 4)] H.length Kk) ⟨[], argsG 0 args⟩ H) : ACalls Try.prog 121 args H Kk :=
  ACalls_of Try.func121 (c := b121) rfl (by kernel_rfl) t121 (rs := [.cell (.g 8) (some 4)]) (by kernel_rfl) (by rw [hn]; exact Nat.le_of_ble_eq_true rfl) (by rw [hn]; rfl) (h.weaken (fun _ _ => RetP.hands) (by simp))

/-- sastrugi/sastrugiref01.Through -/
def c122 : ACode :=
  (.seq
(.reg [
  ⟨(some (true, 3)), .box (.g 0), none⟩,
  ⟨(some (true, 6)), .new [.int .i64 0, .int .i64 0], none⟩])
(.seq
(.reg [
  ⟨(some (false, 9)), .fa (.g 3) 2, none⟩,
  ⟨(some (false, 10)), .ld none (.l 9), none⟩,
  ⟨(some (false, 11)), .ia 3 (.l 10) (.c (.lit (.int .i64 0))), none⟩,
  ⟨(some (false, 12)), .fa (.l 11) 1, none⟩,
  ⟨(some (false, 13)), .ld (some 2) (.l 12), none⟩,
  ⟨(some (true, 7)), .new [.int .i64 0, .int .i64 0], none⟩,
  ⟨none, .st 2 (.g 7) (.l 13), none⟩])
(.seq
(.seq
(.reg [
  ⟨(some (true, 8)), .mv (.c (.lit (.int .i64 0))), none⟩])
(.block 0
(.loop
(.seq
(.seq
(.reg [
  ⟨(some (false, 14)), .mv (.g 8), none⟩,
  ⟨(some (false, 15)), .fa (.g 3) 2, none⟩,
  ⟨(some (false, 16)), .ld none (.l 15), none⟩,
  ⟨(some (false, 17)), .len (.l 16), none⟩,
  ⟨(some (true, 18)), .bin .lss (.l 14) (.l 17), none⟩])
(.cond (.g 18)
.skip
(.exit 0)))
(.seq
(.block 1
(.seq
(.reg [
  ⟨(some (false, 21)), .fa (.g 3) 2, none⟩,
  ⟨(some (false, 22)), .ld none (.l 21), none⟩,
  ⟨(some (false, 23)), .mv (.g 8), none⟩,
  ⟨(some (false, 24)), .ia 3 (.l 22) (.l 23), none⟩,
  ⟨(some (false, 25)), .fa (.l 24) 0, none⟩,
  ⟨(some (false, 26)), .ld none (.l 25), none⟩,
  ⟨(some (false, 27)), .mv (.g 1), none⟩,
  ⟨(some (true, 28)), .bin .leq (.l 26) (.l 27), none⟩])
(.cond (.g 28)
(.reg [
  ⟨(some (false, 29)), .fa (.g 3) 2, none⟩,
  ⟨(some (false, 30)), .ld none (.l 29), none⟩,
  ⟨(some (false, 31)), .mv (.g 8), none⟩,
  ⟨(some (false, 32)), .ia 3 (.l 30) (.l 31), none⟩,
  ⟨(some (false, 33)), .fa (.l 32) 1, none⟩,
  ⟨(some (false, 34)), .ld (some 2) (.l 33), none⟩,
  ⟨none, .st 2 (.g 7) (.l 34), none⟩])
.skip)))
(.reg [
  ⟨(some (false, 19)), .mv (.g 8), none⟩,
  ⟨(some (false, 20)), .bin .add (.l 19) (.c (.lit (.int .i64 1))), none⟩,
  ⟨(some (true, 8)), .mv (.l 20), none⟩]))))))
(.seq
(.draw [
  ⟨⟨(some (false, 35)), .mv (.g 2), none⟩, 0, true, []⟩,
  ⟨⟨(some (false, 36)), .fa (.g 7) 0, none⟩, 1, true, []⟩,
  ⟨⟨(some (false, 37)), .ld none (.l 36), none⟩, 2, true, []⟩,
  ⟨⟨(some (false, 39)), .mv (.g 2), none⟩, 4, true, []⟩,
  ⟨⟨(some (false, 40)), .fa (.g 7) 1, none⟩, 5, true, []⟩,
  ⟨⟨(some (false, 41)), .ld none (.l 40), none⟩, 6, true, []⟩,
  ⟨⟨(some (false, 38)), .call (.c (.fn 126 [])) [.l 35, .l 37], none⟩, 3, false, []⟩,
  ⟨⟨(some (false, 42)), .call (.c (.fn 127 [])) [.l 39, .l 41], none⟩, 7, false, []⟩,
  ⟨⟨(some (false, 43)), .mk [.int .i64 0, .int .i64 0] [(0, 1, .l 38), (1, 1, .l 42)], none⟩, 8, true, []⟩,
  ⟨⟨none, .st 2 (.g 6) (.l 43), none⟩, 9, true, []⟩])
.ret))))
def K122 : List Nat := [0, 1, 2, 18, 28, 6, 3, 7, 8]
noncomputable def b122 : Code := match Try.f122.body with | some c => c | none => .skip
theorem t122 : trCode ⟨Try.prog, K122, [], 44, none⟩ b122 = some c122 := by kernel_rfl
theorem go122 {args : List AV} {H : AHeap} {Kk : AV → AHeap → Prop} (hn : args.length = 3) (h : AGo ⟨Try.prog, K122, [], 44, none⟩ H.length [.code c122] (RetP [.cell (.g 6) (some 2)] H.length Kk) ⟨[], argsG 0 args⟩ H) : ACalls Try.prog 122 args H Kk :=
  ACalls_of Try.func122 (c := b122) rfl (by kernel_rfl) t122 (rs := [.cell (.g 6) (some 2)]) (by kernel_rfl) (by rw [hn]; exact Nat.le_of_ble_eq_true rfl) (by rw [hn]; rfl) (h.weaken (fun _ _ => RetP.hands) (by simp))

/-- sastrugi/sastrugiref01.checkSpan -/
def c123 : ACode :=
  (.seq
(.reg [
  ⟨(some (true, 3)), .box (.g 0), none⟩,
  ⟨(some (true, 6)), .mv (.c (.lit (.int .i64 0))), none⟩])
(.seq
(.seq
(.reg [
  ⟨(some (false, 7)), .fa (.g 3) 0, none⟩,
  ⟨(some (false, 8)), .ld none (.l 7), none⟩,
  ⟨(some (false, 9)), .mv (.g 1), none⟩,
  ⟨(some (false, 10)), .mv (.g 2), none⟩,
  ⟨(some (false, 11)), .call (.c (.fn 150 [])) [.l 8, .l 9, .l 10], none⟩,
  ⟨(some (false, 12)), .mv (.l 11), none⟩,
  ⟨(some (false, 13)), .fa (.g 3) 1, (some (.l 12, false))⟩,
  ⟨(some (false, 14)), .ld none (.l 13), (some (.l 12, false))⟩,
  ⟨(some (false, 15)), .mv (.g 1), (some (.l 12, false))⟩,
  ⟨(some (false, 16)), .mv (.g 2), (some (.l 12, false))⟩,
  ⟨(some (false, 17)), .call (.c (.fn 150 [])) [.l 14, .l 15, .l 16], (some (.l 12, false))⟩,
  ⟨(some (true, 18)), .pick (.l 12) (.c (.lit (.bool true))) (.l 17), none⟩])
(.cond (.g 18)
(.seq
(.reg [
  ⟨(some (true, 6)), .mv (.c (.lit (.int .i64 2))), none⟩])
.ret)
.skip))
(.seq
(.seq
(.reg [
  ⟨(some (false, 19)), .fa (.g 3) 0, none⟩,
  ⟨(some (false, 20)), .ld none (.l 19), none⟩,
  ⟨(some (false, 21)), .fa (.g 3) 1, none⟩,
  ⟨(some (false, 22)), .ld none (.l 21), none⟩,
  ⟨(some (true, 23)), .bin .gtr (.l 20) (.l 22), none⟩])
(.cond (.g 23)
(.seq
(.reg [
  ⟨(some (true, 6)), .mv (.c (.lit (.int .i64 11))), none⟩])
.ret)
.skip))
(.seq
(.reg [
  ⟨(some (true, 6)), .mv (.c (.lit (.int .i64 0))), none⟩])
.ret))))
def K123 : List Nat := [0, 1, 2, 18, 23, 6, 3]
noncomputable def b123 : Code := match Try.f123.body with | some c => c | none => .skip
theorem t123 : trCode ⟨Try.prog, K123, [], 24, none⟩ b123 = some c123 := by kernel_rfl
theorem go123 {args : List AV} {H : AHeap} {Kk : AV → AHeap → Prop} (hn : args.length = 3) (h : AGo ⟨Try.prog, K123, [], 24, none⟩ H.length [.code c123] (RetP [.t (.g 6)] H.length Kk) ⟨[], argsG 0 args⟩ H) : ACalls Try.prog 123 args H Kk :=
  ACalls_of Try.func123 (c := b123) rfl (by kernel_rfl) t123 (rs := [.t (.g 6)]) (by kernel_rfl) (by rw [hn]; exact Nat.le_of_ble_eq_true rfl) (by rw [hn]; rfl) (h.weaken (fun _ _ => RetP.hands) (by simp))

/-- sastrugi/sastrugitop.awake1 -/
def c124 : ACode :=
  (.seq
(.reg [
  ⟨(some (true, 0)), .mv (.c (.lit (.bool false))), none⟩])
(.seq
(.reg [
  ⟨(some (false, 4)), .call (.c (.fn 75 [])) [.c (.lit (.int .i64 1000000))], none⟩,
  ⟨(some (false, 5)), .mk [.int .i64 0, .int .i64 0, .int .i64 0] [(1, 2, .l 4)], none⟩,
  ⟨(some (false, 6)), .mks false 3 [.l 5], none⟩,
  ⟨(some (false, 7)), .mk [.int .i64 0, .int .i64 0, .slice none 0 0, .int .i64 0, .int .i64 0, .int .i64 0, .int .i64 0, .int .i64 0] [(0, 1, .c (.lit (.int .i64 100))), (1, 1, .c (.lit (.int .i64 10))), (2, 1, .l 6)], none⟩,
  ⟨(some (true, 1)), .new [.int .i64 0, .int .i64 0, .slice none 0 0, .int .i64 0, .int .i64 0, .int .i64 0, .int .i64 0, .int .i64 0], none⟩,
  ⟨none, .st 8 (.g 1) (.l 7), none⟩])
(.seq
(.draw [
  ⟨⟨(some (false, 9)), .ld (some 8) (.g 1), none⟩, 0, true, []⟩,
  ⟨⟨(some (true, 2)), .new [.int .i64 0, .int .i64 0, .int .i64 0, .int .i64 0, .int .i64 0, .int .i64 0, .int .i64 0, .int .i64 0], none⟩, 9, true, []⟩,
  ⟨⟨(some (false, 10)), .call (.c (.fn 75 [])) [.c (.lit (.int .i64 300))], none⟩, 1, false, []⟩,
  ⟨⟨(some (false, 11)), .mk [.int .i64 0, .int .i64 0, .int .i64 0, .int .i64 0, .int .i64 0, .int .i64 0, .int .i64 0, .int .i64 0] [(0, 2, .l 10)], none⟩, 2, true, []⟩,
  ⟨⟨(some (false, 12)), .call (.c (.fn 75 [])) [.c (.lit (.int .i64 160))], none⟩, 3, false, []⟩,
  ⟨⟨(some (false, 13)), .mk [.int .i64 0, .int .i64 0, .int .i64 0, .int .i64 0, .int .i64 0, .bool false] [(0, 2, .l 12)], none⟩, 4, true, []⟩,
  ⟨⟨(some (false, 14)), .call (.c (.fn 151 [])) [.l 9, .l 11, .l 13], none⟩, 5, false, []⟩,
  ⟨⟨(some (false, 8)), .mv (.l 14), none⟩, 6, true, []⟩,
  ⟨⟨(some (false, 15)), .ex (.l 8) 0, none⟩, 7, true, []⟩,
  ⟨⟨(some (false, 16)), .ex (.l 8) 1, none⟩, 8, false, []⟩,
  ⟨⟨none, .st 8 (.g 2) (.l 15), none⟩, 10, false, [9]⟩,
  ⟨⟨(some (true, 3)), .mv (.l 16), none⟩, 11, false, [9]⟩])
(.seq
(.reg [
  ⟨(some (false, 17)), .mv (.g 3), none⟩,
  ⟨(some (false, 18)), .bin .eql (.l 17) (.c (.lit (.int .i64 0))), none⟩,
  ⟨(some (false, 19)), .mv (.l 18), none⟩,
  ⟨(some (false, 20)), .ld (some 8) (.g 2), (some (.l 19, true))⟩,
  ⟨(some (false, 21)), .mk [.int .i64 0, .int .i64 0] [(0, 1, .c (.lit (.int .i64 325))), (1, 1, .c (.lit (.int .i64 326)))], (some (.l 19, true))⟩,
  ⟨(some (false, 22)), .mk [.int .i64 0, .int .i64 0, .int .i64 0, .int .i64 0, .int .i64 0, .int .i64 0, .int .i64 0, .int .i64 0] [(0, 2, .l 21)], (some (.l 19, true))⟩,
  ⟨(some (false, 23)), .eqs false (.fld 0 (some 2) (.fld 0 none .i (.fld 1 none .i .nil)) (.fld 2 (some 2) (.fld 0 none .i (.fld 1 none .i .nil)) (.fld 4 (some 2) (.fld 0 none .i (.fld 1 none .i .nil)) (.fld 6 (some 2) (.fld 0 none .i (.fld 1 none .i .nil)) .nil)))) (.l 20) (.l 22), (some (.l 19, true))⟩,
  ⟨(some (false, 24)), .pick (.l 19) (.l 23) (.c (.lit (.bool false))), none⟩,
  ⟨(some (false, 25)), .mv (.l 24), none⟩,
  ⟨(some (false, 26)), .call (.c (.fn 152 [])) [.c (.lit (.int .i64 99))], (some (.l 25, true))⟩,
  ⟨(some (false, 27)), .bin .eql (.l 26) (.c (.lit (.int .i64 9))), (some (.l 25, true))⟩,
  ⟨(some (false, 28)), .pick (.l 25) (.l 27) (.c (.lit (.bool false))), none⟩,
  ⟨(some (true, 0)), .mv (.l 28), none⟩])
.ret))))
def K124 : List Nat := [0, 1, 2, 3]
noncomputable def b124 : Code := match Try.f124.body with | some c => c | none => .skip
theorem t124 : trCode ⟨Try.prog, K124, [], 29, none⟩ b124 = some c124 := by kernel_rfl
theorem go124 {args : List AV} {H : AHeap} {Kk : AV → AHeap → Prop} (hn : args.length = 0) (h : AGo ⟨Try.prog, K124, [], 29, none⟩ H.length [.code c124] (RetP [.t (.g 0)] H.length Kk) ⟨[], argsG 0 args⟩ H) : ACalls Try.prog 124 args H Kk :=
  ACalls_of Try.func124 (c := b124) rfl (by kernel_rfl) t124 (rs := [.t (.g 0)]) (by kernel_rfl) (by rw [hn]; exact Nat.le_of_ble_eq_true rfl) (by rw [hn]; rfl) (h.weaken (fun _ _ => RetP.hands) (by simp))

/-- (sastrugi/frost.day).bears -/
def c125 : ACode :=
  (.seq
(.reg [
  ⟨(some (true, 2)), .box (.g 0), none⟩,
  ⟨(some (true, 3)), .box (.g 1), none⟩,
  ⟨(some (true, 4)), .new [.int .i64 0, .int .i64 0], none⟩])
(.seq
(.draw [
  ⟨⟨(some (false, 5)), .iaa 4 2 (.g 3) (.c (.lit (.int .i64 0))), none⟩, 0, true, []⟩,
  ⟨⟨(some (false, 6)), .fa (.l 5) 0, none⟩, 1, true, []⟩,
  ⟨⟨(some (false, 7)), .ld none (.l 6), none⟩, 2, true, []⟩,
  ⟨⟨(some (false, 8)), .iaa 4 2 (.g 3) (.c (.lit (.int .i64 1))), none⟩, 3, true, []⟩,
  ⟨⟨(some (false, 9)), .fa (.l 8) 0, none⟩, 4, true, []⟩,
  ⟨⟨(some (false, 10)), .ld none (.l 9), none⟩, 5, true, []⟩,
  ⟨⟨(some (false, 11)), .fa (.g 2) 0, none⟩, 6, true, []⟩,
  ⟨⟨(some (false, 12)), .fa (.l 11) 6, none⟩, 7, true, []⟩,
  ⟨⟨(some (false, 13)), .fa (.l 12) 0, none⟩, 8, true, []⟩,
  ⟨⟨(some (false, 14)), .ld none (.l 13), none⟩, 9, true, []⟩,
  ⟨⟨(some (false, 17)), .iaa 4 2 (.g 3) (.c (.lit (.int .i64 0))), none⟩, 12, true, []⟩,
  ⟨⟨(some (false, 18)), .fa (.l 17) 1, none⟩, 13, true, []⟩,
  ⟨⟨(some (false, 19)), .ld none (.l 18), none⟩, 14, true, []⟩,
  ⟨⟨(some (false, 20)), .iaa 4 2 (.g 3) (.c (.lit (.int .i64 1))), none⟩, 15, true, []⟩,
  ⟨⟨(some (false, 21)), .fa (.l 20) 1, none⟩, 16, true, []⟩,
  ⟨⟨(some (false, 22)), .ld none (.l 21), none⟩, 17, true, []⟩,
  ⟨⟨(some (false, 23)), .fa (.g 2) 0, none⟩, 18, true, []⟩,
  ⟨⟨(some (false, 24)), .fa (.l 23) 6, none⟩, 19, true, []⟩,
  ⟨⟨(some (false, 25)), .fa (.l 24) 1, none⟩, 20, true, []⟩,
  ⟨⟨(some (false, 26)), .ld none (.l 25), none⟩, 21, true, []⟩,
  ⟨⟨(some (false, 15)), .call (.c (.fn 153 [])) [.l 10, .l 14], none⟩, 10, false, []⟩,
  ⟨⟨(some (false, 16)), .bin .add (.l 7) (.l 15), none⟩, 11, true, []⟩,
  ⟨⟨(some (false, 27)), .call (.c (.fn 154 [])) [.l 22, .l 26], none⟩, 22, false, []⟩,
  ⟨⟨(some (false, 28)), .bin .add (.l 19) (.l 27), none⟩, 23, true, []⟩,
  ⟨⟨(some (false, 29)), .mk [.int .i64 0, .int .i64 0] [(0, 1, .l 16), (1, 1, .l 28)], none⟩, 24, true, []⟩,
  ⟨⟨none, .st 2 (.g 4) (.l 29), none⟩, 25, true, []⟩])
.ret))
def K125 : List Nat := [0, 1, 4, 2, 3]
noncomputable def b125 : Code := match Try.f125.body with | some c => c | none => .skip
theorem t125 : trCode ⟨Try.prog, K125, [], 30, none⟩ b125 = some c125 := by kernel_rfl
theorem go125 {args : List AV} {H : AHeap} {Kk : AV → AHeap → Prop} (hn : args.length = 2) (h : AGo ⟨Try.prog, K125, [], 30, none⟩ H.length [.code c125] (RetP [.cell (.g 4) (some 2)] H.length Kk) ⟨[], argsG 0 args⟩ H) : ACalls Try.prog 125 args H Kk :=
  ACalls_of Try.func125 (c := b125) rfl (by kernel_rfl) t125 (rs := [.cell (.g 4) (some 2)]) (by kernel_rfl) (by rw [hn]; exact Nat.le_of_ble_eq_true rfl) (by rw [hn]; rfl) (h.weaken (fun _ _ => RetP.hands) (by simp))

/-- sastrugi/sastrugiref01.Down -/
def c126 : ACode :=
  (.seq
(.reg [
  ⟨(some (true, 4)), .mv (.c (.lit (.int .i64 0))), none⟩])
(.seq
(.reg [
  ⟨(some (false, 5)), .mv (.g 0), none⟩,
  ⟨(some (false, 6)), .mv (.g 1), none⟩,
  ⟨(some (false, 7)), .bin .mul (.l 5) (.l 6), none⟩,
  ⟨(some (false, 8)), .bin .quo (.l 7) (.c (.lit (.int .i64 1000000))), none⟩,
  ⟨(some (true, 4)), .mv (.l 8), none⟩])
.ret))
def K126 : List Nat := [0, 1, 4]
noncomputable def b126 : Code := match Try.f126.body with | some c => c | none => .skip
theorem t126 : trCode ⟨Try.prog, K126, [], 9, none⟩ b126 = some c126 := by kernel_rfl
theorem go126 {args : List AV} {H : AHeap} {Kk : AV → AHeap → Prop} (hn : args.length = 2) (h : AGo ⟨Try.prog, K126, [], 9, none⟩ H.length [.code c126] (RetP [.t (.g 4)] H.length Kk) ⟨[], argsG 0 args⟩ H) : ACalls Try.prog 126 args H Kk :=
  ACalls_of Try.func126 (c := b126) rfl (by kernel_rfl) t126 (rs := [.t (.g 4)]) (by kernel_rfl) (by rw [hn]; exact Nat.le_of_ble_eq_true rfl) (by rw [hn]; rfl) (h.weaken (fun _ _ => RetP.hands) (by simp))

/-- sastrugi/sastrugiref01.Up -/
def c127 : ACode :=
  (.seq
(.reg [
  ⟨(some (true, 4)), .mv (.c (.lit (.int .i64 0))), none⟩])
(.seq
(.reg [
  ⟨(some (false, 5)), .mv (.g 0), none⟩,
  ⟨(some (false, 6)), .mv (.g 1), none⟩,
  ⟨(some (false, 7)), .bin .mul (.l 5) (.l 6), none⟩,
  ⟨(some (false, 8)), .bin .add (.l 7) (.c (.lit (.int .i64 1000000))), none⟩,
  ⟨(some (false, 9)), .bin .sub (.l 8) (.c (.lit (.int .i64 1))), none⟩,
  ⟨(some (false, 10)), .bin .quo (.l 9) (.c (.lit (.int .i64 1000000))), none⟩,
  ⟨(some (true, 4)), .mv (.l 10), none⟩])
.ret))
def K127 : List Nat := [0, 1, 4]
noncomputable def b127 : Code := match Try.f127.body with | some c => c | none => .skip
theorem t127 : trCode ⟨Try.prog, K127, [], 11, none⟩ b127 = some c127 := by kernel_rfl
theorem go127 {args : List AV} {H : AHeap} {Kk : AV → AHeap → Prop} (hn : args.length = 2) (h : AGo ⟨Try.prog, K127, [], 11, none⟩ H.length [.code c127] (RetP [.t (.g 4)] H.length Kk) ⟨[], argsG 0 args⟩ H) : ACalls Try.prog 127 args H Kk :=
  ACalls_of Try.func127 (c := b127) rfl (by kernel_rfl) t127 (rs := [.t (.g 4)]) (by kernel_rfl) (by rw [hn]; exact Nat.le_of_ble_eq_true rfl) (by rw [hn]; rfl) (h.weaken (fun _ _ => RetP.hands) (by simp))

/-- sastrugi/frost.Check -/
def c143 : ACode :=
  (.seq
(.reg [
  ⟨(some (true, 1)), .box (.g 0), none⟩,
  ⟨(some (true, 2)), .mv (.c (.lit (.int .i64 0))), none⟩])
(.seq
(.seq
(.reg [
  ⟨(some (false, 5)), .fa (.g 1) 0, none⟩,
  ⟨(some (false, 6)), .ld none (.l 5), none⟩,
  ⟨(some (false, 7)), .bin .lss (.l 6) (.c (.lit (.int .i64 0))), none⟩,
  ⟨(some (false, 8)), .mv (.l 7), none⟩,
  ⟨(some (false, 9)), .fa (.g 1) 0, (some (.l 8, false))⟩,
  ⟨(some (false, 10)), .ld none (.l 9), (some (.l 8, false))⟩,
  ⟨(some (false, 11)), .bin .gtr (.l 10) (.c (.lit (.int .i64 10000))), (some (.l 8, false))⟩,
  ⟨(some (false, 12)), .pick (.l 8) (.c (.lit (.bool true))) (.l 11), none⟩,
  ⟨(some (false, 13)), .mv (.l 12), none⟩,
  ⟨(some (false, 14)), .fa (.g 1) 1, (some (.l 13, false))⟩,
  ⟨(some (false, 15)), .ld none (.l 14), (some (.l 13, false))⟩,
  ⟨(some (false, 16)), .bin .lss (.l 15) (.c (.lit (.int .i64 1))), (some (.l 13, false))⟩,
  ⟨(some (false, 17)), .pick (.l 13) (.c (.lit (.bool true))) (.l 16), none⟩,
  ⟨(some (false, 18)), .mv (.l 17), none⟩,
  ⟨(some (false, 19)), .fa (.g 1) 1, (some (.l 18, false))⟩,
  ⟨(some (false, 20)), .ld none (.l 19), (some (.l 18, false))⟩,
  ⟨(some (false, 21)), .bin .gtr (.l 20) (.c (.lit (.int .i64 1000))), (some (.l 18, false))⟩,
  ⟨(some (true, 22)), .pick (.l 18) (.c (.lit (.bool true))) (.l 21), none⟩])
(.cond (.g 22)
(.seq
(.reg [
  ⟨(some (true, 2)), .mv (.c (.lit (.int .i64 2))), none⟩])
.ret)
.skip))
(.seq
(.seq
(.reg [
  ⟨(some (false, 23)), .fa (.g 1) 2, none⟩,
  ⟨(some (false, 24)), .ld none (.l 23), none⟩,
  ⟨(some (false, 25)), .call (.c (.fn 158 [])) [.l 24], none⟩,
  ⟨(some (true, 3)), .mv (.l 25), none⟩])
(.seq
(.reg [
  ⟨(some (false, 26)), .mv (.g 3), none⟩,
  ⟨(some (true, 27)), .bin .neq (.l 26) (.c (.lit (.int .i64 0))), none⟩])
(.cond (.g 27)
(.seq
(.reg [
  ⟨(some (false, 28)), .mv (.g 3), none⟩,
  ⟨(some (true, 2)), .mv (.l 28), none⟩])
.ret)
.skip)))
(.seq
(.seq
(.reg [
  ⟨(some (false, 29)), .fa (.g 1) 3, none⟩,
  ⟨(some (false, 30)), .ld (some 2) (.l 29), none⟩,
  ⟨(some (false, 31)), .call (.c (.fn 159 [])) [.l 30, .c (.lit (.int .i64 0)), .c (.lit (.int .i64 10000000))], none⟩,
  ⟨(some (true, 4)), .mv (.l 31), none⟩])
(.seq
(.reg [
  ⟨(some (false, 32)), .mv (.g 4), none⟩,
  ⟨(some (true, 33)), .bin .neq (.l 32) (.c (.lit (.int .i64 0))), none⟩])
(.cond (.g 33)
(.seq
(.reg [
  ⟨(some (false, 34)), .mv (.g 4), none⟩,
  ⟨(some (true, 2)), .mv (.l 34), none⟩])
.ret)
.skip)))
(.seq
(.seq
(.reg [
  ⟨(some (false, 35)), .fa (.g 1) 5, none⟩,
  ⟨(some (false, 36)), .ld none (.l 35), none⟩,
  ⟨(some (false, 37)), .bin .lss (.l 36) (.c (.lit (.int .i64 0))), none⟩,
  ⟨(some (false, 38)), .mv (.l 37), none⟩,
  ⟨(some (false, 39)), .fa (.g 1) 5, (some (.l 38, false))⟩,
  ⟨(some (false, 40)), .ld none (.l 39), (some (.l 38, false))⟩,
  ⟨(some (false, 41)), .bin .gtr (.l 40) (.c (.lit (.int .i64 1000000))), (some (.l 38, false))⟩,
  ⟨(some (true, 42)), .pick (.l 38) (.c (.lit (.bool true))) (.l 41), none⟩])
(.cond (.g 42)
(.seq
(.reg [
  ⟨(some (true, 2)), .mv (.c (.lit (.int .i64 2))), none⟩])
.ret)
.skip))
(.seq
(.reg [
  ⟨(some (false, 43)), .fa (.g 1) 6, none⟩,
  ⟨(some (false, 44)), .ld (some 2) (.l 43), none⟩,
  ⟨(some (false, 45)), .call (.c (.fn 159 [])) [.l 44, .c (.lit (.int .i64 0)), .c (.lit (.int .i64 1000000))], none⟩,
  ⟨(some (true, 2)), .mv (.l 45), none⟩])
.ret))))))
def K143 : List Nat := [0, 22, 27, 33, 42, 2, 1, 3, 4]
noncomputable def b143 : Code := match Try.f143.body with | some c => c | none => .skip
theorem t143 : trCode ⟨Try.prog, K143, [], 46, none⟩ b143 = some c143 := by kernel_rfl
theorem go143 {args : List AV} {H : AHeap} {Kk : AV → AHeap → Prop} (hn : args.length = 1) (h : AGo ⟨Try.prog, K143, [], 46, none⟩ H.length [.code c143] (RetP [.t (.g 2)] H.length Kk) ⟨[], argsG 0 args⟩ H) : ACalls Try.prog 143 args H Kk :=
  ACalls_of Try.func143 (c := b143) rfl (by kernel_rfl) t143 (rs := [.t (.g 2)]) (by kernel_rfl) (by rw [hn]; exact Nat.le_of_ble_eq_true rfl) (by rw [hn]; rfl) (h.weaken (fun _ _ => RetP.hands) (by simp))

/-- sastrugi/frost.CheckIce -/
def c144 : ACode :=
  (.seq
(.reg [
  ⟨(some (true, 1)), .box (.g 0), none⟩,
  ⟨(some (true, 2)), .mv (.c (.lit (.int .i64 0))), none⟩])
(.seq
(.seq
(.reg [
  ⟨(some (false, 6)), .ld (some 8) (.g 1), none⟩,
  ⟨(some (true, 7)), .call (.c (.fn 116 [])) [.l 6], none⟩,
  ⟨(some (true, 8)), .mv (.c (.lit (.int .i64 0))), none⟩])
(.block 0
(.loop
(.seq
(.reg [
  ⟨(some (true, 9)), .bin .lss (.g 8) (.c (.lit (.int .i64 4))), none⟩])
(.seq
(.cond (.g 9)
.skip
(.exit 0))
(.seq
(.block 1
(.seq
(.reg [
  ⟨(some (false, 10)), .ix 4 2 (some 2) (.g 7) (.g 8), none⟩,
  ⟨(some (true, 4)), .new [.int .i64 0, .int .i64 0], none⟩,
  ⟨none, .st 2 (.g 4) (.l 10), none⟩])
(.seq
(.reg [
  ⟨(some (false, 11)), .ld (some 2) (.g 4), none⟩,
  ⟨(some (false, 12)), .call (.c (.fn 159 [])) [.l 11, .c (.lit (.int .i64 0)), .c (.lit (.int .i64 5000))], none⟩,
  ⟨(some (true, 5)), .mv (.l 12), none⟩])
(.seq
(.reg [
  ⟨(some (false, 13)), .mv (.g 5), none⟩,
  ⟨(some (true, 14)), .bin .neq (.l 13) (.c (.lit (.int .i64 0))), none⟩])
(.cond (.g 14)
(.seq
(.reg [
  ⟨(some (false, 15)), .mv (.g 5), none⟩,
  ⟨(some (true, 2)), .mv (.l 15), none⟩])
.ret)
.skip)))))
(.reg [
  ⟨(some (false, 16)), .bin .add (.g 8) (.c (.lit (.int .i64 1))), none⟩,
  ⟨(some (true, 8)), .mv (.l 16), none⟩])))))))
(.seq
(.reg [
  ⟨(some (true, 2)), .mv (.c (.lit (.int .i64 0))), none⟩])
.ret)))
def K144 : List Nat := [0, 9, 14, 2, 1, 7, 8, 4, 5]
noncomputable def b144 : Code := match Try.f144.body with | some c => c | none => .skip
theorem t144 : trCode ⟨Try.prog, K144, [], 17, none⟩ b144 = some c144 := by kernel_rfl
theorem go144 {args : List AV} {H : AHeap} {Kk : AV → AHeap → Prop} (hn : args.length = 1) (h : AGo ⟨Try.prog, K144, [], 17, none⟩ H.length [.code c144] (RetP [.t (.g 2)] H.length Kk) ⟨[], argsG 0 args⟩ H) : ACalls Try.prog 144 args H Kk :=
  ACalls_of Try.func144 (c := b144) rfl (by kernel_rfl) t144 (rs := [.t (.g 2)]) (by kernel_rfl) (by rw [hn]; exact Nat.le_of_ble_eq_true rfl) (by rw [hn]; rfl) (h.weaken (fun _ _ => RetP.hands) (by simp))

/-- sastrugi/frost.checkDays -/
def c145 : ACode :=
  (.seq
(.reg [
  ⟨(some (true, 2)), .mv (.c (.lit (.int .i64 0))), none⟩])
(.seq
(.seq
(.reg [
  ⟨(some (false, 7)), .mv (.g 0), none⟩,
  ⟨(some (false, 8)), .len (.l 7), none⟩,
  ⟨(some (true, 9)), .bin .gtr (.l 8) (.c (.lit (.int .i64 400))), none⟩])
(.cond (.g 9)
(.seq
(.reg [
  ⟨(some (true, 2)), .mv (.c (.lit (.int .i64 8))), none⟩])
.ret)
.skip))
(.seq
(.seq
(.reg [
  ⟨(some (true, 10)), .mv (.g 0), none⟩,
  ⟨(some (true, 11)), .len (.g 10), none⟩,
  ⟨(some (true, 12)), .mv (.c (.lit (.int .i64 0))), none⟩])
(.block 0
(.loop
(.seq
(.reg [
  ⟨(some (true, 13)), .bin .lss (.g 12) (.g 11), none⟩])
(.seq
(.cond (.g 13)
.skip
(.exit 0))
(.seq
(.block 1
(.seq
(.reg [
  ⟨(some (false, 14)), .ia 6 (.g 10) (.g 12), none⟩,
  ⟨(some (false, 15)), .ld (some 6) (.l 14), none⟩,
  ⟨(some (true, 4)), .new [.int .i64 0, .int .i64 0, .int .i64 0, .int .i64 0, .int .i64 0, .bool false], none⟩,
  ⟨none, .st 6 (.g 4) (.l 15), none⟩])
(.seq
(.seq
(.reg [
  ⟨(some (false, 16)), .fa (.g 4) 0, none⟩,
  ⟨(some (false, 17)), .ld (some 2) (.l 16), none⟩,
  ⟨(some (false, 18)), .call (.c (.fn 159 [])) [.l 17, .c (.lit (.int .i64 (-1000))), .c (.lit (.int .i64 1000))], none⟩,
  ⟨(some (true, 5)), .mv (.l 18), none⟩])
(.seq
(.reg [
  ⟨(some (false, 19)), .mv (.g 5), none⟩,
  ⟨(some (true, 20)), .bin .neq (.l 19) (.c (.lit (.int .i64 0))), none⟩])
(.cond (.g 20)
(.seq
(.reg [
  ⟨(some (false, 21)), .mv (.g 5), none⟩,
  ⟨(some (true, 2)), .mv (.l 21), none⟩])
.ret)
.skip)))
(.seq
(.seq
(.reg [
  ⟨(some (false, 22)), .fa (.g 4) 2, none⟩,
  ⟨(some (false, 23)), .ld (some 2) (.l 22), none⟩,
  ⟨(some (false, 24)), .call (.c (.fn 159 [])) [.l 23, .c (.lit (.int .i64 0)), .c (.lit (.int .i64 1000))], none⟩,
  ⟨(some (true, 6)), .mv (.l 24), none⟩])
(.seq
(.reg [
  ⟨(some (false, 25)), .mv (.g 6), none⟩,
  ⟨(some (true, 26)), .bin .neq (.l 25) (.c (.lit (.int .i64 0))), none⟩])
(.cond (.g 26)
(.seq
(.reg [
  ⟨(some (false, 27)), .mv (.g 6), none⟩,
  ⟨(some (true, 2)), .mv (.l 27), none⟩])
.ret)
.skip)))
(.seq
(.reg [
  ⟨(some (false, 28)), .fa (.g 4) 4, none⟩,
  ⟨(some (false, 29)), .ld none (.l 28), none⟩,
  ⟨(some (false, 30)), .bin .lss (.l 29) (.c (.lit (.int .i64 0))), none⟩,
  ⟨(some (false, 31)), .mv (.l 30), none⟩,
  ⟨(some (false, 32)), .fa (.g 4) 4, (some (.l 31, false))⟩,
  ⟨(some (false, 33)), .ld none (.l 32), (some (.l 31, false))⟩,
  ⟨(some (false, 34)), .bin .gtr (.l 33) (.c (.lit (.int .i64 200))), (some (.l 31, false))⟩,
  ⟨(some (true, 35)), .pick (.l 31) (.c (.lit (.bool true))) (.l 34), none⟩])
(.cond (.g 35)
(.seq
(.reg [
  ⟨(some (true, 2)), .mv (.c (.lit (.int .i64 2))), none⟩])
.ret)
.skip))))))
(.reg [
  ⟨(some (false, 36)), .bin .add (.g 12) (.c (.lit (.int .i64 1))), none⟩,
  ⟨(some (true, 12)), .mv (.l 36), none⟩])))))))
(.seq
(.reg [
  ⟨(some (true, 2)), .mv (.c (.lit (.int .i64 0))), none⟩])
.ret))))
def K145 : List Nat := [0, 9, 13, 20, 26, 35, 2, 10, 11, 12, 4, 5, 6]
noncomputable def b145 : Code := match Try.f145.body with | some c => c | none => .skip
theorem t145 : trCode ⟨Try.prog, K145, [], 37, none⟩ b145 = some c145 := by kernel_rfl
theorem go145 {args : List AV} {H : AHeap} {Kk : AV → AHeap → Prop} (hn : args.length = 1) (h : AGo ⟨Try.prog, K145, [], 37, none⟩ H.length [.code c145] (RetP [.t (.g 2)] H.length Kk) ⟨[], argsG 0 args⟩ H) : ACalls Try.prog 145 args H Kk :=
  ACalls_of Try.func145 (c := b145) rfl (by kernel_rfl) t145 (rs := [.t (.g 2)]) (by kernel_rfl) (by rw [hn]; exact Nat.le_of_ble_eq_true rfl) (by rw [hn]; rfl) (h.weaken (fun _ _ => RetP.hands) (by simp))

/-- (sastrugi/frost.day).course$1 -/
def c146 : ACode :=
  (.seq
(.reg [
  ⟨(some (false, 8)), .ld (some 8) (.g 1), none⟩,
  ⟨(some (true, 5)), .new [.int .i64 0, .int .i64 0, .int .i64 0, .int .i64 0, .int .i64 0, .int .i64 0, .int .i64 0, .int .i64 0], none⟩,
  ⟨none, .st 8 (.g 5) (.l 8), none⟩])
(.seq
(.reg [
  ⟨(some (true, 9)), .ld none (.g 2), none⟩,
  ⟨(some (true, 10)), .len (.g 9), none⟩,
  ⟨(some (true, 11)), .mv (.c (.lit (.int .i64 0))), none⟩])
(.block 0
(.loop
(.seq
(.reg [
  ⟨(some (true, 12)), .bin .lss (.g 11) (.g 10), none⟩])
(.seq
(.cond (.g 12)
.skip
(.exit 0))
(.seq
(.block 1
(.seq
(.reg [
  ⟨(some (false, 13)), .mv (.g 11), none⟩,
  ⟨(some (false, 14)), .ia 6 (.g 9) (.g 11), none⟩,
  ⟨(some (false, 15)), .ld (some 6) (.l 14), none⟩,
  ⟨(some (true, 7)), .new [.int .i64 0, .int .i64 0, .int .i64 0, .int .i64 0, .int .i64 0, .bool false], none⟩,
  ⟨(some (true, 6)), .mv (.l 13), none⟩,
  ⟨none, .st 6 (.g 7) (.l 15), none⟩])
(.seq
(.reg [
  ⟨(some (false, 16)), .ld (some 8) (.g 3), none⟩,
  ⟨(some (false, 17)), .ld (some 8) (.g 5), none⟩,
  ⟨(some (false, 18)), .ld (some 6) (.g 7), none⟩,
  ⟨(some (false, 19)), .call (.c (.fn 147 [])) [.l 16, .l 17, .l 18], none⟩,
  ⟨none, .st 8 (.g 5) (.l 19), none⟩])
(.seq
(.reg [
  ⟨(some (false, 20)), .mv (.g 0), none⟩,
  ⟨(some (false, 21)), .mv (.g 6), none⟩,
  ⟨(some (false, 22)), .ld (some 8) (.g 5), none⟩,
  ⟨(some (false, 23)), .call (.l 20) [.l 21, .l 22], none⟩,
  ⟨(some (true, 24)), .un .not (.l 23), none⟩])
(.cond (.g 24)
.ret
.skip)))))
(.reg [
  ⟨(some (false, 25)), .bin .add (.g 11) (.c (.lit (.int .i64 1))), none⟩,
  ⟨(some (true, 11)), .mv (.l 25), none⟩]))))))))
def K146 : List Nat := [0, 1, 2, 3, 12, 24, 5, 9, 10, 11, 7, 6]
noncomputable def b146 : Code := match Try.f146.body with | some c => c | none => .skip
theorem t146 : trCode ⟨Try.prog, K146, [], 26, none⟩ b146 = some c146 := by kernel_rfl
theorem go146 {args : List AV} {H : AHeap} {Kk : AV → AHeap → Prop} (hn : args.length = 4) (h : AGo ⟨Try.prog, K146, [], 26, none⟩ H.length [.code c146] (RetP [] H.length Kk) ⟨[], argsG 0 args⟩ H) : ACalls Try.prog 146 args H Kk :=
  ACalls_of Try.func146 (c := b146) rfl (by kernel_rfl) t146 (rs := []) (by kernel_rfl) (by rw [hn]; exact Nat.le_of_ble_eq_true rfl) (by rw [hn]; rfl) (h.weaken (fun _ _ => RetP.hands) (by simp))

/-- (sastrugi/frost.day).after -/
def c147 : ACode :=
  (.seq
(.reg [
  ⟨(some (true, 3)), .box (.g 0), none⟩,
  ⟨(some (true, 4)), .box (.g 1), none⟩,
  ⟨(some (true, 5)), .box (.g 2), none⟩,
  ⟨(some (true, 6)), .new [.int .i64 0, .int .i64 0, .int .i64 0, .int .i64 0, .int .i64 0, .int .i64 0, .int .i64 0, .int .i64 0], none⟩])
(.seq
(.reg [
  ⟨(some (false, 7)), .ld (some 8) (.g 3), none⟩,
  ⟨(some (false, 8)), .ld (some 8) (.g 4), none⟩,
  ⟨(some (false, 9)), .ld (some 6) (.g 5), none⟩,
  ⟨(some (false, 10)), .call (.c (.fn 160 [])) [.l 7, .l 8, .l 9], none⟩,
  ⟨none, .st 8 (.g 4) (.l 10), none⟩])
(.seq
(.block 0
(.seq
(.reg [
  ⟨(some (false, 12)), .fa (.g 5) 0, none⟩,
  ⟨(some (false, 13)), .fa (.l 12) 0, none⟩,
  ⟨(some (false, 14)), .ld none (.l 13), none⟩,
  ⟨(some (false, 15)), .bin .geq (.l 14) (.c (.lit (.int .i64 0))), none⟩,
  ⟨(some (true, 11)), .mv (.l 15), none⟩])
(.cond (.g 11)
(.seq
(.reg [
  ⟨(some (false, 16)), .ld (some 8) (.g 3), none⟩,
  ⟨(some (false, 17)), .ld (some 8) (.g 4), none⟩,
  ⟨(some (false, 18)), .fa (.g 5) 0, none⟩,
  ⟨(some (false, 19)), .ld (some 2) (.l 18), none⟩,
  ⟨(some (false, 20)), .call (.c (.fn 161 [])) [.l 16, .l 17, .l 19], none⟩,
  ⟨none, .st 8 (.g 6) (.l 20), none⟩])
.ret)
(.seq
(.reg [
  ⟨(some (false, 22)), .fa (.g 5) 0, none⟩,
  ⟨(some (false, 23)), .fa (.l 22) 1, none⟩,
  ⟨(some (false, 24)), .ld none (.l 23), none⟩,
  ⟨(some (false, 25)), .bin .lss (.l 24) (.c (.lit (.int .i64 0))), none⟩,
  ⟨(some (true, 21)), .mv (.l 25), none⟩])
(.cond (.g 21)
(.seq
(.reg [
  ⟨(some (false, 26)), .ld (some 8) (.g 3), none⟩,
  ⟨(some (false, 27)), .ld (some 8) (.g 4), none⟩,
  ⟨(some (false, 28)), .fa (.g 5) 0, none⟩,
  ⟨(some (false, 29)), .ld (some 2) (.l 28), none⟩,
  ⟨(some (false, 30)), .call (.c (.fn 162 [])) [.l 26, .l 27, .l 29], none⟩,
  ⟨none, .st 8 (.g 6) (.l 30), none⟩])
.ret)
.skip)))))
(.seq
(.draw [
  ⟨⟨(some (false, 31)), .ld (some 8) (.g 3), none⟩, 0, true, []⟩,
  ⟨⟨(some (false, 32)), .ld (some 8) (.g 4), none⟩, 1, true, []⟩,
  ⟨⟨(some (false, 33)), .fa (.g 5) 0, none⟩, 2, true, []⟩,
  ⟨⟨(some (false, 34)), .fa (.l 33) 1, none⟩, 3, true, []⟩,
  ⟨⟨(some (false, 35)), .ld none (.l 34), none⟩, 4, true, []⟩,
  ⟨⟨(some (false, 36)), .mk [.int .i64 0, .int .i64 0] [(1, 1, .l 35)], none⟩, 5, true, []⟩,
  ⟨⟨(some (false, 38)), .ld (some 8) (.g 3), none⟩, 7, true, []⟩,
  ⟨⟨(some (false, 39)), .ld (some 8) (.g 4), none⟩, 8, true, []⟩,
  ⟨⟨(some (false, 40)), .fa (.g 5) 0, none⟩, 9, true, []⟩,
  ⟨⟨(some (false, 41)), .fa (.l 40) 0, none⟩, 10, true, []⟩,
  ⟨⟨(some (false, 42)), .ld none (.l 41), none⟩, 11, true, []⟩,
  ⟨⟨(some (false, 43)), .mk [.int .i64 0, .int .i64 0] [(0, 1, .l 42), (1, 1, .c (.lit (.int .i64 (-1))))], none⟩, 12, true, []⟩,
  ⟨⟨(some (false, 37)), .call (.c (.fn 161 [])) [.l 31, .l 32, .l 36], none⟩, 6, false, []⟩,
  ⟨⟨(some (false, 44)), .call (.c (.fn 162 [])) [.l 38, .l 39, .l 43], none⟩, 13, false, []⟩,
  ⟨⟨(some (false, 45)), .call (.c (.fn 163 [])) [.l 37, .l 44], none⟩, 14, false, []⟩,
  ⟨⟨none, .st 8 (.g 6) (.l 45), none⟩, 15, true, []⟩])
.ret))))
def K147 : List Nat := [0, 1, 2, 11, 21, 6, 3, 4, 5]
noncomputable def b147 : Code := match Try.f147.body with | some c => c | none => .skip
theorem t147 : trCode ⟨Try.prog, K147, [], 46, none⟩ b147 = some c147 := by kernel_rfl
theorem go147 {args : List AV} {H : AHeap} {Kk : AV → AHeap → Prop} (hn : args.length = 3) (h : AGo ⟨Try.prog, K147, [], 46, none⟩ H.length [.code c147] (RetP [.cell (.g 6) (some 8)] H.length Kk) ⟨[], argsG 0 args⟩ H) : ACalls Try.prog 147 args H Kk :=
  ACalls_of Try.func147 (c := b147) rfl (by kernel_rfl) t147 (rs := [.cell (.g 6) (some 8)]) (by kernel_rfl) (by rw [hn]; exact Nat.le_of_ble_eq_true rfl) (by rw [hn]; rfl) (h.weaken (fun _ _ => RetP.hands) (by simp))

/-- sastrugi/sastrugiref01.Root -/
def c148 : ACode :=
  (.seq
(.reg [
  ⟨(some (true, 2)), .mv (.c (.lit (.int .i64 0))), none⟩])
(.seq
(.seq
(.reg [
  ⟨(some (false, 6)), .mv (.g 0), none⟩,
  ⟨(some (true, 7)), .bin .lss (.l 6) (.c (.lit (.int .i64 1))), none⟩])
(.cond (.g 7)
(.seq
(.reg [
  ⟨(some (true, 2)), .mv (.c (.lit (.int .i64 0))), none⟩])
.ret)
.skip))
(.seq
(.reg [
  ⟨(some (true, 3)), .mv (.c (.lit (.int .i64 1))), none⟩,
  ⟨(some (true, 4)), .mv (.c (.lit (.int .i64 3037000500))), none⟩])
(.seq
(.block 0
(.loop
(.seq
(.seq
(.reg [
  ⟨(some (false, 8)), .mv (.g 4), none⟩,
  ⟨(some (false, 9)), .mv (.g 3), none⟩,
  ⟨(some (false, 10)), .bin .sub (.l 8) (.l 9), none⟩,
  ⟨(some (true, 11)), .bin .gtr (.l 10) (.c (.lit (.int .i64 1))), none⟩])
(.cond (.g 11)
.skip
(.exit 0)))
(.block 1
(.seq
(.reg [
  ⟨(some (false, 12)), .mv (.g 3), none⟩,
  ⟨(some (false, 13)), .mv (.g 4), none⟩,
  ⟨(some (false, 14)), .bin .add (.l 12) (.l 13), none⟩,
  ⟨(some (false, 15)), .bin .quo (.l 14) (.c (.lit (.int .i64 2))), none⟩,
  ⟨(some (true, 5)), .mv (.l 15), none⟩])
(.seq
(.reg [
  ⟨(some (false, 16)), .mv (.g 5), none⟩,
  ⟨(some (false, 17)), .mv (.g 5), none⟩,
  ⟨(some (false, 18)), .bin .mul (.l 16) (.l 17), none⟩,
  ⟨(some (false, 19)), .mv (.g 0), none⟩,
  ⟨(some (true, 20)), .bin .leq (.l 18) (.l 19), none⟩])
(.cond (.g 20)
(.reg [
  ⟨(some (false, 21)), .mv (.g 5), none⟩,
  ⟨(some (true, 3)), .mv (.l 21), none⟩])
(.reg [
  ⟨(some (false, 22)), .mv (.g 5), none⟩,
  ⟨(some (true, 4)), .mv (.l 22), none⟩]))))))))
(.seq
(.reg [
  ⟨(some (false, 23)), .mv (.g 3), none⟩,
  ⟨(some (true, 2)), .mv (.l 23), none⟩])
.ret)))))
def K148 : List Nat := [0, 7, 11, 20, 2, 3, 4, 5]
noncomputable def b148 : Code := match Try.f148.body with | some c => c | none => .skip
theorem t148 : trCode ⟨Try.prog, K148, [], 24, none⟩ b148 = some c148 := by kernel_rfl
theorem go148 {args : List AV} {H : AHeap} {Kk : AV → AHeap → Prop} (hn : args.length = 1) (h : AGo ⟨Try.prog, K148, [], 24, none⟩ H.length [.code c148] (RetP [.t (.g 2)] H.length Kk) ⟨[], argsG 0 args⟩ H) : ACalls Try.prog 148 args H Kk :=
  ACalls_of Try.func148 (c := b148) rfl (by kernel_rfl) t148 (rs := [.t (.g 2)]) (by kernel_rfl) (by rw [hn]; exact Nat.le_of_ble_eq_true rfl) (by rw [hn]; rfl) (h.weaken (fun _ _ => RetP.hands) (by simp))

/-- sastrugi/sastrugiref01.roof -/
def c149 : ACode :=
  (.seq
(.reg [
  ⟨(some (true, 2)), .mv (.c (.lit (.int .i64 0))), none⟩])
(.seq
(.reg [
  ⟨(some (false, 4)), .mv (.g 0), none⟩,
  ⟨(some (false, 5)), .call (.c (.fn 148 [])) [.l 4], none⟩,
  ⟨(some (true, 3)), .mv (.l 5), none⟩])
(.seq
(.seq
(.reg [
  ⟨(some (false, 6)), .mv (.g 3), none⟩,
  ⟨(some (false, 7)), .mv (.g 3), none⟩,
  ⟨(some (false, 8)), .bin .mul (.l 6) (.l 7), none⟩,
  ⟨(some (false, 9)), .mv (.g 0), none⟩,
  ⟨(some (true, 10)), .bin .lss (.l 8) (.l 9), none⟩])
(.cond (.g 10)
(.reg [
  ⟨(some (false, 11)), .mv (.g 3), none⟩,
  ⟨(some (false, 12)), .bin .add (.l 11) (.c (.lit (.int .i64 1))), none⟩,
  ⟨(some (true, 3)), .mv (.l 12), none⟩])
.skip))
(.seq
(.reg [
  ⟨(some (false, 13)), .mv (.g 3), none⟩,
  ⟨(some (true, 2)), .mv (.l 13), none⟩])
.ret))))
def K149 : List Nat := [0, 10, 2, 3]
noncomputable def b149 : Code := match Try.f149.body with | some c => c | none => .skip
theorem t149 : trCode ⟨Try.prog, K149, [], 14, none⟩ b149 = some c149 := by kernel_rfl
theorem go149 {args : List AV} {H : AHeap} {Kk : AV → AHeap → Prop} (hn : args.length = 1) (h : AGo ⟨Try.prog, K149, [], 14, none⟩ H.length [.code c149] (RetP [.t (.g 2)] H.length Kk) ⟨[], argsG 0 args⟩ H) : ACalls Try.prog 149 args H Kk :=
  ACalls_of Try.func149 (c := b149) rfl (by kernel_rfl) t149 (rs := [.t (.g 2)]) (by kernel_rfl) (by rw [hn]; exact Nat.le_of_ble_eq_true rfl) (by rw [hn]; rfl) (h.weaken (fun _ _ => RetP.hands) (by simp))

/-- sastrugi/sastrugiref01.outside -/
def c150 : ACode :=
  (.seq
(.reg [
  ⟨(some (true, 6)), .mv (.c (.lit (.bool false))), none⟩])
(.seq
(.reg [
  ⟨(some (false, 7)), .mv (.g 0), none⟩,
  ⟨(some (false, 8)), .mv (.g 1), none⟩,
  ⟨(some (false, 9)), .bin .lss (.l 7) (.l 8), none⟩,
  ⟨(some (false, 10)), .mv (.l 9), none⟩,
  ⟨(some (false, 11)), .mv (.g 0), (some (.l 10, false))⟩,
  ⟨(some (false, 12)), .mv (.g 2), (some (.l 10, false))⟩,
  ⟨(some (false, 13)), .bin .gtr (.l 11) (.l 12), (some (.l 10, false))⟩,
  ⟨(some (false, 14)), .pick (.l 10) (.c (.lit (.bool true))) (.l 13), none⟩,
  ⟨(some (true, 6)), .mv (.l 14), none⟩])
.ret))
def K150 : List Nat := [0, 1, 2, 6]
noncomputable def b150 : Code := match Try.f150.body with | some c => c | none => .skip
theorem t150 : trCode ⟨Try.prog, K150, [], 15, none⟩ b150 = some c150 := by kernel_rfl
theorem go150 {args : List AV} {H : AHeap} {Kk : AV → AHeap → Prop} (hn : args.length = 3) (h : AGo ⟨Try.prog, K150, [], 15, none⟩ H.length [.code c150] (RetP [.t (.g 6)] H.length Kk) ⟨[], argsG 0 args⟩ H) : ACalls Try.prog 150 args H Kk :=
  ACalls_of Try.func150 (c := b150) rfl (by kernel_rfl) t150 (rs := [.t (.g 6)]) (by kernel_rfl) (by rw [hn]; exact Nat.le_of_ble_eq_true rfl) (by rw [hn]; rfl) (h.weaken (fun _ _ => RetP.hands) (by simp))

/-- sastrugi/frost.Step -/
def c151 : ACode :=
  (.seq
(.reg [
  ⟨(some (true, 3)), .box (.g 0), none⟩,
  ⟨(some (true, 4)), .box (.g 1), none⟩,
  ⟨(some (true, 5)), .box (.g 2), none⟩,
  ⟨(some (true, 6)), .new [.int .i64 0, .int .i64 0, .int .i64 0, .int .i64 0, .int .i64 0, .int .i64 0, .int .i64 0, .int .i64 0], none⟩,
  ⟨(some (true, 7)), .mv (.c (.lit (.int .i64 0))), none⟩])
(.seq
(.seq
(.reg [
  ⟨(some (false, 9)), .ld (some 8) (.g 3), none⟩,
  ⟨(some (false, 10)), .ld (some 8) (.g 4), none⟩,
  ⟨(some (false, 11)), .ld (some 6) (.g 5), none⟩,
  ⟨(some (false, 12)), .mks false 6 [.l 11], none⟩,
  ⟨(some (false, 13)), .call (.c (.fn 114 [])) [.l 9, .l 10, .l 12], none⟩,
  ⟨(some (true, 8)), .mv (.l 13), none⟩])
(.seq
(.reg [
  ⟨(some (false, 14)), .mv (.g 8), none⟩,
  ⟨(some (true, 15)), .bin .neq (.l 14) (.c (.lit (.int .i64 0))), none⟩])
(.cond (.g 15)
(.seq
(.reg [
  ⟨(some (false, 16)), .mk [.int .i64 0, .int .i64 0, .int .i64 0, .int .i64 0, .int .i64 0, .int .i64 0, .int .i64 0, .int .i64 0] [], none⟩,
  ⟨(some (false, 17)), .mv (.g 8), none⟩,
  ⟨none, .st 8 (.g 6) (.l 16), none⟩,
  ⟨(some (true, 7)), .mv (.l 17), none⟩])
.ret)
.skip)))
(.seq
(.draw [
  ⟨⟨(some (false, 18)), .ld (some 8) (.g 3), none⟩, 0, true, []⟩,
  ⟨⟨(some (false, 19)), .mk [.int .i64 0, .int .i64 0, .slice none 0 0, .int .i64 0, .int .i64 0, .int .i64 0, .int .i64 0, .int .i64 0] [(0, 8, .l 18)], none⟩, 1, true, []⟩,
  ⟨⟨(some (false, 20)), .ld (some 8) (.g 4), none⟩, 2, true, []⟩,
  ⟨⟨(some (false, 22)), .ld (some 6) (.g 5), none⟩, 4, true, []⟩,
  ⟨⟨(some (false, 21)), .call (.c (.fn 116 [])) [.l 20], none⟩, 3, false, []⟩,
  ⟨⟨(some (false, 23)), .call (.c (.fn 147 [])) [.l 19, .l 21, .l 22], none⟩, 5, false, []⟩,
  ⟨⟨(some (false, 24)), .call (.c (.fn 117 [])) [.l 23], none⟩, 6, false, []⟩,
  ⟨⟨none, .st 8 (.g 6) (.l 24), none⟩, 7, false, []⟩,
  ⟨⟨(some (true, 7)), .mv (.c (.lit (.int .i64 0))), none⟩, 8, false, []⟩])
.ret)))
def K151 : List Nat := [0, 1, 2, 15, 6, 7, 3, 4, 5, 8]
noncomputable def b151 : Code := match Try.f151.body with | some c => c | none => .skip
theorem t151 : trCode ⟨Try.prog, K151, [], 25, none⟩ b151 = some c151 := by kernel_rfl
theorem go151 {args : List AV} {H : AHeap} {Kk : AV → AHeap → Prop} (hn : args.length = 3) (h : AGo ⟨Try.prog, K151, [], 25, none⟩ H.length [.code c151] (RetP [.cell (.g 6) (some 8), .t (.g 7)] H.length Kk) ⟨[], argsG 0 args⟩ H) : ACalls Try.prog 151 args H Kk :=
  ACalls_of Try.func151 (c := b151) rfl (by kernel_rfl) t151 (rs := [.cell (.g 6) (some 8), .t (.g 7)]) (by kernel_rfl) (by rw [hn]; exact Nat.le_of_ble_eq_true rfl) (by rw [hn]; rfl) (h.weaken (fun _ _ => RetP.hands) (by simp))

/-- sastrugi/frost.Root -/
def c152 : ACode :=
  (.seq
(.reg [
  ⟨(some (true, 2)), .mv (.c (.lit (.int .i64 0))), none⟩])
(.seq
(.seq
(.reg [
  ⟨(some (false, 6)), .mv (.g 0), none⟩,
  ⟨(some (true, 7)), .bin .leq (.l 6) (.c (.lit (.int .i64 0))), none⟩])
(.cond (.g 7)
(.seq
(.reg [
  ⟨(some (true, 2)), .mv (.c (.lit (.int .i64 0))), none⟩])
.ret)
.skip))
(.seq
(.reg [
  ⟨(some (true, 3)), .mv (.c (.lit (.int .i64 1))), none⟩,
  ⟨(some (true, 4)), .mv (.c (.lit (.int .i64 4294967296))), none⟩])
(.seq
(.block 0
(.loop
(.seq
(.seq
(.reg [
  ⟨(some (false, 8)), .mv (.g 4), none⟩,
  ⟨(some (false, 9)), .mv (.g 3), none⟩,
  ⟨(some (false, 10)), .bin .sub (.l 8) (.l 9), none⟩,
  ⟨(some (true, 11)), .bin .gtr (.l 10) (.c (.lit (.int .i64 1))), none⟩])
(.cond (.g 11)
.skip
(.exit 0)))
(.block 1
(.seq
(.reg [
  ⟨(some (false, 12)), .mv (.g 3), none⟩,
  ⟨(some (false, 13)), .mv (.g 4), none⟩,
  ⟨(some (false, 14)), .mv (.g 3), none⟩,
  ⟨(some (false, 15)), .bin .sub (.l 13) (.l 14), none⟩,
  ⟨(some (false, 16)), .bin .quo (.l 15) (.c (.lit (.int .i64 2))), none⟩,
  ⟨(some (false, 17)), .bin .add (.l 12) (.l 16), none⟩,
  ⟨(some (true, 5)), .mv (.l 17), none⟩])
(.seq
(.reg [
  ⟨(some (false, 18)), .mv (.g 5), none⟩,
  ⟨(some (false, 19)), .mv (.g 0), none⟩,
  ⟨(some (false, 20)), .mv (.g 5), none⟩,
  ⟨(some (false, 21)), .bin .quo (.l 19) (.l 20), none⟩,
  ⟨(some (true, 22)), .bin .leq (.l 18) (.l 21), none⟩])
(.cond (.g 22)
(.reg [
  ⟨(some (false, 23)), .mv (.g 5), none⟩,
  ⟨(some (true, 3)), .mv (.l 23), none⟩])
(.reg [
  ⟨(some (false, 24)), .mv (.g 5), none⟩,
  ⟨(some (true, 4)), .mv (.l 24), none⟩]))))))))
(.seq
(.reg [
  ⟨(some (false, 25)), .mv (.g 3), none⟩,
  ⟨(some (true, 2)), .mv (.l 25), none⟩])
.ret)))))
def K152 : List Nat := [0, 7, 11, 22, 2, 3, 4, 5]
noncomputable def b152 : Code := match Try.f152.body with | some c => c | none => .skip
theorem t152 : trCode ⟨Try.prog, K152, [], 26, none⟩ b152 = some c152 := by kernel_rfl
theorem go152 {args : List AV} {H : AHeap} {Kk : AV → AHeap → Prop} (hn : args.length = 1) (h : AGo ⟨Try.prog, K152, [], 26, none⟩ H.length [.code c152] (RetP [.t (.g 2)] H.length Kk) ⟨[], argsG 0 args⟩ H) : ACalls Try.prog 152 args H Kk :=
  ACalls_of Try.func152 (c := b152) rfl (by kernel_rfl) t152 (rs := [.t (.g 2)]) (by kernel_rfl) (by rw [hn]; exact Nat.le_of_ble_eq_true rfl) (by rw [hn]; rfl) (h.weaken (fun _ _ => RetP.hands) (by simp))

/-- sastrugi/frost.down -/
def c153 : ACode :=
  (.seq
(.reg [
  ⟨(some (true, 4)), .mv (.c (.lit (.int .i64 0))), none⟩])
(.seq
(.reg [
  ⟨(some (false, 5)), .mv (.g 0), none⟩,
  ⟨(some (false, 6)), .mv (.g 1), none⟩,
  ⟨(some (false, 7)), .bin .mul (.l 5) (.l 6), none⟩,
  ⟨(some (false, 8)), .bin .quo (.l 7) (.c (.lit (.int .i64 1000000))), none⟩,
  ⟨(some (true, 4)), .mv (.l 8), none⟩])
.ret))
def K153 : List Nat := [0, 1, 4]
noncomputable def b153 : Code := match Try.f153.body with | some c => c | none => .skip
theorem t153 : trCode ⟨Try.prog, K153, [], 9, none⟩ b153 = some c153 := by kernel_rfl
theorem go153 {args : List AV} {H : AHeap} {Kk : AV → AHeap → Prop} (hn : args.length = 2) (h : AGo ⟨Try.prog, K153, [], 9, none⟩ H.length [.code c153] (RetP [.t (.g 4)] H.length Kk) ⟨[], argsG 0 args⟩ H) : ACalls Try.prog 153 args H Kk :=
  ACalls_of Try.func153 (c := b153) rfl (by kernel_rfl) t153 (rs := [.t (.g 4)]) (by kernel_rfl) (by rw [hn]; exact Nat.le_of_ble_eq_true rfl) (by rw [hn]; rfl) (h.weaken (fun _ _ => RetP.hands) (by simp))

/-- sastrugi/frost.up -/
def c154 : ACode :=
  (.seq
(.reg [
  ⟨(some (true, 4)), .mv (.c (.lit (.int .i64 0))), none⟩])
(.seq
(.reg [
  ⟨(some (false, 5)), .mv (.g 0), none⟩,
  ⟨(some (false, 6)), .mv (.g 1), none⟩,
  ⟨(some (false, 7)), .bin .mul (.l 5) (.l 6), none⟩,
  ⟨(some (false, 8)), .bin .add (.l 7) (.c (.lit (.int .i64 1000000))), none⟩,
  ⟨(some (false, 9)), .bin .sub (.l 8) (.c (.lit (.int .i64 1))), none⟩,
  ⟨(some (false, 10)), .bin .quo (.l 9) (.c (.lit (.int .i64 1000000))), none⟩,
  ⟨(some (true, 4)), .mv (.l 10), none⟩])
.ret))
def K154 : List Nat := [0, 1, 4]
noncomputable def b154 : Code := match Try.f154.body with | some c => c | none => .skip
theorem t154 : trCode ⟨Try.prog, K154, [], 11, none⟩ b154 = some c154 := by kernel_rfl
theorem go154 {args : List AV} {H : AHeap} {Kk : AV → AHeap → Prop} (hn : args.length = 2) (h : AGo ⟨Try.prog, K154, [], 11, none⟩ H.length [.code c154] (RetP [.t (.g 4)] H.length Kk) ⟨[], argsG 0 args⟩ H) : ACalls Try.prog 154 args H Kk :=
  ACalls_of Try.func154 (c := b154) rfl (by kernel_rfl) t154 (rs := [.t (.g 4)]) (by kernel_rfl) (by rw [hn]; exact Nat.le_of_ble_eq_true rfl) (by rw [hn]; rfl) (h.weaken (fun _ _ => RetP.hands) (by simp))

/-- sastrugi/frost.covers -/
def c158 : ACode :=
  (.seq
(.reg [
  ⟨(some (true, 2)), .mv (.c (.lit (.int .i64 0))), none⟩])
(.seq
(.block 0
(.seq
(.reg [
  ⟨(some (false, 7)), .mv (.g 0), none⟩,
  ⟨(some (false, 8)), .len (.l 7), none⟩,
  ⟨(some (false, 9)), .bin .eql (.l 8) (.c (.lit (.int .i64 0))), none⟩,
  ⟨(some (true, 6)), .mv (.l 9), none⟩])
(.cond (.g 6)
(.seq
(.reg [
  ⟨(some (true, 2)), .mv (.c (.lit (.int .i64 6))), none⟩])
.ret)
(.seq
(.reg [
  ⟨(some (false, 11)), .mv (.g 0), none⟩,
  ⟨(some (false, 12)), .len (.l 11), none⟩,
  ⟨(some (false, 13)), .bin .gtr (.l 12) (.c (.lit (.int .i64 12))), none⟩,
  ⟨(some (true, 10)), .mv (.l 13), none⟩])
(.cond (.g 10)
(.seq
(.reg [
  ⟨(some (true, 2)), .mv (.c (.lit (.int .i64 8))), none⟩])
.ret)
.skip)))))
(.seq
(.seq
(.reg [
  ⟨(some (true, 14)), .mv (.g 0), none⟩,
  ⟨(some (true, 15)), .len (.g 14), none⟩,
  ⟨(some (true, 16)), .mv (.c (.lit (.int .i64 0))), none⟩])
(.block 1
(.loop
(.seq
(.reg [
  ⟨(some (true, 17)), .bin .lss (.g 16) (.g 15), none⟩])
(.seq
(.cond (.g 17)
.skip
(.exit 1))
(.seq
(.block 2
(.seq
(.reg [
  ⟨(some (false, 18)), .mv (.g 16), none⟩,
  ⟨(some (false, 19)), .ia 3 (.g 14) (.g 16), none⟩,
  ⟨(some (false, 20)), .ld (some 3) (.l 19), none⟩,
  ⟨(some (true, 4)), .new [.int .i64 0, .int .i64 0, .int .i64 0], none⟩,
  ⟨(some (true, 3)), .mv (.l 18), none⟩,
  ⟨none, .st 3 (.g 4) (.l 20), none⟩])
(.seq
(.block 3
(.seq
(.reg [
  ⟨(some (false, 22)), .fa (.g 4) 0, none⟩,
  ⟨(some (false, 23)), .ld none (.l 22), none⟩,
  ⟨(some (false, 24)), .bin .lss (.l 23) (.c (.lit (.int .i64 0))), none⟩,
  ⟨(some (false, 25)), .mv (.l 24), none⟩,
  ⟨(some (false, 26)), .fa (.g 4) 0, (some (.l 25, false))⟩,
  ⟨(some (false, 27)), .ld none (.l 26), (some (.l 25, false))⟩,
  ⟨(some (false, 28)), .bin .gtr (.l 27) (.c (.lit (.int .i64 5000))), (some (.l 25, false))⟩,
  ⟨(some (false, 29)), .pick (.l 25) (.c (.lit (.bool true))) (.l 28), none⟩,
  ⟨(some (true, 21)), .mv (.l 29), none⟩])
(.cond (.g 21)
(.seq
(.reg [
  ⟨(some (true, 2)), .mv (.c (.lit (.int .i64 2))), none⟩])
.ret)
(.seq
(.draw [
  ⟨⟨(some (false, 31)), .mv (.g 3), none⟩, 0, true, []⟩,
  ⟨⟨(some (false, 32)), .bin .eql (.l 31) (.c (.lit (.int .i64 0))), none⟩, 1, true, []⟩,
  ⟨⟨(some (false, 33)), .mv (.l 32), none⟩, 2, true, []⟩,
  ⟨⟨(some (false, 34)), .fa (.g 4) 0, (some (.l 33, true))⟩, 3, true, []⟩,
  ⟨⟨(some (false, 35)), .ld none (.l 34), (some (.l 33, true))⟩, 4, true, []⟩,
  ⟨⟨(some (false, 36)), .bin .neq (.l 35) (.c (.lit (.int .i64 0))), (some (.l 33, true))⟩, 5, true, []⟩,
  ⟨⟨(some (false, 37)), .pick (.l 33) (.l 36) (.c (.lit (.bool false))), none⟩, 6, true, []⟩,
  ⟨⟨(some (false, 38)), .mv (.l 37), none⟩, 7, true, []⟩,
  ⟨⟨(some (false, 39)), .mv (.g 3), (some (.l 38, false))⟩, 8, true, []⟩,
  ⟨⟨(some (false, 40)), .bin .gtr (.l 39) (.c (.lit (.int .i64 0))), (some (.l 38, false))⟩, 9, true, []⟩,
  ⟨⟨(some (false, 41)), .mv (.l 40), (some (.l 38, false))⟩, 10, true, []⟩,
  ⟨⟨(some (false, 42)), .fa (.g 4) 0, (some (.l 41, true))⟩, 11, true, []⟩,
  ⟨⟨(some (false, 43)), .ld none (.l 42), (some (.l 41, true))⟩, 12, true, []⟩,
  ⟨⟨(some (false, 44)), .mv (.g 0), (some (.l 41, true))⟩, 13, true, []⟩,
  ⟨⟨(some (false, 45)), .mv (.g 3), (some (.l 41, true))⟩, 14, true, []⟩,
  ⟨⟨(some (false, 46)), .bin .sub (.l 45) (.c (.lit (.int .i64 1))), (some (.l 41, true))⟩, 15, true, []⟩,
  ⟨⟨(some (false, 47)), .ia 3 (.l 44) (.l 46), (some (.l 41, true))⟩, 16, true, []⟩,
  ⟨⟨(some (false, 48)), .fa (.l 47) 0, (some (.l 41, true))⟩, 17, true, []⟩,
  ⟨⟨(some (false, 49)), .ld none (.l 48), (some (.l 41, true))⟩, 18, true, []⟩,
  ⟨⟨(some (false, 50)), .bin .leq (.l 43) (.l 49), (some (.l 41, true))⟩, 19, true, []⟩,
  ⟨⟨(some (false, 51)), .pick (.l 41) (.l 50) (.c (.lit (.bool false))), (some (.l 38, false))⟩, 20, true, []⟩,
  ⟨⟨(some (false, 52)), .pick (.l 38) (.c (.lit (.bool true))) (.l 51), none⟩, 21, true, []⟩,
  ⟨⟨(some (true, 30)), .mv (.l 52), none⟩, 22, true, []⟩])
(.cond (.g 30)
(.seq
(.reg [
  ⟨(some (true, 2)), .mv (.c (.lit (.int .i64 11))), none⟩])
.ret)
.skip)))))
(.seq
(.seq
(.reg [
  ⟨(some (false, 53)), .fa (.g 4) 1, none⟩,
  ⟨(some (false, 54)), .ld (some 2) (.l 53), none⟩,
  ⟨(some (false, 55)), .call (.c (.fn 159 [])) [.l 54, .c (.lit (.int .i64 0)), .c (.lit (.int .i64 1000000))], none⟩,
  ⟨(some (true, 5)), .mv (.l 55), none⟩])
(.seq
(.reg [
  ⟨(some (false, 56)), .mv (.g 5), none⟩,
  ⟨(some (true, 57)), .bin .neq (.l 56) (.c (.lit (.int .i64 0))), none⟩])
(.cond (.g 57)
(.seq
(.reg [
  ⟨(some (false, 58)), .mv (.g 5), none⟩,
  ⟨(some (true, 2)), .mv (.l 58), none⟩])
.ret)
.skip)))
(.seq
(.draw [
  ⟨⟨(some (false, 59)), .mv (.g 3), none⟩, 0, true, []⟩,
  ⟨⟨(some (false, 60)), .bin .gtr (.l 59) (.c (.lit (.int .i64 0))), none⟩, 1, true, []⟩,
  ⟨⟨(some (false, 61)), .mv (.l 60), none⟩, 2, true, []⟩,
  ⟨⟨(some (false, 62)), .fa (.g 4) 1, (some (.l 61, true))⟩, 3, true, []⟩,
  ⟨⟨(some (false, 63)), .fa (.l 62) 0, (some (.l 61, true))⟩, 4, true, []⟩,
  ⟨⟨(some (false, 64)), .ld none (.l 63), (some (.l 61, true))⟩, 5, true, []⟩,
  ⟨⟨(some (false, 65)), .mv (.g 0), (some (.l 61, true))⟩, 6, true, []⟩,
  ⟨⟨(some (false, 66)), .mv (.g 3), (some (.l 61, true))⟩, 7, true, []⟩,
  ⟨⟨(some (false, 67)), .bin .sub (.l 66) (.c (.lit (.int .i64 1))), (some (.l 61, true))⟩, 8, true, []⟩,
  ⟨⟨(some (false, 68)), .ia 3 (.l 65) (.l 67), (some (.l 61, true))⟩, 9, true, []⟩,
  ⟨⟨(some (false, 69)), .fa (.l 68) 1, (some (.l 61, true))⟩, 10, true, []⟩,
  ⟨⟨(some (false, 70)), .fa (.l 69) 0, (some (.l 61, true))⟩, 11, true, []⟩,
  ⟨⟨(some (false, 71)), .ld none (.l 70), (some (.l 61, true))⟩, 12, true, []⟩,
  ⟨⟨(some (false, 72)), .bin .gtr (.l 64) (.l 71), (some (.l 61, true))⟩, 13, true, []⟩,
  ⟨⟨(some (false, 73)), .mv (.l 72), (some (.l 61, true))⟩, 14, true, []⟩,
  ⟨⟨(some (false, 74)), .fa (.g 4) 1, (some (.l 73, false))⟩, 15, true, []⟩,
  ⟨⟨(some (false, 75)), .fa (.l 74) 1, (some (.l 73, false))⟩, 16, true, []⟩,
  ⟨⟨(some (false, 76)), .ld none (.l 75), (some (.l 73, false))⟩, 17, true, []⟩,
  ⟨⟨(some (false, 77)), .mv (.g 0), (some (.l 73, false))⟩, 18, true, []⟩,
  ⟨⟨(some (false, 78)), .mv (.g 3), (some (.l 73, false))⟩, 19, true, []⟩,
  ⟨⟨(some (false, 79)), .bin .sub (.l 78) (.c (.lit (.int .i64 1))), (some (.l 73, false))⟩, 20, true, []⟩,
  ⟨⟨(some (false, 80)), .ia 3 (.l 77) (.l 79), (some (.l 73, false))⟩, 21, true, []⟩,
  ⟨⟨(some (false, 81)), .fa (.l 80) 1, (some (.l 73, false))⟩, 22, true, []⟩,
  ⟨⟨(some (false, 82)), .fa (.l 81) 1, (some (.l 73, false))⟩, 23, true, []⟩,
  ⟨⟨(some (false, 83)), .ld none (.l 82), (some (.l 73, false))⟩, 24, true, []⟩,
  ⟨⟨(some (false, 84)), .bin .gtr (.l 76) (.l 83), (some (.l 73, false))⟩, 25, true, []⟩,
  ⟨⟨(some (false, 85)), .pick (.l 73) (.c (.lit (.bool true))) (.l 84), (some (.l 61, true))⟩, 26, true, []⟩,
  ⟨⟨(some (true, 86)), .pick (.l 61) (.l 85) (.c (.lit (.bool false))), none⟩, 27, true, []⟩])
(.cond (.g 86)
(.seq
(.reg [
  ⟨(some (true, 2)), .mv (.c (.lit (.int .i64 11))), none⟩])
.ret)
.skip))))))
(.reg [
  ⟨(some (false, 87)), .bin .add (.g 16) (.c (.lit (.int .i64 1))), none⟩,
  ⟨(some (true, 16)), .mv (.l 87), none⟩])))))))
(.seq
(.reg [
  ⟨(some (true, 2)), .mv (.c (.lit (.int .i64 0))), none⟩])
.ret))))
def K158 : List Nat := [0, 6, 10, 17, 21, 30, 57, 86, 2, 14, 15, 16, 4, 3, 5]
noncomputable def b158 : Code := match Try.f158.body with | some c => c | none => .skip
theorem t158 : trCode ⟨Try.prog, K158, [], 88, none⟩ b158 = some c158 := by kernel_rfl
theorem go158 {args : List AV} {H : AHeap} {Kk : AV → AHeap → Prop} (hn : args.length = 1) (h : AGo ⟨Try.prog, K158, [], 88, none⟩ H.length [.code c158] (RetP [.t (.g 2)] H.length Kk) ⟨[], argsG 0 args⟩ H) : ACalls Try.prog 158 args H Kk :=
  ACalls_of Try.func158 (c := b158) rfl (by kernel_rfl) t158 (rs := [.t (.g 2)]) (by kernel_rfl) (by rw [hn]; exact Nat.le_of_ble_eq_true rfl) (by rw [hn]; rfl) (h.weaken (fun _ _ => RetP.hands) (by simp))

/-- sastrugi/frost.fault -/
def c159 : ACode :=
  (.seq
(.reg [
  ⟨(some (true, 3)), .box (.g 0), none⟩,
  ⟨(some (true, 6)), .mv (.c (.lit (.int .i64 0))), none⟩])
(.seq
(.block 0
(.seq
(.reg [
  ⟨(some (false, 8)), .fa (.g 3) 0, none⟩,
  ⟨(some (false, 9)), .ld none (.l 8), none⟩,
  ⟨(some (false, 10)), .mv (.g 1), none⟩,
  ⟨(some (false, 11)), .bin .lss (.l 9) (.l 10), none⟩,
  ⟨(some (false, 12)), .mv (.l 11), none⟩,
  ⟨(some (false, 13)), .fa (.g 3) 0, (some (.l 12, false))⟩,
  ⟨(some (false, 14)), .ld none (.l 13), (some (.l 12, false))⟩,
  ⟨(some (false, 15)), .mv (.g 2), (some (.l 12, false))⟩,
  ⟨(some (false, 16)), .bin .gtr (.l 14) (.l 15), (some (.l 12, false))⟩,
  ⟨(some (false, 17)), .pick (.l 12) (.c (.lit (.bool true))) (.l 16), none⟩,
  ⟨(some (false, 18)), .mv (.l 17), none⟩,
  ⟨(some (false, 19)), .fa (.g 3) 1, (some (.l 18, false))⟩,
  ⟨(some (false, 20)), .ld none (.l 19), (some (.l 18, false))⟩,
  ⟨(some (false, 21)), .mv (.g 1), (some (.l 18, false))⟩,
  ⟨(some (false, 22)), .bin .lss (.l 20) (.l 21), (some (.l 18, false))⟩,
  ⟨(some (false, 23)), .pick (.l 18) (.c (.lit (.bool true))) (.l 22), none⟩,
  ⟨(some (false, 24)), .mv (.l 23), none⟩,
  ⟨(some (false, 25)), .fa (.g 3) 1, (some (.l 24, false))⟩,
  ⟨(some (false, 26)), .ld none (.l 25), (some (.l 24, false))⟩,
  ⟨(some (false, 27)), .mv (.g 2), (some (.l 24, false))⟩,
  ⟨(some (false, 28)), .bin .gtr (.l 26) (.l 27), (some (.l 24, false))⟩,
  ⟨(some (false, 29)), .pick (.l 24) (.c (.lit (.bool true))) (.l 28), none⟩,
  ⟨(some (true, 7)), .mv (.l 29), none⟩])
(.cond (.g 7)
(.seq
(.reg [
  ⟨(some (true, 6)), .mv (.c (.lit (.int .i64 2))), none⟩])
.ret)
(.seq
(.reg [
  ⟨(some (false, 31)), .fa (.g 3) 0, none⟩,
  ⟨(some (false, 32)), .ld none (.l 31), none⟩,
  ⟨(some (false, 33)), .fa (.g 3) 1, none⟩,
  ⟨(some (false, 34)), .ld none (.l 33), none⟩,
  ⟨(some (false, 35)), .bin .gtr (.l 32) (.l 34), none⟩,
  ⟨(some (true, 30)), .mv (.l 35), none⟩])
(.cond (.g 30)
(.seq
(.reg [
  ⟨(some (true, 6)), .mv (.c (.lit (.int .i64 11))), none⟩])
.ret)
.skip)))))
(.seq
(.reg [
  ⟨(some (true, 6)), .mv (.c (.lit (.int .i64 0))), none⟩])
.ret)))
def K159 : List Nat := [0, 1, 2, 7, 30, 6, 3]
noncomputable def b159 : Code := match Try.f159.body with | some c => c | none => .skip
theorem t159 : trCode ⟨Try.prog, K159, [], 36, none⟩ b159 = some c159 := by kernel_rfl
theorem go159 {args : List AV} {H : AHeap} {Kk : AV → AHeap → Prop} (hn : args.length = 3) (h : AGo ⟨Try.prog, K159, [], 36, none⟩ H.length [.code c159] (RetP [.t (.g 6)] H.length Kk) ⟨[], argsG 0 args⟩ H) : ACalls Try.prog 159 args H Kk :=
  ACalls_of Try.func159 (c := b159) rfl (by kernel_rfl) t159 (rs := [.t (.g 6)]) (by kernel_rfl) (by rw [hn]; exact Nat.le_of_ble_eq_true rfl) (by rw [hn]; rfl) (h.weaken (fun _ _ => RetP.hands) (by simp))

/-- (sastrugi/frost.day).covered -/
def c160 : ACode :=
  (.seq
(.reg [
  ⟨(some (true, 3)), .box (.g 0), none⟩,
  ⟨(some (true, 4)), .box (.g 1), none⟩,
  ⟨(some (true, 5)), .box (.g 2), none⟩,
  ⟨(some (true, 6)), .new [.int .i64 0, .int .i64 0, .int .i64 0, .int .i64 0, .int .i64 0, .int .i64 0, .int .i64 0, .int .i64 0], none⟩])
(.seq
(.seq
(.reg [
  ⟨(some (false, 8)), .fa (.g 5) 5, none⟩,
  ⟨(some (true, 9)), .ld none (.l 8), none⟩])
(.cond (.g 9)
(.reg [
  ⟨(some (false, 10)), .mk [.int .i64 0, .int .i64 0] [], none⟩,
  ⟨(some (false, 11)), .iaa 4 2 (.g 4) (.c (.lit (.int .i64 3))), none⟩,
  ⟨none, .st 2 (.l 11) (.l 10), none⟩])
.skip))
(.seq
(.draw [
  ⟨⟨(some (false, 12)), .iaa 4 2 (.g 4) (.c (.lit (.int .i64 3))), none⟩, 0, true, []⟩,
  ⟨⟨(some (false, 13)), .fa (.l 12) 0, none⟩, 1, true, []⟩,
  ⟨⟨(some (false, 14)), .ld none (.l 13), none⟩, 2, true, []⟩,
  ⟨⟨(some (false, 15)), .fa (.g 5) 2, none⟩, 3, true, []⟩,
  ⟨⟨(some (false, 16)), .fa (.l 15) 0, none⟩, 4, true, []⟩,
  ⟨⟨(some (false, 17)), .ld none (.l 16), none⟩, 5, true, []⟩,
  ⟨⟨(some (false, 18)), .bin .add (.l 14) (.l 17), none⟩, 6, true, []⟩,
  ⟨⟨(some (false, 19)), .iaa 4 2 (.g 4) (.c (.lit (.int .i64 3))), none⟩, 7, true, []⟩,
  ⟨⟨(some (false, 20)), .fa (.l 19) 1, none⟩, 8, true, []⟩,
  ⟨⟨(some (false, 21)), .ld none (.l 20), none⟩, 9, true, []⟩,
  ⟨⟨(some (false, 22)), .fa (.g 5) 2, none⟩, 10, false, []⟩,
  ⟨⟨(some (false, 23)), .fa (.l 22) 1, none⟩, 11, false, []⟩,
  ⟨⟨(some (false, 24)), .ld none (.l 23), none⟩, 12, false, []⟩,
  ⟨⟨(some (false, 25)), .bin .add (.l 21) (.l 24), none⟩, 13, false, []⟩,
  ⟨⟨(some (false, 26)), .iaa 4 2 (.g 4) (.c (.lit (.int .i64 3))), none⟩, 14, true, []⟩,
  ⟨⟨(some (false, 27)), .fa (.l 26) 0, none⟩, 15, true, []⟩,
  ⟨⟨none, .st 1 (.l 27) (.l 18), none⟩, 16, false, []⟩,
  ⟨⟨(some (false, 28)), .iaa 4 2 (.g 4) (.c (.lit (.int .i64 3))), none⟩, 17, false, []⟩,
  ⟨⟨(some (false, 29)), .fa (.l 28) 1, none⟩, 18, false, []⟩,
  ⟨⟨none, .st 1 (.l 29) (.l 25), none⟩, 19, true, []⟩])
(.seq
(.seq
(.reg [
  ⟨(some (false, 30)), .fa (.g 5) 4, none⟩,
  ⟨(some (false, 31)), .ld none (.l 30), none⟩,
  ⟨(some (true, 32)), .bin .gtr (.l 31) (.c (.lit (.int .i64 0))), none⟩])
(.cond (.g 32)
(.seq
(.reg [
  ⟨(some (false, 33)), .iaa 4 2 (.g 4) (.c (.lit (.int .i64 3))), none⟩,
  ⟨(some (false, 34)), .ld (some 2) (.l 33), none⟩,
  ⟨(some (true, 7)), .new [.int .i64 0, .int .i64 0], none⟩,
  ⟨none, .st 2 (.g 7) (.l 34), none⟩])
(.seq
(.reg [
  ⟨(some (false, 35)), .mk [.int .i64 0, .int .i64 0] [], none⟩,
  ⟨(some (false, 36)), .iaa 4 2 (.g 4) (.c (.lit (.int .i64 3))), none⟩,
  ⟨none, .st 2 (.l 36) (.l 35), none⟩])
(.draw [
  ⟨⟨(some (false, 37)), .iaa 4 2 (.g 4) (.c (.lit (.int .i64 2))), none⟩, 0, true, []⟩,
  ⟨⟨(some (false, 38)), .fa (.l 37) 0, none⟩, 1, true, []⟩,
  ⟨⟨(some (false, 39)), .ld none (.l 38), none⟩, 2, true, []⟩,
  ⟨⟨(some (false, 40)), .fa (.g 5) 4, none⟩, 3, true, []⟩,
  ⟨⟨(some (false, 41)), .ld none (.l 40), none⟩, 4, true, []⟩,
  ⟨⟨(some (false, 42)), .bin .add (.l 39) (.l 41), none⟩, 5, true, []⟩,
  ⟨⟨(some (false, 43)), .fa (.g 7) 0, none⟩, 6, true, []⟩,
  ⟨⟨(some (false, 44)), .ld none (.l 43), none⟩, 7, true, []⟩,
  ⟨⟨(some (false, 45)), .fa (.g 3) 0, none⟩, 8, true, []⟩,
  ⟨⟨(some (false, 46)), .fa (.l 45) 5, none⟩, 9, true, []⟩,
  ⟨⟨(some (false, 47)), .ld none (.l 46), none⟩, 10, true, []⟩,
  ⟨⟨(some (false, 50)), .iaa 4 2 (.g 4) (.c (.lit (.int .i64 2))), none⟩, 13, true, []⟩,
  ⟨⟨(some (false, 51)), .fa (.l 50) 1, none⟩, 14, true, []⟩,
  ⟨⟨(some (false, 52)), .ld none (.l 51), none⟩, 15, true, []⟩,
  ⟨⟨(some (false, 53)), .fa (.g 5) 4, none⟩, 16, false, []⟩,
  ⟨⟨(some (false, 54)), .ld none (.l 53), none⟩, 17, false, []⟩,
  ⟨⟨(some (false, 55)), .bin .add (.l 52) (.l 54), none⟩, 18, false, []⟩,
  ⟨⟨(some (false, 56)), .fa (.g 7) 1, none⟩, 19, false, []⟩,
  ⟨⟨(some (false, 57)), .ld none (.l 56), none⟩, 20, true, []⟩,
  ⟨⟨(some (false, 58)), .fa (.g 3) 0, none⟩, 21, false, []⟩,
  ⟨⟨(some (false, 59)), .fa (.l 58) 5, none⟩, 22, false, []⟩,
  ⟨⟨(some (false, 60)), .ld none (.l 59), none⟩, 23, true, []⟩,
  ⟨⟨(some (false, 48)), .call (.c (.fn 153 [])) [.l 44, .l 47], none⟩, 11, false, []⟩,
  ⟨⟨(some (false, 49)), .bin .add (.l 42) (.l 48), none⟩, 12, true, []⟩,
  ⟨⟨(some (false, 63)), .iaa 4 2 (.g 4) (.c (.lit (.int .i64 2))), none⟩, 26, true, []⟩,
  ⟨⟨(some (false, 64)), .fa (.l 63) 0, none⟩, 27, true, []⟩,
  ⟨⟨(some (false, 61)), .call (.c (.fn 153 [])) [.l 57, .l 60], none⟩, 24, false, []⟩,
  ⟨⟨(some (false, 62)), .bin .add (.l 55) (.l 61), none⟩, 25, false, []⟩,
  ⟨⟨none, .st 1 (.l 64) (.l 49), none⟩, 28, false, []⟩,
  ⟨⟨(some (false, 65)), .iaa 4 2 (.g 4) (.c (.lit (.int .i64 2))), none⟩, 29, false, []⟩,
  ⟨⟨(some (false, 66)), .fa (.l 65) 1, none⟩, 30, false, []⟩,
  ⟨⟨none, .st 1 (.l 66) (.l 62), none⟩, 31, true, []⟩])))
.skip))
(.seq
(.reg [
  ⟨(some (false, 67)), .ld (some 8) (.g 4), none⟩,
  ⟨none, .st 8 (.g 6) (.l 67), none⟩])
.ret)))))
def K160 : List Nat := [0, 1, 2, 9, 32, 6, 3, 4, 5, 7]
noncomputable def b160 : Code := match Try.f160.body with | some c => c | none => .skip
theorem t160 : trCode ⟨Try.prog, K160, [], 68, none⟩ b160 = some c160 := by kernel_rfl
theorem go160 {args : List AV} {H : AHeap} {Kk : AV → AHeap → Prop} (hn : args.length = 3) (h : AGo ⟨Try.prog, K160, [], 68, none⟩ H.length [.code c160] (RetP [.cell (.g 6) (some 8)] H.length Kk) ⟨[], argsG 0 args⟩ H) : ACalls Try.prog 160 args H Kk :=
  ACalls_of Try.func160 (c := b160) rfl (by kernel_rfl) t160 (rs := [.cell (.g 6) (some 8)]) (by kernel_rfl) (by rw [hn]; exact Nat.le_of_ble_eq_true rfl) (by rw [hn]; rfl) (h.weaken (fun _ _ => RetP.hands) (by simp))

/-- (sastrugi/frost.day).frozen -/
def c161 : ACode :=
  (.seq
(.reg [
  ⟨(some (true, 3)), .box (.g 0), none⟩,
  ⟨(some (true, 4)), .box (.g 1), none⟩,
  ⟨(some (true, 5)), .box (.g 2), none⟩,
  ⟨(some (true, 6)), .new [.int .i64 0, .int .i64 0, .int .i64 0, .int .i64 0, .int .i64 0, .int .i64 0, .int .i64 0, .int .i64 0], none⟩])
(.seq
(.draw [
  ⟨⟨(some (false, 12)), .fa (.g 5) 0, none⟩, 0, true, []⟩,
  ⟨⟨(some (false, 13)), .ld none (.l 12), none⟩, 1, true, []⟩,
  ⟨⟨(some (false, 14)), .ld (some 8) (.g 3), none⟩, 2, true, []⟩,
  ⟨⟨(some (false, 15)), .iaa 4 2 (.g 4) (.c (.lit (.int .i64 3))), none⟩, 3, true, []⟩,
  ⟨⟨(some (false, 16)), .fa (.l 15) 1, none⟩, 4, true, []⟩,
  ⟨⟨(some (false, 17)), .ld none (.l 16), none⟩, 5, true, []⟩,
  ⟨⟨(some (false, 18)), .call (.c (.fn 165 [])) [.l 14, .l 17], none⟩, 6, false, []⟩,
  ⟨⟨(some (false, 19)), .fd none (.l 18) 0, none⟩, 7, true, []⟩,
  ⟨⟨(some (false, 20)), .call (.c (.fn 153 [])) [.l 13, .l 19], none⟩, 8, false, []⟩,
  ⟨⟨(some (true, 7)), .mv (.l 20), none⟩, 9, true, []⟩])
(.seq
(.draw [
  ⟨⟨(some (false, 21)), .fa (.g 5) 1, none⟩, 0, true, []⟩,
  ⟨⟨(some (false, 22)), .ld none (.l 21), none⟩, 1, true, []⟩,
  ⟨⟨(some (false, 23)), .ld (some 8) (.g 3), none⟩, 2, true, []⟩,
  ⟨⟨(some (false, 24)), .iaa 4 2 (.g 4) (.c (.lit (.int .i64 3))), none⟩, 3, true, []⟩,
  ⟨⟨(some (false, 25)), .fa (.l 24) 0, none⟩, 4, true, []⟩,
  ⟨⟨(some (false, 26)), .ld none (.l 25), none⟩, 5, true, []⟩,
  ⟨⟨(some (false, 27)), .call (.c (.fn 165 [])) [.l 23, .l 26], none⟩, 6, false, []⟩,
  ⟨⟨(some (false, 28)), .fd none (.l 27) 1, none⟩, 7, true, []⟩,
  ⟨⟨(some (false, 29)), .call (.c (.fn 154 [])) [.l 22, .l 28], none⟩, 8, false, []⟩,
  ⟨⟨(some (true, 8)), .mv (.l 29), none⟩, 9, true, []⟩])
(.seq
(.draw [
  ⟨⟨(some (false, 30)), .mv (.g 7), none⟩, 0, true, []⟩,
  ⟨⟨(some (false, 31)), .fa (.g 3) 0, none⟩, 1, true, []⟩,
  ⟨⟨(some (false, 32)), .fa (.l 31) 1, none⟩, 2, true, []⟩,
  ⟨⟨(some (false, 33)), .ld none (.l 32), none⟩, 3, true, []⟩,
  ⟨⟨(some (false, 34)), .bin .quo (.l 30) (.l 33), none⟩, 4, true, []⟩,
  ⟨⟨(some (false, 35)), .mv (.g 8), none⟩, 5, true, []⟩,
  ⟨⟨(some (false, 36)), .fa (.g 3) 0, none⟩, 6, true, []⟩,
  ⟨⟨(some (false, 37)), .fa (.l 36) 1, none⟩, 7, true, []⟩,
  ⟨⟨(some (false, 38)), .ld none (.l 37), none⟩, 8, true, []⟩,
  ⟨⟨(some (false, 39)), .bin .quo (.l 35) (.l 38), none⟩, 9, true, []⟩,
  ⟨⟨(some (true, 9)), .mv (.l 34), none⟩, 10, true, []⟩,
  ⟨⟨(some (true, 10)), .mv (.l 39), none⟩, 11, true, []⟩])
(.seq
(.reg [
  ⟨(some (false, 40)), .ld (some 8) (.g 4), none⟩,
  ⟨(some (true, 11)), .new [.int .i64 0, .int .i64 0, .int .i64 0, .int .i64 0, .int .i64 0, .int .i64 0, .int .i64 0, .int .i64 0], none⟩,
  ⟨none, .st 8 (.g 11) (.l 40), none⟩])
(.seq
(.reg [
  ⟨(some (false, 41)), .iaa 4 2 (.g 4) (.c (.lit (.int .i64 1))), none⟩,
  ⟨(some (false, 42)), .fa (.l 41) 0, none⟩,
  ⟨(some (false, 43)), .ld none (.l 42), none⟩,
  ⟨(some (false, 44)), .iaa 4 2 (.g 4) (.c (.lit (.int .i64 2))), none⟩,
  ⟨(some (false, 45)), .fa (.l 44) 0, none⟩,
  ⟨(some (false, 46)), .ld none (.l 45), none⟩,
  ⟨(some (false, 47)), .mv (.g 9), none⟩,
  ⟨(some (false, 48)), .mn [.l 46, .l 47], none⟩,
  ⟨(some (false, 49)), .bin .add (.l 43) (.l 48), none⟩,
  ⟨(some (false, 50)), .iaa 4 2 (.g 4) (.c (.lit (.int .i64 1))), none⟩,
  ⟨(some (false, 51)), .fa (.l 50) 1, none⟩,
  ⟨(some (false, 52)), .ld none (.l 51), none⟩,
  ⟨(some (false, 53)), .iaa 4 2 (.g 4) (.c (.lit (.int .i64 2))), none⟩,
  ⟨(some (false, 54)), .fa (.l 53) 1, none⟩,
  ⟨(some (false, 55)), .ld none (.l 54), none⟩,
  ⟨(some (false, 56)), .mv (.g 10), none⟩,
  ⟨(some (false, 57)), .mn [.l 55, .l 56], none⟩,
  ⟨(some (false, 58)), .bin .add (.l 52) (.l 57), none⟩,
  ⟨(some (false, 59)), .mk [.int .i64 0, .int .i64 0] [(0, 1, .l 49), (1, 1, .l 58)], none⟩,
  ⟨(some (false, 60)), .iaa 4 2 (.g 11) (.c (.lit (.int .i64 1))), none⟩,
  ⟨none, .st 2 (.l 60) (.l 59), none⟩])
(.seq
(.reg [
  ⟨(some (false, 61)), .iaa 4 2 (.g 4) (.c (.lit (.int .i64 2))), none⟩,
  ⟨(some (false, 62)), .fa (.l 61) 0, none⟩,
  ⟨(some (false, 63)), .ld none (.l 62), none⟩,
  ⟨(some (false, 64)), .mv (.g 10), none⟩,
  ⟨(some (false, 65)), .bin .sub (.l 63) (.l 64), none⟩,
  ⟨(some (false, 66)), .mx [.c (.lit (.int .i64 0)), .l 65], none⟩,
  ⟨(some (false, 67)), .iaa 4 2 (.g 4) (.c (.lit (.int .i64 2))), none⟩,
  ⟨(some (false, 68)), .fa (.l 67) 1, none⟩,
  ⟨(some (false, 69)), .ld none (.l 68), none⟩,
  ⟨(some (false, 70)), .mv (.g 9), none⟩,
  ⟨(some (false, 71)), .bin .sub (.l 69) (.l 70), none⟩,
  ⟨(some (false, 72)), .mx [.c (.lit (.int .i64 0)), .l 71], none⟩,
  ⟨(some (false, 73)), .mk [.int .i64 0, .int .i64 0] [(0, 1, .l 66), (1, 1, .l 72)], none⟩,
  ⟨(some (false, 74)), .iaa 4 2 (.g 11) (.c (.lit (.int .i64 2))), none⟩,
  ⟨none, .st 2 (.l 74) (.l 73), none⟩])
(.seq
(.seq
(.reg [
  ⟨(some (false, 75)), .iaa 4 2 (.g 4) (.c (.lit (.int .i64 2))), none⟩,
  ⟨(some (false, 76)), .fa (.l 75) 1, none⟩,
  ⟨(some (false, 77)), .ld none (.l 76), none⟩,
  ⟨(some (false, 78)), .mv (.g 9), none⟩,
  ⟨(some (true, 79)), .bin .leq (.l 77) (.l 78), none⟩])
(.cond (.g 79)
(.reg [
  ⟨(some (false, 80)), .ld (some 8) (.g 3), none⟩,
  ⟨(some (false, 81)), .iaa 4 2 (.g 4) (.c (.lit (.int .i64 0))), none⟩,
  ⟨(some (false, 82)), .fa (.l 81) 0, none⟩,
  ⟨(some (false, 83)), .ld none (.l 82), none⟩,
  ⟨(some (false, 84)), .iaa 4 2 (.g 4) (.c (.lit (.int .i64 1))), none⟩,
  ⟨(some (false, 85)), .fa (.l 84) 1, none⟩,
  ⟨(some (false, 86)), .ld none (.l 85), none⟩,
  ⟨(some (false, 87)), .iaa 4 2 (.g 4) (.c (.lit (.int .i64 2))), none⟩,
  ⟨(some (false, 88)), .fa (.l 87) 1, none⟩,
  ⟨(some (false, 89)), .ld none (.l 88), none⟩,
  ⟨(some (false, 90)), .mv (.g 7), none⟩,
  ⟨(some (false, 91)), .call (.c (.fn 166 [])) [.l 80, .l 83, .l 86, .l 89, .l 90, .c (.fn 152 [])], none⟩,
  ⟨(some (false, 92)), .iaa 4 2 (.g 11) (.c (.lit (.int .i64 0))), none⟩,
  ⟨(some (false, 93)), .fa (.l 92) 0, none⟩,
  ⟨none, .st 1 (.l 93) (.l 91), none⟩])
.skip))
(.seq
(.seq
(.reg [
  ⟨(some (false, 94)), .iaa 4 2 (.g 4) (.c (.lit (.int .i64 2))), none⟩,
  ⟨(some (false, 95)), .fa (.l 94) 0, none⟩,
  ⟨(some (false, 96)), .ld none (.l 95), none⟩,
  ⟨(some (false, 97)), .mv (.g 10), none⟩,
  ⟨(some (true, 98)), .bin .leq (.l 96) (.l 97), none⟩])
(.cond (.g 98)
(.reg [
  ⟨(some (false, 99)), .ld (some 8) (.g 3), none⟩,
  ⟨(some (false, 100)), .iaa 4 2 (.g 4) (.c (.lit (.int .i64 0))), none⟩,
  ⟨(some (false, 101)), .fa (.l 100) 1, none⟩,
  ⟨(some (false, 102)), .ld none (.l 101), none⟩,
  ⟨(some (false, 103)), .iaa 4 2 (.g 4) (.c (.lit (.int .i64 1))), none⟩,
  ⟨(some (false, 104)), .fa (.l 103) 0, none⟩,
  ⟨(some (false, 105)), .ld none (.l 104), none⟩,
  ⟨(some (false, 106)), .iaa 4 2 (.g 4) (.c (.lit (.int .i64 2))), none⟩,
  ⟨(some (false, 107)), .fa (.l 106) 0, none⟩,
  ⟨(some (false, 108)), .ld none (.l 107), none⟩,
  ⟨(some (false, 109)), .mv (.g 8), none⟩,
  ⟨(some (false, 110)), .call (.c (.fn 166 [])) [.l 99, .l 102, .l 105, .l 108, .l 109, .c (.fn 167 [])], none⟩,
  ⟨(some (false, 111)), .iaa 4 2 (.g 11) (.c (.lit (.int .i64 0))), none⟩,
  ⟨(some (false, 112)), .fa (.l 111) 1, none⟩,
  ⟨none, .st 1 (.l 112) (.l 110), none⟩])
.skip))
(.seq
(.reg [
  ⟨(some (false, 113)), .ld (some 8) (.g 11), none⟩,
  ⟨none, .st 8 (.g 6) (.l 113), none⟩])
.ret))))))))))
def K161 : List Nat := [0, 1, 2, 79, 98, 6, 3, 4, 5, 7, 8, 9, 10, 11]
noncomputable def b161 : Code := match Try.f161.body with | some c => c | none => .skip
theorem t161 : trCode ⟨Try.prog, K161, [], 114, none⟩ b161 = some c161 := by kernel_rfl
theorem go161 {args : List AV} {H : AHeap} {Kk : AV → AHeap → Prop} (hn : args.length = 3) (h : AGo ⟨Try.prog, K161, [], 114, none⟩ H.length [.code c161] (RetP [.cell (.g 6) (some 8)] H.length Kk) ⟨[], argsG 0 args⟩ H) : ACalls Try.prog 161 args H Kk :=
  ACalls_of Try.func161 (c := b161) rfl (by kernel_rfl) t161 (rs := [.cell (.g 6) (some 8)]) (by kernel_rfl) (by rw [hn]; exact Nat.le_of_ble_eq_true rfl) (by rw [hn]; rfl) (h.weaken (fun _ _ => RetP.hands) (by simp))

/-- (sastrugi/frost.day).melted -/
def c162 : ACode :=
  (.seq
(.reg [
  ⟨(some (true, 3)), .box (.g 0), none⟩,
  ⟨(some (true, 4)), .box (.g 1), none⟩,
  ⟨(some (true, 5)), .box (.g 2), none⟩,
  ⟨(some (true, 6)), .new [.int .i64 0, .int .i64 0, .int .i64 0, .int .i64 0, .int .i64 0, .int .i64 0, .int .i64 0, .int .i64 0], none⟩])
(.seq
(.draw [
  ⟨⟨(some (false, 12)), .fa (.g 5) 1, none⟩, 0, true, []⟩,
  ⟨⟨(some (false, 13)), .ld none (.l 12), none⟩, 1, true, []⟩,
  ⟨⟨(some (false, 14)), .un .neg (.l 13), none⟩, 2, true, []⟩,
  ⟨⟨(some (false, 15)), .fa (.g 3) 0, none⟩, 3, true, []⟩,
  ⟨⟨(some (false, 16)), .fa (.l 15) 3, none⟩, 4, true, []⟩,
  ⟨⟨(some (false, 17)), .fa (.l 16) 0, none⟩, 5, true, []⟩,
  ⟨⟨(some (false, 18)), .ld none (.l 17), none⟩, 6, true, []⟩,
  ⟨⟨(some (false, 20)), .fa (.g 5) 0, none⟩, 8, true, []⟩,
  ⟨⟨(some (false, 21)), .ld none (.l 20), none⟩, 9, true, []⟩,
  ⟨⟨(some (false, 22)), .un .neg (.l 21), none⟩, 10, true, []⟩,
  ⟨⟨(some (false, 23)), .fa (.g 3) 0, none⟩, 11, true, []⟩,
  ⟨⟨(some (false, 24)), .fa (.l 23) 3, none⟩, 12, true, []⟩,
  ⟨⟨(some (false, 25)), .fa (.l 24) 1, none⟩, 13, true, []⟩,
  ⟨⟨(some (false, 26)), .ld none (.l 25), none⟩, 14, true, []⟩,
  ⟨⟨(some (false, 19)), .call (.c (.fn 153 [])) [.l 14, .l 18], none⟩, 7, false, []⟩,
  ⟨⟨(some (false, 27)), .call (.c (.fn 154 [])) [.l 22, .l 26], none⟩, 15, false, []⟩,
  ⟨⟨(some (true, 7)), .mv (.l 19), none⟩, 16, true, []⟩,
  ⟨⟨(some (true, 8)), .mv (.l 27), none⟩, 17, true, []⟩])
(.seq
(.reg [
  ⟨(some (false, 28)), .ld (some 8) (.g 4), none⟩,
  ⟨(some (true, 9)), .new [.int .i64 0, .int .i64 0, .int .i64 0, .int .i64 0, .int .i64 0, .int .i64 0, .int .i64 0, .int .i64 0], none⟩,
  ⟨none, .st 8 (.g 9) (.l 28), none⟩])
(.seq
(.seq
(.reg [
  ⟨(some (true, 29)), .mks false 1 [.c (.lit (.int .i64 3)), .c (.lit (.int .i64 1)), .c (.lit (.int .i64 0))], none⟩,
  ⟨(some (true, 30)), .len (.g 29), none⟩,
  ⟨(some (true, 31)), .mv (.c (.lit (.int .i64 0))), none⟩])
(.block 0
(.loop
(.seq
(.reg [
  ⟨(some (true, 32)), .bin .lss (.g 31) (.g 30), none⟩])
(.seq
(.cond (.g 32)
.skip
(.exit 0))
(.seq
(.block 1
(.seq
(.reg [
  ⟨(some (false, 33)), .ia 1 (.g 29) (.g 31), none⟩,
  ⟨(some (false, 34)), .ld none (.l 33), none⟩,
  ⟨(some (true, 11)), .mv (.l 34), none⟩])
(.seq
(.draw [
  ⟨⟨(some (false, 35)), .mv (.g 11), none⟩, 0, true, []⟩,
  ⟨⟨(some (false, 36)), .mv (.g 11), none⟩, 1, true, []⟩,
  ⟨⟨(some (false, 37)), .iaa 4 2 (.g 4) (.l 36), none⟩, 2, true, []⟩,
  ⟨⟨(some (false, 38)), .fa (.l 37) 0, none⟩, 3, true, []⟩,
  ⟨⟨(some (false, 39)), .ld none (.l 38), none⟩, 4, true, []⟩,
  ⟨⟨(some (false, 40)), .mv (.g 8), none⟩, 5, true, []⟩,
  ⟨⟨(some (false, 41)), .bin .sub (.l 39) (.l 40), none⟩, 6, true, []⟩,
  ⟨⟨(some (false, 42)), .mx [.c (.lit (.int .i64 0)), .l 41], none⟩, 7, true, []⟩,
  ⟨⟨(some (false, 43)), .mv (.g 11), none⟩, 8, true, []⟩,
  ⟨⟨(some (false, 44)), .iaa 4 2 (.g 4) (.l 43), none⟩, 9, true, []⟩,
  ⟨⟨(some (false, 45)), .fa (.l 44) 1, none⟩, 10, true, []⟩,
  ⟨⟨(some (false, 46)), .ld none (.l 45), none⟩, 11, true, []⟩,
  ⟨⟨(some (false, 47)), .mv (.g 7), none⟩, 12, true, []⟩,
  ⟨⟨(some (false, 48)), .bin .sub (.l 46) (.l 47), none⟩, 13, true, []⟩,
  ⟨⟨(some (false, 49)), .mx [.c (.lit (.int .i64 0)), .l 48], none⟩, 14, true, []⟩,
  ⟨⟨(some (false, 50)), .mk [.int .i64 0, .int .i64 0] [(0, 1, .l 42), (1, 1, .l 49)], none⟩, 15, true, []⟩,
  ⟨⟨(some (false, 51)), .iaa 4 2 (.g 9) (.l 35), none⟩, 16, true, []⟩,
  ⟨⟨none, .st 2 (.l 51) (.l 50), none⟩, 17, true, []⟩])
(.draw [
  ⟨⟨(some (false, 52)), .mv (.g 7), none⟩, 0, true, []⟩,
  ⟨⟨(some (false, 53)), .mv (.g 11), none⟩, 1, true, []⟩,
  ⟨⟨(some (false, 54)), .iaa 4 2 (.g 4) (.l 53), none⟩, 2, true, []⟩,
  ⟨⟨(some (false, 55)), .fa (.l 54) 1, none⟩, 3, true, []⟩,
  ⟨⟨(some (false, 56)), .ld none (.l 55), none⟩, 4, true, []⟩,
  ⟨⟨(some (false, 57)), .bin .sub (.l 52) (.l 56), none⟩, 5, true, []⟩,
  ⟨⟨(some (false, 58)), .mx [.c (.lit (.int .i64 0)), .l 57], none⟩, 6, true, []⟩,
  ⟨⟨(some (false, 59)), .mv (.g 8), none⟩, 7, true, []⟩,
  ⟨⟨(some (false, 60)), .mv (.g 11), none⟩, 8, true, []⟩,
  ⟨⟨(some (false, 61)), .iaa 4 2 (.g 4) (.l 60), none⟩, 9, true, []⟩,
  ⟨⟨(some (false, 62)), .fa (.l 61) 0, none⟩, 10, true, []⟩,
  ⟨⟨(some (false, 63)), .ld none (.l 62), none⟩, 11, true, []⟩,
  ⟨⟨(some (false, 64)), .bin .sub (.l 59) (.l 63), none⟩, 12, true, []⟩,
  ⟨⟨(some (false, 65)), .mx [.c (.lit (.int .i64 0)), .l 64], none⟩, 13, true, []⟩,
  ⟨⟨(some (true, 7)), .mv (.l 58), none⟩, 14, true, []⟩,
  ⟨⟨(some (true, 8)), .mv (.l 65), none⟩, 15, true, []⟩]))))
(.reg [
  ⟨(some (false, 66)), .bin .add (.g 31) (.c (.lit (.int .i64 1))), none⟩,
  ⟨(some (true, 31)), .mv (.l 66), none⟩])))))))
(.seq
(.reg [
  ⟨(some (false, 67)), .ld (some 8) (.g 9), none⟩,
  ⟨none, .st 8 (.g 6) (.l 67), none⟩])
.ret)))))
def K162 : List Nat := [0, 1, 2, 32, 6, 3, 4, 5, 7, 8, 9, 29, 30, 31, 11]
noncomputable def b162 : Code := match Try.f162.body with | some c => c | none => .skip
theorem t162 : trCode ⟨Try.prog, K162, [], 68, none⟩ b162 = some c162 := by kernel_rfl
theorem go162 {args : List AV} {H : AHeap} {Kk : AV → AHeap → Prop} (hn : args.length = 3) (h : AGo ⟨Try.prog, K162, [], 68, none⟩ H.length [.code c162] (RetP [.cell (.g 6) (some 8)] H.length Kk) ⟨[], argsG 0 args⟩ H) : ACalls Try.prog 162 args H Kk :=
  ACalls_of Try.func162 (c := b162) rfl (by kernel_rfl) t162 (rs := [.cell (.g 6) (some 8)]) (by kernel_rfl) (by rw [hn]; exact Nat.le_of_ble_eq_true rfl) (by rw [hn]; rfl) (h.weaken (fun _ _ => RetP.hands) (by simp))

/-- sastrugi/frost.joined -/
def c163 : ACode :=
  (.seq
(.reg [
  ⟨(some (true, 2)), .box (.g 0), none⟩,
  ⟨(some (true, 3)), .box (.g 1), none⟩,
  ⟨(some (true, 4)), .new [.int .i64 0, .int .i64 0, .int .i64 0, .int .i64 0, .int .i64 0, .int .i64 0, .int .i64 0, .int .i64 0], none⟩])
(.seq
(.seq
(.reg [
  ⟨(some (true, 7)), .ld (some 8) (.g 3), none⟩,
  ⟨(some (true, 8)), .mv (.c (.lit (.int .i64 0))), none⟩])
(.block 0
(.loop
(.seq
(.reg [
  ⟨(some (true, 9)), .bin .lss (.g 8) (.c (.lit (.int .i64 4))), none⟩])
(.seq
(.cond (.g 9)
.skip
(.exit 0))
(.seq
(.block 1
(.seq
(.reg [
  ⟨(some (false, 10)), .mv (.g 8), none⟩,
  ⟨(some (false, 11)), .ix 4 2 (some 2) (.g 7) (.g 8), none⟩,
  ⟨(some (true, 6)), .new [.int .i64 0, .int .i64 0], none⟩,
  ⟨(some (true, 5)), .mv (.l 10), none⟩,
  ⟨none, .st 2 (.g 6) (.l 11), none⟩])
(.draw [
  ⟨⟨(some (false, 12)), .mv (.g 5), none⟩, 0, true, []⟩,
  ⟨⟨(some (false, 13)), .mv (.g 5), none⟩, 1, true, []⟩,
  ⟨⟨(some (false, 14)), .iaa 4 2 (.g 2) (.l 13), none⟩, 2, true, []⟩,
  ⟨⟨(some (false, 15)), .fa (.l 14) 0, none⟩, 3, true, []⟩,
  ⟨⟨(some (false, 16)), .ld none (.l 15), none⟩, 4, true, []⟩,
  ⟨⟨(some (false, 17)), .fa (.g 6) 0, none⟩, 5, true, []⟩,
  ⟨⟨(some (false, 18)), .ld none (.l 17), none⟩, 6, true, []⟩,
  ⟨⟨(some (false, 19)), .mn [.l 16, .l 18], none⟩, 7, true, []⟩,
  ⟨⟨(some (false, 20)), .mv (.g 5), none⟩, 8, true, []⟩,
  ⟨⟨(some (false, 21)), .iaa 4 2 (.g 2) (.l 20), none⟩, 9, true, []⟩,
  ⟨⟨(some (false, 22)), .fa (.l 21) 1, none⟩, 10, true, []⟩,
  ⟨⟨(some (false, 23)), .ld none (.l 22), none⟩, 11, true, []⟩,
  ⟨⟨(some (false, 24)), .fa (.g 6) 1, none⟩, 12, true, []⟩,
  ⟨⟨(some (false, 25)), .ld none (.l 24), none⟩, 13, true, []⟩,
  ⟨⟨(some (false, 26)), .mx [.l 23, .l 25], none⟩, 14, true, []⟩,
  ⟨⟨(some (false, 27)), .mk [.int .i64 0, .int .i64 0] [(0, 1, .l 19), (1, 1, .l 26)], none⟩, 15, true, []⟩,
  ⟨⟨(some (false, 28)), .iaa 4 2 (.g 2) (.l 12), none⟩, 16, true, []⟩,
  ⟨⟨none, .st 2 (.l 28) (.l 27), none⟩, 17, true, []⟩])))
(.reg [
  ⟨(some (false, 29)), .bin .add (.g 8) (.c (.lit (.int .i64 1))), none⟩,
  ⟨(some (true, 8)), .mv (.l 29), none⟩])))))))
(.seq
(.reg [
  ⟨(some (false, 30)), .ld (some 8) (.g 2), none⟩,
  ⟨none, .st 8 (.g 4) (.l 30), none⟩])
.ret)))
def K163 : List Nat := [0, 1, 9, 4, 2, 3, 7, 8, 6, 5]
noncomputable def b163 : Code := match Try.f163.body with | some c => c | none => .skip
theorem t163 : trCode ⟨Try.prog, K163, [], 31, none⟩ b163 = some c163 := by kernel_rfl
theorem go163 {args : List AV} {H : AHeap} {Kk : AV → AHeap → Prop} (hn : args.length = 2) (h : AGo ⟨Try.prog, K163, [], 31, none⟩ H.length [.code c163] (RetP [.cell (.g 4) (some 8)] H.length Kk) ⟨[], argsG 0 args⟩ H) : ACalls Try.prog 163 args H Kk :=
  ACalls_of Try.func163 (c := b163) rfl (by kernel_rfl) t163 (rs := [.cell (.g 4) (some 8)]) (by kernel_rfl) (by rw [hn]; exact Nat.le_of_ble_eq_true rfl) (by rw [hn]; rfl) (h.weaken (fun _ _ => RetP.hands) (by simp))

/-- (sastrugi/frost.day).through -/
def c165 : ACode :=
  (.seq
(.reg [
  ⟨(some (true, 2)), .box (.g 0), none⟩,
  ⟨(some (true, 4)), .new [.int .i64 0, .int .i64 0], none⟩])
(.seq
(.reg [
  ⟨(some (false, 8)), .fa (.g 2) 0, none⟩,
  ⟨(some (false, 9)), .fa (.l 8) 2, none⟩,
  ⟨(some (false, 10)), .ld none (.l 9), none⟩,
  ⟨(some (false, 11)), .ia 3 (.l 10) (.c (.lit (.int .i64 0))), none⟩,
  ⟨(some (false, 12)), .fa (.l 11) 1, none⟩,
  ⟨(some (false, 13)), .ld (some 2) (.l 12), none⟩,
  ⟨(some (true, 5)), .new [.int .i64 0, .int .i64 0], none⟩,
  ⟨none, .st 2 (.g 5) (.l 13), none⟩])
(.seq
(.seq
(.reg [
  ⟨(some (false, 14)), .fa (.g 2) 0, none⟩,
  ⟨(some (false, 15)), .fa (.l 14) 2, none⟩,
  ⟨(some (true, 16)), .ld none (.l 15), none⟩,
  ⟨(some (true, 17)), .len (.g 16), none⟩,
  ⟨(some (true, 18)), .mv (.c (.lit (.int .i64 0))), none⟩])
(.block 0
(.loop
(.seq
(.reg [
  ⟨(some (true, 19)), .bin .lss (.g 18) (.g 17), none⟩])
(.seq
(.cond (.g 19)
.skip
(.exit 0))
(.seq
(.block 1
(.seq
(.reg [
  ⟨(some (false, 20)), .ia 3 (.g 16) (.g 18), none⟩,
  ⟨(some (false, 21)), .ld (some 3) (.l 20), none⟩,
  ⟨(some (true, 7)), .new [.int .i64 0, .int .i64 0, .int .i64 0], none⟩,
  ⟨none, .st 3 (.g 7) (.l 21), none⟩])
(.seq
(.reg [
  ⟨(some (false, 22)), .fa (.g 7) 0, none⟩,
  ⟨(some (false, 23)), .ld none (.l 22), none⟩,
  ⟨(some (false, 24)), .mv (.g 1), none⟩,
  ⟨(some (true, 25)), .bin .leq (.l 23) (.l 24), none⟩])
(.cond (.g 25)
(.reg [
  ⟨(some (false, 26)), .fa (.g 7) 1, none⟩,
  ⟨(some (false, 27)), .ld (some 2) (.l 26), none⟩,
  ⟨none, .st 2 (.g 5) (.l 27), none⟩])
.skip))))
(.reg [
  ⟨(some (false, 28)), .bin .add (.g 18) (.c (.lit (.int .i64 1))), none⟩,
  ⟨(some (true, 18)), .mv (.l 28), none⟩])))))))
(.seq
(.reg [
  ⟨(some (false, 29)), .ld (some 2) (.g 5), none⟩,
  ⟨none, .st 2 (.g 4) (.l 29), none⟩])
.ret))))
def K165 : List Nat := [0, 1, 19, 25, 4, 2, 5, 16, 17, 18, 7]
noncomputable def b165 : Code := match Try.f165.body with | some c => c | none => .skip
theorem t165 : trCode ⟨Try.prog, K165, [], 30, none⟩ b165 = some c165 := by kernel_rfl
theorem go165 {args : List AV} {H : AHeap} {Kk : AV → AHeap → Prop} (hn : args.length = 2) (h : AGo ⟨Try.prog, K165, [], 30, none⟩ H.length [.code c165] (RetP [.cell (.g 4) (some 2)] H.length Kk) ⟨[], argsG 0 args⟩ H) : ACalls Try.prog 165 args H Kk :=
  ACalls_of Try.func165 (c := b165) rfl (by kernel_rfl) t165 (rs := [.cell (.g 4) (some 2)]) (by kernel_rfl) (by rw [hn]; exact Nat.le_of_ble_eq_true rfl) (by rw [hn]; rfl) (h.weaken (fun _ _ => RetP.hands) (by simp))

/-- (sastrugi/frost.day).grown -/
def c166 : ACode :=
  (.seq
(.reg [
  ⟨(some (true, 6)), .box (.g 0), none⟩,
  ⟨(some (true, 12)), .mv (.c (.lit (.int .i64 0))), none⟩])
(.seq
(.reg [
  ⟨(some (false, 15)), .mv (.g 2), none⟩,
  ⟨(some (false, 16)), .mv (.g 3), none⟩,
  ⟨(some (false, 17)), .bin .add (.l 15) (.l 16), none⟩,
  ⟨(some (true, 13)), .mv (.l 17), none⟩])
(.seq
(.reg [
  ⟨(some (false, 18)), .mv (.g 1), none⟩,
  ⟨(some (false, 19)), .mv (.g 13), none⟩,
  ⟨(some (false, 20)), .bin .add (.l 18) (.l 19), none⟩,
  ⟨(some (true, 14)), .mv (.l 20), none⟩])
(.seq
(.reg [
  ⟨(some (false, 21)), .mv (.g 5), none⟩,
  ⟨(some (false, 22)), .mv (.g 14), none⟩,
  ⟨(some (false, 23)), .mv (.g 14), none⟩,
  ⟨(some (false, 24)), .bin .mul (.l 22) (.l 23), none⟩,
  ⟨(some (false, 25)), .fa (.g 6) 0, none⟩,
  ⟨(some (false, 26)), .fa (.l 25) 0, none⟩,
  ⟨(some (false, 27)), .ld none (.l 26), none⟩,
  ⟨(some (false, 28)), .mv (.g 4), none⟩,
  ⟨(some (false, 29)), .mv (.g 3), none⟩,
  ⟨(some (false, 30)), .fa (.g 6) 0, none⟩,
  ⟨(some (false, 31)), .fa (.l 30) 1, none⟩,
  ⟨(some (false, 32)), .ld none (.l 31), none⟩,
  ⟨(some (false, 33)), .bin .mul (.l 29) (.l 32), none⟩,
  ⟨(some (false, 34)), .bin .sub (.l 28) (.l 33), none⟩,
  ⟨(some (false, 35)), .bin .mul (.l 27) (.l 34), none⟩,
  ⟨(some (false, 36)), .bin .add (.l 24) (.l 35), none⟩,
  ⟨(some (false, 37)), .call (.l 21) [.l 36], none⟩,
  ⟨(some (false, 38)), .mv (.g 13), none⟩,
  ⟨(some (false, 39)), .bin .sub (.l 37) (.l 38), none⟩,
  ⟨(some (true, 12)), .mv (.l 39), none⟩])
.ret))))
def K166 : List Nat := [0, 1, 2, 3, 4, 5, 12, 6, 13, 14]
noncomputable def b166 : Code := match Try.f166.body with | some c => c | none => .skip
theorem t166 : trCode ⟨Try.prog, K166, [], 40, none⟩ b166 = some c166 := by kernel_rfl
theorem go166 {args : List AV} {H : AHeap} {Kk : AV → AHeap → Prop} (hn : args.length = 6) (h : AGo ⟨Try.prog, K166, [], 40, none⟩ H.length [.code c166] (RetP [.t (.g 12)] H.length Kk) ⟨[], argsG 0 args⟩ H) : ACalls Try.prog 166 args H Kk :=
  ACalls_of Try.func166 (c := b166) rfl (by kernel_rfl) t166 (rs := [.t (.g 12)]) (by kernel_rfl) (by rw [hn]; exact Nat.le_of_ble_eq_true rfl) (by rw [hn]; rfl) (h.weaken (fun _ _ => RetP.hands) (by simp))

/-- sastrugi/frost.rootUp -/
def c167 : ACode :=
  (.seq
(.reg [
  ⟨(some (true, 2)), .mv (.c (.lit (.int .i64 0))), none⟩])
(.seq
(.reg [
  ⟨(some (false, 4)), .mv (.g 0), none⟩,
  ⟨(some (false, 5)), .call (.c (.fn 152 [])) [.l 4], none⟩,
  ⟨(some (true, 3)), .mv (.l 5), none⟩])
(.seq
(.seq
(.reg [
  ⟨(some (false, 6)), .mv (.g 3), none⟩,
  ⟨(some (false, 7)), .mv (.g 3), none⟩,
  ⟨(some (false, 8)), .bin .mul (.l 6) (.l 7), none⟩,
  ⟨(some (false, 9)), .mv (.g 0), none⟩,
  ⟨(some (true, 10)), .bin .lss (.l 8) (.l 9), none⟩])
(.cond (.g 10)
(.reg [
  ⟨(some (false, 11)), .mv (.g 3), none⟩,
  ⟨(some (false, 12)), .bin .add (.l 11) (.c (.lit (.int .i64 1))), none⟩,
  ⟨(some (true, 3)), .mv (.l 12), none⟩])
.skip))
(.seq
(.reg [
  ⟨(some (false, 13)), .mv (.g 3), none⟩,
  ⟨(some (true, 2)), .mv (.l 13), none⟩])
.ret))))
def K167 : List Nat := [0, 10, 2, 3]
noncomputable def b167 : Code := match Try.f167.body with | some c => c | none => .skip
theorem t167 : trCode ⟨Try.prog, K167, [], 14, none⟩ b167 = some c167 := by kernel_rfl
theorem go167 {args : List AV} {H : AHeap} {Kk : AV → AHeap → Prop} (hn : args.length = 1) (h : AGo ⟨Try.prog, K167, [], 14, none⟩ H.length [.code c167] (RetP [.t (.g 2)] H.length Kk) ⟨[], argsG 0 args⟩ H) : ACalls Try.prog 167 args H Kk :=
  ACalls_of Try.func167 (c := b167) rfl (by kernel_rfl) t167 (rs := [.t (.g 2)]) (by kernel_rfl) (by rw [hn]; exact Nat.le_of_ble_eq_true rfl) (by rw [hn]; rfl) (h.weaken (fun _ _ => RetP.hands) (by simp))

/-- sastrugi/sastrugitop.TopBears -/
def c15 : ACode :=
  (.seq
(.reg [
  ⟨(some (true, 2)), .mv (.c (.lit (.bool false))), none⟩])
(.seq
(.reg [
  ⟨(some (false, 23)), .mv (.g 0), none⟩,
  ⟨(some (false, 24)), .call (.c (.fn 20 [])) [.l 23], none⟩,
  ⟨(some (true, 3)), .mv (.l 24), none⟩])
(.seq
(.reg [
  ⟨(some (false, 25)), .mv (.g 3), none⟩,
  ⟨(some (false, 26)), .call (.c (.fn 65 [])) [.l 25], none⟩,
  ⟨(some (false, 27)), .mv (.g 3), none⟩,
  ⟨(some (false, 28)), .call (.c (.fn 66 [])) [.l 27], none⟩,
  ⟨(some (false, 29)), .mv (.g 3), none⟩,
  ⟨(some (false, 30)), .mv (.g 3), none⟩,
  ⟨(some (false, 31)), .call (.c (.fn 68 [])) [.l 30, .c (.lit (.int .i64 2))], none⟩,
  ⟨(some (false, 32)), .call (.c (.fn 67 [])) [.l 29, .c (.lit (.int .i64 8)), .l 31], none⟩,
  ⟨(some (true, 4)), .new [.int .i64 0, .int .i64 0, .slice none 0 0, .int .i64 0, .int .i64 0, .int .i64 0, .int .i64 0, .int .i64 0], none⟩,
  ⟨(some (true, 5)), .new [.int .i64 0, .int .i64 0, .int .i64 0, .int .i64 0, .int .i64 0, .int .i64 0, .int .i64 0, .int .i64 0], none⟩,
  ⟨none, .st 8 (.g 4) (.l 26), none⟩,
  ⟨none, .st 8 (.g 5) (.l 28), none⟩,
  ⟨(some (true, 6)), .mv (.l 32), none⟩])
(.seq
(.reg [
  ⟨(some (false, 34)), .ld (some 8) (.g 4), none⟩,
  ⟨(some (false, 35)), .ld (some 8) (.g 5), none⟩,
  ⟨(some (false, 36)), .mv (.g 6), none⟩,
  ⟨(some (false, 37)), .call (.c (.fn 69 [])) [.l 34, .l 35, .l 36], none⟩,
  ⟨(some (false, 33)), .mv (.l 37), none⟩,
  ⟨(some (false, 38)), .ex (.l 33) 0, none⟩,
  ⟨(some (false, 39)), .ex (.l 33) 1, none⟩,
  ⟨(some (true, 7)), .mv (.l 38), none⟩,
  ⟨(some (true, 8)), .mv (.l 39), none⟩])
(.seq
(.seq
(.reg [
  ⟨(some (false, 40)), .mv (.g 8), none⟩,
  ⟨(some (false, 41)), .bin .neq (.l 40) (.c (.lit (.int .i64 0))), none⟩,
  ⟨(some (false, 42)), .mv (.l 41), none⟩,
  ⟨(some (false, 43)), .mv (.g 7), (some (.l 42, false))⟩,
  ⟨(some (false, 44)), .len (.l 43), (some (.l 42, false))⟩,
  ⟨(some (false, 45)), .mv (.g 6), (some (.l 42, false))⟩,
  ⟨(some (false, 46)), .len (.l 45), (some (.l 42, false))⟩,
  ⟨(some (false, 47)), .bin .neq (.l 44) (.l 46), (some (.l 42, false))⟩,
  ⟨(some (true, 48)), .pick (.l 42) (.c (.lit (.bool true))) (.l 47), none⟩])
(.cond (.g 48)
(.seq
(.reg [
  ⟨(some (true, 2)), .mv (.c (.lit (.bool false))), none⟩])
.ret)
.skip))
(.seq
(.reg [
  ⟨(some (false, 49)), .mv (.g 3), none⟩,
  ⟨(some (false, 50)), .ld (some 8) (.g 5), none⟩,
  ⟨(some (false, 51)), .call (.c (.fn 70 [])) [.l 49, .l 50], none⟩,
  ⟨(some (true, 9)), .new [.int .i64 0, .int .i64 0, .int .i64 0, .int .i64 0], none⟩,
  ⟨none, .st 4 (.g 9) (.l 51), none⟩])
(.seq
(.seq
(.reg [
  ⟨(some (true, 10)), .mv (.c (.lit (.int .i64 0))), none⟩])
(.block 0
(.loop
(.seq
(.seq
(.reg [
  ⟨(some (false, 52)), .mv (.g 10), none⟩,
  ⟨(some (false, 53)), .mv (.g 6), none⟩,
  ⟨(some (false, 54)), .len (.l 53), none⟩,
  ⟨(some (true, 55)), .bin .lss (.l 52) (.l 54), none⟩])
(.cond (.g 55)
.skip
(.exit 0)))
(.seq
(.block 1
(.draw [
  ⟨⟨(some (false, 58)), .mv (.g 3), none⟩, 0, true, []⟩,
  ⟨⟨(some (false, 59)), .ld (some 8) (.g 4), none⟩, 1, true, []⟩,
  ⟨⟨(some (false, 60)), .ld (some 4) (.g 9), none⟩, 2, true, []⟩,
  ⟨⟨(some (false, 61)), .mv (.g 6), none⟩, 3, true, []⟩,
  ⟨⟨(some (false, 62)), .mv (.g 10), none⟩, 4, true, []⟩,
  ⟨⟨(some (false, 63)), .ia 6 (.l 61) (.l 62), none⟩, 5, true, []⟩,
  ⟨⟨(some (false, 64)), .ld (some 6) (.l 63), none⟩, 6, true, []⟩,
  ⟨⟨(some (false, 66)), .mv (.g 7), none⟩, 8, false, []⟩,
  ⟨⟨(some (false, 67)), .mv (.g 10), none⟩, 9, false, []⟩,
  ⟨⟨(some (false, 68)), .ia 8 (.l 66) (.l 67), none⟩, 10, false, []⟩,
  ⟨⟨(some (false, 69)), .ld (some 8) (.l 68), none⟩, 11, false, []⟩,
  ⟨⟨(some (false, 65)), .call (.c (.fn 71 [])) [.l 58, .l 59, .l 60, .l 64], none⟩, 7, false, []⟩,
  ⟨⟨none, .st 4 (.g 9) (.l 65), none⟩, 12, false, []⟩,
  ⟨⟨none, .st 8 (.g 5) (.l 69), none⟩, 13, true, []⟩]))
(.reg [
  ⟨(some (false, 56)), .mv (.g 10), none⟩,
  ⟨(some (false, 57)), .bin .add (.l 56) (.c (.lit (.int .i64 1))), none⟩,
  ⟨(some (true, 10)), .mv (.l 57), none⟩]))))))
(.seq
(.seq
(.reg [
  ⟨(some (false, 70)), .ld (some 8) (.g 5), none⟩,
  ⟨(some (false, 71)), .call (.c (.fn 72 [])) [.l 70], none⟩,
  ⟨(some (true, 72)), .bin .neq (.l 71) (.c (.lit (.int .i64 0))), none⟩])
(.cond (.g 72)
(.seq
(.reg [
  ⟨(some (false, 73)), .call (.c (.fn 73 [])) [], none⟩,
  ⟨(some (true, 2)), .mv (.l 73), none⟩])
.ret)
.skip))
(.seq
(.reg [
  ⟨(some (false, 75)), .ld (some 8) (.g 4), none⟩,
  ⟨(some (false, 76)), .ld (some 8) (.g 5), none⟩,
  ⟨(some (false, 77)), .call (.c (.fn 74 [])) [.l 75, .l 76], none⟩,
  ⟨(some (false, 74)), .mv (.l 77), none⟩,
  ⟨(some (false, 78)), .ex (.l 74) 0, none⟩,
  ⟨(some (false, 79)), .ex (.l 74) 1, none⟩,
  ⟨(some (false, 80)), .ex (.l 74) 2, none⟩,
  ⟨(some (true, 11)), .new [.int .i64 0, .int .i64 0], none⟩,
  ⟨none, .st 2 (.g 11) (.l 78), none⟩,
  ⟨(some (false, 12)), .mv (.l 79), none⟩,
  ⟨(some (true, 13)), .mv (.l 80), none⟩])
(.seq
(.seq
(.reg [
  ⟨(some (false, 81)), .mv (.g 13), none⟩,
  ⟨(some (true, 82)), .bin .neq (.l 81) (.c (.lit (.int .i64 0))), none⟩])
(.cond (.g 82)
(.seq
(.reg [
  ⟨(some (true, 2)), .mv (.c (.lit (.bool false))), none⟩])
.ret)
.skip))
(.seq
(.seq
(.reg [
  ⟨(some (false, 83)), .fa (.g 11) 1, none⟩,
  ⟨(some (false, 84)), .ld none (.l 83), none⟩,
  ⟨(some (true, 85)), .bin .gtr (.l 84) (.c (.lit (.int .i64 5000))), none⟩])
(.cond (.g 85)
(.seq
(.reg [
  ⟨(some (false, 86)), .call (.c (.fn 73 [])) [], none⟩,
  ⟨(some (true, 2)), .mv (.l 86), none⟩])
.ret)
.skip))
(.seq
(.reg [
  ⟨(some (false, 87)), .mv (.g 3), none⟩,
  ⟨(some (false, 88)), .call (.c (.fn 21 [])) [.l 87], none⟩,
  ⟨(some (false, 89)), .mv (.g 3), none⟩,
  ⟨(some (false, 90)), .call (.c (.fn 24 [])) [.l 89, .c (.lit (.int .i64 1)), .c (.lit (.int .i64 4))], none⟩,
  ⟨(some (true, 14)), .new [.int .i64 0, .int .i64 0, .slice none 0 0, .slice none 0 0, .int .i64 0, .int .i64 0, .int .i64 0, .int .i64 0, .int .i64 0, .int .i64 0, .int .i64 0], none⟩,
  ⟨none, .st 11 (.g 14) (.l 88), none⟩,
  ⟨(some (true, 15)), .mv (.l 90), none⟩])
(.seq
(.reg [
  ⟨(some (false, 91)), .mks false 4 [], none⟩,
  ⟨(some (false, 92)), .mv (.g 15), none⟩,
  ⟨(some (false, 93)), .app 4 32 (.l 91) (.l 92), none⟩,
  ⟨(some (true, 16)), .mv (.l 93), none⟩])
(.seq
(.seq
(.reg [
  ⟨(some (true, 17)), .mv (.c (.lit (.int .i64 0))), none⟩])
(.block 2
(.loop
(.seq
(.seq
(.reg [
  ⟨(some (false, 94)), .mv (.g 17), none⟩,
  ⟨(some (false, 95)), .mv (.g 16), none⟩,
  ⟨(some (false, 96)), .len (.l 95), none⟩,
  ⟨(some (true, 97)), .bin .lss (.l 94) (.l 96), none⟩])
(.cond (.g 97)
.skip
(.exit 2)))
(.seq
(.block 3
(.reg [
  ⟨(some (false, 100)), .mv (.g 16), none⟩,
  ⟨(some (false, 101)), .mv (.g 17), none⟩,
  ⟨(some (false, 102)), .mv (.g 3), none⟩,
  ⟨(some (false, 103)), .mv (.g 16), none⟩,
  ⟨(some (false, 104)), .mv (.g 17), none⟩,
  ⟨(some (false, 105)), .ia 4 (.l 103) (.l 104), none⟩,
  ⟨(some (false, 106)), .fa (.l 105) 1, none⟩,
  ⟨(some (false, 107)), .ld (some 2) (.l 106), none⟩,
  ⟨(some (false, 108)), .call (.c (.fn 29 [])) [.l 102, .l 107], none⟩,
  ⟨(some (false, 109)), .call (.c (.fn 75 [])) [.l 108], none⟩,
  ⟨(some (false, 110)), .ia 4 (.l 100) (.l 101), none⟩,
  ⟨(some (false, 111)), .fa (.l 110) 1, none⟩,
  ⟨none, .st 2 (.l 111) (.l 109), none⟩]))
(.reg [
  ⟨(some (false, 98)), .mv (.g 17), none⟩,
  ⟨(some (false, 99)), .bin .add (.l 98) (.c (.lit (.int .i64 1))), none⟩,
  ⟨(some (true, 17)), .mv (.l 99), none⟩]))))))
(.seq
(.reg [
  ⟨(some (false, 113)), .ld (some 11) (.g 14), none⟩,
  ⟨(some (false, 114)), .ld (some 2) (.g 11), none⟩,
  ⟨(some (false, 115)), .mks false 2 [.l 114], none⟩,
  ⟨(some (false, 116)), .mv (.g 15), none⟩,
  ⟨(some (false, 117)), .call (.c (.fn 25 [])) [.l 113, .l 115, .c (.lit (.slice none 0 0)), .l 116], none⟩,
  ⟨(some (false, 112)), .mv (.l 117), none⟩,
  ⟨(some (false, 118)), .ex (.l 112) 0, none⟩,
  ⟨(some (false, 119)), .ex (.l 112) 1, none⟩,
  ⟨(some (true, 18)), .mv (.l 118), none⟩,
  ⟨(some (true, 19)), .mv (.l 119), none⟩])
(.seq
(.reg [
  ⟨(some (false, 120)), .mv (.g 3), none⟩,
  ⟨(some (false, 121)), .fa (.g 14) 0, none⟩,
  ⟨(some (false, 122)), .ld (some 2) (.l 121), none⟩,
  ⟨(some (false, 123)), .call (.c (.fn 29 [])) [.l 120, .l 122], none⟩,
  ⟨(some (false, 124)), .call (.c (.fn 75 [])) [.l 123], none⟩,
  ⟨(some (false, 125)), .fa (.g 14) 0, none⟩,
  ⟨none, .st 2 (.l 125) (.l 124), none⟩])
(.seq
(.draw [
  ⟨⟨(some (false, 127)), .ld (some 11) (.g 14), none⟩, 0, true, []⟩,
  ⟨⟨(some (false, 128)), .mv (.g 3), none⟩, 1, true, []⟩,
  ⟨⟨(some (false, 129)), .ld (some 8) (.g 4), none⟩, 2, true, []⟩,
  ⟨⟨(some (false, 130)), .ld (some 4) (.g 9), none⟩, 3, true, []⟩,
  ⟨⟨(some (false, 134)), .mv (.g 16), none⟩, 7, true, []⟩,
  ⟨⟨(some (false, 131)), .call (.c (.fn 76 [])) [.l 128, .l 129, .l 130], none⟩, 4, false, []⟩,
  ⟨⟨(some (false, 132)), .call (.c (.fn 75 [])) [.l 131], none⟩, 5, false, []⟩,
  ⟨⟨(some (false, 133)), .mks false 2 [.l 132], none⟩, 6, true, []⟩,
  ⟨⟨(some (false, 135)), .call (.c (.fn 25 [])) [.l 127, .l 133, .c (.lit (.slice none 0 0)), .l 134], none⟩, 8, false, []⟩,
  ⟨⟨(some (false, 126)), .mv (.l 135), none⟩, 9, true, []⟩,
  ⟨⟨(some (false, 136)), .ex (.l 126) 0, none⟩, 10, true, []⟩,
  ⟨⟨(some (false, 137)), .ex (.l 126) 1, none⟩, 11, true, []⟩,
  ⟨⟨(some (true, 20)), .mv (.l 136), none⟩, 12, true, []⟩,
  ⟨⟨(some (true, 21)), .mv (.l 137), none⟩, 13, true, []⟩])
(.seq
(.seq
(.reg [
  ⟨(some (false, 138)), .mv (.g 19), none⟩,
  ⟨(some (false, 139)), .bin .neq (.l 138) (.c (.lit (.int .i64 0))), none⟩,
  ⟨(some (false, 140)), .mv (.l 139), none⟩,
  ⟨(some (false, 141)), .mv (.g 21), (some (.l 140, false))⟩,
  ⟨(some (false, 142)), .bin .neq (.l 141) (.c (.lit (.int .i64 0))), (some (.l 140, false))⟩,
  ⟨(some (false, 143)), .pick (.l 140) (.c (.lit (.bool true))) (.l 142), none⟩,
  ⟨(some (false, 144)), .mv (.l 143), none⟩,
  ⟨(some (false, 145)), .mv (.g 18), (some (.l 144, false))⟩,
  ⟨(some (false, 146)), .len (.l 145), (some (.l 144, false))⟩,
  ⟨(some (false, 147)), .mv (.g 15), (some (.l 144, false))⟩,
  ⟨(some (false, 148)), .len (.l 147), (some (.l 144, false))⟩,
  ⟨(some (false, 149)), .bin .neq (.l 146) (.l 148), (some (.l 144, false))⟩,
  ⟨(some (false, 150)), .pick (.l 144) (.c (.lit (.bool true))) (.l 149), none⟩,
  ⟨(some (false, 151)), .mv (.l 150), none⟩,
  ⟨(some (false, 152)), .mv (.g 20), (some (.l 151, false))⟩,
  ⟨(some (false, 153)), .len (.l 152), (some (.l 151, false))⟩,
  ⟨(some (false, 154)), .mv (.g 15), (some (.l 151, false))⟩,
  ⟨(some (false, 155)), .len (.l 154), (some (.l 151, false))⟩,
  ⟨(some (false, 156)), .bin .neq (.l 153) (.l 155), (some (.l 151, false))⟩,
  ⟨(some (true, 157)), .pick (.l 151) (.c (.lit (.bool true))) (.l 156), none⟩])
(.cond (.g 157)
(.seq
(.reg [
  ⟨(some (true, 2)), .mv (.c (.lit (.bool false))), none⟩])
.ret)
.skip))
(.seq
(.seq
(.reg [
  ⟨(some (true, 22)), .mv (.c (.lit (.int .i64 0))), none⟩])
(.block 4
(.loop
(.seq
(.seq
(.reg [
  ⟨(some (false, 158)), .mv (.g 22), none⟩,
  ⟨(some (false, 159)), .mv (.g 18), none⟩,
  ⟨(some (false, 160)), .len (.l 159), none⟩,
  ⟨(some (true, 161)), .bin .lss (.l 158) (.l 160), none⟩])
(.cond (.g 161)
.skip
(.exit 4)))
(.seq
(.block 5
(.seq
(.draw [
  ⟨⟨(some (false, 164)), .mv (.g 18), none⟩, 0, true, []⟩,
  ⟨⟨(some (false, 165)), .mv (.g 22), none⟩, 1, true, []⟩,
  ⟨⟨(some (false, 166)), .ia 1 (.l 164) (.l 165), none⟩, 2, true, []⟩,
  ⟨⟨(some (false, 167)), .ld none (.l 166), none⟩, 3, true, []⟩,
  ⟨⟨(some (false, 168)), .bin .neq (.l 167) (.c (.lit (.int .i64 3))), none⟩, 4, true, []⟩,
  ⟨⟨(some (false, 169)), .mv (.l 168), none⟩, 5, true, []⟩,
  ⟨⟨(some (false, 170)), .mv (.g 18), (some (.l 169, true))⟩, 6, true, []⟩,
  ⟨⟨(some (false, 171)), .mv (.g 22), (some (.l 169, true))⟩, 7, true, []⟩,
  ⟨⟨(some (false, 172)), .ia 1 (.l 170) (.l 171), (some (.l 169, true))⟩, 8, true, []⟩,
  ⟨⟨(some (false, 173)), .ld none (.l 172), (some (.l 169, true))⟩, 9, true, []⟩,
  ⟨⟨(some (false, 174)), .mv (.g 20), (some (.l 169, true))⟩, 10, true, []⟩,
  ⟨⟨(some (false, 175)), .mv (.g 22), (some (.l 169, true))⟩, 11, true, []⟩,
  ⟨⟨(some (false, 176)), .ia 1 (.l 174) (.l 175), (some (.l 169, true))⟩, 12, true, []⟩,
  ⟨⟨(some (false, 177)), .ld none (.l 176), (some (.l 169, true))⟩, 13, true, []⟩,
  ⟨⟨(some (false, 178)), .bin .neq (.l 173) (.l 177), (some (.l 169, true))⟩, 14, true, []⟩,
  ⟨⟨(some (false, 179)), .pick (.l 169) (.l 178) (.c (.lit (.bool false))), none⟩, 15, true, []⟩,
  ⟨⟨(some (false, 180)), .mv (.l 179), none⟩, 16, true, []⟩,
  ⟨⟨(some (false, 181)), .mv (.g 20), (some (.l 180, false))⟩, 17, true, []⟩,
  ⟨⟨(some (false, 182)), .mv (.g 22), (some (.l 180, false))⟩, 18, true, []⟩,
  ⟨⟨(some (false, 183)), .ia 1 (.l 181) (.l 182), (some (.l 180, false))⟩, 19, true, []⟩,
  ⟨⟨(some (false, 184)), .ld none (.l 183), (some (.l 180, false))⟩, 20, true, []⟩,
  ⟨⟨(some (false, 185)), .bin .eql (.l 184) (.c (.lit (.int .i64 3))), (some (.l 180, false))⟩, 21, true, []⟩,
  ⟨⟨(some (true, 186)), .pick (.l 180) (.c (.lit (.bool true))) (.l 185), none⟩, 22, true, []⟩])
(.cond (.g 186)
(.seq
(.reg [
  ⟨(some (true, 2)), .mv (.c (.lit (.bool false))), none⟩])
.ret)
.skip)))
(.reg [
  ⟨(some (false, 162)), .mv (.g 22), none⟩,
  ⟨(some (false, 163)), .bin .add (.l 162) (.c (.lit (.int .i64 1))), none⟩,
  ⟨(some (true, 22)), .mv (.l 163), none⟩]))))))
(.seq
(.reg [
  ⟨(some (false, 187)), .call (.c (.fn 73 [])) [], none⟩,
  ⟨(some (true, 2)), .mv (.l 187), none⟩])
.ret))))))))))))))))))))
def K15 : List Nat := [0, 48, 55, 72, 82, 85, 97, 157, 161, 186, 2, 3, 4, 5, 6, 7, 8, 9, 10, 11, 13, 14, 15, 16, 17, 18, 19, 20, 21, 22]
noncomputable def b15 : Code := match Try.f15.body with | some c => c | none => .skip
theorem t15 : trCode ⟨Try.prog, K15, [], 188, none⟩ b15 = some c15 := by kernel_rfl
theorem go15 {args : List AV} {H : AHeap} {Kk : AV → AHeap → Prop} (hn : args.length = 1) (h : AGo ⟨Try.prog, K15, [], 188, none⟩ H.length [.code c15] (RetP [.t (.g 2)] H.length Kk) ⟨[], argsG 0 args⟩ H) : ACalls Try.prog 15 args H Kk :=
  ACalls_of Try.func15 (c := b15) rfl (by kernel_rfl) t15 (rs := [.t (.g 2)]) (by kernel_rfl) (by rw [hn]; exact Nat.le_of_ble_eq_true rfl) (by rw [hn]; rfl) (h.weaken (fun _ _ => RetP.hands) (by simp))

end Go.Sas
