/-
The code of some functions with its types resolved, printed by a program; that it is the code is checked by the kernel.
Conditions: none.
-/
import Derived.Test.YtaeaamhlejhgkaaGreatDoorP4
import Derived.Test.YtaeaamhlejhgkaaGreatDoorProg
set_option linter.unusedVariables false
set_option linter.unusedSimpArgs false
namespace Go.Sas
open Go.Proofs
set_option maxRecDepth 100000
/-- sastrugi/freight.Bound$1 -/
def c46 : ACode :=
  (.seq
(.reg [
  ⟨(some (true, 1)), .box (.g 0), none⟩,
  ⟨(some (true, 2)), .mv (.c (.lit (.int .i64 0))), none⟩])
(.seq
(.reg [
  ⟨(some (false, 3)), .fa (.g 1) 3, none⟩,
  ⟨(some (false, 4)), .ld none (.l 3), none⟩,
  ⟨(some (false, 5)), .fa (.g 1) 2, none⟩,
  ⟨(some (false, 6)), .ld none (.l 5), none⟩,
  ⟨(some (false, 7)), .bin .sub (.l 4) (.l 6), none⟩,
  ⟨(some (true, 2)), .mv (.l 7), none⟩])
.ret))
def K46 : List Nat := [0, 2, 1]
noncomputable def b46 : Code := match Tryz.f46.body with | some c => c | none => .skip
theorem t46 : trCode ⟨Tryz.prog, K46, [], 8, none⟩ b46 = some c46 := by kernel_rfl
theorem go46 {args : List AV} {H : AHeap} {Kk : AV → AHeap → Prop} (hn : args.length = 1) (h : AGo ⟨Tryz.prog, K46, [], 8, none⟩ H.length [.code c46] (RetP [.t (.g 2)] H.length Kk) ⟨[], argsG 0 args⟩ H) : ACalls Tryz.prog 46 args H Kk :=
  ACalls_of Tryz.func46 (c := b46) rfl (by kernel_rfl) t46 (rs := [.t (.g 2)]) (by kernel_rfl) (by rw [hn]; exact Nat.le_of_ble_eq_true rfl) (by rw [hn]; rfl) (h.weaken (fun _ _ => RetP.hands) (by simp))

/-- sastrugi/freight.sorted -/
def c47 : ACode :=
  (.seq
(.reg [
  ⟨(some (true, 2)), .box (.g 0), none⟩,
  ⟨(some (true, 3)), .box (.g 1), none⟩,
  ⟨(some (true, 4)), .mv (.c (.lit (.slice none 0 0))), none⟩])
(.seq
(.reg [
  ⟨(some (false, 6)), .fa (.g 2) 5, none⟩,
  ⟨(some (false, 7)), .ld none (.l 6), none⟩,
  ⟨(some (false, 8)), .call (.c (.fn 67 [])) [.l 7], none⟩,
  ⟨(some (true, 5)), .mv (.l 8), none⟩])
(.seq
(.reg [
  ⟨(some (false, 9)), .mv (.g 5), none⟩,
  ⟨(some (false, 10)), .mkf 69 [.g 3], none⟩,
  ⟨(some (false, 11)), .call (.c (.fn 68 [])) [.l 9, .l 10], none⟩])
(.seq
(.reg [
  ⟨(some (false, 12)), .mv (.g 5), none⟩,
  ⟨(some (true, 4)), .mv (.l 12), none⟩])
.ret))))
def K47 : List Nat := [0, 1, 4, 2, 3, 5]
noncomputable def b47 : Code := match Tryz.f47.body with | some c => c | none => .skip
theorem t47 : trCode ⟨Tryz.prog, K47, [], 13, none⟩ b47 = some c47 := by kernel_rfl
theorem go47 {args : List AV} {H : AHeap} {Kk : AV → AHeap → Prop} (hn : args.length = 2) (h : AGo ⟨Tryz.prog, K47, [], 13, none⟩ H.length [.code c47] (RetP [.t (.g 4)] H.length Kk) ⟨[], argsG 0 args⟩ H) : ACalls Tryz.prog 47 args H Kk :=
  ACalls_of Tryz.func47 (c := b47) rfl (by kernel_rfl) t47 (rs := [.t (.g 4)]) (by kernel_rfl) (by rw [hn]; exact Nat.le_of_ble_eq_true rfl) (by rw [hn]; rfl) (h.weaken (fun _ _ => RetP.hands) (by simp))

/-- sastrugi/freight.Bound$2 -/
def c48 : ACode :=
  (.seq
(.reg [
  ⟨(some (true, 1)), .box (.g 0), none⟩,
  ⟨(some (true, 2)), .mv (.c (.lit (.int .i64 0))), none⟩])
(.seq
(.reg [
  ⟨(some (false, 3)), .fa (.g 1) 2, none⟩,
  ⟨(some (false, 4)), .ld none (.l 3), none⟩,
  ⟨(some (true, 2)), .mv (.l 4), none⟩])
.ret))
def K48 : List Nat := [0, 2, 1]
noncomputable def b48 : Code := match Tryz.f48.body with | some c => c | none => .skip
theorem t48 : trCode ⟨Tryz.prog, K48, [], 5, none⟩ b48 = some c48 := by kernel_rfl
theorem go48 {args : List AV} {H : AHeap} {Kk : AV → AHeap → Prop} (hn : args.length = 1) (h : AGo ⟨Tryz.prog, K48, [], 5, none⟩ H.length [.code c48] (RetP [.t (.g 2)] H.length Kk) ⟨[], argsG 0 args⟩ H) : ACalls Tryz.prog 48 args H Kk :=
  ACalls_of Tryz.func48 (c := b48) rfl (by kernel_rfl) t48 (rs := [.t (.g 2)]) (by kernel_rfl) (by rw [hn]; exact Nat.le_of_ble_eq_true rfl) (by rw [hn]; rfl) (h.weaken (fun _ _ => RetP.hands) (by simp))

/-- sastrugi/freight.checkPlan -/
def c50 : ACode :=
  (.seq
(.reg [
  ⟨(some (true, 2)), .box (.g 0), none⟩,
  ⟨(some (true, 4)), .mv (.c (.lit (.int .i64 0))), none⟩])
(.seq
(.seq
(.reg [
  ⟨(some (false, 6)), .ld (some 6) (.g 2), none⟩,
  ⟨(some (false, 7)), .call (.c (.fn 27 [])) [.l 6], none⟩,
  ⟨(some (true, 5)), .mv (.l 7), none⟩])
(.seq
(.reg [
  ⟨(some (false, 8)), .mv (.g 5), none⟩,
  ⟨(some (true, 9)), .bin .neq (.l 8) (.c (.lit (.int .i64 0))), none⟩])
(.cond (.g 9)
(.seq
(.reg [
  ⟨(some (false, 10)), .mv (.g 5), none⟩,
  ⟨(some (true, 4)), .mv (.l 10), none⟩])
.ret)
.skip)))
(.seq
(.seq
(.reg [
  ⟨(some (false, 11)), .ld (some 6) (.g 2), none⟩,
  ⟨(some (false, 12)), .mv (.g 1), none⟩,
  ⟨(some (false, 13)), .call (.c (.fn 71 [])) [.l 11, .l 12], none⟩,
  ⟨(some (true, 14)), .un .not (.l 13), none⟩])
(.cond (.g 14)
(.seq
(.reg [
  ⟨(some (true, 4)), .mv (.c (.lit (.int .i64 3))), none⟩])
.ret)
.skip))
(.seq
(.reg [
  ⟨(some (true, 4)), .mv (.c (.lit (.int .i64 0))), none⟩])
.ret))))
def K50 : List Nat := [0, 1, 9, 14, 4, 2, 5]
noncomputable def b50 : Code := match Tryz.f50.body with | some c => c | none => .skip
theorem t50 : trCode ⟨Tryz.prog, K50, [], 15, none⟩ b50 = some c50 := by kernel_rfl
theorem go50 {args : List AV} {H : AHeap} {Kk : AV → AHeap → Prop} (hn : args.length = 2) (h : AGo ⟨Tryz.prog, K50, [], 15, none⟩ H.length [.code c50] (RetP [.t (.g 4)] H.length Kk) ⟨[], argsG 0 args⟩ H) : ACalls Tryz.prog 50 args H Kk :=
  ACalls_of Tryz.func50 (c := b50) rfl (by kernel_rfl) t50 (rs := [.t (.g 4)]) (by kernel_rfl) (by rw [hn]; exact Nat.le_of_ble_eq_true rfl) (by rw [hn]; rfl) (h.weaken (fun _ _ => RetP.hands) (by simp))

/-- sastrugi/freight.best -/
def c51 : ACode :=
  (.seq
(.reg [
  ⟨(some (true, 1)), .box (.g 0), none⟩,
  ⟨(some (true, 2)), .new [.int .i64 0, .int .i64 0, .int .i64 0, .int .i64 0, .slice none 0 0, .slice none 0 0, .int .i64 0, .int .i64 0, .slice none 0 0], none⟩])
(.seq
(.reg [
  ⟨(some (false, 6)), .fa (.g 1) 0, none⟩,
  ⟨(some (false, 7)), .fa (.l 6) 0, none⟩,
  ⟨(some (false, 8)), .ld none (.l 7), none⟩,
  ⟨(some (false, 9)), .fa (.g 1) 2, none⟩,
  ⟨(some (false, 10)), .fa (.l 9) 1, none⟩,
  ⟨(some (false, 11)), .ld none (.l 10), none⟩,
  ⟨(some (false, 12)), .mk [.int .i64 0, .int .i64 0, .slice none 0 0] [(0, 1, .l 8), (1, 1, .l 11)], none⟩,
  ⟨(some (true, 3)), .new [.int .i64 0, .int .i64 0, .slice none 0 0], none⟩,
  ⟨none, .st 3 (.g 3) (.l 12), none⟩])
(.seq
(.seq
(.reg [
  ⟨(some (false, 13)), .fa (.g 1) 4, none⟩,
  ⟨(some (true, 14)), .ld none (.l 13), none⟩,
  ⟨(some (true, 15)), .len (.g 14), none⟩,
  ⟨(some (true, 16)), .mv (.c (.lit (.int .i64 0))), none⟩])
(.block 0
(.loop
(.seq
(.reg [
  ⟨(some (true, 17)), .bin .lss (.g 16) (.g 15), none⟩])
(.seq
(.cond (.g 17)
.skip
(.exit 0))
(.seq
(.block 1
(.seq
(.reg [
  ⟨(some (false, 18)), .ia 2 (.g 14) (.g 16), none⟩,
  ⟨(some (false, 19)), .ld (some 2) (.l 18), none⟩,
  ⟨(some (true, 5)), .new [.int .i64 0, .int .i64 0], none⟩,
  ⟨none, .st 2 (.g 5) (.l 19), none⟩])
(.reg [
  ⟨(some (false, 20)), .fa (.g 3) 2, none⟩,
  ⟨(some (false, 21)), .ld none (.l 20), none⟩,
  ⟨(some (false, 22)), .fa (.g 5) 1, none⟩,
  ⟨(some (false, 23)), .ld none (.l 22), none⟩,
  ⟨(some (false, 24)), .mks false 1 [.l 23], none⟩,
  ⟨(some (false, 25)), .app 1 8 (.l 21) (.l 24), none⟩,
  ⟨(some (false, 26)), .fa (.g 3) 2, none⟩,
  ⟨none, .st 1 (.l 26) (.l 25), none⟩])))
(.reg [
  ⟨(some (false, 27)), .bin .add (.g 16) (.c (.lit (.int .i64 1))), none⟩,
  ⟨(some (true, 16)), .mv (.l 27), none⟩])))))))
(.seq
(.reg [
  ⟨(some (false, 28)), .ld (some 6) (.g 1), none⟩,
  ⟨(some (false, 29)), .ld (some 3) (.g 3), none⟩,
  ⟨(some (false, 30)), .mk [.int .i64 0, .int .i64 0, .int .i64 0, .int .i64 0, .slice none 0 0, .slice none 0 0, .int .i64 0, .int .i64 0, .slice none 0 0] [(0, 6, .l 28), (6, 3, .l 29)], none⟩,
  ⟨none, .st 9 (.g 2) (.l 30), none⟩])
.ret))))
def K51 : List Nat := [0, 17, 2, 1, 3, 14, 15, 16, 5]
noncomputable def b51 : Code := match Tryz.f51.body with | some c => c | none => .skip
theorem t51 : trCode ⟨Tryz.prog, K51, [], 31, none⟩ b51 = some c51 := by kernel_rfl
theorem go51 {args : List AV} {H : AHeap} {Kk : AV → AHeap → Prop} (hn : args.length = 1) (h : AGo ⟨Tryz.prog, K51, [], 31, none⟩ H.length [.code c51] (RetP [.cell (.g 2) (some 9)] H.length Kk) ⟨[], argsG 0 args⟩ H) : ACalls Tryz.prog 51 args H Kk :=
  ACalls_of Tryz.func51 (c := b51) rfl (by kernel_rfl) t51 (rs := [.cell (.g 2) (some 9)]) (by kernel_rfl) (by rw [hn]; exact Nat.le_of_ble_eq_true rfl) (by rw [hn]; rfl) (h.weaken (fun _ _ => RetP.hands) (by simp))

/-- (sastrugi/freight.season).tell -/
def c65 : ACode :=
  (.seq
(.reg [
  ⟨(some (true, 2)), .box (.g 0), none⟩,
  ⟨(some (true, 4)), .mv (.c (.lit (.slice none 0 0))), none⟩,
  ⟨(some (true, 5)), .mv (.c (.lit (.int .i64 0))), none⟩])
(.seq
(.seq
(.reg [
  ⟨(some (false, 13)), .fa (.g 2) 0, none⟩,
  ⟨(some (false, 14)), .fa (.l 13) 5, none⟩,
  ⟨(some (true, 15)), .ld none (.l 14), none⟩,
  ⟨(some (true, 16)), .len (.g 15), none⟩,
  ⟨(some (true, 17)), .mv (.c (.lit (.int .i64 0))), none⟩])
(.block 0
(.loop
(.seq
(.reg [
  ⟨(some (true, 18)), .bin .lss (.g 17) (.g 16), none⟩])
(.seq
(.cond (.g 18)
.skip
(.exit 0))
(.seq
(.block 1
(.seq
(.reg [
  ⟨(some (false, 19)), .mv (.g 17), none⟩,
  ⟨(some (false, 20)), .ia 4 (.g 15) (.g 17), none⟩,
  ⟨(some (false, 21)), .ld (some 4) (.l 20), none⟩,
  ⟨(some (true, 7)), .new [.int .i64 0, .int .i64 0, .int .i64 0, .int .i64 0], none⟩,
  ⟨(some (true, 6)), .mv (.l 19), none⟩,
  ⟨none, .st 4 (.g 7) (.l 21), none⟩])
(.seq
(.draw [
  ⟨⟨(some (false, 22)), .mv (.g 1), none⟩, 0, true, []⟩,
  ⟨⟨(some (false, 23)), .mv (.g 6), none⟩, 1, true, []⟩,
  ⟨⟨(some (false, 24)), .ia 1 (.l 22) (.l 23), none⟩, 2, true, []⟩,
  ⟨⟨(some (false, 25)), .ld none (.l 24), none⟩, 3, true, []⟩,
  ⟨⟨(some (false, 26)), .fa (.g 7) 1, none⟩, 4, true, []⟩,
  ⟨⟨(some (false, 27)), .ld none (.l 26), none⟩, 5, true, []⟩,
  ⟨⟨(some (false, 28)), .bin .add (.l 27) (.c (.lit (.int .i64 1))), none⟩, 6, true, []⟩,
  ⟨⟨(some (false, 29)), .fa (.g 2) 0, none⟩, 7, true, []⟩,
  ⟨⟨(some (false, 30)), .fa (.l 29) 4, none⟩, 8, true, []⟩,
  ⟨⟨(some (false, 31)), .ld none (.l 30), none⟩, 9, true, []⟩,
  ⟨⟨(some (false, 32)), .len (.l 31), none⟩, 10, true, []⟩,
  ⟨⟨(some (false, 33)), .mn [.l 28, .l 32], none⟩, 11, true, []⟩,
  ⟨⟨(some (false, 34)), .sl 1 (.l 25) none (some (.l 33)) none, none⟩, 12, true, []⟩,
  ⟨⟨(some (false, 35)), .call (.c (.fn 79 [])) [.l 34], none⟩, 13, false, []⟩,
  ⟨⟨(some (true, 8)), .mv (.l 35), none⟩, 14, true, []⟩])
(.seq
(.reg [
  ⟨(some (false, 36)), .mv (.g 1), none⟩,
  ⟨(some (false, 37)), .mv (.g 6), none⟩,
  ⟨(some (false, 38)), .ia 1 (.l 36) (.l 37), none⟩,
  ⟨(some (false, 39)), .ld none (.l 38), none⟩,
  ⟨(some (false, 40)), .call (.c (.fn 79 [])) [.l 39], none⟩,
  ⟨(some (true, 9)), .mv (.l 40), none⟩])
(.seq
(.reg [
  ⟨(some (false, 41)), .mv (.g 8), none⟩,
  ⟨(some (false, 42)), .mv (.g 9), none⟩,
  ⟨(some (false, 43)), .mv (.g 8), none⟩,
  ⟨(some (false, 44)), .bin .sub (.l 42) (.l 43), none⟩,
  ⟨(some (false, 45)), .fa (.g 7) 0, none⟩,
  ⟨(some (false, 46)), .ld none (.l 45), none⟩,
  ⟨(some (false, 47)), .mv (.g 9), none⟩,
  ⟨(some (false, 48)), .bin .sub (.l 46) (.l 47), none⟩,
  ⟨(some (false, 49)), .mk [.int .i64 0, .int .i64 0, .int .i64 0, .int .i64 0] [(0, 1, .l 41), (1, 1, .l 44), (2, 1, .l 48), (3, 1, .c (.lit (.int .i64 (-1))))], none⟩,
  ⟨(some (true, 10)), .new [.int .i64 0, .int .i64 0, .int .i64 0, .int .i64 0], none⟩,
  ⟨none, .st 4 (.g 10) (.l 49), none⟩])
(.seq
(.seq
(.reg [
  ⟨(some (false, 50)), .fa (.g 10) 2, none⟩,
  ⟨(some (false, 51)), .ld none (.l 50), none⟩,
  ⟨(some (true, 52)), .bin .eql (.l 51) (.c (.lit (.int .i64 0))), none⟩])
(.cond (.g 52)
(.seq
(.reg [
  ⟨(some (false, 53)), .mv (.g 1), none⟩,
  ⟨(some (false, 54)), .mv (.g 6), none⟩,
  ⟨(some (false, 55)), .ia 1 (.l 53) (.l 54), none⟩,
  ⟨(some (true, 56)), .ld none (.l 55), none⟩,
  ⟨(some (true, 57)), .len (.g 56), none⟩,
  ⟨(some (true, 58)), .mv (.c (.lit (.int .i64 0))), none⟩])
(.block 2
(.loop
(.seq
(.reg [
  ⟨(some (true, 59)), .bin .lss (.g 58) (.g 57), none⟩])
(.seq
(.cond (.g 59)
.skip
(.exit 2))
(.seq
(.block 3
(.seq
(.reg [
  ⟨(some (false, 60)), .mv (.g 58), none⟩,
  ⟨(some (false, 61)), .ia 1 (.g 56) (.g 58), none⟩,
  ⟨(some (false, 62)), .ld none (.l 61), none⟩,
  ⟨(some (true, 11)), .mv (.l 60), none⟩,
  ⟨(some (true, 12)), .mv (.l 62), none⟩])
(.seq
(.reg [
  ⟨(some (false, 63)), .mv (.g 12), none⟩,
  ⟨(some (true, 64)), .bin .gtr (.l 63) (.c (.lit (.int .i64 0))), none⟩])
(.cond (.g 64)
(.reg [
  ⟨(some (false, 65)), .mv (.g 11), none⟩,
  ⟨(some (false, 66)), .fa (.g 10) 3, none⟩,
  ⟨none, .st 1 (.l 66) (.l 65), none⟩])
.skip))))
(.reg [
  ⟨(some (false, 67)), .bin .add (.g 58) (.c (.lit (.int .i64 1))), none⟩,
  ⟨(some (true, 58)), .mv (.l 67), none⟩])))))))
.skip))
(.seq
(.reg [
  ⟨(some (false, 68)), .mv (.g 4), none⟩,
  ⟨(some (false, 69)), .ld (some 4) (.g 10), none⟩,
  ⟨(some (false, 70)), .mks false 4 [.l 69], none⟩,
  ⟨(some (false, 71)), .app 4 32 (.l 68) (.l 70), none⟩,
  ⟨(some (true, 4)), .mv (.l 71), none⟩])
(.reg [
  ⟨(some (false, 72)), .mv (.g 5), none⟩,
  ⟨(some (false, 73)), .fa (.g 10) 1, none⟩,
  ⟨(some (false, 74)), .ld none (.l 73), none⟩,
  ⟨(some (false, 75)), .fa (.g 7) 2, none⟩,
  ⟨(some (false, 76)), .ld none (.l 75), none⟩,
  ⟨(some (false, 77)), .bin .mul (.l 74) (.l 76), none⟩,
  ⟨(some (false, 78)), .fa (.g 10) 2, none⟩,
  ⟨(some (false, 79)), .ld none (.l 78), none⟩,
  ⟨(some (false, 80)), .fa (.g 7) 3, none⟩,
  ⟨(some (false, 81)), .ld none (.l 80), none⟩,
  ⟨(some (false, 82)), .bin .mul (.l 79) (.l 81), none⟩,
  ⟨(some (false, 83)), .bin .add (.l 77) (.l 82), none⟩,
  ⟨(some (false, 84)), .bin .add (.l 72) (.l 83), none⟩,
  ⟨(some (true, 5)), .mv (.l 84), none⟩]))))))))
(.reg [
  ⟨(some (false, 85)), .bin .add (.g 17) (.c (.lit (.int .i64 1))), none⟩,
  ⟨(some (true, 17)), .mv (.l 85), none⟩])))))))
(.seq
(.reg [
  ⟨(some (false, 86)), .mv (.g 4), none⟩,
  ⟨(some (false, 87)), .mv (.g 5), none⟩,
  ⟨(some (true, 4)), .mv (.l 86), none⟩,
  ⟨(some (true, 5)), .mv (.l 87), none⟩])
.ret)))
def K65 : List Nat := [0, 1, 18, 52, 59, 64, 4, 5, 2, 15, 16, 17, 7, 6, 8, 9, 10, 56, 57, 58, 11, 12]
noncomputable def b65 : Code := match Tryz.f65.body with | some c => c | none => .skip
theorem t65 : trCode ⟨Tryz.prog, K65, [], 88, none⟩ b65 = some c65 := by kernel_rfl
theorem go65 {args : List AV} {H : AHeap} {Kk : AV → AHeap → Prop} (hn : args.length = 2) (h : AGo ⟨Tryz.prog, K65, [], 88, none⟩ H.length [.code c65] (RetP [.t (.g 4), .t (.g 5)] H.length Kk) ⟨[], argsG 0 args⟩ H) : ACalls Tryz.prog 65 args H Kk :=
  ACalls_of Tryz.func65 (c := b65) rfl (by kernel_rfl) t65 (rs := [.t (.g 4), .t (.g 5)]) (by kernel_rfl) (by rw [hn]; exact Nat.le_of_ble_eq_true rfl) (by rw [hn]; rfl) (h.weaken (fun _ _ => RetP.hands) (by simp))

/-- (sastrugi/freight.season).spread -/
def c66 : ACode :=
  (.seq
(.reg [
  ⟨(some (true, 2)), .box (.g 0), none⟩,
  ⟨(some (true, 4)), .mv (.c (.lit (.slice none 0 0))), none⟩])
(.seq
(.reg [
  ⟨(some (true, 5)), .new [.int .i64 0, .int .i64 0, .int .i64 0, .int .i64 0, .int .i64 0, .int .i64 0], none⟩])
(.seq
(.reg [
  ⟨(some (false, 14)), .fa (.g 2) 0, none⟩,
  ⟨(some (false, 15)), .fa (.l 14) 5, none⟩,
  ⟨(some (false, 16)), .ld none (.l 15), none⟩,
  ⟨(some (false, 17)), .len (.l 16), none⟩,
  ⟨(some (false, 18)), .mksl 1 24 [.slice none 0 0] (.l 17) (.l 17), none⟩,
  ⟨(some (true, 6)), .mv (.l 18), none⟩])
(.seq
(.seq
(.reg [
  ⟨(some (false, 19)), .fa (.g 2) 0, none⟩,
  ⟨(some (false, 20)), .fa (.l 19) 5, none⟩,
  ⟨(some (true, 21)), .ld none (.l 20), none⟩,
  ⟨(some (true, 22)), .len (.g 21), none⟩,
  ⟨(some (true, 23)), .mv (.c (.lit (.int .i64 0))), none⟩])
(.block 0
(.loop
(.seq
(.reg [
  ⟨(some (true, 24)), .bin .lss (.g 23) (.g 22), none⟩])
(.seq
(.cond (.g 24)
.skip
(.exit 0))
(.seq
(.block 1
(.seq
(.reg [
  ⟨(some (false, 25)), .mv (.g 23), none⟩,
  ⟨(some (false, 26)), .ia 4 (.g 21) (.g 23), none⟩,
  ⟨(some (false, 27)), .ld (some 4) (.l 26), none⟩,
  ⟨(some (true, 8)), .new [.int .i64 0, .int .i64 0, .int .i64 0, .int .i64 0], none⟩,
  ⟨(some (true, 7)), .mv (.l 25), none⟩,
  ⟨none, .st 4 (.g 8) (.l 27), none⟩])
(.seq
(.reg [
  ⟨(some (false, 28)), .mv (.g 7), none⟩,
  ⟨(some (false, 29)), .fa (.g 8) 0, none⟩,
  ⟨(some (false, 30)), .ld none (.l 29), none⟩,
  ⟨(some (false, 31)), .iaa 6 1 (.g 5) (.l 28), none⟩,
  ⟨none, .st 1 (.l 31) (.l 30), none⟩])
(.reg [
  ⟨(some (false, 32)), .mv (.g 6), none⟩,
  ⟨(some (false, 33)), .mv (.g 7), none⟩,
  ⟨(some (false, 34)), .fa (.g 2) 0, none⟩,
  ⟨(some (false, 35)), .fa (.l 34) 4, none⟩,
  ⟨(some (false, 36)), .ld none (.l 35), none⟩,
  ⟨(some (false, 37)), .len (.l 36), none⟩,
  ⟨(some (false, 38)), .mksl 1 8 [.int .i64 0] (.l 37) (.l 37), none⟩,
  ⟨(some (false, 39)), .ia 1 (.l 32) (.l 33), none⟩,
  ⟨none, .st 1 (.l 39) (.l 38), none⟩]))))
(.reg [
  ⟨(some (false, 40)), .bin .add (.g 23) (.c (.lit (.int .i64 1))), none⟩,
  ⟨(some (true, 23)), .mv (.l 40), none⟩])))))))
(.seq
(.seq
(.reg [
  ⟨(some (false, 41)), .fa (.g 2) 0, none⟩,
  ⟨(some (false, 42)), .fa (.l 41) 4, none⟩,
  ⟨(some (false, 43)), .ld none (.l 42), none⟩,
  ⟨(some (true, 44)), .len (.l 43), none⟩,
  ⟨(some (true, 45)), .mv (.c (.lit (.int .i64 0))), none⟩])
(.block 2
(.loop
(.seq
(.reg [
  ⟨(some (true, 46)), .bin .lss (.g 45) (.g 44), none⟩])
(.seq
(.cond (.g 46)
.skip
(.exit 2))
(.seq
(.block 3
(.seq
(.reg [
  ⟨(some (false, 47)), .mv (.g 45), none⟩,
  ⟨(some (true, 9)), .mv (.l 47), none⟩])
(.seq
(.reg [
  ⟨(some (false, 48)), .ld (some 9) (.g 2), none⟩,
  ⟨(some (false, 49)), .mv (.g 9), none⟩,
  ⟨(some (false, 50)), .call (.c (.fn 45 [])) [.l 48, .l 49], none⟩,
  ⟨(some (true, 10)), .mv (.l 50), none⟩])
(.seq
(.reg [
  ⟨(some (true, 51)), .mv (.g 1), none⟩,
  ⟨(some (true, 52)), .len (.g 51), none⟩,
  ⟨(some (true, 53)), .mv (.c (.lit (.int .i64 0))), none⟩])
(.block 4
(.loop
(.seq
(.reg [
  ⟨(some (true, 54)), .bin .lss (.g 53) (.g 52), none⟩])
(.seq
(.cond (.g 54)
.skip
(.exit 4))
(.seq
(.block 5
(.seq
(.reg [
  ⟨(some (false, 55)), .ia 1 (.g 51) (.g 53), none⟩,
  ⟨(some (false, 56)), .ld none (.l 55), none⟩,
  ⟨(some (true, 12)), .mv (.l 56), none⟩])
(.seq
(.reg [
  ⟨(some (false, 57)), .mv (.g 10), none⟩,
  ⟨(some (false, 58)), .mv (.g 12), none⟩,
  ⟨(some (false, 59)), .iaa 6 1 (.g 5) (.l 58), none⟩,
  ⟨(some (false, 60)), .ld none (.l 59), none⟩,
  ⟨(some (false, 61)), .mn [.l 57, .l 60], none⟩,
  ⟨(some (true, 13)), .mv (.l 61), none⟩])
(.seq
(.reg [
  ⟨(some (false, 62)), .mv (.g 6), none⟩,
  ⟨(some (false, 63)), .mv (.g 12), none⟩,
  ⟨(some (false, 64)), .ia 1 (.l 62) (.l 63), none⟩,
  ⟨(some (false, 65)), .ld none (.l 64), none⟩,
  ⟨(some (false, 66)), .mv (.g 9), none⟩,
  ⟨(some (false, 67)), .mv (.g 13), none⟩,
  ⟨(some (false, 68)), .ia 1 (.l 65) (.l 66), none⟩,
  ⟨none, .st 1 (.l 68) (.l 67), none⟩])
(.seq
(.reg [
  ⟨(some (false, 69)), .mv (.g 10), none⟩,
  ⟨(some (false, 70)), .mv (.g 13), none⟩,
  ⟨(some (false, 71)), .bin .sub (.l 69) (.l 70), none⟩,
  ⟨(some (true, 10)), .mv (.l 71), none⟩])
(.reg [
  ⟨(some (false, 72)), .mv (.g 12), none⟩,
  ⟨(some (false, 73)), .iaa 6 1 (.g 5) (.l 72), none⟩,
  ⟨(some (false, 74)), .ld none (.l 73), none⟩,
  ⟨(some (false, 75)), .mv (.g 13), none⟩,
  ⟨(some (false, 76)), .bin .sub (.l 74) (.l 75), none⟩,
  ⟨(some (false, 77)), .iaa 6 1 (.g 5) (.l 72), none⟩,
  ⟨none, .st 1 (.l 77) (.l 76), none⟩]))))))
(.reg [
  ⟨(some (false, 78)), .bin .add (.g 53) (.c (.lit (.int .i64 1))), none⟩,
  ⟨(some (true, 53)), .mv (.l 78), none⟩]))))))))))
(.reg [
  ⟨(some (false, 79)), .bin .add (.g 45) (.c (.lit (.int .i64 1))), none⟩,
  ⟨(some (true, 45)), .mv (.l 79), none⟩])))))))
(.seq
(.reg [
  ⟨(some (false, 80)), .mv (.g 6), none⟩,
  ⟨(some (true, 4)), .mv (.l 80), none⟩])
.ret))))))
def K66 : List Nat := [0, 1, 24, 46, 54, 4, 2, 5, 6, 21, 22, 23, 8, 7, 44, 45, 9, 10, 51, 52, 53, 12, 13]
noncomputable def b66 : Code := match Tryz.f66.body with | some c => c | none => .skip
theorem t66 : trCode ⟨Tryz.prog, K66, [], 81, none⟩ b66 = some c66 := by kernel_rfl
theorem go66 {args : List AV} {H : AHeap} {Kk : AV → AHeap → Prop} (hn : args.length = 2) (h : AGo ⟨Tryz.prog, K66, [], 81, none⟩ H.length [.code c66] (RetP [.t (.g 4)] H.length Kk) ⟨[], argsG 0 args⟩ H) : ACalls Tryz.prog 66 args H Kk :=
  ACalls_of Tryz.func66 (c := b66) rfl (by kernel_rfl) t66 (rs := [.t (.g 4)]) (by kernel_rfl) (by rw [hn]; exact Nat.le_of_ble_eq_true rfl) (by rw [hn]; rfl) (h.weaken (fun _ _ => RetP.hands) (by simp))

/-- sastrugi/freight.isPlan -/
def c71 : ACode :=
  (.seq
(.reg [
  ⟨(some (true, 2)), .box (.g 0), none⟩,
  ⟨(some (true, 4)), .mv (.c (.lit (.bool false))), none⟩])
(.seq
(.reg [
  ⟨(some (true, 5)), .new [.bool false, .bool false, .bool false, .bool false, .bool false, .bool false], none⟩])
(.seq
(.seq
(.reg [
  ⟨(some (true, 8)), .mv (.g 1), none⟩,
  ⟨(some (true, 9)), .len (.g 8), none⟩,
  ⟨(some (true, 10)), .mv (.c (.lit (.int .i64 0))), none⟩])
(.block 0
(.loop
(.seq
(.reg [
  ⟨(some (true, 11)), .bin .lss (.g 10) (.g 9), none⟩])
(.seq
(.cond (.g 11)
.skip
(.exit 0))
(.seq
(.block 1
(.seq
(.reg [
  ⟨(some (false, 12)), .ia 1 (.g 8) (.g 10), none⟩,
  ⟨(some (false, 13)), .ld none (.l 12), none⟩,
  ⟨(some (true, 7)), .mv (.l 13), none⟩])
(.seq
(.seq
(.reg [
  ⟨(some (false, 14)), .mv (.g 7), none⟩,
  ⟨(some (false, 15)), .fa (.g 2) 5, none⟩,
  ⟨(some (false, 16)), .ld none (.l 15), none⟩,
  ⟨(some (false, 17)), .len (.l 16), none⟩,
  ⟨(some (false, 18)), .bin .sub (.l 17) (.c (.lit (.int .i64 1))), none⟩,
  ⟨(some (false, 19)), .call (.c (.fn 53 [])) [.l 14, .c (.lit (.int .i64 0)), .l 18], none⟩,
  ⟨(some (false, 20)), .un .not (.l 19), none⟩,
  ⟨(some (false, 21)), .mv (.l 20), none⟩,
  ⟨(some (false, 22)), .mv (.g 7), (some (.l 21, false))⟩,
  ⟨(some (false, 23)), .iaa 6 1 (.g 5) (.l 22), (some (.l 21, false))⟩,
  ⟨(some (false, 24)), .ld none (.l 23), (some (.l 21, false))⟩,
  ⟨(some (true, 25)), .pick (.l 21) (.c (.lit (.bool true))) (.l 24), none⟩])
(.cond (.g 25)
(.seq
(.reg [
  ⟨(some (true, 4)), .mv (.c (.lit (.bool false))), none⟩])
.ret)
.skip))
(.reg [
  ⟨(some (false, 26)), .mv (.g 7), none⟩,
  ⟨(some (false, 27)), .iaa 6 1 (.g 5) (.l 26), none⟩,
  ⟨none, .st 1 (.l 27) (.c (.lit (.bool true))), none⟩]))))
(.reg [
  ⟨(some (false, 28)), .bin .add (.g 10) (.c (.lit (.int .i64 1))), none⟩,
  ⟨(some (true, 10)), .mv (.l 28), none⟩])))))))
(.seq
(.reg [
  ⟨(some (false, 29)), .mv (.g 1), none⟩,
  ⟨(some (false, 30)), .len (.l 29), none⟩,
  ⟨(some (false, 31)), .fa (.g 2) 5, none⟩,
  ⟨(some (false, 32)), .ld none (.l 31), none⟩,
  ⟨(some (false, 33)), .len (.l 32), none⟩,
  ⟨(some (false, 34)), .bin .eql (.l 30) (.l 33), none⟩,
  ⟨(some (true, 4)), .mv (.l 34), none⟩])
.ret))))
def K71 : List Nat := [0, 1, 11, 25, 4, 2, 5, 8, 9, 10, 7]
noncomputable def b71 : Code := match Tryz.f71.body with | some c => c | none => .skip
theorem t71 : trCode ⟨Tryz.prog, K71, [], 35, none⟩ b71 = some c71 := by kernel_rfl
theorem go71 {args : List AV} {H : AHeap} {Kk : AV → AHeap → Prop} (hn : args.length = 2) (h : AGo ⟨Tryz.prog, K71, [], 35, none⟩ H.length [.code c71] (RetP [.t (.g 4)] H.length Kk) ⟨[], argsG 0 args⟩ H) : ACalls Tryz.prog 71 args H Kk :=
  ACalls_of Tryz.func71 (c := b71) rfl (by kernel_rfl) t71 (rs := [.t (.g 4)]) (by kernel_rfl) (by rw [hn]; exact Nat.le_of_ble_eq_true rfl) (by rw [hn]; rfl) (h.weaken (fun _ _ => RetP.hands) (by simp))

/-- sastrugi/freight.total -/
def c79 : ACode :=
  (.seq
(.reg [
  ⟨(some (true, 2)), .mv (.c (.lit (.int .i64 0))), none⟩])
(.seq
(.reg [
  ⟨(some (true, 3)), .mv (.c (.lit (.int .i64 0))), none⟩])
(.seq
(.seq
(.reg [
  ⟨(some (true, 6)), .mv (.g 0), none⟩,
  ⟨(some (true, 7)), .len (.g 6), none⟩,
  ⟨(some (true, 8)), .mv (.c (.lit (.int .i64 0))), none⟩])
(.block 0
(.loop
(.seq
(.reg [
  ⟨(some (true, 9)), .bin .lss (.g 8) (.g 7), none⟩])
(.seq
(.cond (.g 9)
.skip
(.exit 0))
(.seq
(.block 1
(.seq
(.reg [
  ⟨(some (false, 10)), .ia 1 (.g 6) (.g 8), none⟩,
  ⟨(some (false, 11)), .ld none (.l 10), none⟩,
  ⟨(some (true, 5)), .mv (.l 11), none⟩])
(.reg [
  ⟨(some (false, 12)), .mv (.g 3), none⟩,
  ⟨(some (false, 13)), .mv (.g 5), none⟩,
  ⟨(some (false, 14)), .bin .add (.l 12) (.l 13), none⟩,
  ⟨(some (true, 3)), .mv (.l 14), none⟩])))
(.reg [
  ⟨(some (false, 15)), .bin .add (.g 8) (.c (.lit (.int .i64 1))), none⟩,
  ⟨(some (true, 8)), .mv (.l 15), none⟩])))))))
(.seq
(.reg [
  ⟨(some (false, 16)), .mv (.g 3), none⟩,
  ⟨(some (true, 2)), .mv (.l 16), none⟩])
.ret))))
def K79 : List Nat := [0, 9, 2, 3, 6, 7, 8, 5]
noncomputable def b79 : Code := match Tryz.f79.body with | some c => c | none => .skip
theorem t79 : trCode ⟨Tryz.prog, K79, [], 17, none⟩ b79 = some c79 := by kernel_rfl
theorem go79 {args : List AV} {H : AHeap} {Kk : AV → AHeap → Prop} (hn : args.length = 1) (h : AGo ⟨Tryz.prog, K79, [], 17, none⟩ H.length [.code c79] (RetP [.t (.g 2)] H.length Kk) ⟨[], argsG 0 args⟩ H) : ACalls Tryz.prog 79 args H Kk :=
  ACalls_of Tryz.func79 (c := b79) rfl (by kernel_rfl) t79 (rs := [.t (.g 2)]) (by kernel_rfl) (by rw [hn]; exact Nat.le_of_ble_eq_true rfl) (by rw [hn]; rfl) (h.weaken (fun _ _ => RetP.hands) (by simp))

/-- sastrugi/freight.plans$1 -/
def c61 : ACode :=
  (.seq
(.reg [
  ⟨(some (true, 2)), .box (.g 0), none⟩])
(.seq
(.reg [
  ⟨(some (true, 3)), .new [.nilFunc], none⟩])
(.seq
(.reg [
  ⟨(some (false, 4)), .mkf 62 [.g 1, .g 2, .g 3], none⟩,
  ⟨none, .st 1 (.g 3) (.l 4), none⟩])
(.reg [
  ⟨(some (false, 5)), .ld none (.g 3), none⟩,
  ⟨(some (false, 6)), .call (.l 5) [.c (.lit (.slice none 0 0))], none⟩]))))
def K61 : List Nat := [0, 1, 2, 3]
noncomputable def b61 : Code := match Tryz.f61.body with | some c => c | none => .skip
theorem t61 : trCode ⟨Tryz.prog, K61, [], 7, none⟩ b61 = some c61 := by kernel_rfl
theorem go61 {args : List AV} {H : AHeap} {Kk : AV → AHeap → Prop} (hn : args.length = 2) (h : AGo ⟨Tryz.prog, K61, [], 7, none⟩ H.length [.code c61] (RetP [] H.length Kk) ⟨[], argsG 0 args⟩ H) : ACalls Tryz.prog 61 args H Kk :=
  ACalls_of Tryz.func61 (c := b61) rfl (by kernel_rfl) t61 (rs := []) (by kernel_rfl) (by rw [hn]; exact Nat.le_of_ble_eq_true rfl) (by rw [hn]; rfl) (h.weaken (fun _ _ => RetP.hands) (by simp))

/-- sastrugi/freight.plans$1$1 -/
def c62 : ACode :=
  (.seq
(.reg [
  ⟨(some (true, 5)), .mv (.c (.lit (.bool false))), none⟩])
(.seq
(.seq
(.reg [
  ⟨(some (false, 7)), .mv (.g 0), none⟩,
  ⟨(some (false, 8)), .len (.l 7), none⟩,
  ⟨(some (false, 9)), .ld none (.g 1), none⟩,
  ⟨(some (true, 10)), .bin .eql (.l 8) (.l 9), none⟩])
(.cond (.g 10)
(.seq
(.reg [
  ⟨(some (false, 11)), .ld none (.g 2), none⟩,
  ⟨(some (false, 12)), .mv (.g 0), none⟩,
  ⟨(some (false, 13)), .call (.l 11) [.l 12], none⟩,
  ⟨(some (true, 5)), .mv (.l 13), none⟩])
.ret)
.skip))
(.seq
(.seq
(.reg [
  ⟨(some (true, 14)), .ld none (.g 1), none⟩,
  ⟨(some (true, 15)), .mv (.c (.lit (.int .i64 0))), none⟩])
(.block 0
(.loop
(.seq
(.reg [
  ⟨(some (true, 16)), .bin .lss (.g 15) (.g 14), none⟩])
(.seq
(.cond (.g 16)
.skip
(.exit 0))
(.seq
(.block 1
(.seq
(.reg [
  ⟨(some (false, 17)), .mv (.g 15), none⟩,
  ⟨(some (true, 6)), .mv (.l 17), none⟩])
(.seq
(.draw [
  ⟨⟨(some (false, 18)), .mv (.g 0), none⟩, 0, true, []⟩,
  ⟨⟨(some (false, 19)), .mv (.g 6), none⟩, 1, true, []⟩,
  ⟨⟨(some (false, 20)), .call (.c (.fn 63 [])) [.l 18, .l 19], none⟩, 2, false, []⟩,
  ⟨⟨(some (false, 21)), .un .not (.l 20), none⟩, 3, true, []⟩,
  ⟨⟨(some (false, 22)), .mv (.l 21), none⟩, 4, true, []⟩,
  ⟨⟨(some (false, 23)), .ld none (.g 3), (some (.l 22, true))⟩, 5, true, []⟩,
  ⟨⟨(some (false, 24)), .mv (.g 0), (some (.l 22, true))⟩, 6, true, []⟩,
  ⟨⟨(some (false, 26)), .mv (.g 6), (some (.l 22, true))⟩, 8, true, []⟩,
  ⟨⟨(some (false, 27)), .mks false 1 [.l 26], (some (.l 22, true))⟩, 9, true, []⟩,
  ⟨⟨(some (false, 25)), .call (.c (.fn 64 [])) [.l 24], (some (.l 22, true))⟩, 7, false, []⟩,
  ⟨⟨(some (false, 28)), .app 1 8 (.l 25) (.l 27), (some (.l 22, true))⟩, 10, false, []⟩,
  ⟨⟨(some (false, 29)), .call (.l 23) [.l 28], (some (.l 22, true))⟩, 11, false, []⟩,
  ⟨⟨(some (false, 30)), .un .not (.l 29), (some (.l 22, true))⟩, 12, true, []⟩,
  ⟨⟨(some (true, 31)), .pick (.l 22) (.l 30) (.c (.lit (.bool false))), none⟩, 13, true, []⟩])
(.cond (.g 31)
(.seq
(.reg [
  ⟨(some (true, 5)), .mv (.c (.lit (.bool false))), none⟩])
.ret)
.skip))))
(.reg [
  ⟨(some (false, 32)), .bin .add (.g 15) (.c (.lit (.int .i64 1))), none⟩,
  ⟨(some (true, 15)), .mv (.l 32), none⟩])))))))
(.seq
(.reg [
  ⟨(some (true, 5)), .mv (.c (.lit (.bool true))), none⟩])
.ret))))
def K62 : List Nat := [0, 1, 2, 3, 10, 16, 31, 5, 14, 15, 6]
noncomputable def b62 : Code := match Tryz.f62.body with | some c => c | none => .skip
theorem t62 : trCode ⟨Tryz.prog, K62, [], 33, none⟩ b62 = some c62 := by kernel_rfl
theorem go62 {args : List AV} {H : AHeap} {Kk : AV → AHeap → Prop} (hn : args.length = 4) (h : AGo ⟨Tryz.prog, K62, [], 33, none⟩ H.length [.code c62] (RetP [.t (.g 5)] H.length Kk) ⟨[], argsG 0 args⟩ H) : ACalls Tryz.prog 62 args H Kk :=
  ACalls_of Tryz.func62 (c := b62) rfl (by kernel_rfl) t62 (rs := [.t (.g 5)]) (by kernel_rfl) (by rw [hn]; exact Nat.le_of_ble_eq_true rfl) (by rw [hn]; rfl) (h.weaken (fun _ _ => RetP.hands) (by simp))

/-- slices.Contains[[]int,int] -/
def c63 : ACode :=
  (.seq
(.reg [
  ⟨(some (true, 4)), .mv (.c (.lit (.bool false))), none⟩])
(.seq
(.reg [
  ⟨(some (false, 5)), .mv (.g 0), none⟩,
  ⟨(some (false, 6)), .mv (.g 1), none⟩,
  ⟨(some (false, 7)), .call (.c (.fn 78 [])) [.l 5, .l 6], none⟩,
  ⟨(some (false, 8)), .bin .geq (.l 7) (.c (.lit (.int .i64 0))), none⟩,
  ⟨(some (true, 4)), .mv (.l 8), none⟩])
.ret))
def K63 : List Nat := [0, 1, 4]
noncomputable def b63 : Code := match Tryz.f63.body with | some c => c | none => .skip
theorem t63 : trCode ⟨Tryz.prog, K63, [], 9, none⟩ b63 = some c63 := by kernel_rfl
theorem go63 {args : List AV} {H : AHeap} {Kk : AV → AHeap → Prop} (hn : args.length = 2) (h : AGo ⟨Tryz.prog, K63, [], 9, none⟩ H.length [.code c63] (RetP [.t (.g 4)] H.length Kk) ⟨[], argsG 0 args⟩ H) : ACalls Tryz.prog 63 args H Kk :=
  ACalls_of Tryz.func63 (c := b63) rfl (by kernel_rfl) t63 (rs := [.t (.g 4)]) (by kernel_rfl) (by rw [hn]; exact Nat.le_of_ble_eq_true rfl) (by rw [hn]; rfl) (h.weaken (fun _ _ => RetP.hands) (by simp))

/-- slices.Clone[[]int,int] -/
def c64 : ACode :=
  (.seq
(.reg [
  ⟨(some (true, 2)), .mv (.c (.lit (.slice none 0 0))), none⟩])
(.seq
(.seq
(.reg [
  ⟨(some (false, 3)), .mv (.g 0), none⟩,
  ⟨(some (true, 4)), .eqn false (.l 3), none⟩])
(.cond (.g 4)
(.seq
(.reg [
  ⟨(some (true, 2)), .mv (.c (.lit (.slice none 0 0))), none⟩])
.ret)
.skip))
(.seq
(.reg [
  ⟨(some (false, 5)), .mks false 1 [], none⟩,
  ⟨(some (false, 6)), .mv (.g 0), none⟩,
  ⟨(some (false, 7)), .app 1 8 (.l 5) (.l 6), none⟩,
  ⟨(some (true, 2)), .mv (.l 7), none⟩])
.ret)))
def K64 : List Nat := [0, 4, 2]
noncomputable def b64 : Code := match Tryz.f64.body with | some c => c | none => .skip
theorem t64 : trCode ⟨Tryz.prog, K64, [], 8, none⟩ b64 = some c64 := by kernel_rfl
theorem go64 {args : List AV} {H : AHeap} {Kk : AV → AHeap → Prop} (hn : args.length = 1) (h : AGo ⟨Tryz.prog, K64, [], 8, none⟩ H.length [.code c64] (RetP [.t (.g 2)] H.length Kk) ⟨[], argsG 0 args⟩ H) : ACalls Tryz.prog 64 args H Kk :=
  ACalls_of Tryz.func64 (c := b64) rfl (by kernel_rfl) t64 (rs := [.t (.g 2)]) (by kernel_rfl) (by rw [hn]; exact Nat.le_of_ble_eq_true rfl) (by rw [hn]; rfl) (h.weaken (fun _ _ => RetP.hands) (by simp))

/-- slices.Clone[[]sastrugi/api.Order,sastrugi/api.Order] -/
def c67 : ACode :=
  (.seq
(.reg [
  ⟨(some (true, 2)), .mv (.c (.lit (.slice none 0 0))), none⟩])
(.seq
(.seq
(.reg [
  ⟨(some (false, 3)), .mv (.g 0), none⟩,
  ⟨(some (true, 4)), .eqn false (.l 3), none⟩])
(.cond (.g 4)
(.seq
(.reg [
  ⟨(some (true, 2)), .mv (.c (.lit (.slice none 0 0))), none⟩])
.ret)
.skip))
(.seq
(.reg [
  ⟨(some (false, 5)), .mks false 4 [], none⟩,
  ⟨(some (false, 6)), .mv (.g 0), none⟩,
  ⟨(some (false, 7)), .app 4 32 (.l 5) (.l 6), none⟩,
  ⟨(some (true, 2)), .mv (.l 7), none⟩])
.ret)))
def K67 : List Nat := [0, 4, 2]
noncomputable def b67 : Code := match Tryz.f67.body with | some c => c | none => .skip
theorem t67 : trCode ⟨Tryz.prog, K67, [], 8, none⟩ b67 = some c67 := by kernel_rfl
theorem go67 {args : List AV} {H : AHeap} {Kk : AV → AHeap → Prop} (hn : args.length = 1) (h : AGo ⟨Tryz.prog, K67, [], 8, none⟩ H.length [.code c67] (RetP [.t (.g 2)] H.length Kk) ⟨[], argsG 0 args⟩ H) : ACalls Tryz.prog 67 args H Kk :=
  ACalls_of Tryz.func67 (c := b67) rfl (by kernel_rfl) t67 (rs := [.t (.g 2)]) (by kernel_rfl) (by rw [hn]; exact Nat.le_of_ble_eq_true rfl) (by rw [hn]; rfl) (h.weaken (fun _ _ => RetP.hands) (by simp))

/-- slices.SortStableFunc[[]sastrugi/api.Order,sastrugi/api.Order] -/
def c68 : ACode :=
  (.reg [
  ⟨(some (false, 4)), .mv (.g 0), none⟩,
  ⟨(some (false, 5)), .mv (.g 0), none⟩,
  ⟨(some (false, 6)), .len (.l 5), none⟩,
  ⟨(some (false, 7)), .mv (.g 1), none⟩,
  ⟨(some (false, 8)), .call (.c (.fn 80 [])) [.l 4, .l 6, .l 7], none⟩])
def K68 : List Nat := [0, 1]
noncomputable def b68 : Code := match Tryz.f68.body with | some c => c | none => .skip
theorem t68 : trCode ⟨Tryz.prog, K68, [], 9, none⟩ b68 = some c68 := by kernel_rfl
theorem go68 {args : List AV} {H : AHeap} {Kk : AV → AHeap → Prop} (hn : args.length = 2) (h : AGo ⟨Tryz.prog, K68, [], 9, none⟩ H.length [.code c68] (RetP [] H.length Kk) ⟨[], argsG 0 args⟩ H) : ACalls Tryz.prog 68 args H Kk :=
  ACalls_of Tryz.func68 (c := b68) rfl (by kernel_rfl) t68 (rs := []) (by kernel_rfl) (by rw [hn]; exact Nat.le_of_ble_eq_true rfl) (by rw [hn]; rfl) (h.weaken (fun _ _ => RetP.hands) (by simp))

/-- sastrugi/freight.sorted$1 -/
def c69 : ACode :=
  (.seq
(.reg [
  ⟨(some (true, 3)), .box (.g 0), none⟩,
  ⟨(some (true, 4)), .box (.g 1), none⟩,
  ⟨(some (true, 5)), .mv (.c (.lit (.int .i64 0))), none⟩])
(.seq
(.draw [
  ⟨⟨(some (false, 6)), .ld none (.g 2), none⟩, 0, true, []⟩,
  ⟨⟨(some (false, 7)), .ld (some 4) (.g 4), none⟩, 1, true, []⟩,
  ⟨⟨(some (false, 9)), .ld none (.g 2), none⟩, 3, true, []⟩,
  ⟨⟨(some (false, 10)), .ld (some 4) (.g 3), none⟩, 4, true, []⟩,
  ⟨⟨(some (false, 8)), .call (.l 6) [.l 7], none⟩, 2, false, []⟩,
  ⟨⟨(some (false, 11)), .call (.l 9) [.l 10], none⟩, 5, false, []⟩,
  ⟨⟨(some (false, 12)), .call (.c (.fn 70 [])) [.l 8, .l 11], none⟩, 6, false, []⟩,
  ⟨⟨(some (true, 5)), .mv (.l 12), none⟩, 7, true, []⟩])
.ret))
def K69 : List Nat := [0, 1, 2, 5, 3, 4]
noncomputable def b69 : Code := match Tryz.f69.body with | some c => c | none => .skip
theorem t69 : trCode ⟨Tryz.prog, K69, [], 13, none⟩ b69 = some c69 := by kernel_rfl
theorem go69 {args : List AV} {H : AHeap} {Kk : AV → AHeap → Prop} (hn : args.length = 3) (h : AGo ⟨Tryz.prog, K69, [], 13, none⟩ H.length [.code c69] (RetP [.t (.g 5)] H.length Kk) ⟨[], argsG 0 args⟩ H) : ACalls Tryz.prog 69 args H Kk :=
  ACalls_of Tryz.func69 (c := b69) rfl (by kernel_rfl) t69 (rs := [.t (.g 5)]) (by kernel_rfl) (by rw [hn]; exact Nat.le_of_ble_eq_true rfl) (by rw [hn]; rfl) (h.weaken (fun _ _ => RetP.hands) (by simp))

/-- cmp.Compare[int] -/
def c70 : ACode :=
  (.seq
(.reg [
  ⟨(some (true, 4)), .mv (.c (.lit (.int .i64 0))), none⟩])
(.seq
(.reg [
  ⟨(some (false, 7)), .mv (.g 0), none⟩,
  ⟨(some (false, 8)), .call (.c (.fn 81 [])) [.l 7], none⟩,
  ⟨(some (true, 5)), .mv (.l 8), none⟩])
(.seq
(.reg [
  ⟨(some (false, 9)), .mv (.g 1), none⟩,
  ⟨(some (false, 10)), .call (.c (.fn 81 [])) [.l 9], none⟩,
  ⟨(some (true, 6)), .mv (.l 10), none⟩])
(.seq
(.seq
(.reg [
  ⟨(some (true, 11)), .mv (.g 5), none⟩])
(.cond (.g 11)
(.seq
(.seq
(.reg [
  ⟨(some (true, 12)), .mv (.g 6), none⟩])
(.cond (.g 12)
(.seq
(.reg [
  ⟨(some (true, 4)), .mv (.c (.lit (.int .i64 0))), none⟩])
.ret)
.skip))
(.seq
(.reg [
  ⟨(some (true, 4)), .mv (.c (.lit (.int .i64 (-1)))), none⟩])
.ret))
.skip))
(.seq
(.seq
(.reg [
  ⟨(some (true, 13)), .mv (.g 6), none⟩])
(.cond (.g 13)
(.seq
(.reg [
  ⟨(some (true, 4)), .mv (.c (.lit (.int .i64 1))), none⟩])
.ret)
.skip))
(.seq
(.seq
(.reg [
  ⟨(some (false, 14)), .mv (.g 0), none⟩,
  ⟨(some (false, 15)), .mv (.g 1), none⟩,
  ⟨(some (true, 16)), .bin .lss (.l 14) (.l 15), none⟩])
(.cond (.g 16)
(.seq
(.reg [
  ⟨(some (true, 4)), .mv (.c (.lit (.int .i64 (-1)))), none⟩])
.ret)
.skip))
(.seq
(.seq
(.reg [
  ⟨(some (false, 17)), .mv (.g 0), none⟩,
  ⟨(some (false, 18)), .mv (.g 1), none⟩,
  ⟨(some (true, 19)), .bin .gtr (.l 17) (.l 18), none⟩])
(.cond (.g 19)
(.seq
(.reg [
  ⟨(some (true, 4)), .mv (.c (.lit (.int .i64 1))), none⟩])
.ret)
.skip))
(.seq
(.reg [
  ⟨(some (true, 4)), .mv (.c (.lit (.int .i64 0))), none⟩])
.ret))))))))
def K70 : List Nat := [0, 1, 11, 12, 13, 16, 19, 4, 5, 6]
noncomputable def b70 : Code := match Tryz.f70.body with | some c => c | none => .skip
theorem t70 : trCode ⟨Tryz.prog, K70, [], 20, none⟩ b70 = some c70 := by kernel_rfl
theorem go70 {args : List AV} {H : AHeap} {Kk : AV → AHeap → Prop} (hn : args.length = 2) (h : AGo ⟨Tryz.prog, K70, [], 20, none⟩ H.length [.code c70] (RetP [.t (.g 4)] H.length Kk) ⟨[], argsG 0 args⟩ H) : ACalls Tryz.prog 70 args H Kk :=
  ACalls_of Tryz.func70 (c := b70) rfl (by kernel_rfl) t70 (rs := [.t (.g 4)]) (by kernel_rfl) (by rw [hn]; exact Nat.le_of_ble_eq_true rfl) (by rw [hn]; rfl) (h.weaken (fun _ _ => RetP.hands) (by simp))

/-- slices.stableCmpFunc[sastrugi/api.Order] -/
def c80 : ACode :=
  (.seq
(.reg [
  ⟨(some (true, 6)), .mv (.c (.lit (.int .i64 20))), none⟩])
(.seq
(.reg [
  ⟨(some (false, 10)), .mv (.g 6), none⟩,
  ⟨(some (true, 7)), .mv (.c (.lit (.int .i64 0))), none⟩,
  ⟨(some (true, 8)), .mv (.l 10), none⟩])
(.seq
(.block 0
(.loop
(.seq
(.seq
(.reg [
  ⟨(some (false, 11)), .mv (.g 8), none⟩,
  ⟨(some (false, 12)), .mv (.g 1), none⟩,
  ⟨(some (true, 13)), .bin .leq (.l 11) (.l 12), none⟩])
(.cond (.g 13)
.skip
(.exit 0)))
(.block 1
(.seq
(.reg [
  ⟨(some (false, 14)), .mv (.g 0), none⟩,
  ⟨(some (false, 15)), .mv (.g 7), none⟩,
  ⟨(some (false, 16)), .mv (.g 8), none⟩,
  ⟨(some (false, 17)), .mv (.g 2), none⟩,
  ⟨(some (false, 18)), .call (.c (.fn 92 [])) [.l 14, .l 15, .l 16, .l 17], none⟩])
(.seq
(.reg [
  ⟨(some (false, 19)), .mv (.g 8), none⟩,
  ⟨(some (true, 7)), .mv (.l 19), none⟩])
(.reg [
  ⟨(some (false, 20)), .mv (.g 8), none⟩,
  ⟨(some (false, 21)), .mv (.g 6), none⟩,
  ⟨(some (false, 22)), .bin .add (.l 20) (.l 21), none⟩,
  ⟨(some (true, 8)), .mv (.l 22), none⟩])))))))
(.seq
(.reg [
  ⟨(some (false, 23)), .mv (.g 0), none⟩,
  ⟨(some (false, 24)), .mv (.g 7), none⟩,
  ⟨(some (false, 25)), .mv (.g 1), none⟩,
  ⟨(some (false, 26)), .mv (.g 2), none⟩,
  ⟨(some (false, 27)), .call (.c (.fn 92 [])) [.l 23, .l 24, .l 25, .l 26], none⟩])
(.block 2
(.loop
(.seq
(.seq
(.reg [
  ⟨(some (false, 28)), .mv (.g 6), none⟩,
  ⟨(some (false, 29)), .mv (.g 1), none⟩,
  ⟨(some (true, 30)), .bin .lss (.l 28) (.l 29), none⟩])
(.cond (.g 30)
.skip
(.exit 2)))
(.block 3
(.seq
(.reg [
  ⟨(some (false, 31)), .mv (.g 6), none⟩,
  ⟨(some (false, 32)), .bin .mul (.c (.lit (.int .i64 2))) (.l 31), none⟩,
  ⟨(some (true, 7)), .mv (.c (.lit (.int .i64 0))), none⟩,
  ⟨(some (true, 8)), .mv (.l 32), none⟩])
(.seq
(.block 4
(.loop
(.seq
(.seq
(.reg [
  ⟨(some (false, 33)), .mv (.g 8), none⟩,
  ⟨(some (false, 34)), .mv (.g 1), none⟩,
  ⟨(some (true, 35)), .bin .leq (.l 33) (.l 34), none⟩])
(.cond (.g 35)
.skip
(.exit 4)))
(.block 5
(.seq
(.reg [
  ⟨(some (false, 36)), .mv (.g 0), none⟩,
  ⟨(some (false, 37)), .mv (.g 7), none⟩,
  ⟨(some (false, 38)), .mv (.g 7), none⟩,
  ⟨(some (false, 39)), .mv (.g 6), none⟩,
  ⟨(some (false, 40)), .bin .add (.l 38) (.l 39), none⟩,
  ⟨(some (false, 41)), .mv (.g 8), none⟩,
  ⟨(some (false, 42)), .mv (.g 2), none⟩,
  ⟨(some (false, 43)), .call (.c (.fn 93 [])) [.l 36, .l 37, .l 40, .l 41, .l 42], none⟩])
(.seq
(.reg [
  ⟨(some (false, 44)), .mv (.g 8), none⟩,
  ⟨(some (true, 7)), .mv (.l 44), none⟩])
(.reg [
  ⟨(some (false, 45)), .mv (.g 8), none⟩,
  ⟨(some (false, 46)), .mv (.g 6), none⟩,
  ⟨(some (false, 47)), .bin .mul (.c (.lit (.int .i64 2))) (.l 46), none⟩,
  ⟨(some (false, 48)), .bin .add (.l 45) (.l 47), none⟩,
  ⟨(some (true, 8)), .mv (.l 48), none⟩])))))))
(.seq
(.seq
(.reg [
  ⟨(some (false, 49)), .mv (.g 7), none⟩,
  ⟨(some (false, 50)), .mv (.g 6), none⟩,
  ⟨(some (false, 51)), .bin .add (.l 49) (.l 50), none⟩,
  ⟨(some (true, 9)), .mv (.l 51), none⟩])
(.seq
(.reg [
  ⟨(some (false, 52)), .mv (.g 9), none⟩,
  ⟨(some (false, 53)), .mv (.g 1), none⟩,
  ⟨(some (true, 54)), .bin .lss (.l 52) (.l 53), none⟩])
(.cond (.g 54)
(.reg [
  ⟨(some (false, 55)), .mv (.g 0), none⟩,
  ⟨(some (false, 56)), .mv (.g 7), none⟩,
  ⟨(some (false, 57)), .mv (.g 9), none⟩,
  ⟨(some (false, 58)), .mv (.g 1), none⟩,
  ⟨(some (false, 59)), .mv (.g 2), none⟩,
  ⟨(some (false, 60)), .call (.c (.fn 93 [])) [.l 55, .l 56, .l 57, .l 58, .l 59], none⟩])
.skip)))
(.reg [
  ⟨(some (false, 61)), .mv (.g 6), none⟩,
  ⟨(some (false, 62)), .bin .mul (.l 61) (.c (.lit (.int .i64 2))), none⟩,
  ⟨(some (true, 6)), .mv (.l 62), none⟩]))))))))))))
def K80 : List Nat := [0, 1, 2, 13, 30, 35, 54, 6, 7, 8, 9]
noncomputable def b80 : Code := match Tryz.f80.body with | some c => c | none => .skip
theorem t80 : trCode ⟨Tryz.prog, K80, [], 63, none⟩ b80 = some c80 := by kernel_rfl
theorem go80 {args : List AV} {H : AHeap} {Kk : AV → AHeap → Prop} (hn : args.length = 3) (h : AGo ⟨Tryz.prog, K80, [], 63, none⟩ H.length [.code c80] (RetP [] H.length Kk) ⟨[], argsG 0 args⟩ H) : ACalls Tryz.prog 80 args H Kk :=
  ACalls_of Tryz.func80 (c := b80) rfl (by kernel_rfl) t80 (rs := []) (by kernel_rfl) (by rw [hn]; exact Nat.le_of_ble_eq_true rfl) (by rw [hn]; rfl) (h.weaken (fun _ _ => RetP.hands) (by simp))

/-- cmp.isNaN[int] -/
def c81 : ACode :=
  (.seq
(.reg [
  ⟨(some (true, 2)), .mv (.c (.lit (.bool false))), none⟩])
(.seq
(.reg [
  ⟨(some (false, 3)), .mv (.g 0), none⟩,
  ⟨(some (false, 4)), .mv (.g 0), none⟩,
  ⟨(some (false, 5)), .bin .neq (.l 3) (.l 4), none⟩,
  ⟨(some (true, 2)), .mv (.l 5), none⟩])
.ret))
def K81 : List Nat := [0, 2]
noncomputable def b81 : Code := match Tryz.f81.body with | some c => c | none => .skip
theorem t81 : trCode ⟨Tryz.prog, K81, [], 6, none⟩ b81 = some c81 := by kernel_rfl
theorem go81 {args : List AV} {H : AHeap} {Kk : AV → AHeap → Prop} (hn : args.length = 1) (h : AGo ⟨Tryz.prog, K81, [], 6, none⟩ H.length [.code c81] (RetP [.t (.g 2)] H.length Kk) ⟨[], argsG 0 args⟩ H) : ACalls Tryz.prog 81 args H Kk :=
  ACalls_of Tryz.func81 (c := b81) rfl (by kernel_rfl) t81 (rs := [.t (.g 2)]) (by kernel_rfl) (by rw [hn]; exact Nat.le_of_ble_eq_true rfl) (by rw [hn]; rfl) (h.weaken (fun _ _ => RetP.hands) (by simp))

/-- slices.insertionSortCmpFunc[sastrugi/api.Order] -/
def c92 : ACode :=
  (.seq
(.reg [
  ⟨(some (false, 10)), .mv (.g 1), none⟩,
  ⟨(some (false, 11)), .bin .add (.l 10) (.c (.lit (.int .i64 1))), none⟩,
  ⟨(some (true, 8)), .mv (.l 11), none⟩])
(.block 0
(.loop
(.seq
(.seq
(.reg [
  ⟨(some (false, 12)), .mv (.g 8), none⟩,
  ⟨(some (false, 13)), .mv (.g 2), none⟩,
  ⟨(some (true, 14)), .bin .lss (.l 12) (.l 13), none⟩])
(.cond (.g 14)
.skip
(.exit 0)))
(.seq
(.block 1
(.seq
(.reg [
  ⟨(some (false, 17)), .mv (.g 8), none⟩,
  ⟨(some (true, 9)), .mv (.l 17), none⟩])
(.block 2
(.loop
(.seq
(.seq
(.draw [
  ⟨⟨(some (false, 18)), .mv (.g 9), none⟩, 0, true, []⟩,
  ⟨⟨(some (false, 19)), .mv (.g 1), none⟩, 1, true, []⟩,
  ⟨⟨(some (false, 20)), .bin .gtr (.l 18) (.l 19), none⟩, 2, true, []⟩,
  ⟨⟨(some (false, 21)), .mv (.l 20), none⟩, 3, true, []⟩,
  ⟨⟨(some (false, 22)), .mv (.g 3), (some (.l 21, true))⟩, 4, true, []⟩,
  ⟨⟨(some (false, 23)), .mv (.g 0), (some (.l 21, true))⟩, 5, true, []⟩,
  ⟨⟨(some (false, 24)), .mv (.g 9), (some (.l 21, true))⟩, 6, true, []⟩,
  ⟨⟨(some (false, 25)), .ia 4 (.l 23) (.l 24), (some (.l 21, true))⟩, 7, true, []⟩,
  ⟨⟨(some (false, 26)), .ld (some 4) (.l 25), (some (.l 21, true))⟩, 8, true, []⟩,
  ⟨⟨(some (false, 27)), .mv (.g 0), (some (.l 21, true))⟩, 9, true, []⟩,
  ⟨⟨(some (false, 28)), .mv (.g 9), (some (.l 21, true))⟩, 10, true, []⟩,
  ⟨⟨(some (false, 29)), .bin .sub (.l 28) (.c (.lit (.int .i64 1))), (some (.l 21, true))⟩, 11, true, []⟩,
  ⟨⟨(some (false, 30)), .ia 4 (.l 27) (.l 29), (some (.l 21, true))⟩, 12, true, []⟩,
  ⟨⟨(some (false, 31)), .ld (some 4) (.l 30), (some (.l 21, true))⟩, 13, true, []⟩,
  ⟨⟨(some (false, 32)), .call (.l 22) [.l 26, .l 31], (some (.l 21, true))⟩, 14, false, []⟩,
  ⟨⟨(some (false, 33)), .bin .lss (.l 32) (.c (.lit (.int .i64 0))), (some (.l 21, true))⟩, 15, true, []⟩,
  ⟨⟨(some (true, 34)), .pick (.l 21) (.l 33) (.c (.lit (.bool false))), none⟩, 16, true, []⟩])
(.cond (.g 34)
.skip
(.exit 2)))
(.seq
(.block 3
(.draw [
  ⟨⟨(some (false, 37)), .mv (.g 0), none⟩, 0, true, []⟩,
  ⟨⟨(some (false, 38)), .mv (.g 9), none⟩, 1, true, []⟩,
  ⟨⟨(some (false, 39)), .mv (.g 0), none⟩, 2, false, []⟩,
  ⟨⟨(some (false, 40)), .mv (.g 9), none⟩, 3, false, []⟩,
  ⟨⟨(some (false, 41)), .bin .sub (.l 40) (.c (.lit (.int .i64 1))), none⟩, 4, false, []⟩,
  ⟨⟨(some (false, 42)), .mv (.g 0), none⟩, 5, true, []⟩,
  ⟨⟨(some (false, 43)), .mv (.g 9), none⟩, 6, true, []⟩,
  ⟨⟨(some (false, 44)), .bin .sub (.l 43) (.c (.lit (.int .i64 1))), none⟩, 7, true, []⟩,
  ⟨⟨(some (false, 45)), .ia 4 (.l 42) (.l 44), none⟩, 8, true, []⟩,
  ⟨⟨(some (false, 46)), .ld (some 4) (.l 45), none⟩, 9, true, []⟩,
  ⟨⟨(some (false, 47)), .mv (.g 0), none⟩, 10, false, []⟩,
  ⟨⟨(some (false, 48)), .mv (.g 9), none⟩, 11, false, []⟩,
  ⟨⟨(some (false, 49)), .ia 4 (.l 47) (.l 48), none⟩, 12, true, []⟩,
  ⟨⟨(some (false, 50)), .ld (some 4) (.l 49), none⟩, 13, true, []⟩,
  ⟨⟨(some (false, 51)), .ia 4 (.l 37) (.l 38), none⟩, 14, true, []⟩,
  ⟨⟨none, .st 4 (.l 51) (.l 46), none⟩, 15, false, []⟩,
  ⟨⟨(some (false, 52)), .ia 4 (.l 39) (.l 41), none⟩, 16, false, []⟩,
  ⟨⟨none, .st 4 (.l 52) (.l 50), none⟩, 17, true, []⟩]))
(.reg [
  ⟨(some (false, 35)), .mv (.g 9), none⟩,
  ⟨(some (false, 36)), .bin .sub (.l 35) (.c (.lit (.int .i64 1))), none⟩,
  ⟨(some (true, 9)), .mv (.l 36), none⟩])))))))
(.reg [
  ⟨(some (false, 15)), .mv (.g 8), none⟩,
  ⟨(some (false, 16)), .bin .add (.l 15) (.c (.lit (.int .i64 1))), none⟩,
  ⟨(some (true, 8)), .mv (.l 16), none⟩]))))))
def K92 : List Nat := [0, 1, 2, 3, 14, 34, 8, 9]
noncomputable def b92 : Code := match Tryz.f92.body with | some c => c | none => .skip
theorem t92 : trCode ⟨Tryz.prog, K92, [], 53, none⟩ b92 = some c92 := by kernel_rfl
theorem go92 {args : List AV} {H : AHeap} {Kk : AV → AHeap → Prop} (hn : args.length = 4) (h : AGo ⟨Tryz.prog, K92, [], 53, none⟩ H.length [.code c92] (RetP [] H.length Kk) ⟨[], argsG 0 args⟩ H) : ACalls Tryz.prog 92 args H Kk :=
  ACalls_of Tryz.func92 (c := b92) rfl (by kernel_rfl) t92 (rs := []) (by kernel_rfl) (by rw [hn]; exact Nat.le_of_ble_eq_true rfl) (by rw [hn]; rfl) (h.weaken (fun _ _ => RetP.hands) (by simp))

/-- slices.symMergeCmpFunc[sastrugi/api.Order] -/
def c93 : ACode :=
  (.seq
(.seq
(.reg [
  ⟨(some (false, 25)), .mv (.g 2), none⟩,
  ⟨(some (false, 26)), .mv (.g 1), none⟩,
  ⟨(some (false, 27)), .bin .sub (.l 25) (.l 26), none⟩,
  ⟨(some (true, 28)), .bin .eql (.l 27) (.c (.lit (.int .i64 1))), none⟩])
(.cond (.g 28)
(.seq
(.reg [
  ⟨(some (false, 29)), .mv (.g 2), none⟩,
  ⟨(some (true, 10)), .mv (.l 29), none⟩])
(.seq
(.reg [
  ⟨(some (false, 30)), .mv (.g 3), none⟩,
  ⟨(some (true, 11)), .mv (.l 30), none⟩])
(.seq
(.block 0
(.loop
(.seq
(.seq
(.reg [
  ⟨(some (false, 31)), .mv (.g 10), none⟩,
  ⟨(some (false, 32)), .mv (.g 11), none⟩,
  ⟨(some (true, 33)), .bin .lss (.l 31) (.l 32), none⟩])
(.cond (.g 33)
.skip
(.exit 0)))
(.block 1
(.seq
(.reg [
  ⟨(some (false, 34)), .mv (.g 10), none⟩,
  ⟨(some (false, 35)), .mv (.g 11), none⟩,
  ⟨(some (false, 36)), .bin .add (.l 34) (.l 35), none⟩,
  ⟨(some (false, 37)), .cv .u64 (.l 36), none⟩,
  ⟨(some (false, 38)), .bin .shr (.l 37) (.c (.lit (.int .u64 1))), none⟩,
  ⟨(some (false, 39)), .cv .i64 (.l 38), none⟩,
  ⟨(some (true, 12)), .mv (.l 39), none⟩])
(.seq
(.draw [
  ⟨⟨(some (false, 40)), .mv (.g 4), none⟩, 0, true, []⟩,
  ⟨⟨(some (false, 41)), .mv (.g 0), none⟩, 1, true, []⟩,
  ⟨⟨(some (false, 42)), .mv (.g 12), none⟩, 2, true, []⟩,
  ⟨⟨(some (false, 43)), .ia 4 (.l 41) (.l 42), none⟩, 3, true, []⟩,
  ⟨⟨(some (false, 44)), .ld (some 4) (.l 43), none⟩, 4, true, []⟩,
  ⟨⟨(some (false, 45)), .mv (.g 0), none⟩, 5, true, []⟩,
  ⟨⟨(some (false, 46)), .mv (.g 1), none⟩, 6, true, []⟩,
  ⟨⟨(some (false, 47)), .ia 4 (.l 45) (.l 46), none⟩, 7, true, []⟩,
  ⟨⟨(some (false, 48)), .ld (some 4) (.l 47), none⟩, 8, true, []⟩,
  ⟨⟨(some (false, 49)), .call (.l 40) [.l 44, .l 48], none⟩, 9, false, []⟩,
  ⟨⟨(some (true, 50)), .bin .lss (.l 49) (.c (.lit (.int .i64 0))), none⟩, 10, true, []⟩])
(.cond (.g 50)
(.reg [
  ⟨(some (false, 51)), .mv (.g 12), none⟩,
  ⟨(some (false, 52)), .bin .add (.l 51) (.c (.lit (.int .i64 1))), none⟩,
  ⟨(some (true, 10)), .mv (.l 52), none⟩])
(.reg [
  ⟨(some (false, 53)), .mv (.g 12), none⟩,
  ⟨(some (true, 11)), .mv (.l 53), none⟩]))))))))
(.seq
(.seq
(.reg [
  ⟨(some (false, 54)), .mv (.g 1), none⟩,
  ⟨(some (true, 13)), .mv (.l 54), none⟩])
(.block 2
(.loop
(.seq
(.seq
(.reg [
  ⟨(some (false, 55)), .mv (.g 13), none⟩,
  ⟨(some (false, 56)), .mv (.g 10), none⟩,
  ⟨(some (false, 57)), .bin .sub (.l 56) (.c (.lit (.int .i64 1))), none⟩,
  ⟨(some (true, 58)), .bin .lss (.l 55) (.l 57), none⟩])
(.cond (.g 58)
.skip
(.exit 2)))
(.seq
(.block 3
(.draw [
  ⟨⟨(some (false, 61)), .mv (.g 0), none⟩, 0, true, []⟩,
  ⟨⟨(some (false, 62)), .mv (.g 13), none⟩, 1, true, []⟩,
  ⟨⟨(some (false, 63)), .mv (.g 0), none⟩, 2, false, []⟩,
  ⟨⟨(some (false, 64)), .mv (.g 13), none⟩, 3, false, []⟩,
  ⟨⟨(some (false, 65)), .bin .add (.l 64) (.c (.lit (.int .i64 1))), none⟩, 4, false, []⟩,
  ⟨⟨(some (false, 66)), .mv (.g 0), none⟩, 5, true, []⟩,
  ⟨⟨(some (false, 67)), .mv (.g 13), none⟩, 6, true, []⟩,
  ⟨⟨(some (false, 68)), .bin .add (.l 67) (.c (.lit (.int .i64 1))), none⟩, 7, true, []⟩,
  ⟨⟨(some (false, 69)), .ia 4 (.l 66) (.l 68), none⟩, 8, true, []⟩,
  ⟨⟨(some (false, 70)), .ld (some 4) (.l 69), none⟩, 9, true, []⟩,
  ⟨⟨(some (false, 71)), .mv (.g 0), none⟩, 10, false, []⟩,
  ⟨⟨(some (false, 72)), .mv (.g 13), none⟩, 11, false, []⟩,
  ⟨⟨(some (false, 73)), .ia 4 (.l 71) (.l 72), none⟩, 12, true, []⟩,
  ⟨⟨(some (false, 74)), .ld (some 4) (.l 73), none⟩, 13, true, []⟩,
  ⟨⟨(some (false, 75)), .ia 4 (.l 61) (.l 62), none⟩, 14, true, []⟩,
  ⟨⟨none, .st 4 (.l 75) (.l 70), none⟩, 15, false, []⟩,
  ⟨⟨(some (false, 76)), .ia 4 (.l 63) (.l 65), none⟩, 16, false, []⟩,
  ⟨⟨none, .st 4 (.l 76) (.l 74), none⟩, 17, true, []⟩]))
(.reg [
  ⟨(some (false, 59)), .mv (.g 13), none⟩,
  ⟨(some (false, 60)), .bin .add (.l 59) (.c (.lit (.int .i64 1))), none⟩,
  ⟨(some (true, 13)), .mv (.l 60), none⟩]))))))
.ret))))
.skip))
(.seq
(.seq
(.reg [
  ⟨(some (false, 77)), .mv (.g 3), none⟩,
  ⟨(some (false, 78)), .mv (.g 2), none⟩,
  ⟨(some (false, 79)), .bin .sub (.l 77) (.l 78), none⟩,
  ⟨(some (true, 80)), .bin .eql (.l 79) (.c (.lit (.int .i64 1))), none⟩])
(.cond (.g 80)
(.seq
(.reg [
  ⟨(some (false, 81)), .mv (.g 1), none⟩,
  ⟨(some (true, 14)), .mv (.l 81), none⟩])
(.seq
(.reg [
  ⟨(some (false, 82)), .mv (.g 2), none⟩,
  ⟨(some (true, 15)), .mv (.l 82), none⟩])
(.seq
(.block 4
(.loop
(.seq
(.seq
(.reg [
  ⟨(some (false, 83)), .mv (.g 14), none⟩,
  ⟨(some (false, 84)), .mv (.g 15), none⟩,
  ⟨(some (true, 85)), .bin .lss (.l 83) (.l 84), none⟩])
(.cond (.g 85)
.skip
(.exit 4)))
(.block 5
(.seq
(.reg [
  ⟨(some (false, 86)), .mv (.g 14), none⟩,
  ⟨(some (false, 87)), .mv (.g 15), none⟩,
  ⟨(some (false, 88)), .bin .add (.l 86) (.l 87), none⟩,
  ⟨(some (false, 89)), .cv .u64 (.l 88), none⟩,
  ⟨(some (false, 90)), .bin .shr (.l 89) (.c (.lit (.int .u64 1))), none⟩,
  ⟨(some (false, 91)), .cv .i64 (.l 90), none⟩,
  ⟨(some (true, 16)), .mv (.l 91), none⟩])
(.seq
(.draw [
  ⟨⟨(some (false, 92)), .mv (.g 4), none⟩, 0, true, []⟩,
  ⟨⟨(some (false, 93)), .mv (.g 0), none⟩, 1, true, []⟩,
  ⟨⟨(some (false, 94)), .mv (.g 2), none⟩, 2, true, []⟩,
  ⟨⟨(some (false, 95)), .ia 4 (.l 93) (.l 94), none⟩, 3, true, []⟩,
  ⟨⟨(some (false, 96)), .ld (some 4) (.l 95), none⟩, 4, true, []⟩,
  ⟨⟨(some (false, 97)), .mv (.g 0), none⟩, 5, true, []⟩,
  ⟨⟨(some (false, 98)), .mv (.g 16), none⟩, 6, true, []⟩,
  ⟨⟨(some (false, 99)), .ia 4 (.l 97) (.l 98), none⟩, 7, true, []⟩,
  ⟨⟨(some (false, 100)), .ld (some 4) (.l 99), none⟩, 8, true, []⟩,
  ⟨⟨(some (false, 101)), .call (.l 92) [.l 96, .l 100], none⟩, 9, false, []⟩,
  ⟨⟨(some (false, 102)), .bin .lss (.l 101) (.c (.lit (.int .i64 0))), none⟩, 10, true, []⟩,
  ⟨⟨(some (true, 103)), .un .not (.l 102), none⟩, 11, true, []⟩])
(.cond (.g 103)
(.reg [
  ⟨(some (false, 104)), .mv (.g 16), none⟩,
  ⟨(some (false, 105)), .bin .add (.l 104) (.c (.lit (.int .i64 1))), none⟩,
  ⟨(some (true, 14)), .mv (.l 105), none⟩])
(.reg [
  ⟨(some (false, 106)), .mv (.g 16), none⟩,
  ⟨(some (true, 15)), .mv (.l 106), none⟩]))))))))
(.seq
(.seq
(.reg [
  ⟨(some (false, 107)), .mv (.g 2), none⟩,
  ⟨(some (true, 17)), .mv (.l 107), none⟩])
(.block 6
(.loop
(.seq
(.seq
(.reg [
  ⟨(some (false, 108)), .mv (.g 17), none⟩,
  ⟨(some (false, 109)), .mv (.g 14), none⟩,
  ⟨(some (true, 110)), .bin .gtr (.l 108) (.l 109), none⟩])
(.cond (.g 110)
.skip
(.exit 6)))
(.seq
(.block 7
(.draw [
  ⟨⟨(some (false, 113)), .mv (.g 0), none⟩, 0, true, []⟩,
  ⟨⟨(some (false, 114)), .mv (.g 17), none⟩, 1, true, []⟩,
  ⟨⟨(some (false, 115)), .mv (.g 0), none⟩, 2, false, []⟩,
  ⟨⟨(some (false, 116)), .mv (.g 17), none⟩, 3, false, []⟩,
  ⟨⟨(some (false, 117)), .bin .sub (.l 116) (.c (.lit (.int .i64 1))), none⟩, 4, false, []⟩,
  ⟨⟨(some (false, 118)), .mv (.g 0), none⟩, 5, true, []⟩,
  ⟨⟨(some (false, 119)), .mv (.g 17), none⟩, 6, true, []⟩,
  ⟨⟨(some (false, 120)), .bin .sub (.l 119) (.c (.lit (.int .i64 1))), none⟩, 7, true, []⟩,
  ⟨⟨(some (false, 121)), .ia 4 (.l 118) (.l 120), none⟩, 8, true, []⟩,
  ⟨⟨(some (false, 122)), .ld (some 4) (.l 121), none⟩, 9, true, []⟩,
  ⟨⟨(some (false, 123)), .mv (.g 0), none⟩, 10, false, []⟩,
  ⟨⟨(some (false, 124)), .mv (.g 17), none⟩, 11, false, []⟩,
  ⟨⟨(some (false, 125)), .ia 4 (.l 123) (.l 124), none⟩, 12, true, []⟩,
  ⟨⟨(some (false, 126)), .ld (some 4) (.l 125), none⟩, 13, true, []⟩,
  ⟨⟨(some (false, 127)), .ia 4 (.l 113) (.l 114), none⟩, 14, true, []⟩,
  ⟨⟨none, .st 4 (.l 127) (.l 122), none⟩, 15, false, []⟩,
  ⟨⟨(some (false, 128)), .ia 4 (.l 115) (.l 117), none⟩, 16, false, []⟩,
  ⟨⟨none, .st 4 (.l 128) (.l 126), none⟩, 17, true, []⟩]))
(.reg [
  ⟨(some (false, 111)), .mv (.g 17), none⟩,
  ⟨(some (false, 112)), .bin .sub (.l 111) (.c (.lit (.int .i64 1))), none⟩,
  ⟨(some (true, 17)), .mv (.l 112), none⟩]))))))
.ret))))
.skip))
(.seq
(.reg [
  ⟨(some (false, 129)), .mv (.g 1), none⟩,
  ⟨(some (false, 130)), .mv (.g 3), none⟩,
  ⟨(some (false, 131)), .bin .add (.l 129) (.l 130), none⟩,
  ⟨(some (false, 132)), .cv .u64 (.l 131), none⟩,
  ⟨(some (false, 133)), .bin .shr (.l 132) (.c (.lit (.int .u64 1))), none⟩,
  ⟨(some (false, 134)), .cv .i64 (.l 133), none⟩,
  ⟨(some (true, 18)), .mv (.l 134), none⟩])
(.seq
(.reg [
  ⟨(some (false, 135)), .mv (.g 18), none⟩,
  ⟨(some (false, 136)), .mv (.g 2), none⟩,
  ⟨(some (false, 137)), .bin .add (.l 135) (.l 136), none⟩,
  ⟨(some (true, 19)), .mv (.l 137), none⟩])
(.seq
(.reg [
  ⟨(some (true, 20)), .mv (.c (.lit (.int .i64 0))), none⟩,
  ⟨(some (true, 21)), .mv (.c (.lit (.int .i64 0))), none⟩])
(.seq
(.seq
(.reg [
  ⟨(some (false, 138)), .mv (.g 2), none⟩,
  ⟨(some (false, 139)), .mv (.g 18), none⟩,
  ⟨(some (true, 140)), .bin .gtr (.l 138) (.l 139), none⟩])
(.cond (.g 140)
(.seq
(.reg [
  ⟨(some (false, 141)), .mv (.g 19), none⟩,
  ⟨(some (false, 142)), .mv (.g 3), none⟩,
  ⟨(some (false, 143)), .bin .sub (.l 141) (.l 142), none⟩,
  ⟨(some (true, 20)), .mv (.l 143), none⟩])
(.reg [
  ⟨(some (false, 144)), .mv (.g 18), none⟩,
  ⟨(some (true, 21)), .mv (.l 144), none⟩]))
(.seq
(.reg [
  ⟨(some (false, 145)), .mv (.g 1), none⟩,
  ⟨(some (true, 20)), .mv (.l 145), none⟩])
(.reg [
  ⟨(some (false, 146)), .mv (.g 2), none⟩,
  ⟨(some (true, 21)), .mv (.l 146), none⟩]))))
(.seq
(.reg [
  ⟨(some (false, 147)), .mv (.g 19), none⟩,
  ⟨(some (false, 148)), .bin .sub (.l 147) (.c (.lit (.int .i64 1))), none⟩,
  ⟨(some (true, 22)), .mv (.l 148), none⟩])
(.seq
(.block 8
(.loop
(.seq
(.seq
(.reg [
  ⟨(some (false, 149)), .mv (.g 20), none⟩,
  ⟨(some (false, 150)), .mv (.g 21), none⟩,
  ⟨(some (true, 151)), .bin .lss (.l 149) (.l 150), none⟩])
(.cond (.g 151)
.skip
(.exit 8)))
(.block 9
(.seq
(.reg [
  ⟨(some (false, 152)), .mv (.g 20), none⟩,
  ⟨(some (false, 153)), .mv (.g 21), none⟩,
  ⟨(some (false, 154)), .bin .add (.l 152) (.l 153), none⟩,
  ⟨(some (false, 155)), .cv .u64 (.l 154), none⟩,
  ⟨(some (false, 156)), .bin .shr (.l 155) (.c (.lit (.int .u64 1))), none⟩,
  ⟨(some (false, 157)), .cv .i64 (.l 156), none⟩,
  ⟨(some (true, 23)), .mv (.l 157), none⟩])
(.seq
(.draw [
  ⟨⟨(some (false, 158)), .mv (.g 4), none⟩, 0, true, []⟩,
  ⟨⟨(some (false, 159)), .mv (.g 0), none⟩, 1, true, []⟩,
  ⟨⟨(some (false, 160)), .mv (.g 22), none⟩, 2, true, []⟩,
  ⟨⟨(some (false, 161)), .mv (.g 23), none⟩, 3, true, []⟩,
  ⟨⟨(some (false, 162)), .bin .sub (.l 160) (.l 161), none⟩, 4, true, []⟩,
  ⟨⟨(some (false, 163)), .ia 4 (.l 159) (.l 162), none⟩, 5, true, []⟩,
  ⟨⟨(some (false, 164)), .ld (some 4) (.l 163), none⟩, 6, true, []⟩,
  ⟨⟨(some (false, 165)), .mv (.g 0), none⟩, 7, true, []⟩,
  ⟨⟨(some (false, 166)), .mv (.g 23), none⟩, 8, true, []⟩,
  ⟨⟨(some (false, 167)), .ia 4 (.l 165) (.l 166), none⟩, 9, true, []⟩,
  ⟨⟨(some (false, 168)), .ld (some 4) (.l 167), none⟩, 10, true, []⟩,
  ⟨⟨(some (false, 169)), .call (.l 158) [.l 164, .l 168], none⟩, 11, false, []⟩,
  ⟨⟨(some (false, 170)), .bin .lss (.l 169) (.c (.lit (.int .i64 0))), none⟩, 12, true, []⟩,
  ⟨⟨(some (true, 171)), .un .not (.l 170), none⟩, 13, true, []⟩])
(.cond (.g 171)
(.reg [
  ⟨(some (false, 172)), .mv (.g 23), none⟩,
  ⟨(some (false, 173)), .bin .add (.l 172) (.c (.lit (.int .i64 1))), none⟩,
  ⟨(some (true, 20)), .mv (.l 173), none⟩])
(.reg [
  ⟨(some (false, 174)), .mv (.g 23), none⟩,
  ⟨(some (true, 21)), .mv (.l 174), none⟩]))))))))
(.seq
(.reg [
  ⟨(some (false, 175)), .mv (.g 19), none⟩,
  ⟨(some (false, 176)), .mv (.g 20), none⟩,
  ⟨(some (false, 177)), .bin .sub (.l 175) (.l 176), none⟩,
  ⟨(some (true, 24)), .mv (.l 177), none⟩])
(.seq
(.seq
(.reg [
  ⟨(some (false, 178)), .mv (.g 20), none⟩,
  ⟨(some (false, 179)), .mv (.g 2), none⟩,
  ⟨(some (false, 180)), .bin .lss (.l 178) (.l 179), none⟩,
  ⟨(some (false, 181)), .mv (.l 180), none⟩,
  ⟨(some (false, 182)), .mv (.g 2), (some (.l 181, true))⟩,
  ⟨(some (false, 183)), .mv (.g 24), (some (.l 181, true))⟩,
  ⟨(some (false, 184)), .bin .lss (.l 182) (.l 183), (some (.l 181, true))⟩,
  ⟨(some (true, 185)), .pick (.l 181) (.l 184) (.c (.lit (.bool false))), none⟩])
(.cond (.g 185)
(.reg [
  ⟨(some (false, 186)), .mv (.g 0), none⟩,
  ⟨(some (false, 187)), .mv (.g 20), none⟩,
  ⟨(some (false, 188)), .mv (.g 2), none⟩,
  ⟨(some (false, 189)), .mv (.g 24), none⟩,
  ⟨(some (false, 190)), .mv (.g 4), none⟩,
  ⟨(some (false, 191)), .call (.c (.fn 109 [])) [.l 186, .l 187, .l 188, .l 189, .l 190], none⟩])
.skip))
(.seq
(.seq
(.reg [
  ⟨(some (false, 192)), .mv (.g 1), none⟩,
  ⟨(some (false, 193)), .mv (.g 20), none⟩,
  ⟨(some (false, 194)), .bin .lss (.l 192) (.l 193), none⟩,
  ⟨(some (false, 195)), .mv (.l 194), none⟩,
  ⟨(some (false, 196)), .mv (.g 20), (some (.l 195, true))⟩,
  ⟨(some (false, 197)), .mv (.g 18), (some (.l 195, true))⟩,
  ⟨(some (false, 198)), .bin .lss (.l 196) (.l 197), (some (.l 195, true))⟩,
  ⟨(some (true, 199)), .pick (.l 195) (.l 198) (.c (.lit (.bool false))), none⟩])
(.cond (.g 199)
(.reg [
  ⟨(some (false, 200)), .mv (.g 0), none⟩,
  ⟨(some (false, 201)), .mv (.g 1), none⟩,
  ⟨(some (false, 202)), .mv (.g 20), none⟩,
  ⟨(some (false, 203)), .mv (.g 18), none⟩,
  ⟨(some (false, 204)), .mv (.g 4), none⟩,
  ⟨(some (false, 205)), .call (.c (.fn 93 [])) [.l 200, .l 201, .l 202, .l 203, .l 204], none⟩])
.skip))
(.seq
(.reg [
  ⟨(some (false, 206)), .mv (.g 18), none⟩,
  ⟨(some (false, 207)), .mv (.g 24), none⟩,
  ⟨(some (false, 208)), .bin .lss (.l 206) (.l 207), none⟩,
  ⟨(some (false, 209)), .mv (.l 208), none⟩,
  ⟨(some (false, 210)), .mv (.g 24), (some (.l 209, true))⟩,
  ⟨(some (false, 211)), .mv (.g 3), (some (.l 209, true))⟩,
  ⟨(some (false, 212)), .bin .lss (.l 210) (.l 211), (some (.l 209, true))⟩,
  ⟨(some (true, 213)), .pick (.l 209) (.l 212) (.c (.lit (.bool false))), none⟩])
(.cond (.g 213)
(.reg [
  ⟨(some (false, 214)), .mv (.g 0), none⟩,
  ⟨(some (false, 215)), .mv (.g 18), none⟩,
  ⟨(some (false, 216)), .mv (.g 24), none⟩,
  ⟨(some (false, 217)), .mv (.g 3), none⟩,
  ⟨(some (false, 218)), .mv (.g 4), none⟩,
  ⟨(some (false, 219)), .call (.c (.fn 93 [])) [.l 214, .l 215, .l 216, .l 217, .l 218], none⟩])
.skip)))))))))))))
def K93 : List Nat := [0, 1, 2, 3, 4, 28, 33, 50, 58, 80, 85, 103, 110, 140, 151, 171, 185, 199, 213, 10, 11, 12, 13, 14, 15, 16, 17, 18, 19, 20, 21, 22, 23, 24]
noncomputable def b93 : Code := match Tryz.f93.body with | some c => c | none => .skip
theorem t93 : trCode ⟨Tryz.prog, K93, [], 220, none⟩ b93 = some c93 := by kernel_rfl
theorem go93 {args : List AV} {H : AHeap} {Kk : AV → AHeap → Prop} (hn : args.length = 5) (h : AGo ⟨Tryz.prog, K93, [], 220, none⟩ H.length [.code c93] (RetP [] H.length Kk) ⟨[], argsG 0 args⟩ H) : ACalls Tryz.prog 93 args H Kk :=
  ACalls_of Tryz.func93 (c := b93) rfl (by kernel_rfl) t93 (rs := []) (by kernel_rfl) (by rw [hn]; exact Nat.le_of_ble_eq_true rfl) (by rw [hn]; rfl) (h.weaken (fun _ _ => RetP.hands) (by simp))

/-- slices.rotateCmpFunc[sastrugi/api.Order] -/
def c109 : ACode :=
  (.seq
(.reg [
  ⟨(some (false, 12)), .mv (.g 2), none⟩,
  ⟨(some (false, 13)), .mv (.g 1), none⟩,
  ⟨(some (false, 14)), .bin .sub (.l 12) (.l 13), none⟩,
  ⟨(some (true, 10)), .mv (.l 14), none⟩])
(.seq
(.reg [
  ⟨(some (false, 15)), .mv (.g 3), none⟩,
  ⟨(some (false, 16)), .mv (.g 2), none⟩,
  ⟨(some (false, 17)), .bin .sub (.l 15) (.l 16), none⟩,
  ⟨(some (true, 11)), .mv (.l 17), none⟩])
(.seq
(.block 0
(.loop
(.seq
(.seq
(.reg [
  ⟨(some (false, 18)), .mv (.g 10), none⟩,
  ⟨(some (false, 19)), .mv (.g 11), none⟩,
  ⟨(some (true, 20)), .bin .neq (.l 18) (.l 19), none⟩])
(.cond (.g 20)
.skip
(.exit 0)))
(.block 1
(.seq
(.reg [
  ⟨(some (false, 21)), .mv (.g 10), none⟩,
  ⟨(some (false, 22)), .mv (.g 11), none⟩,
  ⟨(some (true, 23)), .bin .gtr (.l 21) (.l 22), none⟩])
(.cond (.g 23)
(.seq
(.reg [
  ⟨(some (false, 24)), .mv (.g 0), none⟩,
  ⟨(some (false, 25)), .mv (.g 2), none⟩,
  ⟨(some (false, 26)), .mv (.g 10), none⟩,
  ⟨(some (false, 27)), .bin .sub (.l 25) (.l 26), none⟩,
  ⟨(some (false, 28)), .mv (.g 2), none⟩,
  ⟨(some (false, 29)), .mv (.g 11), none⟩,
  ⟨(some (false, 30)), .mv (.g 4), none⟩,
  ⟨(some (false, 31)), .call (.c (.fn 117 [])) [.l 24, .l 27, .l 28, .l 29, .l 30], none⟩])
(.reg [
  ⟨(some (false, 32)), .mv (.g 10), none⟩,
  ⟨(some (false, 33)), .mv (.g 11), none⟩,
  ⟨(some (false, 34)), .bin .sub (.l 32) (.l 33), none⟩,
  ⟨(some (true, 10)), .mv (.l 34), none⟩]))
(.seq
(.reg [
  ⟨(some (false, 35)), .mv (.g 0), none⟩,
  ⟨(some (false, 36)), .mv (.g 2), none⟩,
  ⟨(some (false, 37)), .mv (.g 10), none⟩,
  ⟨(some (false, 38)), .bin .sub (.l 36) (.l 37), none⟩,
  ⟨(some (false, 39)), .mv (.g 2), none⟩,
  ⟨(some (false, 40)), .mv (.g 11), none⟩,
  ⟨(some (false, 41)), .bin .add (.l 39) (.l 40), none⟩,
  ⟨(some (false, 42)), .mv (.g 10), none⟩,
  ⟨(some (false, 43)), .bin .sub (.l 41) (.l 42), none⟩,
  ⟨(some (false, 44)), .mv (.g 10), none⟩,
  ⟨(some (false, 45)), .mv (.g 4), none⟩,
  ⟨(some (false, 46)), .call (.c (.fn 117 [])) [.l 35, .l 38, .l 43, .l 44, .l 45], none⟩])
(.reg [
  ⟨(some (false, 47)), .mv (.g 11), none⟩,
  ⟨(some (false, 48)), .mv (.g 10), none⟩,
  ⟨(some (false, 49)), .bin .sub (.l 47) (.l 48), none⟩,
  ⟨(some (true, 11)), .mv (.l 49), none⟩]))))))))
(.reg [
  ⟨(some (false, 50)), .mv (.g 0), none⟩,
  ⟨(some (false, 51)), .mv (.g 2), none⟩,
  ⟨(some (false, 52)), .mv (.g 10), none⟩,
  ⟨(some (false, 53)), .bin .sub (.l 51) (.l 52), none⟩,
  ⟨(some (false, 54)), .mv (.g 2), none⟩,
  ⟨(some (false, 55)), .mv (.g 10), none⟩,
  ⟨(some (false, 56)), .mv (.g 4), none⟩,
  ⟨(some (false, 57)), .call (.c (.fn 117 [])) [.l 50, .l 53, .l 54, .l 55, .l 56], none⟩]))))
def K109 : List Nat := [0, 1, 2, 3, 4, 20, 23, 10, 11]
noncomputable def b109 : Code := match Tryz.f109.body with | some c => c | none => .skip
theorem t109 : trCode ⟨Tryz.prog, K109, [], 58, none⟩ b109 = some c109 := by kernel_rfl
theorem go109 {args : List AV} {H : AHeap} {Kk : AV → AHeap → Prop} (hn : args.length = 5) (h : AGo ⟨Tryz.prog, K109, [], 58, none⟩ H.length [.code c109] (RetP [] H.length Kk) ⟨[], argsG 0 args⟩ H) : ACalls Tryz.prog 109 args H Kk :=
  ACalls_of Tryz.func109 (c := b109) rfl (by kernel_rfl) t109 (rs := []) (by kernel_rfl) (by rw [hn]; exact Nat.le_of_ble_eq_true rfl) (by rw [hn]; rfl) (h.weaken (fun _ _ => RetP.hands) (by simp))

/-- slices.swapRangeCmpFunc[sastrugi/api.Order] -/
def c117 : ACode :=
  (.seq
(.reg [
  ⟨(some (true, 10)), .mv (.c (.lit (.int .i64 0))), none⟩])
(.block 0
(.loop
(.seq
(.seq
(.reg [
  ⟨(some (false, 11)), .mv (.g 10), none⟩,
  ⟨(some (false, 12)), .mv (.g 3), none⟩,
  ⟨(some (true, 13)), .bin .lss (.l 11) (.l 12), none⟩])
(.cond (.g 13)
.skip
(.exit 0)))
(.seq
(.block 1
(.draw [
  ⟨⟨(some (false, 16)), .mv (.g 0), none⟩, 0, true, []⟩,
  ⟨⟨(some (false, 17)), .mv (.g 1), none⟩, 1, true, []⟩,
  ⟨⟨(some (false, 18)), .mv (.g 10), none⟩, 2, true, []⟩,
  ⟨⟨(some (false, 19)), .bin .add (.l 17) (.l 18), none⟩, 3, true, []⟩,
  ⟨⟨(some (false, 20)), .mv (.g 0), none⟩, 4, false, []⟩,
  ⟨⟨(some (false, 21)), .mv (.g 2), none⟩, 5, false, []⟩,
  ⟨⟨(some (false, 22)), .mv (.g 10), none⟩, 6, false, []⟩,
  ⟨⟨(some (false, 23)), .bin .add (.l 21) (.l 22), none⟩, 7, false, []⟩,
  ⟨⟨(some (false, 24)), .mv (.g 0), none⟩, 8, true, []⟩,
  ⟨⟨(some (false, 25)), .mv (.g 2), none⟩, 9, true, []⟩,
  ⟨⟨(some (false, 26)), .mv (.g 10), none⟩, 10, true, []⟩,
  ⟨⟨(some (false, 27)), .bin .add (.l 25) (.l 26), none⟩, 11, true, []⟩,
  ⟨⟨(some (false, 28)), .ia 4 (.l 24) (.l 27), none⟩, 12, true, []⟩,
  ⟨⟨(some (false, 29)), .ld (some 4) (.l 28), none⟩, 13, true, []⟩,
  ⟨⟨(some (false, 30)), .mv (.g 0), none⟩, 14, false, []⟩,
  ⟨⟨(some (false, 31)), .mv (.g 1), none⟩, 15, false, []⟩,
  ⟨⟨(some (false, 32)), .mv (.g 10), none⟩, 16, false, []⟩,
  ⟨⟨(some (false, 33)), .bin .add (.l 31) (.l 32), none⟩, 17, false, []⟩,
  ⟨⟨(some (false, 34)), .ia 4 (.l 30) (.l 33), none⟩, 18, true, []⟩,
  ⟨⟨(some (false, 35)), .ld (some 4) (.l 34), none⟩, 19, true, []⟩,
  ⟨⟨(some (false, 36)), .ia 4 (.l 16) (.l 19), none⟩, 20, true, []⟩,
  ⟨⟨none, .st 4 (.l 36) (.l 29), none⟩, 21, false, []⟩,
  ⟨⟨(some (false, 37)), .ia 4 (.l 20) (.l 23), none⟩, 22, false, []⟩,
  ⟨⟨none, .st 4 (.l 37) (.l 35), none⟩, 23, true, []⟩]))
(.reg [
  ⟨(some (false, 14)), .mv (.g 10), none⟩,
  ⟨(some (false, 15)), .bin .add (.l 14) (.c (.lit (.int .i64 1))), none⟩,
  ⟨(some (true, 10)), .mv (.l 15), none⟩]))))))
def K117 : List Nat := [0, 1, 2, 3, 4, 13, 10]
noncomputable def b117 : Code := match Tryz.f117.body with | some c => c | none => .skip
theorem t117 : trCode ⟨Tryz.prog, K117, [], 38, none⟩ b117 = some c117 := by kernel_rfl
theorem go117 {args : List AV} {H : AHeap} {Kk : AV → AHeap → Prop} (hn : args.length = 5) (h : AGo ⟨Tryz.prog, K117, [], 38, none⟩ H.length [.code c117] (RetP [] H.length Kk) ⟨[], argsG 0 args⟩ H) : ACalls Tryz.prog 117 args H Kk :=
  ACalls_of Tryz.func117 (c := b117) rfl (by kernel_rfl) t117 (rs := []) (by kernel_rfl) (by rw [hn]; exact Nat.le_of_ble_eq_true rfl) (by rw [hn]; rfl) (h.weaken (fun _ _ => RetP.hands) (by simp))

/-- slices.Index[[]int,int] -/
def c78 : ACode :=
  (.seq
(.reg [
  ⟨(some (true, 4)), .mv (.c (.lit (.int .i64 0))), none⟩])
(.seq
(.seq
(.reg [
  ⟨(some (false, 6)), .mv (.g 0), none⟩,
  ⟨(some (true, 7)), .len (.l 6), none⟩,
  ⟨(some (true, 8)), .mv (.c (.lit (.int .i64 0))), none⟩])
(.block 0
(.loop
(.seq
(.reg [
  ⟨(some (true, 9)), .bin .lss (.g 8) (.g 7), none⟩])
(.seq
(.cond (.g 9)
.skip
(.exit 0))
(.seq
(.block 1
(.seq
(.reg [
  ⟨(some (false, 10)), .mv (.g 8), none⟩,
  ⟨(some (true, 5)), .mv (.l 10), none⟩])
(.seq
(.reg [
  ⟨(some (false, 11)), .mv (.g 1), none⟩,
  ⟨(some (false, 12)), .mv (.g 0), none⟩,
  ⟨(some (false, 13)), .mv (.g 5), none⟩,
  ⟨(some (false, 14)), .ia 1 (.l 12) (.l 13), none⟩,
  ⟨(some (false, 15)), .ld none (.l 14), none⟩,
  ⟨(some (true, 16)), .bin .eql (.l 11) (.l 15), none⟩])
(.cond (.g 16)
(.seq
(.reg [
  ⟨(some (false, 17)), .mv (.g 5), none⟩,
  ⟨(some (true, 4)), .mv (.l 17), none⟩])
.ret)
.skip))))
(.reg [
  ⟨(some (false, 18)), .bin .add (.g 8) (.c (.lit (.int .i64 1))), none⟩,
  ⟨(some (true, 8)), .mv (.l 18), none⟩])))))))
(.seq
(.reg [
  ⟨(some (true, 4)), .mv (.c (.lit (.int .i64 (-1)))), none⟩])
.ret)))
def K78 : List Nat := [0, 1, 9, 16, 4, 7, 8, 5]
noncomputable def b78 : Code := match Tryz.f78.body with | some c => c | none => .skip
theorem t78 : trCode ⟨Tryz.prog, K78, [], 19, none⟩ b78 = some c78 := by kernel_rfl
theorem go78 {args : List AV} {H : AHeap} {Kk : AV → AHeap → Prop} (hn : args.length = 2) (h : AGo ⟨Tryz.prog, K78, [], 19, none⟩ H.length [.code c78] (RetP [.t (.g 4)] H.length Kk) ⟨[], argsG 0 args⟩ H) : ACalls Tryz.prog 78 args H Kk :=
  ACalls_of Tryz.func78 (c := b78) rfl (by kernel_rfl) t78 (rs := [.t (.g 4)]) (by kernel_rfl) (by rw [hn]; exact Nat.le_of_ble_eq_true rfl) (by rw [hn]; rfl) (h.weaken (fun _ _ => RetP.hands) (by simp))

end Go.Sas
