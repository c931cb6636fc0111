/-
The code of some functions with its types resolved, printed by a program; that it is the code is checked by the kernel.
Conditions: none.
-/
import Derived.Test.YtaeaamhlejhgkaaGreatDoorP4
import Derived.Test.YtaeaamhlejhgkaaGreatDoorProg
set_option linter.unusedVariables false
set_option linter.unusedSimpArgs false
namespace Go.Sas
open Go.Proofs
set_option maxRecDepth 100000
/-- sastrugi/sastrugikit.SameFreights -/
def c14 : ACode :=
  (.seq
(.reg [
  ⟨(some (true, 2)), .box (.g 0), none⟩,
  ⟨(some (true, 3)), .box (.g 1), none⟩,
  ⟨(some (true, 4)), .mv (.c (.lit (.bool false))), none⟩])
(.seq
(.seq
(.reg [
  ⟨(some (false, 6)), .fa (.g 2) 0, none⟩,
  ⟨(some (false, 7)), .ld (some 2) (.l 6), none⟩,
  ⟨(some (false, 8)), .fa (.g 3) 0, none⟩,
  ⟨(some (false, 9)), .ld (some 2) (.l 8), none⟩,
  ⟨(some (false, 10)), .eqs true (.fld 0 none .i (.fld 1 none .i .nil)) (.l 7) (.l 9), none⟩,
  ⟨(some (false, 11)), .mv (.l 10), none⟩,
  ⟨(some (false, 12)), .fa (.g 2) 2, (some (.l 11, false))⟩,
  ⟨(some (false, 13)), .ld (some 2) (.l 12), (some (.l 11, false))⟩,
  ⟨(some (false, 14)), .fa (.g 3) 2, (some (.l 11, false))⟩,
  ⟨(some (false, 15)), .ld (some 2) (.l 14), (some (.l 11, false))⟩,
  ⟨(some (false, 16)), .eqs true (.fld 0 none .i (.fld 1 none .i .nil)) (.l 13) (.l 15), (some (.l 11, false))⟩,
  ⟨(some (false, 17)), .pick (.l 11) (.c (.lit (.bool true))) (.l 16), none⟩,
  ⟨(some (false, 18)), .mv (.l 17), none⟩,
  ⟨(some (false, 19)), .fa (.g 2) 4, (some (.l 18, false))⟩,
  ⟨(some (false, 20)), .ld none (.l 19), (some (.l 18, false))⟩,
  ⟨(some (false, 21)), .fa (.g 3) 4, (some (.l 18, false))⟩,
  ⟨(some (false, 22)), .ld none (.l 21), (some (.l 18, false))⟩,
  ⟨(some (false, 23)), .call (.c (.fn 41 [])) [.l 20, .l 22], (some (.l 18, false))⟩,
  ⟨(some (false, 24)), .un .not (.l 23), (some (.l 18, false))⟩,
  ⟨(some (false, 25)), .pick (.l 18) (.c (.lit (.bool true))) (.l 24), none⟩,
  ⟨(some (false, 26)), .mv (.l 25), none⟩,
  ⟨(some (false, 27)), .fa (.g 2) 5, (some (.l 26, false))⟩,
  ⟨(some (false, 28)), .ld none (.l 27), (some (.l 26, false))⟩,
  ⟨(some (false, 29)), .len (.l 28), (some (.l 26, false))⟩,
  ⟨(some (false, 30)), .fa (.g 3) 5, (some (.l 26, false))⟩,
  ⟨(some (false, 31)), .ld none (.l 30), (some (.l 26, false))⟩,
  ⟨(some (false, 32)), .len (.l 31), (some (.l 26, false))⟩,
  ⟨(some (false, 33)), .bin .neq (.l 29) (.l 32), (some (.l 26, false))⟩,
  ⟨(some (true, 34)), .pick (.l 26) (.c (.lit (.bool true))) (.l 33), none⟩])
(.cond (.g 34)
(.seq
(.reg [
  ⟨(some (true, 4)), .mv (.c (.lit (.bool false))), none⟩])
.ret)
.skip))
(.seq
(.seq
(.reg [
  ⟨(some (true, 5)), .mv (.c (.lit (.int .i64 0))), none⟩])
(.block 0
(.loop
(.seq
(.seq
(.reg [
  ⟨(some (false, 35)), .mv (.g 5), none⟩,
  ⟨(some (false, 36)), .fa (.g 2) 5, none⟩,
  ⟨(some (false, 37)), .ld none (.l 36), none⟩,
  ⟨(some (false, 38)), .len (.l 37), none⟩,
  ⟨(some (true, 39)), .bin .lss (.l 35) (.l 38), none⟩])
(.cond (.g 39)
.skip
(.exit 0)))
(.seq
(.block 1
(.seq
(.draw [
  ⟨⟨(some (false, 42)), .fa (.g 2) 5, none⟩, 0, true, []⟩,
  ⟨⟨(some (false, 43)), .ld none (.l 42), none⟩, 1, true, []⟩,
  ⟨⟨(some (false, 44)), .mv (.g 5), none⟩, 2, true, []⟩,
  ⟨⟨(some (false, 45)), .ia 4 (.l 43) (.l 44), none⟩, 3, true, []⟩,
  ⟨⟨(some (false, 46)), .ld (some 4) (.l 45), none⟩, 4, true, []⟩,
  ⟨⟨(some (false, 47)), .fa (.g 3) 5, none⟩, 5, true, []⟩,
  ⟨⟨(some (false, 48)), .ld none (.l 47), none⟩, 6, true, []⟩,
  ⟨⟨(some (false, 49)), .mv (.g 5), none⟩, 7, true, []⟩,
  ⟨⟨(some (false, 50)), .ia 4 (.l 48) (.l 49), none⟩, 8, true, []⟩,
  ⟨⟨(some (false, 51)), .ld (some 4) (.l 50), none⟩, 9, true, []⟩,
  ⟨⟨(some (true, 52)), .eqs true (.fld 0 none .i (.fld 1 none .i (.fld 2 none .i (.fld 3 none .i .nil)))) (.l 46) (.l 51), none⟩, 10, true, []⟩])
(.cond (.g 52)
(.seq
(.reg [
  ⟨(some (true, 4)), .mv (.c (.lit (.bool false))), none⟩])
.ret)
.skip)))
(.reg [
  ⟨(some (false, 40)), .mv (.g 5), none⟩,
  ⟨(some (false, 41)), .bin .add (.l 40) (.c (.lit (.int .i64 1))), none⟩,
  ⟨(some (true, 5)), .mv (.l 41), none⟩]))))))
(.seq
(.reg [
  ⟨(some (true, 4)), .mv (.c (.lit (.bool true))), none⟩])
.ret))))
def K14 : List Nat := [0, 1, 34, 39, 52, 4, 2, 3, 5]
noncomputable def b14 : Code := match Tryz.f14.body with | some c => c | none => .skip
theorem t14 : trCode ⟨Tryz.prog, K14, [], 53, none⟩ b14 = some c14 := by kernel_rfl
theorem go14 {args : List AV} {H : AHeap} {Kk : AV → AHeap → Prop} (hn : args.length = 2) (h : AGo ⟨Tryz.prog, K14, [], 53, none⟩ H.length [.code c14] (RetP [.t (.g 4)] H.length Kk) ⟨[], argsG 0 args⟩ H) : ACalls Tryz.prog 14 args H Kk :=
  ACalls_of Tryz.func14 (c := b14) rfl (by kernel_rfl) t14 (rs := [.t (.g 4)]) (by kernel_rfl) (by rw [hn]; exact Nat.le_of_ble_eq_true rfl) (by rw [hn]; rfl) (h.weaken (fun _ _ => RetP.hands) (by simp))

/-- sastrugi/sastrugikit.NewSeed -/
def c8 : ACode :=
  (.seq
(.reg [
  ⟨(some (true, 2)), .mv (.c (.lit (.pointer none))), none⟩])
(.seq
(.reg [
  ⟨(some (false, 5)), .mk [.int .u64 0] [(0, 1, .c (.lit (.int .u64 1)))], none⟩,
  ⟨(some (false, 6)), .box (.l 5), none⟩,
  ⟨(some (true, 3)), .mv (.l 6), none⟩])
(.seq
(.seq
(.reg [
  ⟨(some (true, 4)), .mv (.c (.lit (.int .i64 0))), none⟩])
(.block 0
(.loop
(.seq
(.seq
(.reg [
  ⟨(some (false, 7)), .mv (.g 4), none⟩,
  ⟨(some (false, 8)), .mv (.g 0), none⟩,
  ⟨(some (false, 9)), .len (.l 8), none⟩,
  ⟨(some (true, 10)), .bin .lss (.l 7) (.l 9), none⟩])
(.cond (.g 10)
.skip
(.exit 0)))
(.seq
(.block 1
(.seq
(.draw [
  ⟨⟨(some (false, 13)), .mv (.g 3), none⟩, 0, true, []⟩,
  ⟨⟨(some (false, 14)), .mv (.g 3), none⟩, 1, true, []⟩,
  ⟨⟨(some (false, 15)), .nilc (.l 14), none⟩, 2, true, []⟩,
  ⟨⟨(some (false, 16)), .fa (.l 15) 0, none⟩, 3, true, []⟩,
  ⟨⟨(some (false, 17)), .ld none (.l 16), none⟩, 4, true, []⟩,
  ⟨⟨(some (false, 18)), .bin .mul (.l 17) (.c (.lit (.int .u64 6364136223846793005))), none⟩, 5, true, []⟩,
  ⟨⟨(some (false, 19)), .mv (.g 0), none⟩, 6, true, []⟩,
  ⟨⟨(some (false, 20)), .mv (.g 4), none⟩, 7, true, []⟩,
  ⟨⟨(some (false, 21)), .ia 1 (.l 19) (.l 20), none⟩, 8, true, []⟩,
  ⟨⟨(some (false, 22)), .ld none (.l 21), none⟩, 9, true, []⟩,
  ⟨⟨(some (false, 23)), .cv .u64 (.l 22), none⟩, 10, true, []⟩,
  ⟨⟨(some (false, 24)), .bin .add (.l 18) (.l 23), none⟩, 11, true, []⟩,
  ⟨⟨(some (false, 25)), .bin .add (.l 24) (.c (.lit (.int .u64 1442695040888963407))), none⟩, 12, true, []⟩,
  ⟨⟨(some (false, 26)), .nilc (.l 13), none⟩, 13, true, []⟩,
  ⟨⟨(some (false, 27)), .fa (.l 26) 0, none⟩, 14, true, []⟩,
  ⟨⟨none, .st 1 (.l 27) (.l 25), none⟩, 15, true, []⟩])
(.reg [
  ⟨(some (false, 28)), .mv (.g 3), none⟩,
  ⟨(some (false, 29)), .call (.c (.fn 26 [])) [.l 28], none⟩])))
(.reg [
  ⟨(some (false, 11)), .mv (.g 4), none⟩,
  ⟨(some (false, 12)), .bin .add (.l 11) (.c (.lit (.int .i64 1))), none⟩,
  ⟨(some (true, 4)), .mv (.l 12), none⟩]))))))
(.seq
(.reg [
  ⟨(some (false, 30)), .mv (.g 3), none⟩,
  ⟨(some (true, 2)), .mv (.l 30), none⟩])
.ret))))
def K8 : List Nat := [0, 10, 2, 3, 4]
noncomputable def b8 : Code := match Tryz.f8.body with | some c => c | none => .skip
theorem t8 : trCode ⟨Tryz.prog, K8, [], 31, none⟩ b8 = some c8 := by kernel_rfl
theorem go8 {args : List AV} {H : AHeap} {Kk : AV → AHeap → Prop} (hn : args.length = 1) (h : AGo ⟨Tryz.prog, K8, [], 31, none⟩ H.length [.code c8] (RetP [.t (.g 2)] H.length Kk) ⟨[], argsG 0 args⟩ H) : ACalls Tryz.prog 8 args H Kk :=
  ACalls_of Tryz.func8 (c := b8) rfl (by kernel_rfl) t8 (rs := [.t (.g 2)]) (by kernel_rfl) (by rw [hn]; exact Nat.le_of_ble_eq_true rfl) (by rw [hn]; rfl) (h.weaken (fun _ _ => RetP.hands) (by simp))

/-- sastrugi/sastrugikit.FreightOf -/
def c7 : ACode :=
  (.seq
(.reg [
  ⟨(some (true, 6)), .new [.int .i64 0, .int .i64 0, .int .i64 0, .int .i64 0, .slice none 0 0, .slice none 0 0], none⟩])
(.seq
(.reg [
  ⟨(some (true, 7)), .new [.int .i64 0, .int .i64 0, .int .i64 0, .int .i64 0, .slice none 0 0, .slice none 0 0], none⟩])
(.seq
(.reg [
  ⟨(some (false, 12)), .mv (.g 0), none⟩,
  ⟨(some (false, 13)), .mv (.g 1), none⟩,
  ⟨(some (false, 14)), .call (.c (.fn 21 [])) [.l 12, .c (.lit (.int .i64 1)), .l 13], none⟩,
  ⟨(some (true, 8)), .mv (.l 14), none⟩])
(.seq
(.seq
(.reg [
  ⟨(some (true, 9)), .mv (.c (.lit (.int .i64 0))), none⟩])
(.block 0
(.loop
(.seq
(.seq
(.reg [
  ⟨(some (false, 15)), .mv (.g 9), none⟩,
  ⟨(some (false, 16)), .mv (.g 8), none⟩,
  ⟨(some (true, 17)), .bin .lss (.l 15) (.l 16), none⟩])
(.cond (.g 17)
.skip
(.exit 0)))
(.seq
(.block 1
(.draw [
  ⟨⟨(some (false, 20)), .fa (.g 7) 4, none⟩, 0, true, []⟩,
  ⟨⟨(some (false, 21)), .ld none (.l 20), none⟩, 1, true, []⟩,
  ⟨⟨(some (false, 22)), .mv (.g 0), none⟩, 2, true, []⟩,
  ⟨⟨(some (false, 23)), .mv (.g 0), none⟩, 3, true, []⟩,
  ⟨⟨(some (false, 24)), .mks false 1 [.c (.lit (.int .i64 3)), .c (.lit (.int .i64 9))], none⟩, 4, true, []⟩,
  ⟨⟨(some (false, 25)), .call (.c (.fn 23 [])) [.l 23, .l 24], none⟩, 5, false, []⟩,
  ⟨⟨(some (false, 26)), .call (.c (.fn 22 [])) [.l 22, .c (.lit (.int .i64 0)), .l 25], none⟩, 6, false, []⟩,
  ⟨⟨(some (false, 27)), .mks false 2 [.l 26], none⟩, 7, true, []⟩,
  ⟨⟨(some (false, 28)), .app 2 16 (.l 21) (.l 27), none⟩, 8, false, []⟩,
  ⟨⟨(some (false, 29)), .fa (.g 7) 4, none⟩, 9, true, []⟩,
  ⟨⟨none, .st 1 (.l 29) (.l 28), none⟩, 10, true, []⟩]))
(.reg [
  ⟨(some (false, 18)), .mv (.g 9), none⟩,
  ⟨(some (false, 19)), .bin .add (.l 18) (.c (.lit (.int .i64 1))), none⟩,
  ⟨(some (true, 9)), .mv (.l 19), none⟩]))))))
(.seq
(.reg [
  ⟨(some (false, 30)), .mv (.g 0), none⟩,
  ⟨(some (false, 31)), .mv (.g 8), none⟩,
  ⟨(some (false, 32)), .bin .sub (.l 31) (.c (.lit (.int .i64 1))), none⟩,
  ⟨(some (false, 33)), .bin .quo (.l 32) (.c (.lit (.int .i64 2))), none⟩,
  ⟨(some (false, 34)), .call (.c (.fn 22 [])) [.l 30, .c (.lit (.int .i64 0)), .l 33], none⟩,
  ⟨(some (false, 35)), .mv (.g 0), none⟩,
  ⟨(some (false, 36)), .mv (.g 8), none⟩,
  ⟨(some (false, 37)), .bin .sub (.l 36) (.c (.lit (.int .i64 1))), none⟩,
  ⟨(some (false, 38)), .bin .quo (.l 37) (.c (.lit (.int .i64 2))), none⟩,
  ⟨(some (false, 39)), .mv (.g 8), none⟩,
  ⟨(some (false, 40)), .bin .sub (.l 39) (.c (.lit (.int .i64 1))), none⟩,
  ⟨(some (false, 41)), .call (.c (.fn 22 [])) [.l 35, .l 38, .l 40], none⟩,
  ⟨(some (false, 42)), .fa (.g 7) 0, none⟩,
  ⟨none, .st 2 (.l 42) (.l 34), none⟩,
  ⟨(some (false, 43)), .fa (.g 7) 2, none⟩,
  ⟨none, .st 2 (.l 43) (.l 41), none⟩])
(.seq
(.seq
(.reg [
  ⟨(some (false, 44)), .mv (.g 0), none⟩,
  ⟨(some (true, 45)), .call (.c (.fn 24 [])) [.l 44, .c (.lit (.int .i64 8))], none⟩])
(.cond (.g 45)
(.reg [
  ⟨(some (false, 46)), .mv (.g 0), none⟩,
  ⟨(some (false, 47)), .mv (.g 8), none⟩,
  ⟨(some (false, 48)), .bin .sub (.l 47) (.c (.lit (.int .i64 1))), none⟩,
  ⟨(some (false, 49)), .call (.c (.fn 22 [])) [.l 46, .c (.lit (.int .i64 0)), .l 48], none⟩,
  ⟨(some (false, 50)), .mv (.g 0), none⟩,
  ⟨(some (false, 51)), .mv (.g 8), none⟩,
  ⟨(some (false, 52)), .bin .sub (.l 51) (.c (.lit (.int .i64 1))), none⟩,
  ⟨(some (false, 53)), .call (.c (.fn 22 [])) [.l 50, .c (.lit (.int .i64 0)), .l 52], none⟩,
  ⟨(some (false, 54)), .fa (.g 7) 0, none⟩,
  ⟨none, .st 2 (.l 54) (.l 49), none⟩,
  ⟨(some (false, 55)), .fa (.g 7) 2, none⟩,
  ⟨none, .st 2 (.l 55) (.l 53), none⟩])
.skip))
(.seq
(.seq
(.reg [
  ⟨(some (false, 56)), .mv (.g 0), none⟩,
  ⟨(some (false, 57)), .mv (.g 2), none⟩,
  ⟨(some (false, 58)), .call (.c (.fn 21 [])) [.l 56, .c (.lit (.int .i64 1)), .l 57], none⟩,
  ⟨(some (true, 10)), .mv (.l 58), none⟩])
(.block 2
(.loop
(.seq
(.seq
(.reg [
  ⟨(some (false, 59)), .mv (.g 10), none⟩,
  ⟨(some (true, 60)), .bin .gtr (.l 59) (.c (.lit (.int .i64 0))), none⟩])
(.cond (.g 60)
.skip
(.exit 2)))
(.seq
(.block 3
(.seq
(.reg [
  ⟨(some (false, 63)), .mv (.g 0), none⟩,
  ⟨(some (false, 64)), .mv (.g 0), none⟩,
  ⟨(some (false, 65)), .mks false 1 [.c (.lit (.int .i64 4)), .c (.lit (.int .i64 20))], none⟩,
  ⟨(some (false, 66)), .call (.c (.fn 23 [])) [.l 64, .l 65], none⟩,
  ⟨(some (false, 67)), .call (.c (.fn 21 [])) [.l 63, .c (.lit (.int .i64 1)), .l 66], none⟩,
  ⟨(some (false, 68)), .mv (.g 0), none⟩,
  ⟨(some (false, 69)), .mv (.g 8), none⟩,
  ⟨(some (false, 70)), .bin .add (.l 69) (.c (.lit (.int .i64 1))), none⟩,
  ⟨(some (false, 71)), .call (.c (.fn 25 [])) [.l 68, .l 70], none⟩,
  ⟨(some (false, 72)), .mv (.g 0), none⟩,
  ⟨(some (false, 73)), .call (.c (.fn 25 [])) [.l 72, .c (.lit (.int .i64 10))], none⟩,
  ⟨(some (false, 74)), .mk [.int .i64 0, .int .i64 0, .int .i64 0, .int .i64 0] [(0, 1, .l 67), (1, 1, .l 71), (2, 1, .l 73)], none⟩,
  ⟨(some (true, 11)), .new [.int .i64 0, .int .i64 0, .int .i64 0, .int .i64 0], none⟩,
  ⟨none, .st 4 (.g 11) (.l 74), none⟩])
(.seq
(.draw [
  ⟨⟨(some (false, 75)), .fa (.g 11) 2, none⟩, 0, true, []⟩,
  ⟨⟨(some (false, 76)), .ld none (.l 75), none⟩, 1, true, []⟩,
  ⟨⟨(some (false, 77)), .mv (.g 0), none⟩, 2, true, []⟩,
  ⟨⟨(some (false, 78)), .mv (.g 0), none⟩, 3, true, []⟩,
  ⟨⟨(some (false, 79)), .call (.c (.fn 25 [])) [.l 78, .c (.lit (.int .i64 20))], none⟩, 4, false, []⟩,
  ⟨⟨(some (false, 80)), .mks false 1 [.c (.lit (.int .i64 0)), .l 79], none⟩, 5, true, []⟩,
  ⟨⟨(some (false, 81)), .call (.c (.fn 23 [])) [.l 77, .l 80], none⟩, 6, false, []⟩,
  ⟨⟨(some (false, 82)), .bin .add (.l 76) (.l 81), none⟩, 7, true, []⟩,
  ⟨⟨(some (false, 83)), .fa (.g 11) 3, none⟩, 8, true, []⟩,
  ⟨⟨none, .st 1 (.l 83) (.l 82), none⟩, 9, true, []⟩])
(.reg [
  ⟨(some (false, 84)), .fa (.g 7) 5, none⟩,
  ⟨(some (false, 85)), .ld none (.l 84), none⟩,
  ⟨(some (false, 86)), .ld (some 4) (.g 11), none⟩,
  ⟨(some (false, 87)), .mks false 4 [.l 86], none⟩,
  ⟨(some (false, 88)), .app 4 32 (.l 85) (.l 87), none⟩,
  ⟨(some (false, 89)), .fa (.g 7) 5, none⟩,
  ⟨none, .st 1 (.l 89) (.l 88), none⟩]))))
(.reg [
  ⟨(some (false, 61)), .mv (.g 10), none⟩,
  ⟨(some (false, 62)), .bin .sub (.l 61) (.c (.lit (.int .i64 1))), none⟩,
  ⟨(some (true, 10)), .mv (.l 62), none⟩]))))))
(.seq
(.reg [
  ⟨(some (false, 90)), .ld (some 6) (.g 7), none⟩,
  ⟨none, .st 6 (.g 6) (.l 90), none⟩])
.ret))))))))
def K7 : List Nat := [0, 1, 2, 17, 45, 60, 6, 7, 8, 9, 10, 11]
noncomputable def b7 : Code := match Tryz.f7.body with | some c => c | none => .skip
theorem t7 : trCode ⟨Tryz.prog, K7, [], 91, none⟩ b7 = some c7 := by kernel_rfl
theorem go7 {args : List AV} {H : AHeap} {Kk : AV → AHeap → Prop} (hn : args.length = 3) (h : AGo ⟨Tryz.prog, K7, [], 91, none⟩ H.length [.code c7] (RetP [.cell (.g 6) (some 6)] H.length Kk) ⟨[], argsG 0 args⟩ H) : ACalls Tryz.prog 7 args H Kk :=
  ACalls_of Tryz.func7 (c := b7) rfl (by kernel_rfl) t7 (rs := [.cell (.g 6) (some 6)]) (by kernel_rfl) (by rw [hn]; exact Nat.le_of_ble_eq_true rfl) (by rw [hn]; rfl) (h.weaken (fun _ _ => RetP.hands) (by simp))

/-- sastrugi/sastrugikit.Same -/
def c20 : ACode :=
  (.seq
(.reg [
  ⟨(some (true, 4)), .mv (.c (.lit (.bool false))), none⟩])
(.seq
(.seq
(.reg [
  ⟨(some (false, 6)), .mv (.g 0), none⟩,
  ⟨(some (false, 7)), .len (.l 6), none⟩,
  ⟨(some (false, 8)), .mv (.g 1), none⟩,
  ⟨(some (false, 9)), .len (.l 8), none⟩,
  ⟨(some (true, 10)), .bin .neq (.l 7) (.l 9), none⟩])
(.cond (.g 10)
(.seq
(.reg [
  ⟨(some (true, 4)), .mv (.c (.lit (.bool false))), none⟩])
.ret)
.skip))
(.seq
(.seq
(.reg [
  ⟨(some (true, 5)), .mv (.c (.lit (.int .i64 0))), none⟩])
(.block 0
(.loop
(.seq
(.seq
(.reg [
  ⟨(some (false, 11)), .mv (.g 5), none⟩,
  ⟨(some (false, 12)), .mv (.g 0), none⟩,
  ⟨(some (false, 13)), .len (.l 12), none⟩,
  ⟨(some (true, 14)), .bin .lss (.l 11) (.l 13), none⟩])
(.cond (.g 14)
.skip
(.exit 0)))
(.seq
(.block 1
(.seq
(.draw [
  ⟨⟨(some (false, 17)), .mv (.g 0), none⟩, 0, true, []⟩,
  ⟨⟨(some (false, 18)), .mv (.g 5), none⟩, 1, true, []⟩,
  ⟨⟨(some (false, 19)), .ia 1 (.l 17) (.l 18), none⟩, 2, true, []⟩,
  ⟨⟨(some (false, 20)), .ld none (.l 19), none⟩, 3, true, []⟩,
  ⟨⟨(some (false, 21)), .mv (.g 1), none⟩, 4, true, []⟩,
  ⟨⟨(some (false, 22)), .mv (.g 5), none⟩, 5, true, []⟩,
  ⟨⟨(some (false, 23)), .ia 1 (.l 21) (.l 22), none⟩, 6, true, []⟩,
  ⟨⟨(some (false, 24)), .ld none (.l 23), none⟩, 7, true, []⟩,
  ⟨⟨(some (true, 25)), .bin .neq (.l 20) (.l 24), none⟩, 8, true, []⟩])
(.cond (.g 25)
(.seq
(.reg [
  ⟨(some (true, 4)), .mv (.c (.lit (.bool false))), none⟩])
.ret)
.skip)))
(.reg [
  ⟨(some (false, 15)), .mv (.g 5), none⟩,
  ⟨(some (false, 16)), .bin .add (.l 15) (.c (.lit (.int .i64 1))), none⟩,
  ⟨(some (true, 5)), .mv (.l 16), none⟩]))))))
(.seq
(.reg [
  ⟨(some (true, 4)), .mv (.c (.lit (.bool true))), none⟩])
.ret))))
def K20 : List Nat := [0, 1, 10, 14, 25, 4, 5]
noncomputable def b20 : Code := match Tryz.f20.body with | some c => c | none => .skip
theorem t20 : trCode ⟨Tryz.prog, K20, [], 26, none⟩ b20 = some c20 := by kernel_rfl
theorem go20 {args : List AV} {H : AHeap} {Kk : AV → AHeap → Prop} (hn : args.length = 2) (h : AGo ⟨Tryz.prog, K20, [], 26, none⟩ H.length [.code c20] (RetP [.t (.g 4)] H.length Kk) ⟨[], argsG 0 args⟩ H) : ACalls Tryz.prog 20 args H Kk :=
  ACalls_of Tryz.func20 (c := b20) rfl (by kernel_rfl) t20 (rs := [.t (.g 4)]) (by kernel_rfl) (by rw [hn]; exact Nat.le_of_ble_eq_true rfl) (by rw [hn]; rfl) (h.weaken (fun _ _ => RetP.hands) (by simp))

/-- (*sastrugi/sastrugikit.Seed).From -/
def c21 : ACode :=
  (.seq
(.reg [
  ⟨(some (true, 6)), .mv (.c (.lit (.int .i64 0))), none⟩])
(.seq
(.reg [
  ⟨(some (false, 7)), .mv (.g 1), none⟩,
  ⟨(some (false, 8)), .mv (.g 0), none⟩,
  ⟨(some (false, 9)), .mv (.g 2), none⟩,
  ⟨(some (false, 10)), .mv (.g 1), none⟩,
  ⟨(some (false, 11)), .bin .sub (.l 9) (.l 10), none⟩,
  ⟨(some (false, 12)), .bin .add (.l 11) (.c (.lit (.int .i64 1))), none⟩,
  ⟨(some (false, 13)), .call (.c (.fn 25 [])) [.l 8, .l 12], none⟩,
  ⟨(some (false, 14)), .bin .add (.l 7) (.l 13), none⟩,
  ⟨(some (true, 6)), .mv (.l 14), none⟩])
.ret))
def K21 : List Nat := [0, 1, 2, 6]
noncomputable def b21 : Code := match Tryz.f21.body with | some c => c | none => .skip
theorem t21 : trCode ⟨Tryz.prog, K21, [], 15, none⟩ b21 = some c21 := by kernel_rfl
theorem go21 {args : List AV} {H : AHeap} {Kk : AV → AHeap → Prop} (hn : args.length = 3) (h : AGo ⟨Tryz.prog, K21, [], 15, none⟩ H.length [.code c21] (RetP [.t (.g 6)] H.length Kk) ⟨[], argsG 0 args⟩ H) : ACalls Tryz.prog 21 args H Kk :=
  ACalls_of Tryz.func21 (c := b21) rfl (by kernel_rfl) t21 (rs := [.t (.g 6)]) (by kernel_rfl) (by rw [hn]; exact Nat.le_of_ble_eq_true rfl) (by rw [hn]; rfl) (h.weaken (fun _ _ => RetP.hands) (by simp))

/-- (*sastrugi/sastrugikit.Seed).Of -/
def c23 : ACode :=
  (.seq
(.reg [
  ⟨(some (true, 4)), .mv (.c (.lit (.int .i64 0))), none⟩])
(.seq
(.seq
(.reg [
  ⟨(some (false, 5)), .mv (.g 1), none⟩,
  ⟨(some (false, 6)), .len (.l 5), none⟩,
  ⟨(some (true, 7)), .bin .eql (.l 6) (.c (.lit (.int .i64 0))), none⟩])
(.cond (.g 7)
(.seq
(.reg [
  ⟨(some (true, 4)), .mv (.c (.lit (.int .i64 0))), none⟩])
.ret)
.skip))
(.seq
(.reg [
  ⟨(some (false, 8)), .mv (.g 1), none⟩,
  ⟨(some (false, 9)), .mv (.g 0), none⟩,
  ⟨(some (false, 10)), .mv (.g 1), none⟩,
  ⟨(some (false, 11)), .len (.l 10), none⟩,
  ⟨(some (false, 12)), .call (.c (.fn 25 [])) [.l 9, .l 11], none⟩,
  ⟨(some (false, 13)), .ia 1 (.l 8) (.l 12), none⟩,
  ⟨(some (false, 14)), .ld none (.l 13), none⟩,
  ⟨(some (true, 4)), .mv (.l 14), none⟩])
.ret)))
def K23 : List Nat := [0, 1, 7, 4]
noncomputable def b23 : Code := match Tryz.f23.body with | some c => c | none => .skip
theorem t23 : trCode ⟨Tryz.prog, K23, [], 15, none⟩ b23 = some c23 := by kernel_rfl
theorem go23 {args : List AV} {H : AHeap} {Kk : AV → AHeap → Prop} (hn : args.length = 2) (h : AGo ⟨Tryz.prog, K23, [], 15, none⟩ H.length [.code c23] (RetP [.t (.g 4)] H.length Kk) ⟨[], argsG 0 args⟩ H) : ACalls Tryz.prog 23 args H Kk :=
  ACalls_of Tryz.func23 (c := b23) rfl (by kernel_rfl) t23 (rs := [.t (.g 4)]) (by kernel_rfl) (by rw [hn]; exact Nat.le_of_ble_eq_true rfl) (by rw [hn]; rfl) (h.weaken (fun _ _ => RetP.hands) (by simp))

/-- (*sastrugi/sastrugikit.Seed).Below -/
def c25 : ACode :=
  (.seq
(.reg [
  ⟨(some (true, 4)), .mv (.c (.lit (.int .i64 0))), none⟩])
(.seq
(.seq
(.reg [
  ⟨(some (false, 5)), .mv (.g 1), none⟩,
  ⟨(some (true, 6)), .bin .lss (.l 5) (.c (.lit (.int .i64 2))), none⟩])
(.cond (.g 6)
(.seq
(.reg [
  ⟨(some (true, 4)), .mv (.c (.lit (.int .i64 0))), none⟩])
.ret)
.skip))
(.seq
(.reg [
  ⟨(some (false, 7)), .mv (.g 0), none⟩,
  ⟨(some (false, 8)), .call (.c (.fn 26 [])) [.l 7], none⟩,
  ⟨(some (false, 9)), .bin .shr (.l 8) (.c (.lit (.int .u64 1))), none⟩,
  ⟨(some (false, 10)), .mv (.g 1), none⟩,
  ⟨(some (false, 11)), .cv .u64 (.l 10), none⟩,
  ⟨(some (false, 12)), .bin .rem (.l 9) (.l 11), none⟩,
  ⟨(some (false, 13)), .cv .i64 (.l 12), none⟩,
  ⟨(some (true, 4)), .mv (.l 13), none⟩])
.ret)))
def K25 : List Nat := [0, 1, 6, 4]
noncomputable def b25 : Code := match Tryz.f25.body with | some c => c | none => .skip
theorem t25 : trCode ⟨Tryz.prog, K25, [], 14, none⟩ b25 = some c25 := by kernel_rfl
theorem go25 {args : List AV} {H : AHeap} {Kk : AV → AHeap → Prop} (hn : args.length = 2) (h : AGo ⟨Tryz.prog, K25, [], 14, none⟩ H.length [.code c25] (RetP [.t (.g 4)] H.length Kk) ⟨[], argsG 0 args⟩ H) : ACalls Tryz.prog 25 args H Kk :=
  ACalls_of Tryz.func25 (c := b25) rfl (by kernel_rfl) t25 (rs := [.t (.g 4)]) (by kernel_rfl) (by rw [hn]; exact Nat.le_of_ble_eq_true rfl) (by rw [hn]; rfl) (h.weaken (fun _ _ => RetP.hands) (by simp))

/-- sastrugi/sastrugilaw08.span -/
def c19 : ACode :=
  (.seq
(.reg [
  ⟨(some (true, 4)), .new [.int .i64 0, .int .i64 0], none⟩])
(.seq
(.reg [
  ⟨(some (false, 5)), .mv (.g 0), none⟩,
  ⟨(some (false, 6)), .mv (.g 1), none⟩,
  ⟨(some (false, 7)), .mk [.int .i64 0, .int .i64 0] [(0, 1, .l 5), (1, 1, .l 6)], none⟩,
  ⟨none, .st 2 (.g 4) (.l 7), none⟩])
.ret))
def K19 : List Nat := [0, 1, 4]
noncomputable def b19 : Code := match Tryz.f19.body with | some c => c | none => .skip
theorem t19 : trCode ⟨Tryz.prog, K19, [], 8, none⟩ b19 = some c19 := by kernel_rfl
theorem go19 {args : List AV} {H : AHeap} {Kk : AV → AHeap → Prop} (hn : args.length = 2) (h : AGo ⟨Tryz.prog, K19, [], 8, none⟩ H.length [.code c19] (RetP [.cell (.g 4) (some 2)] H.length Kk) ⟨[], argsG 0 args⟩ H) : ACalls Tryz.prog 19 args H Kk :=
  ACalls_of Tryz.func19 (c := b19) rfl (by kernel_rfl) t19 (rs := [.cell (.g 4) (some 2)]) (by kernel_rfl) (by rw [hn]; exact Nat.le_of_ble_eq_true rfl) (by rw [hn]; rfl) (h.weaken (fun _ _ => RetP.hands) (by simp))

/-- (*sastrugi/sastrugikit.Seed).Yes -/
def c24 : ACode :=
  (.seq
(.reg [
  ⟨(some (true, 4)), .mv (.c (.lit (.bool false))), none⟩])
(.seq
(.reg [
  ⟨(some (false, 5)), .mv (.g 0), none⟩,
  ⟨(some (false, 6)), .mv (.g 1), none⟩,
  ⟨(some (false, 7)), .call (.c (.fn 25 [])) [.l 5, .l 6], none⟩,
  ⟨(some (false, 8)), .bin .eql (.l 7) (.c (.lit (.int .i64 0))), none⟩,
  ⟨(some (true, 4)), .mv (.l 8), none⟩])
.ret))
def K24 : List Nat := [0, 1, 4]
noncomputable def b24 : Code := match Tryz.f24.body with | some c => c | none => .skip
theorem t24 : trCode ⟨Tryz.prog, K24, [], 9, none⟩ b24 = some c24 := by kernel_rfl
theorem go24 {args : List AV} {H : AHeap} {Kk : AV → AHeap → Prop} (hn : args.length = 2) (h : AGo ⟨Tryz.prog, K24, [], 9, none⟩ H.length [.code c24] (RetP [.t (.g 4)] H.length Kk) ⟨[], argsG 0 args⟩ H) : ACalls Tryz.prog 24 args H Kk :=
  ACalls_of Tryz.func24 (c := b24) rfl (by kernel_rfl) t24 (rs := [.t (.g 4)]) (by kernel_rfl) (by rw [hn]; exact Nat.le_of_ble_eq_true rfl) (by rw [hn]; rfl) (h.weaken (fun _ _ => RetP.hands) (by simp))

/-- sastrugi/sastrugikit.SameSpans -/
def c41 : ACode :=
  (.seq
(.reg [
  ⟨(some (true, 4)), .mv (.c (.lit (.bool false))), none⟩])
(.seq
(.seq
(.reg [
  ⟨(some (false, 6)), .mv (.g 0), none⟩,
  ⟨(some (false, 7)), .len (.l 6), none⟩,
  ⟨(some (false, 8)), .mv (.g 1), none⟩,
  ⟨(some (false, 9)), .len (.l 8), none⟩,
  ⟨(some (true, 10)), .bin .neq (.l 7) (.l 9), none⟩])
(.cond (.g 10)
(.seq
(.reg [
  ⟨(some (true, 4)), .mv (.c (.lit (.bool false))), none⟩])
.ret)
.skip))
(.seq
(.seq
(.reg [
  ⟨(some (true, 5)), .mv (.c (.lit (.int .i64 0))), none⟩])
(.block 0
(.loop
(.seq
(.seq
(.reg [
  ⟨(some (false, 11)), .mv (.g 5), none⟩,
  ⟨(some (false, 12)), .mv (.g 0), none⟩,
  ⟨(some (false, 13)), .len (.l 12), none⟩,
  ⟨(some (true, 14)), .bin .lss (.l 11) (.l 13), none⟩])
(.cond (.g 14)
.skip
(.exit 0)))
(.seq
(.block 1
(.seq
(.draw [
  ⟨⟨(some (false, 17)), .mv (.g 0), none⟩, 0, true, []⟩,
  ⟨⟨(some (false, 18)), .mv (.g 5), none⟩, 1, true, []⟩,
  ⟨⟨(some (false, 19)), .ia 2 (.l 17) (.l 18), none⟩, 2, true, []⟩,
  ⟨⟨(some (false, 20)), .ld (some 2) (.l 19), none⟩, 3, true, []⟩,
  ⟨⟨(some (false, 21)), .mv (.g 1), none⟩, 4, true, []⟩,
  ⟨⟨(some (false, 22)), .mv (.g 5), none⟩, 5, true, []⟩,
  ⟨⟨(some (false, 23)), .ia 2 (.l 21) (.l 22), none⟩, 6, true, []⟩,
  ⟨⟨(some (false, 24)), .ld (some 2) (.l 23), none⟩, 7, true, []⟩,
  ⟨⟨(some (true, 25)), .eqs true (.fld 0 none .i (.fld 1 none .i .nil)) (.l 20) (.l 24), none⟩, 8, true, []⟩])
(.cond (.g 25)
(.seq
(.reg [
  ⟨(some (true, 4)), .mv (.c (.lit (.bool false))), none⟩])
.ret)
.skip)))
(.reg [
  ⟨(some (false, 15)), .mv (.g 5), none⟩,
  ⟨(some (false, 16)), .bin .add (.l 15) (.c (.lit (.int .i64 1))), none⟩,
  ⟨(some (true, 5)), .mv (.l 16), none⟩]))))))
(.seq
(.reg [
  ⟨(some (true, 4)), .mv (.c (.lit (.bool true))), none⟩])
.ret))))
def K41 : List Nat := [0, 1, 10, 14, 25, 4, 5]
noncomputable def b41 : Code := match Tryz.f41.body with | some c => c | none => .skip
theorem t41 : trCode ⟨Tryz.prog, K41, [], 26, none⟩ b41 = some c41 := by kernel_rfl
theorem go41 {args : List AV} {H : AHeap} {Kk : AV → AHeap → Prop} (hn : args.length = 2) (h : AGo ⟨Tryz.prog, K41, [], 26, none⟩ H.length [.code c41] (RetP [.t (.g 4)] H.length Kk) ⟨[], argsG 0 args⟩ H) : ACalls Tryz.prog 41 args H Kk :=
  ACalls_of Tryz.func41 (c := b41) rfl (by kernel_rfl) t41 (rs := [.t (.g 4)]) (by kernel_rfl) (by rw [hn]; exact Nat.le_of_ble_eq_true rfl) (by rw [hn]; rfl) (h.weaken (fun _ _ => RetP.hands) (by simp))

/-- (*sastrugi/sastrugikit.Seed).next -/
def c26 : ACode :=
  (.seq
(.reg [
  ⟨(some (true, 2)), .mv (.c (.lit (.int .u64 0))), none⟩])
(.seq
(.reg [
  ⟨(some (false, 4)), .mv (.g 0), none⟩,
  ⟨(some (false, 5)), .mv (.g 0), none⟩,
  ⟨(some (false, 6)), .nilc (.l 5), none⟩,
  ⟨(some (false, 7)), .fa (.l 6) 0, none⟩,
  ⟨(some (false, 8)), .ld none (.l 7), none⟩,
  ⟨(some (false, 9)), .bin .add (.l 8) (.c (.lit (.int .u64 11400714819323198485))), none⟩,
  ⟨(some (false, 10)), .nilc (.l 4), none⟩,
  ⟨(some (false, 11)), .fa (.l 10) 0, none⟩,
  ⟨none, .st 1 (.l 11) (.l 9), none⟩])
(.seq
(.reg [
  ⟨(some (false, 12)), .mv (.g 0), none⟩,
  ⟨(some (false, 13)), .nilc (.l 12), none⟩,
  ⟨(some (false, 14)), .fa (.l 13) 0, none⟩,
  ⟨(some (false, 15)), .ld none (.l 14), none⟩,
  ⟨(some (true, 3)), .mv (.l 15), none⟩])
(.seq
(.reg [
  ⟨(some (false, 16)), .mv (.g 3), none⟩,
  ⟨(some (false, 17)), .mv (.g 3), none⟩,
  ⟨(some (false, 18)), .bin .shr (.l 17) (.c (.lit (.int .u64 30))), none⟩,
  ⟨(some (false, 19)), .bin .xor (.l 16) (.l 18), none⟩,
  ⟨(some (false, 20)), .bin .mul (.l 19) (.c (.lit (.int .u64 13787848793156543929))), none⟩,
  ⟨(some (true, 3)), .mv (.l 20), none⟩])
(.seq
(.reg [
  ⟨(some (false, 21)), .mv (.g 3), none⟩,
  ⟨(some (false, 22)), .mv (.g 3), none⟩,
  ⟨(some (false, 23)), .bin .shr (.l 22) (.c (.lit (.int .u64 27))), none⟩,
  ⟨(some (false, 24)), .bin .xor (.l 21) (.l 23), none⟩,
  ⟨(some (false, 25)), .bin .mul (.l 24) (.c (.lit (.int .u64 10723151780598845931))), none⟩,
  ⟨(some (true, 3)), .mv (.l 25), none⟩])
(.seq
(.reg [
  ⟨(some (false, 26)), .mv (.g 3), none⟩,
  ⟨(some (false, 27)), .mv (.g 3), none⟩,
  ⟨(some (false, 28)), .bin .shr (.l 27) (.c (.lit (.int .u64 31))), none⟩,
  ⟨(some (false, 29)), .bin .xor (.l 26) (.l 28), none⟩,
  ⟨(some (true, 2)), .mv (.l 29), none⟩])
.ret))))))
def K26 : List Nat := [0, 2, 3]
noncomputable def b26 : Code := match Tryz.f26.body with | some c => c | none => .skip
theorem t26 : trCode ⟨Tryz.prog, K26, [], 30, none⟩ b26 = some c26 := by kernel_rfl
theorem go26 {args : List AV} {H : AHeap} {Kk : AV → AHeap → Prop} (hn : args.length = 1) (h : AGo ⟨Tryz.prog, K26, [], 30, none⟩ H.length [.code c26] (RetP [.t (.g 2)] H.length Kk) ⟨[], argsG 0 args⟩ H) : ACalls Tryz.prog 26 args H Kk :=
  ACalls_of Tryz.func26 (c := b26) rfl (by kernel_rfl) t26 (rs := [.t (.g 2)]) (by kernel_rfl) (by rw [hn]; exact Nat.le_of_ble_eq_true rfl) (by rw [hn]; rfl) (h.weaken (fun _ _ => RetP.hands) (by simp))

/-- (*sastrugi/sastrugikit.Seed).Span -/
def c22 : ACode :=
  (.seq
(.reg [
  ⟨(some (true, 6)), .new [.int .i64 0, .int .i64 0], none⟩])
(.seq
(.reg [
  ⟨(some (false, 8)), .mv (.g 0), none⟩,
  ⟨(some (false, 9)), .mv (.g 1), none⟩,
  ⟨(some (false, 10)), .mv (.g 2), none⟩,
  ⟨(some (false, 11)), .call (.c (.fn 21 [])) [.l 8, .l 9, .l 10], none⟩,
  ⟨(some (false, 12)), .mk [.int .i64 0, .int .i64 0] [(0, 1, .l 11)], none⟩,
  ⟨(some (true, 7)), .new [.int .i64 0, .int .i64 0], none⟩,
  ⟨none, .st 2 (.g 7) (.l 12), none⟩])
(.seq
(.reg [
  ⟨(some (false, 13)), .fa (.g 7) 0, none⟩,
  ⟨(some (false, 14)), .ld none (.l 13), none⟩,
  ⟨(some (false, 15)), .fa (.g 7) 1, none⟩,
  ⟨none, .st 1 (.l 15) (.l 14), none⟩])
(.seq
(.seq
(.reg [
  ⟨(some (false, 16)), .mv (.g 0), none⟩,
  ⟨(some (true, 17)), .call (.c (.fn 25 [])) [.l 16, .c (.lit (.int .i64 3))], none⟩])
(.block 0
(.seq
(.reg [
  ⟨(some (false, 19)), .bin .eql (.g 17) (.c (.lit (.int .i64 0))), none⟩,
  ⟨(some (true, 18)), .mv (.l 19), none⟩])
(.cond (.g 18)
(.reg [
  ⟨(some (false, 20)), .mv (.g 0), none⟩,
  ⟨(some (false, 21)), .fa (.g 7) 0, none⟩,
  ⟨(some (false, 22)), .ld none (.l 21), none⟩,
  ⟨(some (false, 23)), .mv (.g 2), none⟩,
  ⟨(some (false, 24)), .fa (.g 7) 0, none⟩,
  ⟨(some (false, 25)), .ld none (.l 24), none⟩,
  ⟨(some (false, 26)), .bin .add (.l 25) (.c (.lit (.int .i64 1))), none⟩,
  ⟨(some (false, 27)), .mv (.g 2), none⟩,
  ⟨(some (false, 28)), .mv (.g 1), none⟩,
  ⟨(some (false, 29)), .bin .sub (.l 27) (.l 28), none⟩,
  ⟨(some (false, 30)), .bin .quo (.l 29) (.c (.lit (.int .i64 10))), none⟩,
  ⟨(some (false, 31)), .bin .add (.l 26) (.l 30), none⟩,
  ⟨(some (false, 32)), .mn [.l 23, .l 31], none⟩,
  ⟨(some (false, 33)), .call (.c (.fn 21 [])) [.l 20, .l 22, .l 32], none⟩,
  ⟨(some (false, 34)), .fa (.g 7) 1, none⟩,
  ⟨none, .st 1 (.l 34) (.l 33), none⟩])
(.seq
(.reg [
  ⟨(some (false, 36)), .bin .eql (.g 17) (.c (.lit (.int .i64 1))), none⟩,
  ⟨(some (true, 35)), .mv (.l 36), none⟩])
(.cond (.g 35)
(.reg [
  ⟨(some (false, 37)), .mv (.g 0), none⟩,
  ⟨(some (false, 38)), .fa (.g 7) 0, none⟩,
  ⟨(some (false, 39)), .ld none (.l 38), none⟩,
  ⟨(some (false, 40)), .mv (.g 2), none⟩,
  ⟨(some (false, 41)), .call (.c (.fn 21 [])) [.l 37, .l 39, .l 40], none⟩,
  ⟨(some (false, 42)), .fa (.g 7) 1, none⟩,
  ⟨none, .st 1 (.l 42) (.l 41), none⟩])
.skip))))))
(.seq
(.reg [
  ⟨(some (false, 43)), .ld (some 2) (.g 7), none⟩,
  ⟨none, .st 2 (.g 6) (.l 43), none⟩])
.ret)))))
def K22 : List Nat := [0, 1, 2, 18, 35, 6, 7, 17]
noncomputable def b22 : Code := match Tryz.f22.body with | some c => c | none => .skip
theorem t22 : trCode ⟨Tryz.prog, K22, [], 44, none⟩ b22 = some c22 := by kernel_rfl
theorem go22 {args : List AV} {H : AHeap} {Kk : AV → AHeap → Prop} (hn : args.length = 3) (h : AGo ⟨Tryz.prog, K22, [], 44, none⟩ H.length [.code c22] (RetP [.cell (.g 6) (some 2)] H.length Kk) ⟨[], argsG 0 args⟩ H) : ACalls Tryz.prog 22 args H Kk :=
  ACalls_of Tryz.func22 (c := b22) rfl (by kernel_rfl) t22 (rs := [.cell (.g 6) (some 2)]) (by kernel_rfl) (by rw [hn]; exact Nat.le_of_ble_eq_true rfl) (by rw [hn]; rfl) (h.weaken (fun _ _ => RetP.hands) (by simp))

end Go.Sas
