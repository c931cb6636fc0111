/-
The code of some functions with its types resolved, printed by a program; that it is the code is checked by the kernel.
Conditions: none.
-/
import Derived.Test.YtaeaamhlejhgkaaGreatDoorP4
import Derived.Test.YtaeaamhlejhgkaaGreatDoorProg
set_option linter.unusedVariables false
set_option linter.unusedSimpArgs false
namespace Go.Sas
open Go.Proofs
set_option maxRecDepth 100000
/-- sastrugi/sastrugilaw08.big -/
def c5 : ACode :=
  (.seq
(.reg [
  ⟨(some (true, 1)), .box (.g 0), none⟩,
  ⟨(some (true, 2)), .mv (.c (.lit (.bool false))), none⟩])
(.seq
(.reg [
  ⟨(some (false, 3)), .fa (.g 1) 4, none⟩,
  ⟨(some (false, 4)), .ld none (.l 3), none⟩,
  ⟨(some (false, 5)), .len (.l 4), none⟩,
  ⟨(some (false, 6)), .bin .gtr (.l 5) (.c (.lit (.int .i64 60))), none⟩,
  ⟨(some (false, 7)), .mv (.l 6), none⟩,
  ⟨(some (false, 8)), .fa (.g 1) 4, (some (.l 7, true))⟩,
  ⟨(some (false, 9)), .ld none (.l 8), (some (.l 7, true))⟩,
  ⟨(some (false, 10)), .len (.l 9), (some (.l 7, true))⟩,
  ⟨(some (false, 11)), .bin .leq (.l 10) (.c (.lit (.int .i64 200))), (some (.l 7, true))⟩,
  ⟨(some (false, 12)), .pick (.l 7) (.l 11) (.c (.lit (.bool false))), none⟩,
  ⟨(some (false, 13)), .mv (.l 12), none⟩,
  ⟨(some (false, 14)), .fa (.g 1) 4, (some (.l 13, false))⟩,
  ⟨(some (false, 15)), .ld none (.l 14), (some (.l 13, false))⟩,
  ⟨(some (false, 16)), .len (.l 15), (some (.l 13, false))⟩,
  ⟨(some (false, 17)), .bin .gtr (.l 16) (.c (.lit (.int .i64 209))), (some (.l 13, false))⟩,
  ⟨(some (false, 18)), .pick (.l 13) (.c (.lit (.bool true))) (.l 17), none⟩,
  ⟨(some (false, 19)), .mv (.l 18), none⟩,
  ⟨(some (false, 20)), .fa (.g 1) 5, (some (.l 19, false))⟩,
  ⟨(some (false, 21)), .ld none (.l 20), (some (.l 19, false))⟩,
  ⟨(some (false, 22)), .len (.l 21), (some (.l 19, false))⟩,
  ⟨(some (false, 23)), .bin .gtr (.l 22) (.c (.lit (.int .i64 15))), (some (.l 19, false))⟩,
  ⟨(some (false, 24)), .pick (.l 19) (.c (.lit (.bool true))) (.l 23), none⟩,
  ⟨(some (true, 2)), .mv (.l 24), none⟩])
.ret))
def K5 : List Nat := [0, 2, 1]
noncomputable def b5 : Code := match Tryz.f5.body with | some c => c | none => .skip
theorem t5 : trCode ⟨Tryz.prog, K5, [], 25, none⟩ b5 = some c5 := by kernel_rfl
theorem go5 {args : List AV} {H : AHeap} {Kk : AV → AHeap → Prop} (hn : args.length = 1) (h : AGo ⟨Tryz.prog, K5, [], 25, none⟩ H.length [.code c5] (RetP [.t (.g 2)] H.length Kk) ⟨[], argsG 0 args⟩ H) : ACalls Tryz.prog 5 args H Kk :=
  ACalls_of Tryz.func5 (c := b5) rfl (by kernel_rfl) t5 (rs := [.t (.g 2)]) (by kernel_rfl) (by rw [hn]; exact Nat.le_of_ble_eq_true rfl) (by rw [hn]; rfl) (h.weaken (fun _ _ => RetP.hands) (by simp))

/-- sastrugi/sastrugilaw08.awake -/
def c6 : ACode :=
  (.seq
(.reg [
  ⟨(some (true, 0)), .mv (.c (.lit (.bool false))), none⟩])
(.seq
(.reg [
  ⟨(some (false, 9)), .call (.c (.fn 16 [])) [], none⟩,
  ⟨(some (false, 10)), .call (.c (.fn 15 [])) [.l 9], none⟩,
  ⟨(some (false, 8)), .mv (.l 10), none⟩,
  ⟨(some (false, 11)), .ex (.l 8) 0, none⟩,
  ⟨(some (false, 12)), .ex (.l 8) 1, none⟩,
  ⟨(some (false, 13)), .ex (.l 8) 2, none⟩,
  ⟨(some (true, 1)), .mv (.l 11), none⟩,
  ⟨(some (true, 2)), .mv (.l 12), none⟩,
  ⟨(some (true, 3)), .mv (.l 13), none⟩])
(.seq
(.reg [
  ⟨(some (false, 15)), .call (.c (.fn 16 [])) [], none⟩,
  ⟨(some (false, 16)), .call (.c (.fn 17 [])) [.l 15], none⟩,
  ⟨(some (false, 14)), .mv (.l 16), none⟩,
  ⟨(some (false, 17)), .ex (.l 14) 0, none⟩,
  ⟨(some (false, 18)), .ex (.l 14) 1, none⟩,
  ⟨(some (true, 4)), .mv (.l 17), none⟩,
  ⟨(some (true, 5)), .mv (.l 18), none⟩])
(.seq
(.reg [
  ⟨(some (false, 20)), .call (.c (.fn 16 [])) [], none⟩,
  ⟨(some (false, 21)), .mks false 1 [.c (.lit (.int .i64 1)), .c (.lit (.int .i64 0))], none⟩,
  ⟨(some (false, 22)), .call (.c (.fn 18 [])) [.l 20, .l 21], none⟩,
  ⟨(some (false, 19)), .mv (.l 22), none⟩,
  ⟨(some (false, 23)), .ex (.l 19) 0, none⟩,
  ⟨(some (false, 24)), .ex (.l 19) 1, none⟩,
  ⟨(some (true, 6)), .new [.int .i64 0, .int .i64 0], none⟩,
  ⟨none, .st 2 (.g 6) (.l 23), none⟩,
  ⟨(some (true, 7)), .mv (.l 24), none⟩])
(.seq
(.draw [
  ⟨⟨(some (false, 25)), .mv (.g 3), none⟩, 0, true, []⟩,
  ⟨⟨(some (false, 26)), .bin .eql (.l 25) (.c (.lit (.int .i64 0))), none⟩, 1, true, []⟩,
  ⟨⟨(some (false, 27)), .mv (.l 26), none⟩, 2, true, []⟩,
  ⟨⟨(some (false, 28)), .mv (.g 5), (some (.l 27, true))⟩, 3, true, []⟩,
  ⟨⟨(some (false, 29)), .bin .eql (.l 28) (.c (.lit (.int .i64 0))), (some (.l 27, true))⟩, 4, true, []⟩,
  ⟨⟨(some (false, 30)), .pick (.l 27) (.l 29) (.c (.lit (.bool false))), none⟩, 5, true, []⟩,
  ⟨⟨(some (false, 31)), .mv (.l 30), none⟩, 6, true, []⟩,
  ⟨⟨(some (false, 32)), .mv (.g 7), (some (.l 31, true))⟩, 7, true, []⟩,
  ⟨⟨(some (false, 33)), .bin .eql (.l 32) (.c (.lit (.int .i64 0))), (some (.l 31, true))⟩, 8, true, []⟩,
  ⟨⟨(some (false, 34)), .pick (.l 31) (.l 33) (.c (.lit (.bool false))), none⟩, 9, true, []⟩,
  ⟨⟨(some (false, 35)), .mv (.l 34), none⟩, 10, true, []⟩,
  ⟨⟨(some (false, 36)), .mv (.g 2), (some (.l 35, true))⟩, 11, true, []⟩,
  ⟨⟨(some (false, 37)), .bin .eql (.l 36) (.c (.lit (.int .i64 30))), (some (.l 35, true))⟩, 12, true, []⟩,
  ⟨⟨(some (false, 38)), .pick (.l 35) (.l 37) (.c (.lit (.bool false))), none⟩, 13, true, []⟩,
  ⟨⟨(some (false, 39)), .mv (.l 38), none⟩, 14, true, []⟩,
  ⟨⟨(some (false, 40)), .mv (.g 4), (some (.l 39, true))⟩, 15, true, []⟩,
  ⟨⟨(some (false, 41)), .bin .eql (.l 40) (.c (.lit (.int .i64 30))), (some (.l 39, true))⟩, 16, true, []⟩,
  ⟨⟨(some (false, 42)), .pick (.l 39) (.l 41) (.c (.lit (.bool false))), none⟩, 17, true, []⟩,
  ⟨⟨(some (false, 43)), .mv (.l 42), none⟩, 18, true, []⟩,
  ⟨⟨(some (false, 44)), .ld (some 2) (.g 6), (some (.l 43, true))⟩, 19, true, []⟩,
  ⟨⟨(some (false, 45)), .call (.c (.fn 19 [])) [.c (.lit (.int .i64 0)), .c (.lit (.int .i64 65))], (some (.l 43, true))⟩, 20, false, []⟩,
  ⟨⟨(some (false, 46)), .eqs false (.fld 0 none .i (.fld 1 none .i .nil)) (.l 44) (.l 45), (some (.l 43, true))⟩, 21, true, []⟩,
  ⟨⟨(some (false, 47)), .pick (.l 43) (.l 46) (.c (.lit (.bool false))), none⟩, 22, true, []⟩,
  ⟨⟨(some (false, 48)), .mv (.l 47), none⟩, 23, true, []⟩,
  ⟨⟨(some (false, 49)), .mv (.g 1), (some (.l 48, true))⟩, 24, true, []⟩,
  ⟨⟨(some (false, 50)), .mks false 1 [.c (.lit (.int .i64 0)), .c (.lit (.int .i64 1))], (some (.l 48, true))⟩, 25, true, []⟩,
  ⟨⟨(some (false, 51)), .call (.c (.fn 20 [])) [.l 49, .l 50], (some (.l 48, true))⟩, 26, false, []⟩,
  ⟨⟨(some (false, 52)), .pick (.l 48) (.l 51) (.c (.lit (.bool false))), none⟩, 27, true, []⟩,
  ⟨⟨(some (true, 0)), .mv (.l 52), none⟩, 28, true, []⟩])
.ret)))))
def K6 : List Nat := [0, 1, 2, 3, 4, 5, 6, 7]
noncomputable def b6 : Code := match Tryz.f6.body with | some c => c | none => .skip
theorem t6 : trCode ⟨Tryz.prog, K6, [], 53, none⟩ b6 = some c6 := by kernel_rfl
theorem go6 {args : List AV} {H : AHeap} {Kk : AV → AHeap → Prop} (hn : args.length = 0) (h : AGo ⟨Tryz.prog, K6, [], 53, none⟩ H.length [.code c6] (RetP [.t (.g 0)] H.length Kk) ⟨[], argsG 0 args⟩ H) : ACalls Tryz.prog 6 args H Kk :=
  ACalls_of Tryz.func6 (c := b6) rfl (by kernel_rfl) t6 (rs := [.t (.g 0)]) (by kernel_rfl) (by rw [hn]; exact Nat.le_of_ble_eq_true rfl) (by rw [hn]; rfl) (h.weaken (fun _ _ => RetP.hands) (by simp))

/-- sastrugi/freight.Check -/
def c27 : ACode :=
  (.seq
(.reg [
  ⟨(some (true, 1)), .box (.g 0), none⟩,
  ⟨(some (true, 2)), .mv (.c (.lit (.int .i64 0))), none⟩])
(.seq
(.block 0
(.seq
(.reg [
  ⟨(some (false, 12)), .fa (.g 1) 4, none⟩,
  ⟨(some (false, 13)), .ld none (.l 12), none⟩,
  ⟨(some (false, 14)), .len (.l 13), none⟩,
  ⟨(some (false, 15)), .bin .eql (.l 14) (.c (.lit (.int .i64 0))), none⟩,
  ⟨(some (true, 11)), .mv (.l 15), none⟩])
(.cond (.g 11)
(.seq
(.reg [
  ⟨(some (true, 2)), .mv (.c (.lit (.int .i64 6))), none⟩])
.ret)
(.seq
(.reg [
  ⟨(some (false, 17)), .fa (.g 1) 4, none⟩,
  ⟨(some (false, 18)), .ld none (.l 17), none⟩,
  ⟨(some (false, 19)), .len (.l 18), none⟩,
  ⟨(some (false, 20)), .bin .gtr (.l 19) (.c (.lit (.int .i64 200))), none⟩,
  ⟨(some (true, 16)), .mv (.l 20), none⟩])
(.cond (.g 16)
(.seq
(.reg [
  ⟨(some (true, 2)), .mv (.c (.lit (.int .i64 8))), none⟩])
.ret)
.skip)))))
(.seq
(.seq
(.reg [
  ⟨(some (false, 21)), .fa (.g 1) 4, none⟩,
  ⟨(some (true, 22)), .ld none (.l 21), none⟩,
  ⟨(some (true, 23)), .len (.g 22), none⟩,
  ⟨(some (true, 24)), .mv (.c (.lit (.int .i64 0))), none⟩])
(.block 1
(.loop
(.seq
(.reg [
  ⟨(some (true, 25)), .bin .lss (.g 24) (.g 23), none⟩])
(.seq
(.cond (.g 25)
.skip
(.exit 1))
(.seq
(.block 2
(.seq
(.reg [
  ⟨(some (false, 26)), .ia 2 (.g 22) (.g 24), none⟩,
  ⟨(some (false, 27)), .ld (some 2) (.l 26), none⟩,
  ⟨(some (true, 4)), .new [.int .i64 0, .int .i64 0], none⟩,
  ⟨none, .st 2 (.g 4) (.l 27), none⟩])
(.seq
(.reg [
  ⟨(some (false, 28)), .ld (some 2) (.g 4), none⟩,
  ⟨(some (false, 29)), .call (.c (.fn 52 [])) [.l 28, .c (.lit (.int .i64 0)), .c (.lit (.int .i64 1000000))], none⟩,
  ⟨(some (true, 5)), .mv (.l 29), none⟩])
(.seq
(.reg [
  ⟨(some (false, 30)), .mv (.g 5), none⟩,
  ⟨(some (true, 31)), .bin .neq (.l 30) (.c (.lit (.int .i64 0))), none⟩])
(.cond (.g 31)
(.seq
(.reg [
  ⟨(some (false, 32)), .mv (.g 5), none⟩,
  ⟨(some (true, 2)), .mv (.l 32), none⟩])
.ret)
.skip)))))
(.reg [
  ⟨(some (false, 33)), .bin .add (.g 24) (.c (.lit (.int .i64 1))), none⟩,
  ⟨(some (true, 24)), .mv (.l 33), none⟩])))))))
(.seq
(.seq
(.reg [
  ⟨(some (false, 34)), .fa (.g 1) 0, none⟩,
  ⟨(some (false, 35)), .ld (some 2) (.l 34), none⟩,
  ⟨(some (false, 36)), .fa (.g 1) 2, none⟩,
  ⟨(some (false, 37)), .ld (some 2) (.l 36), none⟩,
  ⟨(some (true, 38)), .mk [.int .i64 0, .int .i64 0, .int .i64 0, .int .i64 0] [(0, 2, .l 35), (2, 2, .l 37)], none⟩,
  ⟨(some (true, 39)), .mv (.c (.lit (.int .i64 0))), none⟩])
(.block 3
(.loop
(.seq
(.reg [
  ⟨(some (true, 40)), .bin .lss (.g 39) (.c (.lit (.int .i64 2))), none⟩])
(.seq
(.cond (.g 40)
.skip
(.exit 3))
(.seq
(.block 4
(.seq
(.reg [
  ⟨(some (false, 41)), .ix 2 2 (some 2) (.g 38) (.g 39), none⟩,
  ⟨(some (true, 7)), .new [.int .i64 0, .int .i64 0], none⟩,
  ⟨none, .st 2 (.g 7) (.l 41), none⟩])
(.seq
(.reg [
  ⟨(some (false, 42)), .ld (some 2) (.g 7), none⟩,
  ⟨(some (false, 43)), .fa (.g 1) 4, none⟩,
  ⟨(some (false, 44)), .ld none (.l 43), none⟩,
  ⟨(some (false, 45)), .len (.l 44), none⟩,
  ⟨(some (false, 46)), .bin .sub (.l 45) (.c (.lit (.int .i64 1))), none⟩,
  ⟨(some (false, 47)), .call (.c (.fn 52 [])) [.l 42, .c (.lit (.int .i64 0)), .l 46], none⟩,
  ⟨(some (true, 8)), .mv (.l 47), none⟩])
(.seq
(.reg [
  ⟨(some (false, 48)), .mv (.g 8), none⟩,
  ⟨(some (true, 49)), .bin .neq (.l 48) (.c (.lit (.int .i64 0))), none⟩])
(.cond (.g 49)
(.seq
(.reg [
  ⟨(some (false, 50)), .mv (.g 8), none⟩,
  ⟨(some (true, 2)), .mv (.l 50), none⟩])
.ret)
.skip)))))
(.reg [
  ⟨(some (false, 51)), .bin .add (.g 39) (.c (.lit (.int .i64 1))), none⟩,
  ⟨(some (true, 39)), .mv (.l 51), none⟩])))))))
(.seq
(.block 5
(.seq
(.reg [
  ⟨(some (false, 53)), .fa (.g 1) 5, none⟩,
  ⟨(some (false, 54)), .ld none (.l 53), none⟩,
  ⟨(some (false, 55)), .len (.l 54), none⟩,
  ⟨(some (false, 56)), .bin .eql (.l 55) (.c (.lit (.int .i64 0))), none⟩,
  ⟨(some (true, 52)), .mv (.l 56), none⟩])
(.cond (.g 52)
(.seq
(.reg [
  ⟨(some (true, 2)), .mv (.c (.lit (.int .i64 6))), none⟩])
.ret)
(.seq
(.reg [
  ⟨(some (false, 58)), .fa (.g 1) 5, none⟩,
  ⟨(some (false, 59)), .ld none (.l 58), none⟩,
  ⟨(some (false, 60)), .len (.l 59), none⟩,
  ⟨(some (false, 61)), .bin .gtr (.l 60) (.c (.lit (.int .i64 6))), none⟩,
  ⟨(some (true, 57)), .mv (.l 61), none⟩])
(.cond (.g 57)
(.seq
(.reg [
  ⟨(some (true, 2)), .mv (.c (.lit (.int .i64 8))), none⟩])
.ret)
.skip)))))
(.seq
(.seq
(.reg [
  ⟨(some (false, 62)), .fa (.g 1) 5, none⟩,
  ⟨(some (true, 63)), .ld none (.l 62), none⟩,
  ⟨(some (true, 64)), .len (.g 63), none⟩,
  ⟨(some (true, 65)), .mv (.c (.lit (.int .i64 0))), none⟩])
(.block 6
(.loop
(.seq
(.reg [
  ⟨(some (true, 66)), .bin .lss (.g 65) (.g 64), none⟩])
(.seq
(.cond (.g 66)
.skip
(.exit 6))
(.seq
(.block 7
(.seq
(.reg [
  ⟨(some (false, 67)), .ia 4 (.g 63) (.g 65), none⟩,
  ⟨(some (false, 68)), .ld (some 4) (.l 67), none⟩,
  ⟨(some (true, 10)), .new [.int .i64 0, .int .i64 0, .int .i64 0, .int .i64 0], none⟩,
  ⟨none, .st 4 (.g 10) (.l 68), none⟩])
(.block 8
(.seq
(.reg [
  ⟨(some (false, 70)), .fa (.g 10) 0, none⟩,
  ⟨(some (false, 71)), .ld none (.l 70), none⟩,
  ⟨(some (false, 72)), .call (.c (.fn 53 [])) [.l 71, .c (.lit (.int .i64 1)), .c (.lit (.int .i64 1000000))], none⟩,
  ⟨(some (false, 73)), .un .not (.l 72), none⟩,
  ⟨(some (false, 74)), .mv (.l 73), none⟩,
  ⟨(some (false, 75)), .fa (.g 10) 1, (some (.l 74, false))⟩,
  ⟨(some (false, 76)), .ld none (.l 75), (some (.l 74, false))⟩,
  ⟨(some (false, 77)), .call (.c (.fn 53 [])) [.l 76, .c (.lit (.int .i64 0)), .c (.lit (.int .i64 200))], (some (.l 74, false))⟩,
  ⟨(some (false, 78)), .un .not (.l 77), (some (.l 74, false))⟩,
  ⟨(some (false, 79)), .pick (.l 74) (.c (.lit (.bool true))) (.l 78), none⟩,
  ⟨(some (false, 80)), .mv (.l 79), none⟩,
  ⟨(some (false, 81)), .fa (.g 10) 2, (some (.l 80, false))⟩,
  ⟨(some (false, 82)), .ld none (.l 81), (some (.l 80, false))⟩,
  ⟨(some (false, 83)), .call (.c (.fn 53 [])) [.l 82, .c (.lit (.int .i64 0)), .c (.lit (.int .i64 1000000))], (some (.l 80, false))⟩,
  ⟨(some (false, 84)), .un .not (.l 83), (some (.l 80, false))⟩,
  ⟨(some (false, 85)), .pick (.l 80) (.c (.lit (.bool true))) (.l 84), none⟩,
  ⟨(some (false, 86)), .mv (.l 85), none⟩,
  ⟨(some (false, 87)), .fa (.g 10) 3, (some (.l 86, false))⟩,
  ⟨(some (false, 88)), .ld none (.l 87), (some (.l 86, false))⟩,
  ⟨(some (false, 89)), .call (.c (.fn 53 [])) [.l 88, .c (.lit (.int .i64 0)), .c (.lit (.int .i64 1000000))], (some (.l 86, false))⟩,
  ⟨(some (false, 90)), .un .not (.l 89), (some (.l 86, false))⟩,
  ⟨(some (false, 91)), .pick (.l 86) (.c (.lit (.bool true))) (.l 90), none⟩,
  ⟨(some (true, 69)), .mv (.l 91), none⟩])
(.cond (.g 69)
(.seq
(.reg [
  ⟨(some (true, 2)), .mv (.c (.lit (.int .i64 2))), none⟩])
.ret)
(.seq
(.reg [
  ⟨(some (false, 93)), .fa (.g 10) 2, none⟩,
  ⟨(some (false, 94)), .ld none (.l 93), none⟩,
  ⟨(some (false, 95)), .fa (.g 10) 3, none⟩,
  ⟨(some (false, 96)), .ld none (.l 95), none⟩,
  ⟨(some (false, 97)), .bin .gtr (.l 94) (.l 96), none⟩,
  ⟨(some (true, 92)), .mv (.l 97), none⟩])
(.cond (.g 92)
(.seq
(.reg [
  ⟨(some (true, 2)), .mv (.c (.lit (.int .i64 11))), none⟩])
.ret)
.skip)))))))
(.reg [
  ⟨(some (false, 98)), .bin .add (.g 65) (.c (.lit (.int .i64 1))), none⟩,
  ⟨(some (true, 65)), .mv (.l 98), none⟩])))))))
(.seq
(.reg [
  ⟨(some (true, 2)), .mv (.c (.lit (.int .i64 0))), none⟩])
.ret)))))))
def K27 : List Nat := [0, 11, 16, 25, 31, 40, 49, 52, 57, 66, 69, 92, 2, 1, 22, 23, 24, 4, 5, 38, 39, 7, 8, 63, 64, 65, 10]
noncomputable def b27 : Code := match Tryz.f27.body with | some c => c | none => .skip
theorem t27 : trCode ⟨Tryz.prog, K27, [], 99, none⟩ b27 = some c27 := by kernel_rfl
theorem go27 {args : List AV} {H : AHeap} {Kk : AV → AHeap → Prop} (hn : args.length = 1) (h : AGo ⟨Tryz.prog, K27, [], 99, none⟩ H.length [.code c27] (RetP [.t (.g 2)] H.length Kk) ⟨[], argsG 0 args⟩ H) : ACalls Tryz.prog 27 args H Kk :=
  ACalls_of Tryz.func27 (c := b27) rfl (by kernel_rfl) t27 (rs := [.t (.g 2)]) (by kernel_rfl) (by rw [hn]; exact Nat.le_of_ble_eq_true rfl) (by rw [hn]; rfl) (h.weaken (fun _ _ => RetP.hands) (by simp))

/-- sastrugi/sastrugiref08.Check -/
def c33 : ACode :=
  (.seq
(.reg [
  ⟨(some (true, 1)), .box (.g 0), none⟩,
  ⟨(some (true, 2)), .mv (.c (.lit (.int .i64 0))), none⟩])
(.seq
(.seq
(.reg [
  ⟨(some (false, 9)), .fa (.g 1) 4, none⟩,
  ⟨(some (false, 10)), .ld none (.l 9), none⟩,
  ⟨(some (false, 11)), .len (.l 10), none⟩,
  ⟨(some (true, 12)), .bin .eql (.l 11) (.c (.lit (.int .i64 0))), none⟩])
(.cond (.g 12)
(.seq
(.reg [
  ⟨(some (true, 2)), .mv (.c (.lit (.int .i64 6))), none⟩])
.ret)
.skip))
(.seq
(.seq
(.reg [
  ⟨(some (false, 13)), .fa (.g 1) 4, none⟩,
  ⟨(some (false, 14)), .ld none (.l 13), none⟩,
  ⟨(some (false, 15)), .len (.l 14), none⟩,
  ⟨(some (true, 16)), .bin .gtr (.l 15) (.c (.lit (.int .i64 200))), none⟩])
(.cond (.g 16)
(.seq
(.reg [
  ⟨(some (true, 2)), .mv (.c (.lit (.int .i64 8))), none⟩])
.ret)
.skip))
(.seq
(.seq
(.reg [
  ⟨(some (true, 3)), .mv (.c (.lit (.int .i64 0))), none⟩])
(.block 0
(.loop
(.seq
(.seq
(.reg [
  ⟨(some (false, 17)), .mv (.g 3), none⟩,
  ⟨(some (false, 18)), .fa (.g 1) 4, none⟩,
  ⟨(some (false, 19)), .ld none (.l 18), none⟩,
  ⟨(some (false, 20)), .len (.l 19), none⟩,
  ⟨(some (true, 21)), .bin .lss (.l 17) (.l 20), none⟩])
(.cond (.g 21)
.skip
(.exit 0)))
(.seq
(.block 1
(.seq
(.reg [
  ⟨(some (false, 24)), .fa (.g 1) 4, none⟩,
  ⟨(some (false, 25)), .ld none (.l 24), none⟩,
  ⟨(some (false, 26)), .mv (.g 3), none⟩,
  ⟨(some (false, 27)), .ia 2 (.l 25) (.l 26), none⟩,
  ⟨(some (false, 28)), .ld (some 2) (.l 27), none⟩,
  ⟨(some (false, 29)), .call (.c (.fn 56 [])) [.l 28, .c (.lit (.int .i64 0)), .c (.lit (.int .i64 1000000))], none⟩,
  ⟨(some (true, 4)), .mv (.l 29), none⟩])
(.seq
(.reg [
  ⟨(some (false, 30)), .mv (.g 4), none⟩,
  ⟨(some (true, 31)), .bin .neq (.l 30) (.c (.lit (.int .i64 0))), none⟩])
(.cond (.g 31)
(.seq
(.reg [
  ⟨(some (false, 32)), .mv (.g 4), none⟩,
  ⟨(some (true, 2)), .mv (.l 32), none⟩])
.ret)
.skip))))
(.reg [
  ⟨(some (false, 22)), .mv (.g 3), none⟩,
  ⟨(some (false, 23)), .bin .add (.l 22) (.c (.lit (.int .i64 1))), none⟩,
  ⟨(some (true, 3)), .mv (.l 23), none⟩]))))))
(.seq
(.seq
(.reg [
  ⟨(some (false, 33)), .fa (.g 1) 0, none⟩,
  ⟨(some (false, 34)), .ld (some 2) (.l 33), none⟩,
  ⟨(some (false, 35)), .fa (.g 1) 4, none⟩,
  ⟨(some (false, 36)), .ld none (.l 35), none⟩,
  ⟨(some (false, 37)), .len (.l 36), none⟩,
  ⟨(some (false, 38)), .bin .sub (.l 37) (.c (.lit (.int .i64 1))), none⟩,
  ⟨(some (false, 39)), .call (.c (.fn 56 [])) [.l 34, .c (.lit (.int .i64 0)), .l 38], none⟩,
  ⟨(some (true, 5)), .mv (.l 39), none⟩])
(.seq
(.reg [
  ⟨(some (false, 40)), .mv (.g 5), none⟩,
  ⟨(some (true, 41)), .bin .neq (.l 40) (.c (.lit (.int .i64 0))), none⟩])
(.cond (.g 41)
(.seq
(.reg [
  ⟨(some (false, 42)), .mv (.g 5), none⟩,
  ⟨(some (true, 2)), .mv (.l 42), none⟩])
.ret)
.skip)))
(.seq
(.seq
(.reg [
  ⟨(some (false, 43)), .fa (.g 1) 2, none⟩,
  ⟨(some (false, 44)), .ld (some 2) (.l 43), none⟩,
  ⟨(some (false, 45)), .fa (.g 1) 4, none⟩,
  ⟨(some (false, 46)), .ld none (.l 45), none⟩,
  ⟨(some (false, 47)), .len (.l 46), none⟩,
  ⟨(some (false, 48)), .bin .sub (.l 47) (.c (.lit (.int .i64 1))), none⟩,
  ⟨(some (false, 49)), .call (.c (.fn 56 [])) [.l 44, .c (.lit (.int .i64 0)), .l 48], none⟩,
  ⟨(some (true, 6)), .mv (.l 49), none⟩])
(.seq
(.reg [
  ⟨(some (false, 50)), .mv (.g 6), none⟩,
  ⟨(some (true, 51)), .bin .neq (.l 50) (.c (.lit (.int .i64 0))), none⟩])
(.cond (.g 51)
(.seq
(.reg [
  ⟨(some (false, 52)), .mv (.g 6), none⟩,
  ⟨(some (true, 2)), .mv (.l 52), none⟩])
.ret)
.skip)))
(.seq
(.seq
(.reg [
  ⟨(some (false, 53)), .fa (.g 1) 5, none⟩,
  ⟨(some (false, 54)), .ld none (.l 53), none⟩,
  ⟨(some (false, 55)), .len (.l 54), none⟩,
  ⟨(some (true, 56)), .bin .eql (.l 55) (.c (.lit (.int .i64 0))), none⟩])
(.cond (.g 56)
(.seq
(.reg [
  ⟨(some (true, 2)), .mv (.c (.lit (.int .i64 6))), none⟩])
.ret)
.skip))
(.seq
(.seq
(.reg [
  ⟨(some (false, 57)), .fa (.g 1) 5, none⟩,
  ⟨(some (false, 58)), .ld none (.l 57), none⟩,
  ⟨(some (false, 59)), .len (.l 58), none⟩,
  ⟨(some (true, 60)), .bin .gtr (.l 59) (.c (.lit (.int .i64 6))), none⟩])
(.cond (.g 60)
(.seq
(.reg [
  ⟨(some (true, 2)), .mv (.c (.lit (.int .i64 8))), none⟩])
.ret)
.skip))
(.seq
(.seq
(.reg [
  ⟨(some (true, 7)), .mv (.c (.lit (.int .i64 0))), none⟩])
(.block 2
(.loop
(.seq
(.seq
(.reg [
  ⟨(some (false, 61)), .mv (.g 7), none⟩,
  ⟨(some (false, 62)), .fa (.g 1) 5, none⟩,
  ⟨(some (false, 63)), .ld none (.l 62), none⟩,
  ⟨(some (false, 64)), .len (.l 63), none⟩,
  ⟨(some (true, 65)), .bin .lss (.l 61) (.l 64), none⟩])
(.cond (.g 65)
.skip
(.exit 2)))
(.seq
(.block 3
(.seq
(.reg [
  ⟨(some (false, 68)), .fa (.g 1) 5, none⟩,
  ⟨(some (false, 69)), .ld none (.l 68), none⟩,
  ⟨(some (false, 70)), .mv (.g 7), none⟩,
  ⟨(some (false, 71)), .ia 4 (.l 69) (.l 70), none⟩,
  ⟨(some (false, 72)), .ld (some 4) (.l 71), none⟩,
  ⟨(some (true, 8)), .new [.int .i64 0, .int .i64 0, .int .i64 0, .int .i64 0], none⟩,
  ⟨none, .st 4 (.g 8) (.l 72), none⟩])
(.seq
(.seq
(.reg [
  ⟨(some (false, 73)), .fa (.g 8) 0, none⟩,
  ⟨(some (false, 74)), .ld none (.l 73), none⟩,
  ⟨(some (false, 75)), .call (.c (.fn 57 [])) [.l 74, .c (.lit (.int .i64 1)), .c (.lit (.int .i64 1000000))], none⟩,
  ⟨(some (false, 76)), .un .not (.l 75), none⟩,
  ⟨(some (false, 77)), .mv (.l 76), none⟩,
  ⟨(some (false, 78)), .fa (.g 8) 1, (some (.l 77, false))⟩,
  ⟨(some (false, 79)), .ld none (.l 78), (some (.l 77, false))⟩,
  ⟨(some (false, 80)), .call (.c (.fn 57 [])) [.l 79, .c (.lit (.int .i64 0)), .c (.lit (.int .i64 200))], (some (.l 77, false))⟩,
  ⟨(some (false, 81)), .un .not (.l 80), (some (.l 77, false))⟩,
  ⟨(some (false, 82)), .pick (.l 77) (.c (.lit (.bool true))) (.l 81), none⟩,
  ⟨(some (false, 83)), .mv (.l 82), none⟩,
  ⟨(some (false, 84)), .fa (.g 8) 2, (some (.l 83, false))⟩,
  ⟨(some (false, 85)), .ld none (.l 84), (some (.l 83, false))⟩,
  ⟨(some (false, 86)), .call (.c (.fn 57 [])) [.l 85, .c (.lit (.int .i64 0)), .c (.lit (.int .i64 1000000))], (some (.l 83, false))⟩,
  ⟨(some (false, 87)), .un .not (.l 86), (some (.l 83, false))⟩,
  ⟨(some (false, 88)), .pick (.l 83) (.c (.lit (.bool true))) (.l 87), none⟩,
  ⟨(some (false, 89)), .mv (.l 88), none⟩,
  ⟨(some (false, 90)), .fa (.g 8) 3, (some (.l 89, false))⟩,
  ⟨(some (false, 91)), .ld none (.l 90), (some (.l 89, false))⟩,
  ⟨(some (false, 92)), .call (.c (.fn 57 [])) [.l 91, .c (.lit (.int .i64 0)), .c (.lit (.int .i64 1000000))], (some (.l 89, false))⟩,
  ⟨(some (false, 93)), .un .not (.l 92), (some (.l 89, false))⟩,
  ⟨(some (true, 94)), .pick (.l 89) (.c (.lit (.bool true))) (.l 93), none⟩])
(.cond (.g 94)
(.seq
(.reg [
  ⟨(some (true, 2)), .mv (.c (.lit (.int .i64 2))), none⟩])
.ret)
.skip))
(.seq
(.reg [
  ⟨(some (false, 95)), .fa (.g 8) 2, none⟩,
  ⟨(some (false, 96)), .ld none (.l 95), none⟩,
  ⟨(some (false, 97)), .fa (.g 8) 3, none⟩,
  ⟨(some (false, 98)), .ld none (.l 97), none⟩,
  ⟨(some (true, 99)), .bin .gtr (.l 96) (.l 98), none⟩])
(.cond (.g 99)
(.seq
(.reg [
  ⟨(some (true, 2)), .mv (.c (.lit (.int .i64 11))), none⟩])
.ret)
.skip)))))
(.reg [
  ⟨(some (false, 66)), .mv (.g 7), none⟩,
  ⟨(some (false, 67)), .bin .add (.l 66) (.c (.lit (.int .i64 1))), none⟩,
  ⟨(some (true, 7)), .mv (.l 67), none⟩]))))))
(.seq
(.reg [
  ⟨(some (true, 2)), .mv (.c (.lit (.int .i64 0))), none⟩])
.ret))))))))))
def K33 : List Nat := [0, 12, 16, 21, 31, 41, 51, 56, 60, 65, 94, 99, 2, 1, 3, 4, 5, 6, 7, 8]
noncomputable def b33 : Code := match Tryz.f33.body with | some c => c | none => .skip
theorem t33 : trCode ⟨Tryz.prog, K33, [], 100, none⟩ b33 = some c33 := by kernel_rfl
theorem go33 {args : List AV} {H : AHeap} {Kk : AV → AHeap → Prop} (hn : args.length = 1) (h : AGo ⟨Tryz.prog, K33, [], 100, none⟩ H.length [.code c33] (RetP [.t (.g 2)] H.length Kk) ⟨[], argsG 0 args⟩ H) : ACalls Tryz.prog 33 args H Kk :=
  ACalls_of Tryz.func33 (c := b33) rfl (by kernel_rfl) t33 (rs := [.t (.g 2)]) (by kernel_rfl) (by rw [hn]; exact Nat.le_of_ble_eq_true rfl) (by rw [hn]; rfl) (h.weaken (fun _ _ => RetP.hands) (by simp))

/-- sastrugi/freight.Best -/
def c15 : ACode :=
  (.seq
(.reg [
  ⟨(some (true, 1)), .box (.g 0), none⟩,
  ⟨(some (true, 2)), .new [.slice none 0 0], none⟩,
  ⟨(some (true, 3)), .new [.int .i64 0], none⟩,
  ⟨(some (true, 4)), .mv (.c (.lit (.int .i64 0))), none⟩])
(.seq
(.seq
(.reg [
  ⟨(some (false, 9)), .ld (some 6) (.g 1), none⟩,
  ⟨(some (false, 10)), .call (.c (.fn 27 [])) [.l 9], none⟩,
  ⟨(some (true, 5)), .mv (.l 10), none⟩])
(.seq
(.reg [
  ⟨(some (false, 11)), .mv (.g 5), none⟩,
  ⟨(some (true, 12)), .bin .neq (.l 11) (.c (.lit (.int .i64 0))), none⟩])
(.cond (.g 12)
(.seq
(.reg [
  ⟨(some (false, 13)), .mv (.g 5), none⟩,
  ⟨none, .st 1 (.g 2) (.c (.lit (.slice none 0 0))), none⟩,
  ⟨none, .st 1 (.g 3) (.c (.lit (.int .i64 0))), none⟩,
  ⟨(some (true, 4)), .mv (.l 13), none⟩])
.ret)
.skip)))
(.seq
(.reg [
  ⟨(some (false, 14)), .ld (some 6) (.g 1), none⟩,
  ⟨(some (false, 15)), .call (.c (.fn 42 [])) [.l 14], none⟩,
  ⟨(some (true, 6)), .new [.int .i64 0, .int .i64 0, .int .i64 0, .int .i64 0, .slice none 0 0, .slice none 0 0, .int .i64 0, .int .i64 0, .slice none 0 0], none⟩,
  ⟨none, .st 9 (.g 6) (.l 15), none⟩])
(.seq
(.seq
(.reg [
  ⟨(some (false, 16)), .fa (.g 1) 5, none⟩,
  ⟨(some (false, 17)), .ld none (.l 16), none⟩,
  ⟨(some (false, 18)), .len (.l 17), none⟩,
  ⟨(some (true, 19)), .call (.c (.fn 43 [])) [.l 18], none⟩])
(.block 0
(.rng (.g 19) [20]
(.reg [
  ⟨(some (true, 7)), .mv (.g 20), none⟩])
(.block 1
(.seq
(.reg [
  ⟨(some (false, 21)), .ld (some 9) (.g 6), none⟩,
  ⟨(some (false, 22)), .mv (.g 7), none⟩,
  ⟨(some (false, 23)), .call (.c (.fn 44 [])) [.l 21, .l 22], none⟩,
  ⟨(some (true, 8)), .mv (.l 23), none⟩])
(.seq
(.reg [
  ⟨(some (false, 24)), .ld none (.g 2), none⟩,
  ⟨(some (false, 25)), .eqn false (.l 24), none⟩,
  ⟨(some (false, 26)), .mv (.l 25), none⟩,
  ⟨(some (false, 27)), .mv (.g 8), (some (.l 26, false))⟩,
  ⟨(some (false, 28)), .ld none (.g 3), (some (.l 26, false))⟩,
  ⟨(some (false, 29)), .bin .lss (.l 27) (.l 28), (some (.l 26, false))⟩,
  ⟨(some (true, 30)), .pick (.l 26) (.c (.lit (.bool true))) (.l 29), none⟩])
(.cond (.g 30)
(.reg [
  ⟨(some (false, 31)), .mv (.g 7), none⟩,
  ⟨(some (false, 32)), .mv (.g 8), none⟩,
  ⟨none, .st 1 (.g 2) (.l 31), none⟩,
  ⟨none, .st 1 (.g 3) (.l 32), none⟩])
.skip)))))))
(.seq
(.draw [
  ⟨⟨(some (false, 33)), .ld none (.g 2), none⟩, 0, true, []⟩,
  ⟨⟨(some (false, 34)), .ld none (.g 3), none⟩, 1, false, []⟩,
  ⟨⟨none, .st 1 (.g 2) (.l 33), none⟩, 2, false, []⟩,
  ⟨⟨none, .st 1 (.g 3) (.l 34), none⟩, 3, false, []⟩,
  ⟨⟨(some (true, 4)), .mv (.c (.lit (.int .i64 0))), none⟩, 4, false, []⟩])
.ret)))))
def K15 : List Nat := [0, 12, 19, 20, 30, 2, 3, 4, 1, 5, 6, 7, 8]
noncomputable def b15 : Code := match Tryz.f15.body with | some c => c | none => .skip
theorem t15 : trCode ⟨Tryz.prog, K15, [], 35, none⟩ b15 = some c15 := by kernel_rfl
theorem go15 {args : List AV} {H : AHeap} {Kk : AV → AHeap → Prop} (hn : args.length = 1) (h : AGo ⟨Tryz.prog, K15, [], 35, none⟩ H.length [.code c15] (RetP [.cell (.g 2) none, .cell (.g 3) none, .t (.g 4)] H.length Kk) ⟨[], argsG 0 args⟩ H) : ACalls Tryz.prog 15 args H Kk :=
  ACalls_of Tryz.func15 (c := b15) rfl (by kernel_rfl) t15 (rs := [.cell (.g 2) none, .cell (.g 3) none, .t (.g 4)]) (by kernel_rfl) (by rw [hn]; exact Nat.le_of_ble_eq_true rfl) (by rw [hn]; rfl) (h.weaken (fun _ _ => RetP.hands) (by simp))

/-- sastrugi/freight.Bound -/
def c17 : ACode :=
  (.seq
(.reg [
  ⟨(some (true, 1)), .box (.g 0), none⟩,
  ⟨(some (true, 2)), .mv (.c (.lit (.int .i64 0))), none⟩,
  ⟨(some (true, 3)), .mv (.c (.lit (.int .i64 0))), none⟩])
(.seq
(.seq
(.reg [
  ⟨(some (false, 21)), .ld (some 6) (.g 1), none⟩,
  ⟨(some (false, 22)), .call (.c (.fn 27 [])) [.l 21], none⟩,
  ⟨(some (true, 4)), .mv (.l 22), none⟩])
(.seq
(.reg [
  ⟨(some (false, 23)), .mv (.g 4), none⟩,
  ⟨(some (true, 24)), .bin .neq (.l 23) (.c (.lit (.int .i64 0))), none⟩])
(.cond (.g 24)
(.seq
(.reg [
  ⟨(some (false, 25)), .mv (.g 4), none⟩,
  ⟨(some (true, 2)), .mv (.c (.lit (.int .i64 0))), none⟩,
  ⟨(some (true, 3)), .mv (.l 25), none⟩])
.ret)
.skip)))
(.seq
(.reg [
  ⟨(some (false, 26)), .ld (some 6) (.g 1), none⟩,
  ⟨(some (false, 27)), .call (.c (.fn 42 [])) [.l 26], none⟩,
  ⟨(some (true, 5)), .new [.int .i64 0, .int .i64 0, .int .i64 0, .int .i64 0, .slice none 0 0, .slice none 0 0, .int .i64 0, .int .i64 0, .slice none 0 0], none⟩,
  ⟨none, .st 9 (.g 5) (.l 27), none⟩])
(.seq
(.reg [
  ⟨(some (true, 6)), .mv (.c (.lit (.slice none 0 0))), none⟩])
(.seq
(.reg [
  ⟨(some (true, 7)), .mv (.c (.lit (.int .i64 0))), none⟩])
(.seq
(.seq
(.reg [
  ⟨(some (false, 28)), .fa (.g 1) 4, none⟩,
  ⟨(some (false, 29)), .ld none (.l 28), none⟩,
  ⟨(some (true, 30)), .len (.l 29), none⟩,
  ⟨(some (true, 31)), .mv (.c (.lit (.int .i64 0))), none⟩])
(.block 0
(.loop
(.seq
(.reg [
  ⟨(some (true, 32)), .bin .lss (.g 31) (.g 30), none⟩])
(.seq
(.cond (.g 32)
.skip
(.exit 0))
(.seq
(.block 1
(.seq
(.reg [
  ⟨(some (false, 33)), .mv (.g 31), none⟩,
  ⟨(some (true, 8)), .mv (.l 33), none⟩])
(.seq
(.reg [
  ⟨(some (false, 34)), .mv (.g 7), none⟩,
  ⟨(some (false, 35)), .ld (some 9) (.g 5), none⟩,
  ⟨(some (false, 36)), .mv (.g 8), none⟩,
  ⟨(some (false, 37)), .call (.c (.fn 45 [])) [.l 35, .l 36], none⟩,
  ⟨(some (false, 38)), .bin .add (.l 34) (.l 37), none⟩,
  ⟨(some (true, 7)), .mv (.l 38), none⟩])
(.reg [
  ⟨(some (false, 39)), .mv (.g 6), none⟩,
  ⟨(some (false, 40)), .mv (.g 7), none⟩,
  ⟨(some (false, 41)), .mks false 1 [.l 40], none⟩,
  ⟨(some (false, 42)), .app 1 8 (.l 39) (.l 41), none⟩,
  ⟨(some (true, 6)), .mv (.l 42), none⟩]))))
(.reg [
  ⟨(some (false, 43)), .bin .add (.g 31) (.c (.lit (.int .i64 1))), none⟩,
  ⟨(some (true, 31)), .mv (.l 43), none⟩])))))))
(.seq
(.reg [
  ⟨(some (true, 9)), .mv (.c (.lit (.int .i64 0))), none⟩])
(.seq
(.seq
(.reg [
  ⟨(some (false, 44)), .fa (.g 1) 5, none⟩,
  ⟨(some (true, 45)), .ld none (.l 44), none⟩,
  ⟨(some (true, 46)), .len (.g 45), none⟩,
  ⟨(some (true, 47)), .mv (.c (.lit (.int .i64 0))), none⟩])
(.block 2
(.loop
(.seq
(.reg [
  ⟨(some (true, 48)), .bin .lss (.g 47) (.g 46), none⟩])
(.seq
(.cond (.g 48)
.skip
(.exit 2))
(.seq
(.block 3
(.seq
(.reg [
  ⟨(some (false, 49)), .ia 4 (.g 45) (.g 47), none⟩,
  ⟨(some (false, 50)), .ld (some 4) (.l 49), none⟩,
  ⟨(some (true, 11)), .new [.int .i64 0, .int .i64 0, .int .i64 0, .int .i64 0], none⟩,
  ⟨none, .st 4 (.g 11) (.l 50), none⟩])
(.reg [
  ⟨(some (false, 51)), .mv (.g 9), none⟩,
  ⟨(some (false, 52)), .fa (.g 11) 0, none⟩,
  ⟨(some (false, 53)), .ld none (.l 52), none⟩,
  ⟨(some (false, 54)), .fa (.g 11) 3, none⟩,
  ⟨(some (false, 55)), .ld none (.l 54), none⟩,
  ⟨(some (false, 56)), .bin .mul (.l 53) (.l 55), none⟩,
  ⟨(some (false, 57)), .bin .add (.l 51) (.l 56), none⟩,
  ⟨(some (true, 9)), .mv (.l 57), none⟩])))
(.reg [
  ⟨(some (false, 58)), .bin .add (.g 47) (.c (.lit (.int .i64 1))), none⟩,
  ⟨(some (true, 47)), .mv (.l 58), none⟩])))))))
(.seq
(.reg [
  ⟨(some (true, 12)), .mv (.c (.fn 46 [])), none⟩])
(.seq
(.seq
(.reg [
  ⟨(some (false, 59)), .ld (some 6) (.g 1), none⟩,
  ⟨(some (false, 60)), .mv (.g 12), none⟩,
  ⟨(some (true, 61)), .call (.c (.fn 47 [])) [.l 59, .l 60], none⟩,
  ⟨(some (true, 62)), .len (.g 61), none⟩,
  ⟨(some (true, 63)), .mv (.c (.lit (.int .i64 0))), none⟩])
(.block 4
(.loop
(.seq
(.reg [
  ⟨(some (true, 64)), .bin .lss (.g 63) (.g 62), none⟩])
(.seq
(.cond (.g 64)
.skip
(.exit 4))
(.seq
(.block 5
(.seq
(.reg [
  ⟨(some (false, 65)), .ia 4 (.g 61) (.g 63), none⟩,
  ⟨(some (false, 66)), .ld (some 4) (.l 65), none⟩,
  ⟨(some (true, 14)), .new [.int .i64 0, .int .i64 0, .int .i64 0, .int .i64 0], none⟩,
  ⟨none, .st 4 (.g 14) (.l 66), none⟩])
(.seq
(.reg [
  ⟨(some (false, 67)), .fa (.g 14) 0, none⟩,
  ⟨(some (false, 68)), .ld none (.l 67), none⟩,
  ⟨(some (false, 69)), .mv (.g 7), none⟩,
  ⟨(some (false, 70)), .mn [.l 68, .l 69], none⟩,
  ⟨(some (true, 15)), .mv (.l 70), none⟩])
(.seq
(.reg [
  ⟨(some (false, 71)), .mv (.g 9), none⟩,
  ⟨(some (false, 72)), .mv (.g 15), none⟩,
  ⟨(some (false, 73)), .mv (.g 12), none⟩,
  ⟨(some (false, 74)), .ld (some 4) (.g 14), none⟩,
  ⟨(some (false, 75)), .call (.l 73) [.l 74], none⟩,
  ⟨(some (false, 76)), .bin .mul (.l 72) (.l 75), none⟩,
  ⟨(some (false, 77)), .bin .sub (.l 71) (.l 76), none⟩,
  ⟨(some (true, 9)), .mv (.l 77), none⟩])
(.reg [
  ⟨(some (false, 78)), .mv (.g 7), none⟩,
  ⟨(some (false, 79)), .mv (.g 15), none⟩,
  ⟨(some (false, 80)), .bin .sub (.l 78) (.l 79), none⟩,
  ⟨(some (true, 7)), .mv (.l 80), none⟩])))))
(.reg [
  ⟨(some (false, 81)), .bin .add (.g 63) (.c (.lit (.int .i64 1))), none⟩,
  ⟨(some (true, 63)), .mv (.l 81), none⟩])))))))
(.seq
(.seq
(.reg [
  ⟨(some (false, 82)), .ld (some 6) (.g 1), none⟩,
  ⟨(some (true, 83)), .call (.c (.fn 47 [])) [.l 82, .c (.fn 48 [])], none⟩,
  ⟨(some (true, 84)), .len (.g 83), none⟩,
  ⟨(some (true, 85)), .mv (.c (.lit (.int .i64 0))), none⟩])
(.block 6
(.loop
(.seq
(.reg [
  ⟨(some (true, 86)), .bin .lss (.g 85) (.g 84), none⟩])
(.seq
(.cond (.g 86)
.skip
(.exit 6))
(.seq
(.block 7
(.seq
(.reg [
  ⟨(some (false, 87)), .ia 4 (.g 83) (.g 85), none⟩,
  ⟨(some (false, 88)), .ld (some 4) (.l 87), none⟩,
  ⟨(some (true, 17)), .new [.int .i64 0, .int .i64 0, .int .i64 0, .int .i64 0], none⟩,
  ⟨none, .st 4 (.g 17) (.l 88), none⟩])
(.seq
(.reg [
  ⟨(some (false, 89)), .mv (.g 6), none⟩,
  ⟨(some (false, 90)), .fa (.g 17) 1, none⟩,
  ⟨(some (false, 91)), .ld none (.l 90), none⟩,
  ⟨(some (false, 92)), .mv (.g 6), none⟩,
  ⟨(some (false, 93)), .len (.l 92), none⟩,
  ⟨(some (false, 94)), .bin .sub (.l 93) (.c (.lit (.int .i64 1))), none⟩,
  ⟨(some (false, 95)), .mn [.l 91, .l 94], none⟩,
  ⟨(some (false, 96)), .sl 1 (.l 89) (some (.l 95)) none none, none⟩,
  ⟨(some (true, 18)), .mv (.l 96), none⟩])
(.seq
(.draw [
  ⟨⟨(some (false, 97)), .fa (.g 17) 0, none⟩, 0, true, []⟩,
  ⟨⟨(some (false, 98)), .ld none (.l 97), none⟩, 1, true, []⟩,
  ⟨⟨(some (false, 99)), .mv (.g 18), none⟩, 2, true, []⟩,
  ⟨⟨(some (false, 100)), .call (.c (.fn 49 [])) [.l 99], none⟩, 3, false, []⟩,
  ⟨⟨(some (false, 101)), .mn [.l 98, .l 100], none⟩, 4, true, []⟩,
  ⟨⟨(some (true, 19)), .mv (.l 101), none⟩, 5, true, []⟩])
(.seq
(.reg [
  ⟨(some (false, 102)), .mv (.g 9), none⟩,
  ⟨(some (false, 103)), .mv (.g 19), none⟩,
  ⟨(some (false, 104)), .fa (.g 17) 2, none⟩,
  ⟨(some (false, 105)), .ld none (.l 104), none⟩,
  ⟨(some (false, 106)), .bin .mul (.l 103) (.l 105), none⟩,
  ⟨(some (false, 107)), .bin .sub (.l 102) (.l 106), none⟩,
  ⟨(some (true, 9)), .mv (.l 107), none⟩])
(.seq
(.reg [
  ⟨(some (false, 108)), .mv (.g 18), none⟩,
  ⟨(some (true, 109)), .len (.l 108), none⟩,
  ⟨(some (true, 110)), .mv (.c (.lit (.int .i64 0))), none⟩])
(.block 8
(.loop
(.seq
(.reg [
  ⟨(some (true, 111)), .bin .lss (.g 110) (.g 109), none⟩])
(.seq
(.cond (.g 111)
.skip
(.exit 8))
(.seq
(.block 9
(.seq
(.reg [
  ⟨(some (false, 112)), .mv (.g 110), none⟩,
  ⟨(some (true, 20)), .mv (.l 112), none⟩])
(.reg [
  ⟨(some (false, 113)), .mv (.g 18), none⟩,
  ⟨(some (false, 114)), .mv (.g 20), none⟩,
  ⟨(some (false, 115)), .ia 1 (.l 113) (.l 114), none⟩,
  ⟨(some (false, 116)), .ld none (.l 115), none⟩,
  ⟨(some (false, 117)), .mv (.g 19), none⟩,
  ⟨(some (false, 118)), .bin .sub (.l 116) (.l 117), none⟩,
  ⟨(some (false, 119)), .ia 1 (.l 113) (.l 114), none⟩,
  ⟨none, .st 1 (.l 119) (.l 118), none⟩])))
(.reg [
  ⟨(some (false, 120)), .bin .add (.g 110) (.c (.lit (.int .i64 1))), none⟩,
  ⟨(some (true, 110)), .mv (.l 120), none⟩]))))))))))))
(.reg [
  ⟨(some (false, 121)), .bin .add (.g 85) (.c (.lit (.int .i64 1))), none⟩,
  ⟨(some (true, 85)), .mv (.l 121), none⟩])))))))
(.seq
(.reg [
  ⟨(some (false, 122)), .mv (.g 9), none⟩,
  ⟨(some (true, 2)), .mv (.l 122), none⟩,
  ⟨(some (true, 3)), .mv (.c (.lit (.int .i64 0))), none⟩])
.ret))))))))))))
def K17 : List Nat := [0, 24, 32, 48, 64, 86, 111, 2, 3, 1, 4, 5, 6, 7, 30, 31, 8, 9, 45, 46, 47, 11, 12, 61, 62, 63, 14, 15, 83, 84, 85, 17, 18, 19, 109, 110, 20]
noncomputable def b17 : Code := match Tryz.f17.body with | some c => c | none => .skip
theorem t17 : trCode ⟨Tryz.prog, K17, [], 123, none⟩ b17 = some c17 := by kernel_rfl
theorem go17 {args : List AV} {H : AHeap} {Kk : AV → AHeap → Prop} (hn : args.length = 1) (h : AGo ⟨Tryz.prog, K17, [], 123, none⟩ H.length [.code c17] (RetP [.t (.g 2), .t (.g 3)] H.length Kk) ⟨[], argsG 0 args⟩ H) : ACalls Tryz.prog 17 args H Kk :=
  ACalls_of Tryz.func17 (c := b17) rfl (by kernel_rfl) t17 (rs := [.t (.g 2), .t (.g 3)]) (by kernel_rfl) (by rw [hn]; exact Nat.le_of_ble_eq_true rfl) (by rw [hn]; rfl) (h.weaken (fun _ _ => RetP.hands) (by simp))

/-- sastrugi/freight.Range -/
def c18 : ACode :=
  (.seq
(.reg [
  ⟨(some (true, 2)), .box (.g 0), none⟩,
  ⟨(some (true, 4)), .new [.int .i64 0, .int .i64 0], none⟩,
  ⟨(some (true, 5)), .mv (.c (.lit (.int .i64 0))), none⟩])
(.seq
(.seq
(.reg [
  ⟨(some (false, 7)), .ld (some 6) (.g 2), none⟩,
  ⟨(some (false, 8)), .mv (.g 1), none⟩,
  ⟨(some (false, 9)), .call (.c (.fn 50 [])) [.l 7, .l 8], none⟩,
  ⟨(some (true, 6)), .mv (.l 9), none⟩])
(.seq
(.reg [
  ⟨(some (false, 10)), .mv (.g 6), none⟩,
  ⟨(some (true, 11)), .bin .neq (.l 10) (.c (.lit (.int .i64 0))), none⟩])
(.cond (.g 11)
(.seq
(.reg [
  ⟨(some (false, 12)), .mk [.int .i64 0, .int .i64 0] [], none⟩,
  ⟨(some (false, 13)), .mv (.g 6), none⟩,
  ⟨none, .st 2 (.g 4) (.l 12), none⟩,
  ⟨(some (true, 5)), .mv (.l 13), none⟩])
.ret)
.skip)))
(.seq
(.draw [
  ⟨⟨(some (false, 14)), .ld (some 6) (.g 2), none⟩, 0, true, []⟩,
  ⟨⟨(some (false, 16)), .mv (.g 1), none⟩, 2, true, []⟩,
  ⟨⟨(some (false, 18)), .ld (some 6) (.g 2), none⟩, 4, true, []⟩,
  ⟨⟨(some (false, 20)), .mv (.g 1), none⟩, 6, true, []⟩,
  ⟨⟨(some (false, 15)), .call (.c (.fn 51 [])) [.l 14], none⟩, 1, false, []⟩,
  ⟨⟨(some (false, 17)), .call (.c (.fn 44 [])) [.l 15, .l 16], none⟩, 3, false, []⟩,
  ⟨⟨(some (false, 19)), .call (.c (.fn 42 [])) [.l 18], none⟩, 5, false, []⟩,
  ⟨⟨(some (false, 21)), .call (.c (.fn 44 [])) [.l 19, .l 20], none⟩, 7, false, []⟩,
  ⟨⟨(some (false, 22)), .mk [.int .i64 0, .int .i64 0] [(0, 1, .l 17), (1, 1, .l 21)], none⟩, 8, true, []⟩,
  ⟨⟨none, .st 2 (.g 4) (.l 22), none⟩, 9, false, []⟩,
  ⟨⟨(some (true, 5)), .mv (.c (.lit (.int .i64 0))), none⟩, 10, false, []⟩])
.ret)))
def K18 : List Nat := [0, 1, 11, 4, 5, 2, 6]
noncomputable def b18 : Code := match Tryz.f18.body with | some c => c | none => .skip
theorem t18 : trCode ⟨Tryz.prog, K18, [], 23, none⟩ b18 = some c18 := by kernel_rfl
theorem go18 {args : List AV} {H : AHeap} {Kk : AV → AHeap → Prop} (hn : args.length = 2) (h : AGo ⟨Tryz.prog, K18, [], 23, none⟩ H.length [.code c18] (RetP [.cell (.g 4) (some 2), .t (.g 5)] H.length Kk) ⟨[], argsG 0 args⟩ H) : ACalls Tryz.prog 18 args H Kk :=
  ACalls_of Tryz.func18 (c := b18) rfl (by kernel_rfl) t18 (rs := [.cell (.g 4) (some 2), .t (.g 5)]) (by kernel_rfl) (by rw [hn]; exact Nat.le_of_ble_eq_true rfl) (by rw [hn]; rfl) (h.weaken (fun _ _ => RetP.hands) (by simp))

/-- sastrugi/sastrugilaw08.season -/
def c16 : ACode :=
  (.seq
(.reg [
  ⟨(some (true, 0)), .new [.int .i64 0, .int .i64 0, .int .i64 0, .int .i64 0, .slice none 0 0, .slice none 0 0], none⟩])
(.seq
(.reg [
  ⟨(some (false, 3)), .call (.c (.fn 19 [])) [.c (.lit (.int .i64 1)), .c (.lit (.int .i64 2))], none⟩,
  ⟨(some (false, 4)), .call (.c (.fn 19 [])) [.c (.lit (.int .i64 4)), .c (.lit (.int .i64 5))], none⟩,
  ⟨(some (false, 5)), .mk [.int .i64 0, .int .i64 0, .int .i64 0, .int .i64 0] [(0, 1, .c (.lit (.int .i64 4))), (1, 1, .c (.lit (.int .i64 3))), (2, 1, .c (.lit (.int .i64 5))), (3, 1, .c (.lit (.int .i64 20)))], none⟩,
  ⟨(some (false, 6)), .mk [.int .i64 0, .int .i64 0, .int .i64 0, .int .i64 0] [(0, 1, .c (.lit (.int .i64 5))), (1, 1, .c (.lit (.int .i64 5))), (2, 1, .c (.lit (.int .i64 1))), (3, 1, .c (.lit (.int .i64 10)))], none⟩,
  ⟨(some (false, 7)), .mks false 4 [.l 5, .l 6], none⟩,
  ⟨(some (false, 8)), .mk [.int .i64 0, .int .i64 0, .int .i64 0, .int .i64 0, .slice none 0 0, .slice none 0 0] [(0, 2, .l 3), (2, 2, .l 4), (5, 1, .l 7)], none⟩,
  ⟨(some (true, 1)), .new [.int .i64 0, .int .i64 0, .int .i64 0, .int .i64 0, .slice none 0 0, .slice none 0 0], none⟩,
  ⟨none, .st 6 (.g 1) (.l 8), none⟩])
(.seq
(.seq
(.reg [
  ⟨(some (true, 2)), .mv (.c (.lit (.int .i64 0))), none⟩])
(.block 0
(.loop
(.seq
(.seq
(.reg [
  ⟨(some (false, 9)), .mv (.g 2), none⟩,
  ⟨(some (true, 10)), .bin .lss (.l 9) (.c (.lit (.int .i64 7))), none⟩])
(.cond (.g 10)
.skip
(.exit 0)))
(.seq
(.block 1
(.draw [
  ⟨⟨(some (false, 13)), .fa (.g 1) 4, none⟩, 0, true, []⟩,
  ⟨⟨(some (false, 14)), .ld none (.l 13), none⟩, 1, true, []⟩,
  ⟨⟨(some (false, 15)), .call (.c (.fn 19 [])) [.c (.lit (.int .i64 2)), .c (.lit (.int .i64 3))], none⟩, 2, false, []⟩,
  ⟨⟨(some (false, 16)), .mks false 2 [.l 15], none⟩, 3, true, []⟩,
  ⟨⟨(some (false, 17)), .app 2 16 (.l 14) (.l 16), none⟩, 4, false, []⟩,
  ⟨⟨(some (false, 18)), .fa (.g 1) 4, none⟩, 5, true, []⟩,
  ⟨⟨none, .st 1 (.l 18) (.l 17), none⟩, 6, true, []⟩]))
(.reg [
  ⟨(some (false, 11)), .mv (.g 2), none⟩,
  ⟨(some (false, 12)), .bin .add (.l 11) (.c (.lit (.int .i64 1))), none⟩,
  ⟨(some (true, 2)), .mv (.l 12), none⟩]))))))
(.seq
(.reg [
  ⟨(some (false, 19)), .ld (some 6) (.g 1), none⟩,
  ⟨none, .st 6 (.g 0) (.l 19), none⟩])
.ret))))
def K16 : List Nat := [10, 0, 1, 2]
noncomputable def b16 : Code := match Tryz.f16.body with | some c => c | none => .skip
theorem t16 : trCode ⟨Tryz.prog, K16, [], 20, none⟩ b16 = some c16 := by kernel_rfl
theorem go16 {args : List AV} {H : AHeap} {Kk : AV → AHeap → Prop} (hn : args.length = 0) (h : AGo ⟨Tryz.prog, K16, [], 20, none⟩ H.length [.code c16] (RetP [.cell (.g 0) (some 6)] H.length Kk) ⟨[], argsG 0 args⟩ H) : ACalls Tryz.prog 16 args H Kk :=
  ACalls_of Tryz.func16 (c := b16) rfl (by kernel_rfl) t16 (rs := [.cell (.g 0) (some 6)]) (by kernel_rfl) (by rw [hn]; exact Nat.le_of_ble_eq_true rfl) (by rw [hn]; rfl) (h.weaken (fun _ _ => RetP.hands) (by simp))

/-- sastrugi/freight.checkSpan -/
def c52 : ACode :=
  (.seq
(.reg [
  ⟨(some (true, 3)), .box (.g 0), none⟩,
  ⟨(some (true, 6)), .mv (.c (.lit (.int .i64 0))), none⟩])
(.seq
(.block 0
(.seq
(.reg [
  ⟨(some (false, 8)), .fa (.g 3) 0, none⟩,
  ⟨(some (false, 9)), .ld none (.l 8), none⟩,
  ⟨(some (false, 10)), .mv (.g 1), none⟩,
  ⟨(some (false, 11)), .mv (.g 2), none⟩,
  ⟨(some (false, 12)), .call (.c (.fn 53 [])) [.l 9, .l 10, .l 11], none⟩,
  ⟨(some (false, 13)), .un .not (.l 12), none⟩,
  ⟨(some (false, 14)), .mv (.l 13), none⟩,
  ⟨(some (false, 15)), .fa (.g 3) 1, (some (.l 14, false))⟩,
  ⟨(some (false, 16)), .ld none (.l 15), (some (.l 14, false))⟩,
  ⟨(some (false, 17)), .mv (.g 1), (some (.l 14, false))⟩,
  ⟨(some (false, 18)), .mv (.g 2), (some (.l 14, false))⟩,
  ⟨(some (false, 19)), .call (.c (.fn 53 [])) [.l 16, .l 17, .l 18], (some (.l 14, false))⟩,
  ⟨(some (false, 20)), .un .not (.l 19), (some (.l 14, false))⟩,
  ⟨(some (false, 21)), .pick (.l 14) (.c (.lit (.bool true))) (.l 20), none⟩,
  ⟨(some (true, 7)), .mv (.l 21), none⟩])
(.cond (.g 7)
(.seq
(.reg [
  ⟨(some (true, 6)), .mv (.c (.lit (.int .i64 2))), none⟩])
.ret)
(.seq
(.reg [
  ⟨(some (false, 23)), .fa (.g 3) 0, none⟩,
  ⟨(some (false, 24)), .ld none (.l 23), none⟩,
  ⟨(some (false, 25)), .fa (.g 3) 1, none⟩,
  ⟨(some (false, 26)), .ld none (.l 25), none⟩,
  ⟨(some (false, 27)), .bin .gtr (.l 24) (.l 26), none⟩,
  ⟨(some (true, 22)), .mv (.l 27), none⟩])
(.cond (.g 22)
(.seq
(.reg [
  ⟨(some (true, 6)), .mv (.c (.lit (.int .i64 11))), none⟩])
.ret)
.skip)))))
(.seq
(.reg [
  ⟨(some (true, 6)), .mv (.c (.lit (.int .i64 0))), none⟩])
.ret)))
def K52 : List Nat := [0, 1, 2, 7, 22, 6, 3]
noncomputable def b52 : Code := match Tryz.f52.body with | some c => c | none => .skip
theorem t52 : trCode ⟨Tryz.prog, K52, [], 28, none⟩ b52 = some c52 := by kernel_rfl
theorem go52 {args : List AV} {H : AHeap} {Kk : AV → AHeap → Prop} (hn : args.length = 3) (h : AGo ⟨Tryz.prog, K52, [], 28, none⟩ H.length [.code c52] (RetP [.t (.g 6)] H.length Kk) ⟨[], argsG 0 args⟩ H) : ACalls Tryz.prog 52 args H Kk :=
  ACalls_of Tryz.func52 (c := b52) rfl (by kernel_rfl) t52 (rs := [.t (.g 6)]) (by kernel_rfl) (by rw [hn]; exact Nat.le_of_ble_eq_true rfl) (by rw [hn]; rfl) (h.weaken (fun _ _ => RetP.hands) (by simp))

/-- sastrugi/freight.in -/
def c53 : ACode :=
  (.seq
(.reg [
  ⟨(some (true, 6)), .mv (.c (.lit (.bool false))), none⟩])
(.seq
(.reg [
  ⟨(some (false, 7)), .mv (.g 1), none⟩,
  ⟨(some (false, 8)), .mv (.g 0), none⟩,
  ⟨(some (false, 9)), .bin .leq (.l 7) (.l 8), none⟩,
  ⟨(some (false, 10)), .mv (.l 9), none⟩,
  ⟨(some (false, 11)), .mv (.g 0), (some (.l 10, true))⟩,
  ⟨(some (false, 12)), .mv (.g 2), (some (.l 10, true))⟩,
  ⟨(some (false, 13)), .bin .leq (.l 11) (.l 12), (some (.l 10, true))⟩,
  ⟨(some (false, 14)), .pick (.l 10) (.l 13) (.c (.lit (.bool false))), none⟩,
  ⟨(some (true, 6)), .mv (.l 14), none⟩])
.ret))
def K53 : List Nat := [0, 1, 2, 6]
noncomputable def b53 : Code := match Tryz.f53.body with | some c => c | none => .skip
theorem t53 : trCode ⟨Tryz.prog, K53, [], 15, none⟩ b53 = some c53 := by kernel_rfl
theorem go53 {args : List AV} {H : AHeap} {Kk : AV → AHeap → Prop} (hn : args.length = 3) (h : AGo ⟨Tryz.prog, K53, [], 15, none⟩ H.length [.code c53] (RetP [.t (.g 6)] H.length Kk) ⟨[], argsG 0 args⟩ H) : ACalls Tryz.prog 53 args H Kk :=
  ACalls_of Tryz.func53 (c := b53) rfl (by kernel_rfl) t53 (rs := [.t (.g 6)]) (by kernel_rfl) (by rw [hn]; exact Nat.le_of_ble_eq_true rfl) (by rw [hn]; rfl) (h.weaken (fun _ _ => RetP.hands) (by simp))

/-- sastrugi/sastrugiref08.checkSpan -/
def c56 : ACode :=
  (.seq
(.reg [
  ⟨(some (true, 3)), .box (.g 0), none⟩,
  ⟨(some (true, 6)), .mv (.c (.lit (.int .i64 0))), none⟩])
(.seq
(.seq
(.reg [
  ⟨(some (false, 7)), .fa (.g 3) 0, none⟩,
  ⟨(some (false, 8)), .ld none (.l 7), none⟩,
  ⟨(some (false, 9)), .mv (.g 1), none⟩,
  ⟨(some (false, 10)), .mv (.g 2), none⟩,
  ⟨(some (false, 11)), .call (.c (.fn 57 [])) [.l 8, .l 9, .l 10], none⟩,
  ⟨(some (false, 12)), .un .not (.l 11), none⟩,
  ⟨(some (false, 13)), .mv (.l 12), none⟩,
  ⟨(some (false, 14)), .fa (.g 3) 1, (some (.l 13, false))⟩,
  ⟨(some (false, 15)), .ld none (.l 14), (some (.l 13, false))⟩,
  ⟨(some (false, 16)), .mv (.g 1), (some (.l 13, false))⟩,
  ⟨(some (false, 17)), .mv (.g 2), (some (.l 13, false))⟩,
  ⟨(some (false, 18)), .call (.c (.fn 57 [])) [.l 15, .l 16, .l 17], (some (.l 13, false))⟩,
  ⟨(some (false, 19)), .un .not (.l 18), (some (.l 13, false))⟩,
  ⟨(some (true, 20)), .pick (.l 13) (.c (.lit (.bool true))) (.l 19), none⟩])
(.cond (.g 20)
(.seq
(.reg [
  ⟨(some (true, 6)), .mv (.c (.lit (.int .i64 2))), none⟩])
.ret)
.skip))
(.seq
(.seq
(.reg [
  ⟨(some (false, 21)), .fa (.g 3) 0, none⟩,
  ⟨(some (false, 22)), .ld none (.l 21), none⟩,
  ⟨(some (false, 23)), .fa (.g 3) 1, none⟩,
  ⟨(some (false, 24)), .ld none (.l 23), none⟩,
  ⟨(some (true, 25)), .bin .gtr (.l 22) (.l 24), none⟩])
(.cond (.g 25)
(.seq
(.reg [
  ⟨(some (true, 6)), .mv (.c (.lit (.int .i64 11))), none⟩])
.ret)
.skip))
(.seq
(.reg [
  ⟨(some (true, 6)), .mv (.c (.lit (.int .i64 0))), none⟩])
.ret))))
def K56 : List Nat := [0, 1, 2, 20, 25, 6, 3]
noncomputable def b56 : Code := match Tryz.f56.body with | some c => c | none => .skip
theorem t56 : trCode ⟨Tryz.prog, K56, [], 26, none⟩ b56 = some c56 := by kernel_rfl
theorem go56 {args : List AV} {H : AHeap} {Kk : AV → AHeap → Prop} (hn : args.length = 3) (h : AGo ⟨Tryz.prog, K56, [], 26, none⟩ H.length [.code c56] (RetP [.t (.g 6)] H.length Kk) ⟨[], argsG 0 args⟩ H) : ACalls Tryz.prog 56 args H Kk :=
  ACalls_of Tryz.func56 (c := b56) rfl (by kernel_rfl) t56 (rs := [.t (.g 6)]) (by kernel_rfl) (by rw [hn]; exact Nat.le_of_ble_eq_true rfl) (by rw [hn]; rfl) (h.weaken (fun _ _ => RetP.hands) (by simp))

/-- sastrugi/sastrugiref08.within -/
def c57 : ACode :=
  (.seq
(.reg [
  ⟨(some (true, 6)), .mv (.c (.lit (.bool false))), none⟩])
(.seq
(.reg [
  ⟨(some (false, 7)), .mv (.g 0), none⟩,
  ⟨(some (false, 8)), .mv (.g 1), none⟩,
  ⟨(some (false, 9)), .bin .geq (.l 7) (.l 8), none⟩,
  ⟨(some (false, 10)), .mv (.l 9), none⟩,
  ⟨(some (false, 11)), .mv (.g 0), (some (.l 10, true))⟩,
  ⟨(some (false, 12)), .mv (.g 2), (some (.l 10, true))⟩,
  ⟨(some (false, 13)), .bin .leq (.l 11) (.l 12), (some (.l 10, true))⟩,
  ⟨(some (false, 14)), .pick (.l 10) (.l 13) (.c (.lit (.bool false))), none⟩,
  ⟨(some (true, 6)), .mv (.l 14), none⟩])
.ret))
def K57 : List Nat := [0, 1, 2, 6]
noncomputable def b57 : Code := match Tryz.f57.body with | some c => c | none => .skip
theorem t57 : trCode ⟨Tryz.prog, K57, [], 15, none⟩ b57 = some c57 := by kernel_rfl
theorem go57 {args : List AV} {H : AHeap} {Kk : AV → AHeap → Prop} (hn : args.length = 3) (h : AGo ⟨Tryz.prog, K57, [], 15, none⟩ H.length [.code c57] (RetP [.t (.g 6)] H.length Kk) ⟨[], argsG 0 args⟩ H) : ACalls Tryz.prog 57 args H Kk :=
  ACalls_of Tryz.func57 (c := b57) rfl (by kernel_rfl) t57 (rs := [.t (.g 6)]) (by kernel_rfl) (by rw [hn]; exact Nat.le_of_ble_eq_true rfl) (by rw [hn]; rfl) (h.weaken (fun _ _ => RetP.hands) (by simp))

/-- sastrugi/freight.worst -/
def c42 : ACode :=
  (.seq
(.reg [
  ⟨(some (true, 1)), .box (.g 0), none⟩,
  ⟨(some (true, 2)), .new [.int .i64 0, .int .i64 0, .int .i64 0, .int .i64 0, .slice none 0 0, .slice none 0 0, .int .i64 0, .int .i64 0, .slice none 0 0], none⟩])
(.seq
(.reg [
  ⟨(some (false, 6)), .fa (.g 1) 0, none⟩,
  ⟨(some (false, 7)), .fa (.l 6) 1, none⟩,
  ⟨(some (false, 8)), .ld none (.l 7), none⟩,
  ⟨(some (false, 9)), .fa (.g 1) 2, none⟩,
  ⟨(some (false, 10)), .fa (.l 9) 0, none⟩,
  ⟨(some (false, 11)), .ld none (.l 10), none⟩,
  ⟨(some (false, 12)), .mk [.int .i64 0, .int .i64 0, .slice none 0 0] [(0, 1, .l 8), (1, 1, .l 11)], none⟩,
  ⟨(some (true, 3)), .new [.int .i64 0, .int .i64 0, .slice none 0 0], none⟩,
  ⟨none, .st 3 (.g 3) (.l 12), none⟩])
(.seq
(.seq
(.reg [
  ⟨(some (false, 13)), .fa (.g 1) 4, none⟩,
  ⟨(some (true, 14)), .ld none (.l 13), none⟩,
  ⟨(some (true, 15)), .len (.g 14), none⟩,
  ⟨(some (true, 16)), .mv (.c (.lit (.int .i64 0))), none⟩])
(.block 0
(.loop
(.seq
(.reg [
  ⟨(some (true, 17)), .bin .lss (.g 16) (.g 15), none⟩])
(.seq
(.cond (.g 17)
.skip
(.exit 0))
(.seq
(.block 1
(.seq
(.reg [
  ⟨(some (false, 18)), .ia 2 (.g 14) (.g 16), none⟩,
  ⟨(some (false, 19)), .ld (some 2) (.l 18), none⟩,
  ⟨(some (true, 5)), .new [.int .i64 0, .int .i64 0], none⟩,
  ⟨none, .st 2 (.g 5) (.l 19), none⟩])
(.reg [
  ⟨(some (false, 20)), .fa (.g 3) 2, none⟩,
  ⟨(some (false, 21)), .ld none (.l 20), none⟩,
  ⟨(some (false, 22)), .fa (.g 5) 0, none⟩,
  ⟨(some (false, 23)), .ld none (.l 22), none⟩,
  ⟨(some (false, 24)), .mks false 1 [.l 23], none⟩,
  ⟨(some (false, 25)), .app 1 8 (.l 21) (.l 24), none⟩,
  ⟨(some (false, 26)), .fa (.g 3) 2, none⟩,
  ⟨none, .st 1 (.l 26) (.l 25), none⟩])))
(.reg [
  ⟨(some (false, 27)), .bin .add (.g 16) (.c (.lit (.int .i64 1))), none⟩,
  ⟨(some (true, 16)), .mv (.l 27), none⟩])))))))
(.seq
(.reg [
  ⟨(some (false, 28)), .ld (some 6) (.g 1), none⟩,
  ⟨(some (false, 29)), .ld (some 3) (.g 3), none⟩,
  ⟨(some (false, 30)), .mk [.int .i64 0, .int .i64 0, .int .i64 0, .int .i64 0, .slice none 0 0, .slice none 0 0, .int .i64 0, .int .i64 0, .slice none 0 0] [(0, 6, .l 28), (6, 3, .l 29)], none⟩,
  ⟨none, .st 9 (.g 2) (.l 30), none⟩])
.ret))))
def K42 : List Nat := [0, 17, 2, 1, 3, 14, 15, 16, 5]
noncomputable def b42 : Code := match Tryz.f42.body with | some c => c | none => .skip
theorem t42 : trCode ⟨Tryz.prog, K42, [], 31, none⟩ b42 = some c42 := by kernel_rfl
theorem go42 {args : List AV} {H : AHeap} {Kk : AV → AHeap → Prop} (hn : args.length = 1) (h : AGo ⟨Tryz.prog, K42, [], 31, none⟩ H.length [.code c42] (RetP [.cell (.g 2) (some 9)] H.length Kk) ⟨[], argsG 0 args⟩ H) : ACalls Tryz.prog 42 args H Kk :=
  ACalls_of Tryz.func42 (c := b42) rfl (by kernel_rfl) t42 (rs := [.cell (.g 2) (some 9)]) (by kernel_rfl) (by rw [hn]; exact Nat.le_of_ble_eq_true rfl) (by rw [hn]; rfl) (h.weaken (fun _ _ => RetP.hands) (by simp))

/-- sastrugi/freight.plans -/
def c43 : ACode :=
  (.seq
(.reg [
  ⟨(some (true, 1)), .box (.g 0), none⟩,
  ⟨(some (true, 2)), .mv (.c (.lit (.nilFunc))), none⟩])
(.seq
(.reg [
  ⟨(some (false, 3)), .mkf 61 [.g 1], none⟩,
  ⟨(some (true, 2)), .mv (.l 3), none⟩])
.ret))
def K43 : List Nat := [0, 2, 1]
noncomputable def b43 : Code := match Tryz.f43.body with | some c => c | none => .skip
theorem t43 : trCode ⟨Tryz.prog, K43, [], 4, none⟩ b43 = some c43 := by kernel_rfl
theorem go43 {args : List AV} {H : AHeap} {Kk : AV → AHeap → Prop} (hn : args.length = 1) (h : AGo ⟨Tryz.prog, K43, [], 4, none⟩ H.length [.code c43] (RetP [.t (.g 2)] H.length Kk) ⟨[], argsG 0 args⟩ H) : ACalls Tryz.prog 43 args H Kk :=
  ACalls_of Tryz.func43 (c := b43) rfl (by kernel_rfl) t43 (rs := [.t (.g 2)]) (by kernel_rfl) (by rw [hn]; exact Nat.le_of_ble_eq_true rfl) (by rw [hn]; rfl) (h.weaken (fun _ _ => RetP.hands) (by simp))

/-- (sastrugi/freight.season).cost -/
def c44 : ACode :=
  (.seq
(.reg [
  ⟨(some (true, 2)), .box (.g 0), none⟩,
  ⟨(some (true, 4)), .mv (.c (.lit (.int .i64 0))), none⟩])
(.seq
(.draw [
  ⟨⟨(some (false, 8)), .ld (some 9) (.g 2), none⟩, 0, true, []⟩,
  ⟨⟨(some (false, 9)), .ld (some 9) (.g 2), none⟩, 1, true, []⟩,
  ⟨⟨(some (false, 10)), .mv (.g 1), none⟩, 2, true, []⟩,
  ⟨⟨(some (false, 11)), .call (.c (.fn 66 [])) [.l 9, .l 10], none⟩, 3, false, []⟩,
  ⟨⟨(some (false, 12)), .call (.c (.fn 65 [])) [.l 8, .l 11], none⟩, 4, false, []⟩,
  ⟨⟨(some (false, 7)), .mv (.l 12), none⟩, 5, true, []⟩,
  ⟨⟨(some (false, 13)), .ex (.l 7) 0, none⟩, 6, true, []⟩,
  ⟨⟨(some (false, 14)), .ex (.l 7) 1, none⟩, 7, true, []⟩,
  ⟨⟨(some (false, 5)), .mv (.l 13), none⟩, 8, true, []⟩,
  ⟨⟨(some (true, 6)), .mv (.l 14), none⟩, 9, true, []⟩])
(.seq
(.reg [
  ⟨(some (false, 15)), .mv (.g 6), none⟩,
  ⟨(some (true, 4)), .mv (.l 15), none⟩])
.ret)))
def K44 : List Nat := [0, 1, 4, 2, 6]
noncomputable def b44 : Code := match Tryz.f44.body with | some c => c | none => .skip
theorem t44 : trCode ⟨Tryz.prog, K44, [], 16, none⟩ b44 = some c44 := by kernel_rfl
theorem go44 {args : List AV} {H : AHeap} {Kk : AV → AHeap → Prop} (hn : args.length = 2) (h : AGo ⟨Tryz.prog, K44, [], 16, none⟩ H.length [.code c44] (RetP [.t (.g 4)] H.length Kk) ⟨[], argsG 0 args⟩ H) : ACalls Tryz.prog 44 args H Kk :=
  ACalls_of Tryz.func44 (c := b44) rfl (by kernel_rfl) t44 (rs := [.t (.g 4)]) (by kernel_rfl) (by rw [hn]; exact Nat.le_of_ble_eq_true rfl) (by rw [hn]; rfl) (h.weaken (fun _ _ => RetP.hands) (by simp))

/-- (sastrugi/freight.season).room -/
def c45 : ACode :=
  (.seq
(.reg [
  ⟨(some (true, 2)), .box (.g 0), none⟩,
  ⟨(some (true, 4)), .mv (.c (.lit (.int .i64 0))), none⟩])
(.seq
(.seq
(.reg [
  ⟨(some (false, 5)), .mv (.g 1), none⟩,
  ⟨(some (false, 6)), .fa (.g 2) 6, none⟩,
  ⟨(some (false, 7)), .fa (.l 6) 0, none⟩,
  ⟨(some (false, 8)), .ld none (.l 7), none⟩,
  ⟨(some (false, 9)), .fa (.g 2) 6, none⟩,
  ⟨(some (false, 10)), .fa (.l 9) 1, none⟩,
  ⟨(some (false, 11)), .ld none (.l 10), none⟩,
  ⟨(some (false, 12)), .call (.c (.fn 53 [])) [.l 5, .l 8, .l 11], none⟩,
  ⟨(some (true, 13)), .un .not (.l 12), none⟩])
(.cond (.g 13)
(.seq
(.reg [
  ⟨(some (true, 4)), .mv (.c (.lit (.int .i64 0))), none⟩])
.ret)
.skip))
(.seq
(.reg [
  ⟨(some (false, 14)), .fa (.g 2) 6, none⟩,
  ⟨(some (false, 15)), .fa (.l 14) 2, none⟩,
  ⟨(some (false, 16)), .ld none (.l 15), none⟩,
  ⟨(some (false, 17)), .mv (.g 1), none⟩,
  ⟨(some (false, 18)), .ia 1 (.l 16) (.l 17), none⟩,
  ⟨(some (false, 19)), .ld none (.l 18), none⟩,
  ⟨(some (true, 4)), .mv (.l 19), none⟩])
.ret)))
def K45 : List Nat := [0, 1, 13, 4, 2]
noncomputable def b45 : Code := match Tryz.f45.body with | some c => c | none => .skip
theorem t45 : trCode ⟨Tryz.prog, K45, [], 20, none⟩ b45 = some c45 := by kernel_rfl
theorem go45 {args : List AV} {H : AHeap} {Kk : AV → AHeap → Prop} (hn : args.length = 2) (h : AGo ⟨Tryz.prog, K45, [], 20, none⟩ H.length [.code c45] (RetP [.t (.g 4)] H.length Kk) ⟨[], argsG 0 args⟩ H) : ACalls Tryz.prog 45 args H Kk :=
  ACalls_of Tryz.func45 (c := b45) rfl (by kernel_rfl) t45 (rs := [.t (.g 4)]) (by kernel_rfl) (by rw [hn]; exact Nat.le_of_ble_eq_true rfl) (by rw [hn]; rfl) (h.weaken (fun _ _ => RetP.hands) (by simp))

end Go.Sas
