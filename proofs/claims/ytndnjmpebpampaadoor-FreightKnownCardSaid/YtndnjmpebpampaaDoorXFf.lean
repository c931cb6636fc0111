/-
The code of some functions with its types resolved, printed by a program; that it is the code is checked by the kernel.
The code of some functions with its types resolved, printed by a program; that it is the code is checked by the kernel.
The code of some functions with its types resolved, printed by a program; that it is the code is checked by the kernel.
Conditions: none.
-/
import Derived.Test.YtndnjmpebpampaaDoorP4f
import Derived.Test.YtndnjmpebpampaaDoorProg
set_option linter.unusedVariables false
set_option linter.unusedSimpArgs false
namespace Go.Sas
open Go.Proofs
set_option maxRecDepth 100000
/-- sastrugi/sastrugilaw08.awake -/
def c5 : ACode :=
  (.seq
(.reg [
  ⟨(some (true, 0)), .mv (.c (.lit (.bool false))), none⟩])
(.seq
(.reg [
  ⟨(some (false, 9)), .call (.c (.fn 4 [])) [], none⟩,
  ⟨(some (false, 10)), .call (.c (.fn 18 [])) [.l 9], none⟩,
  ⟨(some (false, 8)), .mv (.l 10), none⟩,
  ⟨(some (false, 11)), .ex (.l 8) 0, none⟩,
  ⟨(some (false, 12)), .ex (.l 8) 1, none⟩,
  ⟨(some (false, 13)), .ex (.l 8) 2, none⟩,
  ⟨(some (true, 1)), .mv (.l 11), none⟩,
  ⟨(some (true, 2)), .mv (.l 12), none⟩,
  ⟨(some (true, 3)), .mv (.l 13), none⟩])
(.seq
(.reg [
  ⟨(some (false, 15)), .call (.c (.fn 4 [])) [], none⟩,
  ⟨(some (false, 16)), .call (.c (.fn 19 [])) [.l 15], none⟩,
  ⟨(some (false, 14)), .mv (.l 16), none⟩,
  ⟨(some (false, 17)), .ex (.l 14) 0, none⟩,
  ⟨(some (false, 18)), .ex (.l 14) 1, none⟩,
  ⟨(some (true, 4)), .mv (.l 17), none⟩,
  ⟨(some (true, 5)), .mv (.l 18), none⟩])
(.seq
(.reg [
  ⟨(some (false, 20)), .call (.c (.fn 4 [])) [], none⟩,
  ⟨(some (false, 21)), .mks false 1 [.c (.lit (.int .i64 1)), .c (.lit (.int .i64 0))], none⟩,
  ⟨(some (false, 22)), .call (.c (.fn 13 [])) [.l 20, .l 21], none⟩,
  ⟨(some (false, 19)), .mv (.l 22), none⟩,
  ⟨(some (false, 23)), .ex (.l 19) 0, none⟩,
  ⟨(some (false, 24)), .ex (.l 19) 1, none⟩,
  ⟨(some (true, 6)), .new [.int .i64 0, .int .i64 0], none⟩,
  ⟨none, .st 2 (.g 6) (.l 23), none⟩,
  ⟨(some (true, 7)), .mv (.l 24), none⟩])
(.seq
(.draw [
  ⟨⟨(some (false, 25)), .mv (.g 3), none⟩, 0, true, []⟩,
  ⟨⟨(some (false, 26)), .bin .eql (.l 25) (.c (.lit (.int .i64 0))), none⟩, 1, true, []⟩,
  ⟨⟨(some (false, 27)), .mv (.l 26), none⟩, 2, true, []⟩,
  ⟨⟨(some (false, 28)), .mv (.g 5), (some (.l 27, true))⟩, 3, true, []⟩,
  ⟨⟨(some (false, 29)), .bin .eql (.l 28) (.c (.lit (.int .i64 0))), (some (.l 27, true))⟩, 4, true, []⟩,
  ⟨⟨(some (false, 30)), .pick (.l 27) (.l 29) (.c (.lit (.bool false))), none⟩, 5, true, []⟩,
  ⟨⟨(some (false, 31)), .mv (.l 30), none⟩, 6, true, []⟩,
  ⟨⟨(some (false, 32)), .mv (.g 7), (some (.l 31, true))⟩, 7, true, []⟩,
  ⟨⟨(some (false, 33)), .bin .eql (.l 32) (.c (.lit (.int .i64 0))), (some (.l 31, true))⟩, 8, true, []⟩,
  ⟨⟨(some (false, 34)), .pick (.l 31) (.l 33) (.c (.lit (.bool false))), none⟩, 9, true, []⟩,
  ⟨⟨(some (false, 35)), .mv (.l 34), none⟩, 10, true, []⟩,
  ⟨⟨(some (false, 36)), .mv (.g 2), (some (.l 35, true))⟩, 11, true, []⟩,
  ⟨⟨(some (false, 37)), .bin .eql (.l 36) (.c (.lit (.int .i64 30))), (some (.l 35, true))⟩, 12, true, []⟩,
  ⟨⟨(some (false, 38)), .pick (.l 35) (.l 37) (.c (.lit (.bool false))), none⟩, 13, true, []⟩,
  ⟨⟨(some (false, 39)), .mv (.l 38), none⟩, 14, true, []⟩,
  ⟨⟨(some (false, 40)), .mv (.g 4), (some (.l 39, true))⟩, 15, true, []⟩,
  ⟨⟨(some (false, 41)), .bin .eql (.l 40) (.c (.lit (.int .i64 30))), (some (.l 39, true))⟩, 16, true, []⟩,
  ⟨⟨(some (false, 42)), .pick (.l 39) (.l 41) (.c (.lit (.bool false))), none⟩, 17, true, []⟩,
  ⟨⟨(some (false, 43)), .mv (.l 42), none⟩, 18, true, []⟩,
  ⟨⟨(some (false, 44)), .ld (some 2) (.g 6), (some (.l 43, true))⟩, 19, true, []⟩,
  ⟨⟨(some (false, 45)), .call (.c (.fn 15 [])) [.c (.lit (.int .i64 0)), .c (.lit (.int .i64 65))], (some (.l 43, true))⟩, 20, false, []⟩,
  ⟨⟨(some (false, 46)), .eqs false (.fld 0 none .i (.fld 1 none .i .nil)) (.l 44) (.l 45), (some (.l 43, true))⟩, 21, true, []⟩,
  ⟨⟨(some (false, 47)), .pick (.l 43) (.l 46) (.c (.lit (.bool false))), none⟩, 22, true, []⟩,
  ⟨⟨(some (false, 48)), .mv (.l 47), none⟩, 23, true, []⟩,
  ⟨⟨(some (false, 49)), .mv (.g 1), (some (.l 48, true))⟩, 24, true, []⟩,
  ⟨⟨(some (false, 50)), .mks false 1 [.c (.lit (.int .i64 0)), .c (.lit (.int .i64 1))], (some (.l 48, true))⟩, 25, true, []⟩,
  ⟨⟨(some (false, 51)), .call (.c (.fn 16 [])) [.l 49, .l 50], (some (.l 48, true))⟩, 26, false, []⟩,
  ⟨⟨(some (false, 52)), .pick (.l 48) (.l 51) (.c (.lit (.bool false))), none⟩, 27, true, []⟩,
  ⟨⟨(some (true, 0)), .mv (.l 52), none⟩, 28, true, []⟩])
.ret)))))
def K5 : List Nat := [0, 1, 2, 3, 4, 5, 6, 7]
noncomputable def b5 : Code := match Tryd.f5.body with | some c => c | none => .skip
theorem t5 : trCode ⟨Tryd.prog, K5, [], 53, none⟩ b5 = some c5 := by kernel_rfl
theorem go5 {args : List AV} {H : AHeap} {Kk : AV → AHeap → Prop} (hn : args.length = 0) (h : AGo ⟨Tryd.prog, K5, [], 53, none⟩ H.length [.code c5] (RetP [.t (.g 0)] H.length Kk) ⟨[], argsG 0 args⟩ H) : ACalls Tryd.prog 5 args H Kk :=
  ACalls_of Tryd.func5 (c := b5) rfl (by kernel_rfl) t5 (rs := [.t (.g 0)]) (by kernel_rfl) (by rw [hn]; exact Nat.le_of_ble_eq_true rfl) (by rw [hn]; rfl) (h.weaken (fun _ _ => RetP.hands) (by simp))

/-- sastrugi/freight.Check -/
def c6 : ACode :=
  (.seq
(.reg [
  ⟨(some (true, 1)), .box (.g 0), none⟩,
  ⟨(some (true, 2)), .mv (.c (.lit (.int .i64 0))), none⟩])
(.seq
(.block 0
(.seq
(.reg [
  ⟨(some (false, 12)), .fa (.g 1) 4, none⟩,
  ⟨(some (false, 13)), .ld none (.l 12), none⟩,
  ⟨(some (false, 14)), .len (.l 13), none⟩,
  ⟨(some (false, 15)), .bin .eql (.l 14) (.c (.lit (.int .i64 0))), none⟩,
  ⟨(some (true, 11)), .mv (.l 15), none⟩])
(.cond (.g 11)
(.seq
(.reg [
  ⟨(some (true, 2)), .mv (.c (.lit (.int .i64 6))), none⟩])
.ret)
(.seq
(.reg [
  ⟨(some (false, 17)), .fa (.g 1) 4, none⟩,
  ⟨(some (false, 18)), .ld none (.l 17), none⟩,
  ⟨(some (false, 19)), .len (.l 18), none⟩,
  ⟨(some (false, 20)), .bin .gtr (.l 19) (.c (.lit (.int .i64 200))), none⟩,
  ⟨(some (true, 16)), .mv (.l 20), none⟩])
(.cond (.g 16)
(.seq
(.reg [
  ⟨(some (true, 2)), .mv (.c (.lit (.int .i64 8))), none⟩])
.ret)
.skip)))))
(.seq
(.seq
(.reg [
  ⟨(some (false, 21)), .fa (.g 1) 4, none⟩,
  ⟨(some (true, 22)), .ld none (.l 21), none⟩,
  ⟨(some (true, 23)), .len (.g 22), none⟩,
  ⟨(some (true, 24)), .mv (.c (.lit (.int .i64 0))), none⟩])
(.block 1
(.loop
(.seq
(.reg [
  ⟨(some (true, 25)), .bin .lss (.g 24) (.g 23), none⟩])
(.seq
(.cond (.g 25)
.skip
(.exit 1))
(.seq
(.block 2
(.seq
(.reg [
  ⟨(some (false, 26)), .ia 2 (.g 22) (.g 24), none⟩,
  ⟨(some (false, 27)), .ld (some 2) (.l 26), none⟩,
  ⟨(some (true, 4)), .new [.int .i64 0, .int .i64 0], none⟩,
  ⟨none, .st 2 (.g 4) (.l 27), none⟩])
(.seq
(.reg [
  ⟨(some (false, 28)), .ld (some 2) (.g 4), none⟩,
  ⟨(some (false, 29)), .call (.c (.fn 20 [])) [.l 28, .c (.lit (.int .i64 0)), .c (.lit (.int .i64 1000000))], none⟩,
  ⟨(some (true, 5)), .mv (.l 29), none⟩])
(.seq
(.reg [
  ⟨(some (false, 30)), .mv (.g 5), none⟩,
  ⟨(some (true, 31)), .bin .neq (.l 30) (.c (.lit (.int .i64 0))), none⟩])
(.cond (.g 31)
(.seq
(.reg [
  ⟨(some (false, 32)), .mv (.g 5), none⟩,
  ⟨(some (true, 2)), .mv (.l 32), none⟩])
.ret)
.skip)))))
(.reg [
  ⟨(some (false, 33)), .bin .add (.g 24) (.c (.lit (.int .i64 1))), none⟩,
  ⟨(some (true, 24)), .mv (.l 33), none⟩])))))))
(.seq
(.seq
(.reg [
  ⟨(some (false, 34)), .fa (.g 1) 0, none⟩,
  ⟨(some (false, 35)), .ld (some 2) (.l 34), none⟩,
  ⟨(some (false, 36)), .fa (.g 1) 2, none⟩,
  ⟨(some (false, 37)), .ld (some 2) (.l 36), none⟩,
  ⟨(some (true, 38)), .mk [.int .i64 0, .int .i64 0, .int .i64 0, .int .i64 0] [(0, 2, .l 35), (2, 2, .l 37)], none⟩,
  ⟨(some (true, 39)), .mv (.c (.lit (.int .i64 0))), none⟩])
(.block 3
(.loop
(.seq
(.reg [
  ⟨(some (true, 40)), .bin .lss (.g 39) (.c (.lit (.int .i64 2))), none⟩])
(.seq
(.cond (.g 40)
.skip
(.exit 3))
(.seq
(.block 4
(.seq
(.reg [
  ⟨(some (false, 41)), .ix 2 2 (some 2) (.g 38) (.g 39), none⟩,
  ⟨(some (true, 7)), .new [.int .i64 0, .int .i64 0], none⟩,
  ⟨none, .st 2 (.g 7) (.l 41), none⟩])
(.seq
(.reg [
  ⟨(some (false, 42)), .ld (some 2) (.g 7), none⟩,
  ⟨(some (false, 43)), .fa (.g 1) 4, none⟩,
  ⟨(some (false, 44)), .ld none (.l 43), none⟩,
  ⟨(some (false, 45)), .len (.l 44), none⟩,
  ⟨(some (false, 46)), .bin .sub (.l 45) (.c (.lit (.int .i64 1))), none⟩,
  ⟨(some (false, 47)), .call (.c (.fn 20 [])) [.l 42, .c (.lit (.int .i64 0)), .l 46], none⟩,
  ⟨(some (true, 8)), .mv (.l 47), none⟩])
(.seq
(.reg [
  ⟨(some (false, 48)), .mv (.g 8), none⟩,
  ⟨(some (true, 49)), .bin .neq (.l 48) (.c (.lit (.int .i64 0))), none⟩])
(.cond (.g 49)
(.seq
(.reg [
  ⟨(some (false, 50)), .mv (.g 8), none⟩,
  ⟨(some (true, 2)), .mv (.l 50), none⟩])
.ret)
.skip)))))
(.reg [
  ⟨(some (false, 51)), .bin .add (.g 39) (.c (.lit (.int .i64 1))), none⟩,
  ⟨(some (true, 39)), .mv (.l 51), none⟩])))))))
(.seq
(.block 5
(.seq
(.reg [
  ⟨(some (false, 53)), .fa (.g 1) 5, none⟩,
  ⟨(some (false, 54)), .ld none (.l 53), none⟩,
  ⟨(some (false, 55)), .len (.l 54), none⟩,
  ⟨(some (false, 56)), .bin .eql (.l 55) (.c (.lit (.int .i64 0))), none⟩,
  ⟨(some (true, 52)), .mv (.l 56), none⟩])
(.cond (.g 52)
(.seq
(.reg [
  ⟨(some (true, 2)), .mv (.c (.lit (.int .i64 6))), none⟩])
.ret)
(.seq
(.reg [
  ⟨(some (false, 58)), .fa (.g 1) 5, none⟩,
  ⟨(some (false, 59)), .ld none (.l 58), none⟩,
  ⟨(some (false, 60)), .len (.l 59), none⟩,
  ⟨(some (false, 61)), .bin .gtr (.l 60) (.c (.lit (.int .i64 6))), none⟩,
  ⟨(some (true, 57)), .mv (.l 61), none⟩])
(.cond (.g 57)
(.seq
(.reg [
  ⟨(some (true, 2)), .mv (.c (.lit (.int .i64 8))), none⟩])
.ret)
.skip)))))
(.seq
(.seq
(.reg [
  ⟨(some (false, 62)), .fa (.g 1) 5, none⟩,
  ⟨(some (true, 63)), .ld none (.l 62), none⟩,
  ⟨(some (true, 64)), .len (.g 63), none⟩,
  ⟨(some (true, 65)), .mv (.c (.lit (.int .i64 0))), none⟩])
(.block 6
(.loop
(.seq
(.reg [
  ⟨(some (true, 66)), .bin .lss (.g 65) (.g 64), none⟩])
(.seq
(.cond (.g 66)
.skip
(.exit 6))
(.seq
(.block 7
(.seq
(.reg [
  ⟨(some (false, 67)), .ia 4 (.g 63) (.g 65), none⟩,
  ⟨(some (false, 68)), .ld (some 4) (.l 67), none⟩,
  ⟨(some (true, 10)), .new [.int .i64 0, .int .i64 0, .int .i64 0, .int .i64 0], none⟩,
  ⟨none, .st 4 (.g 10) (.l 68), none⟩])
(.block 8
(.seq
(.reg [
  ⟨(some (false, 70)), .fa (.g 10) 0, none⟩,
  ⟨(some (false, 71)), .ld none (.l 70), none⟩,
  ⟨(some (false, 72)), .call (.c (.fn 21 [])) [.l 71, .c (.lit (.int .i64 1)), .c (.lit (.int .i64 1000000))], none⟩,
  ⟨(some (false, 73)), .un .not (.l 72), none⟩,
  ⟨(some (false, 74)), .mv (.l 73), none⟩,
  ⟨(some (false, 75)), .fa (.g 10) 1, (some (.l 74, false))⟩,
  ⟨(some (false, 76)), .ld none (.l 75), (some (.l 74, false))⟩,
  ⟨(some (false, 77)), .call (.c (.fn 21 [])) [.l 76, .c (.lit (.int .i64 0)), .c (.lit (.int .i64 200))], (some (.l 74, false))⟩,
  ⟨(some (false, 78)), .un .not (.l 77), (some (.l 74, false))⟩,
  ⟨(some (false, 79)), .pick (.l 74) (.c (.lit (.bool true))) (.l 78), none⟩,
  ⟨(some (false, 80)), .mv (.l 79), none⟩,
  ⟨(some (false, 81)), .fa (.g 10) 2, (some (.l 80, false))⟩,
  ⟨(some (false, 82)), .ld none (.l 81), (some (.l 80, false))⟩,
  ⟨(some (false, 83)), .call (.c (.fn 21 [])) [.l 82, .c (.lit (.int .i64 0)), .c (.lit (.int .i64 1000000))], (some (.l 80, false))⟩,
  ⟨(some (false, 84)), .un .not (.l 83), (some (.l 80, false))⟩,
  ⟨(some (false, 85)), .pick (.l 80) (.c (.lit (.bool true))) (.l 84), none⟩,
  ⟨(some (false, 86)), .mv (.l 85), none⟩,
  ⟨(some (false, 87)), .fa (.g 10) 3, (some (.l 86, false))⟩,
  ⟨(some (false, 88)), .ld none (.l 87), (some (.l 86, false))⟩,
  ⟨(some (false, 89)), .call (.c (.fn 21 [])) [.l 88, .c (.lit (.int .i64 0)), .c (.lit (.int .i64 1000000))], (some (.l 86, false))⟩,
  ⟨(some (false, 90)), .un .not (.l 89), (some (.l 86, false))⟩,
  ⟨(some (false, 91)), .pick (.l 86) (.c (.lit (.bool true))) (.l 90), none⟩,
  ⟨(some (true, 69)), .mv (.l 91), none⟩])
(.cond (.g 69)
(.seq
(.reg [
  ⟨(some (true, 2)), .mv (.c (.lit (.int .i64 2))), none⟩])
.ret)
(.seq
(.reg [
  ⟨(some (false, 93)), .fa (.g 10) 2, none⟩,
  ⟨(some (false, 94)), .ld none (.l 93), none⟩,
  ⟨(some (false, 95)), .fa (.g 10) 3, none⟩,
  ⟨(some (false, 96)), .ld none (.l 95), none⟩,
  ⟨(some (false, 97)), .bin .gtr (.l 94) (.l 96), none⟩,
  ⟨(some (true, 92)), .mv (.l 97), none⟩])
(.cond (.g 92)
(.seq
(.reg [
  ⟨(some (true, 2)), .mv (.c (.lit (.int .i64 11))), none⟩])
.ret)
.skip)))))))
(.reg [
  ⟨(some (false, 98)), .bin .add (.g 65) (.c (.lit (.int .i64 1))), none⟩,
  ⟨(some (true, 65)), .mv (.l 98), none⟩])))))))
(.seq
(.reg [
  ⟨(some (true, 2)), .mv (.c (.lit (.int .i64 0))), none⟩])
.ret)))))))
def K6 : List Nat := [0, 11, 16, 25, 31, 40, 49, 52, 57, 66, 69, 92, 2, 1, 22, 23, 24, 4, 5, 38, 39, 7, 8, 63, 64, 65, 10]
noncomputable def b6 : Code := match Tryd.f6.body with | some c => c | none => .skip
theorem t6 : trCode ⟨Tryd.prog, K6, [], 99, none⟩ b6 = some c6 := by kernel_rfl
theorem go6 {args : List AV} {H : AHeap} {Kk : AV → AHeap → Prop} (hn : args.length = 1) (h : AGo ⟨Tryd.prog, K6, [], 99, none⟩ H.length [.code c6] (RetP [.t (.g 2)] H.length Kk) ⟨[], argsG 0 args⟩ H) : ACalls Tryd.prog 6 args H Kk :=
  ACalls_of Tryd.func6 (c := b6) rfl (by kernel_rfl) t6 (rs := [.t (.g 2)]) (by kernel_rfl) (by rw [hn]; exact Nat.le_of_ble_eq_true rfl) (by rw [hn]; rfl) (h.weaken (fun _ _ => RetP.hands) (by simp))

/-- sastrugi/freight.Best -/
def c18 : ACode :=
  (.seq
(.reg [
  ⟨(some (true, 1)), .box (.g 0), none⟩,
  ⟨(some (true, 2)), .new [.slice none 0 0], none⟩,
  ⟨(some (true, 3)), .new [.int .i64 0], none⟩,
  ⟨(some (true, 4)), .mv (.c (.lit (.int .i64 0))), none⟩])
(.seq
(.seq
(.reg [
  ⟨(some (false, 9)), .ld (some 6) (.g 1), none⟩,
  ⟨(some (false, 10)), .call (.c (.fn 6 [])) [.l 9], none⟩,
  ⟨(some (true, 5)), .mv (.l 10), none⟩])
(.seq
(.reg [
  ⟨(some (false, 11)), .mv (.g 5), none⟩,
  ⟨(some (true, 12)), .bin .neq (.l 11) (.c (.lit (.int .i64 0))), none⟩])
(.cond (.g 12)
(.seq
(.reg [
  ⟨(some (false, 13)), .mv (.g 5), none⟩,
  ⟨none, .st 1 (.g 2) (.c (.lit (.slice none 0 0))), none⟩,
  ⟨none, .st 1 (.g 3) (.c (.lit (.int .i64 0))), none⟩,
  ⟨(some (true, 4)), .mv (.l 13), none⟩])
.ret)
.skip)))
(.seq
(.reg [
  ⟨(some (false, 14)), .ld (some 6) (.g 1), none⟩,
  ⟨(some (false, 15)), .call (.c (.fn 30 [])) [.l 14], none⟩,
  ⟨(some (true, 6)), .new [.int .i64 0, .int .i64 0, .int .i64 0, .int .i64 0, .slice none 0 0, .slice none 0 0, .int .i64 0, .int .i64 0, .slice none 0 0], none⟩,
  ⟨none, .st 9 (.g 6) (.l 15), none⟩])
(.seq
(.seq
(.reg [
  ⟨(some (false, 16)), .fa (.g 1) 5, none⟩,
  ⟨(some (false, 17)), .ld none (.l 16), none⟩,
  ⟨(some (false, 18)), .len (.l 17), none⟩,
  ⟨(some (true, 19)), .call (.c (.fn 34 [])) [.l 18], none⟩])
(.block 0
(.rng (.g 19) [20]
(.reg [
  ⟨(some (true, 7)), .mv (.g 20), none⟩])
(.block 1
(.seq
(.reg [
  ⟨(some (false, 21)), .ld (some 9) (.g 6), none⟩,
  ⟨(some (false, 22)), .mv (.g 7), none⟩,
  ⟨(some (false, 23)), .call (.c (.fn 29 [])) [.l 21, .l 22], none⟩,
  ⟨(some (true, 8)), .mv (.l 23), none⟩])
(.seq
(.reg [
  ⟨(some (false, 24)), .ld none (.g 2), none⟩,
  ⟨(some (false, 25)), .eqn false (.l 24), none⟩,
  ⟨(some (false, 26)), .mv (.l 25), none⟩,
  ⟨(some (false, 27)), .mv (.g 8), (some (.l 26, false))⟩,
  ⟨(some (false, 28)), .ld none (.g 3), (some (.l 26, false))⟩,
  ⟨(some (false, 29)), .bin .lss (.l 27) (.l 28), (some (.l 26, false))⟩,
  ⟨(some (true, 30)), .pick (.l 26) (.c (.lit (.bool true))) (.l 29), none⟩])
(.cond (.g 30)
(.reg [
  ⟨(some (false, 31)), .mv (.g 7), none⟩,
  ⟨(some (false, 32)), .mv (.g 8), none⟩,
  ⟨none, .st 1 (.g 2) (.l 31), none⟩,
  ⟨none, .st 1 (.g 3) (.l 32), none⟩])
.skip)))))))
(.seq
(.draw [
  ⟨⟨(some (false, 33)), .ld none (.g 2), none⟩, 0, true, []⟩,
  ⟨⟨(some (false, 34)), .ld none (.g 3), none⟩, 1, false, []⟩,
  ⟨⟨none, .st 1 (.g 2) (.l 33), none⟩, 2, false, []⟩,
  ⟨⟨none, .st 1 (.g 3) (.l 34), none⟩, 3, false, []⟩,
  ⟨⟨(some (true, 4)), .mv (.c (.lit (.int .i64 0))), none⟩, 4, false, []⟩])
.ret)))))
def K18 : List Nat := [0, 12, 19, 20, 30, 2, 3, 4, 1, 5, 6, 7, 8]
noncomputable def b18 : Code := match Tryd.f18.body with | some c => c | none => .skip
theorem t18 : trCode ⟨Tryd.prog, K18, [], 35, none⟩ b18 = some c18 := by kernel_rfl
theorem go18 {args : List AV} {H : AHeap} {Kk : AV → AHeap → Prop} (hn : args.length = 1) (h : AGo ⟨Tryd.prog, K18, [], 35, none⟩ H.length [.code c18] (RetP [.cell (.g 2) none, .cell (.g 3) none, .t (.g 4)] H.length Kk) ⟨[], argsG 0 args⟩ H) : ACalls Tryd.prog 18 args H Kk :=
  ACalls_of Tryd.func18 (c := b18) rfl (by kernel_rfl) t18 (rs := [.cell (.g 2) none, .cell (.g 3) none, .t (.g 4)]) (by kernel_rfl) (by rw [hn]; exact Nat.le_of_ble_eq_true rfl) (by rw [hn]; rfl) (h.weaken (fun _ _ => RetP.hands) (by simp))

/-- sastrugi/freight.Bound -/
def c19 : ACode :=
  (.seq
(.reg [
  ⟨(some (true, 1)), .box (.g 0), none⟩,
  ⟨(some (true, 2)), .mv (.c (.lit (.int .i64 0))), none⟩,
  ⟨(some (true, 3)), .mv (.c (.lit (.int .i64 0))), none⟩])
(.seq
(.seq
(.reg [
  ⟨(some (false, 21)), .ld (some 6) (.g 1), none⟩,
  ⟨(some (false, 22)), .call (.c (.fn 6 [])) [.l 21], none⟩,
  ⟨(some (true, 4)), .mv (.l 22), none⟩])
(.seq
(.reg [
  ⟨(some (false, 23)), .mv (.g 4), none⟩,
  ⟨(some (true, 24)), .bin .neq (.l 23) (.c (.lit (.int .i64 0))), none⟩])
(.cond (.g 24)
(.seq
(.reg [
  ⟨(some (false, 25)), .mv (.g 4), none⟩,
  ⟨(some (true, 2)), .mv (.c (.lit (.int .i64 0))), none⟩,
  ⟨(some (true, 3)), .mv (.l 25), none⟩])
.ret)
.skip)))
(.seq
(.reg [
  ⟨(some (false, 26)), .ld (some 6) (.g 1), none⟩,
  ⟨(some (false, 27)), .call (.c (.fn 30 [])) [.l 26], none⟩,
  ⟨(some (true, 5)), .new [.int .i64 0, .int .i64 0, .int .i64 0, .int .i64 0, .slice none 0 0, .slice none 0 0, .int .i64 0, .int .i64 0, .slice none 0 0], none⟩,
  ⟨none, .st 9 (.g 5) (.l 27), none⟩])
(.seq
(.reg [
  ⟨(some (true, 6)), .mv (.c (.lit (.slice none 0 0))), none⟩])
(.seq
(.reg [
  ⟨(some (true, 7)), .mv (.c (.lit (.int .i64 0))), none⟩])
(.seq
(.seq
(.reg [
  ⟨(some (false, 28)), .fa (.g 1) 4, none⟩,
  ⟨(some (false, 29)), .ld none (.l 28), none⟩,
  ⟨(some (true, 30)), .len (.l 29), none⟩,
  ⟨(some (true, 31)), .mv (.c (.lit (.int .i64 0))), none⟩])
(.block 0
(.loop
(.seq
(.reg [
  ⟨(some (true, 32)), .bin .lss (.g 31) (.g 30), none⟩])
(.seq
(.cond (.g 32)
.skip
(.exit 0))
(.seq
(.block 1
(.seq
(.reg [
  ⟨(some (false, 33)), .mv (.g 31), none⟩,
  ⟨(some (true, 8)), .mv (.l 33), none⟩])
(.seq
(.reg [
  ⟨(some (false, 34)), .mv (.g 7), none⟩,
  ⟨(some (false, 35)), .ld (some 9) (.g 5), none⟩,
  ⟨(some (false, 36)), .mv (.g 8), none⟩,
  ⟨(some (false, 37)), .call (.c (.fn 35 [])) [.l 35, .l 36], none⟩,
  ⟨(some (false, 38)), .bin .add (.l 34) (.l 37), none⟩,
  ⟨(some (true, 7)), .mv (.l 38), none⟩])
(.reg [
  ⟨(some (false, 39)), .mv (.g 6), none⟩,
  ⟨(some (false, 40)), .mv (.g 7), none⟩,
  ⟨(some (false, 41)), .mks false 1 [.l 40], none⟩,
  ⟨(some (false, 42)), .app 1 8 (.l 39) (.l 41), none⟩,
  ⟨(some (true, 6)), .mv (.l 42), none⟩]))))
(.reg [
  ⟨(some (false, 43)), .bin .add (.g 31) (.c (.lit (.int .i64 1))), none⟩,
  ⟨(some (true, 31)), .mv (.l 43), none⟩])))))))
(.seq
(.reg [
  ⟨(some (true, 9)), .mv (.c (.lit (.int .i64 0))), none⟩])
(.seq
(.seq
(.reg [
  ⟨(some (false, 44)), .fa (.g 1) 5, none⟩,
  ⟨(some (true, 45)), .ld none (.l 44), none⟩,
  ⟨(some (true, 46)), .len (.g 45), none⟩,
  ⟨(some (true, 47)), .mv (.c (.lit (.int .i64 0))), none⟩])
(.block 2
(.loop
(.seq
(.reg [
  ⟨(some (true, 48)), .bin .lss (.g 47) (.g 46), none⟩])
(.seq
(.cond (.g 48)
.skip
(.exit 2))
(.seq
(.block 3
(.seq
(.reg [
  ⟨(some (false, 49)), .ia 4 (.g 45) (.g 47), none⟩,
  ⟨(some (false, 50)), .ld (some 4) (.l 49), none⟩,
  ⟨(some (true, 11)), .new [.int .i64 0, .int .i64 0, .int .i64 0, .int .i64 0], none⟩,
  ⟨none, .st 4 (.g 11) (.l 50), none⟩])
(.reg [
  ⟨(some (false, 51)), .mv (.g 9), none⟩,
  ⟨(some (false, 52)), .fa (.g 11) 0, none⟩,
  ⟨(some (false, 53)), .ld none (.l 52), none⟩,
  ⟨(some (false, 54)), .fa (.g 11) 3, none⟩,
  ⟨(some (false, 55)), .ld none (.l 54), none⟩,
  ⟨(some (false, 56)), .bin .mul (.l 53) (.l 55), none⟩,
  ⟨(some (false, 57)), .bin .add (.l 51) (.l 56), none⟩,
  ⟨(some (true, 9)), .mv (.l 57), none⟩])))
(.reg [
  ⟨(some (false, 58)), .bin .add (.g 47) (.c (.lit (.int .i64 1))), none⟩,
  ⟨(some (true, 47)), .mv (.l 58), none⟩])))))))
(.seq
(.reg [
  ⟨(some (true, 12)), .mv (.c (.fn 36 [])), none⟩])
(.seq
(.seq
(.reg [
  ⟨(some (false, 59)), .ld (some 6) (.g 1), none⟩,
  ⟨(some (false, 60)), .mv (.g 12), none⟩,
  ⟨(some (true, 61)), .call (.c (.fn 37 [])) [.l 59, .l 60], none⟩,
  ⟨(some (true, 62)), .len (.g 61), none⟩,
  ⟨(some (true, 63)), .mv (.c (.lit (.int .i64 0))), none⟩])
(.block 4
(.loop
(.seq
(.reg [
  ⟨(some (true, 64)), .bin .lss (.g 63) (.g 62), none⟩])
(.seq
(.cond (.g 64)
.skip
(.exit 4))
(.seq
(.block 5
(.seq
(.reg [
  ⟨(some (false, 65)), .ia 4 (.g 61) (.g 63), none⟩,
  ⟨(some (false, 66)), .ld (some 4) (.l 65), none⟩,
  ⟨(some (true, 14)), .new [.int .i64 0, .int .i64 0, .int .i64 0, .int .i64 0], none⟩,
  ⟨none, .st 4 (.g 14) (.l 66), none⟩])
(.seq
(.reg [
  ⟨(some (false, 67)), .fa (.g 14) 0, none⟩,
  ⟨(some (false, 68)), .ld none (.l 67), none⟩,
  ⟨(some (false, 69)), .mv (.g 7), none⟩,
  ⟨(some (false, 70)), .mn [.l 68, .l 69], none⟩,
  ⟨(some (true, 15)), .mv (.l 70), none⟩])
(.seq
(.reg [
  ⟨(some (false, 71)), .mv (.g 9), none⟩,
  ⟨(some (false, 72)), .mv (.g 15), none⟩,
  ⟨(some (false, 73)), .mv (.g 12), none⟩,
  ⟨(some (false, 74)), .ld (some 4) (.g 14), none⟩,
  ⟨(some (false, 75)), .call (.l 73) [.l 74], none⟩,
  ⟨(some (false, 76)), .bin .mul (.l 72) (.l 75), none⟩,
  ⟨(some (false, 77)), .bin .sub (.l 71) (.l 76), none⟩,
  ⟨(some (true, 9)), .mv (.l 77), none⟩])
(.reg [
  ⟨(some (false, 78)), .mv (.g 7), none⟩,
  ⟨(some (false, 79)), .mv (.g 15), none⟩,
  ⟨(some (false, 80)), .bin .sub (.l 78) (.l 79), none⟩,
  ⟨(some (true, 7)), .mv (.l 80), none⟩])))))
(.reg [
  ⟨(some (false, 81)), .bin .add (.g 63) (.c (.lit (.int .i64 1))), none⟩,
  ⟨(some (true, 63)), .mv (.l 81), none⟩])))))))
(.seq
(.seq
(.reg [
  ⟨(some (false, 82)), .ld (some 6) (.g 1), none⟩,
  ⟨(some (true, 83)), .call (.c (.fn 37 [])) [.l 82, .c (.fn 38 [])], none⟩,
  ⟨(some (true, 84)), .len (.g 83), none⟩,
  ⟨(some (true, 85)), .mv (.c (.lit (.int .i64 0))), none⟩])
(.block 6
(.loop
(.seq
(.reg [
  ⟨(some (true, 86)), .bin .lss (.g 85) (.g 84), none⟩])
(.seq
(.cond (.g 86)
.skip
(.exit 6))
(.seq
(.block 7
(.seq
(.reg [
  ⟨(some (false, 87)), .ia 4 (.g 83) (.g 85), none⟩,
  ⟨(some (false, 88)), .ld (some 4) (.l 87), none⟩,
  ⟨(some (true, 17)), .new [.int .i64 0, .int .i64 0, .int .i64 0, .int .i64 0], none⟩,
  ⟨none, .st 4 (.g 17) (.l 88), none⟩])
(.seq
(.reg [
  ⟨(some (false, 89)), .mv (.g 6), none⟩,
  ⟨(some (false, 90)), .fa (.g 17) 1, none⟩,
  ⟨(some (false, 91)), .ld none (.l 90), none⟩,
  ⟨(some (false, 92)), .mv (.g 6), none⟩,
  ⟨(some (false, 93)), .len (.l 92), none⟩,
  ⟨(some (false, 94)), .bin .sub (.l 93) (.c (.lit (.int .i64 1))), none⟩,
  ⟨(some (false, 95)), .mn [.l 91, .l 94], none⟩,
  ⟨(some (false, 96)), .sl 1 (.l 89) (some (.l 95)) none none, none⟩,
  ⟨(some (true, 18)), .mv (.l 96), none⟩])
(.seq
(.draw [
  ⟨⟨(some (false, 97)), .fa (.g 17) 0, none⟩, 0, true, []⟩,
  ⟨⟨(some (false, 98)), .ld none (.l 97), none⟩, 1, true, []⟩,
  ⟨⟨(some (false, 99)), .mv (.g 18), none⟩, 2, true, []⟩,
  ⟨⟨(some (false, 100)), .call (.c (.fn 39 [])) [.l 99], none⟩, 3, false, []⟩,
  ⟨⟨(some (false, 101)), .mn [.l 98, .l 100], none⟩, 4, true, []⟩,
  ⟨⟨(some (true, 19)), .mv (.l 101), none⟩, 5, true, []⟩])
(.seq
(.reg [
  ⟨(some (false, 102)), .mv (.g 9), none⟩,
  ⟨(some (false, 103)), .mv (.g 19), none⟩,
  ⟨(some (false, 104)), .fa (.g 17) 2, none⟩,
  ⟨(some (false, 105)), .ld none (.l 104), none⟩,
  ⟨(some (false, 106)), .bin .mul (.l 103) (.l 105), none⟩,
  ⟨(some (false, 107)), .bin .sub (.l 102) (.l 106), none⟩,
  ⟨(some (true, 9)), .mv (.l 107), none⟩])
(.seq
(.reg [
  ⟨(some (false, 108)), .mv (.g 18), none⟩,
  ⟨(some (true, 109)), .len (.l 108), none⟩,
  ⟨(some (true, 110)), .mv (.c (.lit (.int .i64 0))), none⟩])
(.block 8
(.loop
(.seq
(.reg [
  ⟨(some (true, 111)), .bin .lss (.g 110) (.g 109), none⟩])
(.seq
(.cond (.g 111)
.skip
(.exit 8))
(.seq
(.block 9
(.seq
(.reg [
  ⟨(some (false, 112)), .mv (.g 110), none⟩,
  ⟨(some (true, 20)), .mv (.l 112), none⟩])
(.reg [
  ⟨(some (false, 113)), .mv (.g 18), none⟩,
  ⟨(some (false, 114)), .mv (.g 20), none⟩,
  ⟨(some (false, 115)), .ia 1 (.l 113) (.l 114), none⟩,
  ⟨(some (false, 116)), .ld none (.l 115), none⟩,
  ⟨(some (false, 117)), .mv (.g 19), none⟩,
  ⟨(some (false, 118)), .bin .sub (.l 116) (.l 117), none⟩,
  ⟨(some (false, 119)), .ia 1 (.l 113) (.l 114), none⟩,
  ⟨none, .st 1 (.l 119) (.l 118), none⟩])))
(.reg [
  ⟨(some (false, 120)), .bin .add (.g 110) (.c (.lit (.int .i64 1))), none⟩,
  ⟨(some (true, 110)), .mv (.l 120), none⟩]))))))))))))
(.reg [
  ⟨(some (false, 121)), .bin .add (.g 85) (.c (.lit (.int .i64 1))), none⟩,
  ⟨(some (true, 85)), .mv (.l 121), none⟩])))))))
(.seq
(.reg [
  ⟨(some (false, 122)), .mv (.g 9), none⟩,
  ⟨(some (true, 2)), .mv (.l 122), none⟩,
  ⟨(some (true, 3)), .mv (.c (.lit (.int .i64 0))), none⟩])
.ret))))))))))))
def K19 : List Nat := [0, 24, 32, 48, 64, 86, 111, 2, 3, 1, 4, 5, 6, 7, 30, 31, 8, 9, 45, 46, 47, 11, 12, 61, 62, 63, 14, 15, 83, 84, 85, 17, 18, 19, 109, 110, 20]
noncomputable def b19 : Code := match Tryd.f19.body with | some c => c | none => .skip
theorem t19 : trCode ⟨Tryd.prog, K19, [], 123, none⟩ b19 = some c19 := by kernel_rfl
theorem go19 {args : List AV} {H : AHeap} {Kk : AV → AHeap → Prop} (hn : args.length = 1) (h : AGo ⟨Tryd.prog, K19, [], 123, none⟩ H.length [.code c19] (RetP [.t (.g 2), .t (.g 3)] H.length Kk) ⟨[], argsG 0 args⟩ H) : ACalls Tryd.prog 19 args H Kk :=
  ACalls_of Tryd.func19 (c := b19) rfl (by kernel_rfl) t19 (rs := [.t (.g 2), .t (.g 3)]) (by kernel_rfl) (by rw [hn]; exact Nat.le_of_ble_eq_true rfl) (by rw [hn]; rfl) (h.weaken (fun _ _ => RetP.hands) (by simp))

/-- sastrugi/freight.Range -/
def c13 : ACode :=
  (.seq
(.reg [
  ⟨(some (true, 2)), .box (.g 0), none⟩,
  ⟨(some (true, 4)), .new [.int .i64 0, .int .i64 0], none⟩,
  ⟨(some (true, 5)), .mv (.c (.lit (.int .i64 0))), none⟩])
(.seq
(.seq
(.reg [
  ⟨(some (false, 7)), .ld (some 6) (.g 2), none⟩,
  ⟨(some (false, 8)), .mv (.g 1), none⟩,
  ⟨(some (false, 9)), .call (.c (.fn 27 [])) [.l 7, .l 8], none⟩,
  ⟨(some (true, 6)), .mv (.l 9), none⟩])
(.seq
(.reg [
  ⟨(some (false, 10)), .mv (.g 6), none⟩,
  ⟨(some (true, 11)), .bin .neq (.l 10) (.c (.lit (.int .i64 0))), none⟩])
(.cond (.g 11)
(.seq
(.reg [
  ⟨(some (false, 12)), .mk [.int .i64 0, .int .i64 0] [], none⟩,
  ⟨(some (false, 13)), .mv (.g 6), none⟩,
  ⟨none, .st 2 (.g 4) (.l 12), none⟩,
  ⟨(some (true, 5)), .mv (.l 13), none⟩])
.ret)
.skip)))
(.seq
(.draw [
  ⟨⟨(some (false, 14)), .ld (some 6) (.g 2), none⟩, 0, true, []⟩,
  ⟨⟨(some (false, 16)), .mv (.g 1), none⟩, 2, true, []⟩,
  ⟨⟨(some (false, 18)), .ld (some 6) (.g 2), none⟩, 4, true, []⟩,
  ⟨⟨(some (false, 20)), .mv (.g 1), none⟩, 6, true, []⟩,
  ⟨⟨(some (false, 15)), .call (.c (.fn 28 [])) [.l 14], none⟩, 1, false, []⟩,
  ⟨⟨(some (false, 17)), .call (.c (.fn 29 [])) [.l 15, .l 16], none⟩, 3, false, []⟩,
  ⟨⟨(some (false, 19)), .call (.c (.fn 30 [])) [.l 18], none⟩, 5, false, []⟩,
  ⟨⟨(some (false, 21)), .call (.c (.fn 29 [])) [.l 19, .l 20], none⟩, 7, false, []⟩,
  ⟨⟨(some (false, 22)), .mk [.int .i64 0, .int .i64 0] [(0, 1, .l 17), (1, 1, .l 21)], none⟩, 8, true, []⟩,
  ⟨⟨none, .st 2 (.g 4) (.l 22), none⟩, 9, false, []⟩,
  ⟨⟨(some (true, 5)), .mv (.c (.lit (.int .i64 0))), none⟩, 10, false, []⟩])
.ret)))
def K13 : List Nat := [0, 1, 11, 4, 5, 2, 6]
noncomputable def b13 : Code := match Tryd.f13.body with | some c => c | none => .skip
theorem t13 : trCode ⟨Tryd.prog, K13, [], 23, none⟩ b13 = some c13 := by kernel_rfl
theorem go13 {args : List AV} {H : AHeap} {Kk : AV → AHeap → Prop} (hn : args.length = 2) (h : AGo ⟨Tryd.prog, K13, [], 23, none⟩ H.length [.code c13] (RetP [.cell (.g 4) (some 2), .t (.g 5)] H.length Kk) ⟨[], argsG 0 args⟩ H) : ACalls Tryd.prog 13 args H Kk :=
  ACalls_of Tryd.func13 (c := b13) rfl (by kernel_rfl) t13 (rs := [.cell (.g 4) (some 2), .t (.g 5)]) (by kernel_rfl) (by rw [hn]; exact Nat.le_of_ble_eq_true rfl) (by rw [hn]; rfl) (h.weaken (fun _ _ => RetP.hands) (by simp))

/-- sastrugi/freight.Promise -/
def c14 : ACode :=
  (.seq
(.reg [
  ⟨(some (true, 2)), .box (.g 0), none⟩,
  ⟨(some (true, 4)), .mv (.c (.lit (.slice none 0 0))), none⟩,
  ⟨(some (true, 5)), .mv (.c (.lit (.int .i64 0))), none⟩])
(.seq
(.seq
(.reg [
  ⟨(some (false, 16)), .ld (some 6) (.g 2), none⟩,
  ⟨(some (false, 17)), .mv (.g 1), none⟩,
  ⟨(some (false, 18)), .call (.c (.fn 27 [])) [.l 16, .l 17], none⟩,
  ⟨(some (true, 6)), .mv (.l 18), none⟩])
(.seq
(.reg [
  ⟨(some (false, 19)), .mv (.g 6), none⟩,
  ⟨(some (true, 20)), .bin .neq (.l 19) (.c (.lit (.int .i64 0))), none⟩])
(.cond (.g 20)
(.seq
(.reg [
  ⟨(some (false, 21)), .mv (.g 6), none⟩,
  ⟨(some (true, 4)), .mv (.c (.lit (.slice none 0 0))), none⟩,
  ⟨(some (true, 5)), .mv (.l 21), none⟩])
.ret)
.skip)))
(.seq
(.draw [
  ⟨⟨(some (false, 22)), .ld (some 6) (.g 2), none⟩, 0, true, []⟩,
  ⟨⟨(some (false, 24)), .ld (some 6) (.g 2), none⟩, 2, true, []⟩,
  ⟨⟨(some (true, 7)), .new [.int .i64 0, .int .i64 0, .int .i64 0, .int .i64 0, .slice none 0 0, .slice none 0 0, .int .i64 0, .int .i64 0, .slice none 0 0], none⟩, 4, true, []⟩,
  ⟨⟨(some (true, 8)), .new [.int .i64 0, .int .i64 0, .int .i64 0, .int .i64 0, .slice none 0 0, .slice none 0 0, .int .i64 0, .int .i64 0, .slice none 0 0], none⟩, 5, true, []⟩,
  ⟨⟨(some (false, 23)), .call (.c (.fn 30 [])) [.l 22], none⟩, 1, false, []⟩,
  ⟨⟨(some (false, 25)), .call (.c (.fn 28 [])) [.l 24], none⟩, 3, false, []⟩,
  ⟨⟨none, .st 9 (.g 7) (.l 23), none⟩, 6, true, [4, 5]⟩,
  ⟨⟨none, .st 9 (.g 8) (.l 25), none⟩, 7, true, [4, 5]⟩])
(.seq
(.draw [
  ⟨⟨(some (false, 27)), .ld (some 9) (.g 7), none⟩, 0, true, []⟩,
  ⟨⟨(some (false, 28)), .ld (some 9) (.g 7), none⟩, 1, true, []⟩,
  ⟨⟨(some (false, 29)), .mv (.g 1), none⟩, 2, true, []⟩,
  ⟨⟨(some (false, 30)), .call (.c (.fn 24 [])) [.l 28, .l 29], none⟩, 3, false, []⟩,
  ⟨⟨(some (false, 31)), .call (.c (.fn 26 [])) [.l 27, .l 30], none⟩, 4, false, []⟩,
  ⟨⟨(some (false, 26)), .mv (.l 31), none⟩, 5, true, []⟩,
  ⟨⟨(some (false, 32)), .ex (.l 26) 0, none⟩, 6, true, []⟩,
  ⟨⟨(some (false, 33)), .ex (.l 26) 1, none⟩, 7, true, []⟩,
  ⟨⟨(some (true, 9)), .mv (.l 32), none⟩, 8, true, []⟩,
  ⟨⟨(some (false, 10)), .mv (.l 33), none⟩, 9, true, []⟩])
(.seq
(.draw [
  ⟨⟨(some (false, 35)), .ld (some 9) (.g 8), none⟩, 0, true, []⟩,
  ⟨⟨(some (false, 36)), .ld (some 9) (.g 8), none⟩, 1, true, []⟩,
  ⟨⟨(some (false, 37)), .mv (.g 1), none⟩, 2, true, []⟩,
  ⟨⟨(some (false, 38)), .call (.c (.fn 24 [])) [.l 36, .l 37], none⟩, 3, false, []⟩,
  ⟨⟨(some (false, 39)), .call (.c (.fn 26 [])) [.l 35, .l 38], none⟩, 4, false, []⟩,
  ⟨⟨(some (false, 34)), .mv (.l 39), none⟩, 5, true, []⟩,
  ⟨⟨(some (false, 40)), .ex (.l 34) 0, none⟩, 6, true, []⟩,
  ⟨⟨(some (false, 41)), .ex (.l 34) 1, none⟩, 7, true, []⟩,
  ⟨⟨(some (true, 11)), .mv (.l 40), none⟩, 8, true, []⟩,
  ⟨⟨(some (false, 12)), .mv (.l 41), none⟩, 9, true, []⟩])
(.seq
(.reg [
  ⟨(some (true, 13)), .mv (.c (.lit (.slice none 0 0))), none⟩])
(.seq
(.seq
(.reg [
  ⟨(some (false, 42)), .fa (.g 2) 5, none⟩,
  ⟨(some (true, 43)), .ld none (.l 42), none⟩,
  ⟨(some (true, 44)), .len (.g 43), none⟩,
  ⟨(some (true, 45)), .mv (.c (.lit (.int .i64 0))), none⟩])
(.block 0
(.loop
(.seq
(.reg [
  ⟨(some (true, 46)), .bin .lss (.g 45) (.g 44), none⟩])
(.seq
(.cond (.g 46)
.skip
(.exit 0))
(.seq
(.block 1
(.seq
(.reg [
  ⟨(some (false, 47)), .mv (.g 45), none⟩,
  ⟨(some (false, 48)), .ia 4 (.g 43) (.g 45), none⟩,
  ⟨(some (false, 49)), .ld (some 4) (.l 48), none⟩,
  ⟨(some (true, 15)), .new [.int .i64 0, .int .i64 0, .int .i64 0, .int .i64 0], none⟩,
  ⟨(some (true, 14)), .mv (.l 47), none⟩,
  ⟨none, .st 4 (.g 15) (.l 49), none⟩])
(.block 2
(.seq
(.draw [
  ⟨⟨(some (false, 54)), .mv (.g 9), none⟩, 0, true, []⟩,
  ⟨⟨(some (false, 55)), .mv (.g 14), none⟩, 1, true, []⟩,
  ⟨⟨(some (false, 56)), .ia 4 (.l 54) (.l 55), none⟩, 2, true, []⟩,
  ⟨⟨(some (false, 57)), .fa (.l 56) 0, none⟩, 3, true, []⟩,
  ⟨⟨(some (false, 58)), .ld none (.l 57), none⟩, 4, true, []⟩,
  ⟨⟨(some (false, 59)), .fa (.g 15) 0, none⟩, 5, true, []⟩,
  ⟨⟨(some (false, 60)), .ld none (.l 59), none⟩, 6, true, []⟩,
  ⟨⟨(some (false, 61)), .bin .eql (.l 58) (.l 60), none⟩, 7, true, []⟩,
  ⟨⟨(some (true, 53)), .mv (.l 61), none⟩, 8, true, []⟩])
(.cond (.g 53)
(.reg [
  ⟨(some (false, 62)), .mv (.g 13), none⟩,
  ⟨(some (false, 63)), .mks false 1 [.c (.lit (.int .i64 1))], none⟩,
  ⟨(some (false, 64)), .app 1 8 (.l 62) (.l 63), none⟩,
  ⟨(some (true, 13)), .mv (.l 64), none⟩])
(.seq
(.draw [
  ⟨⟨(some (false, 66)), .mv (.g 11), none⟩, 0, true, []⟩,
  ⟨⟨(some (false, 67)), .mv (.g 14), none⟩, 1, true, []⟩,
  ⟨⟨(some (false, 68)), .ia 4 (.l 66) (.l 67), none⟩, 2, true, []⟩,
  ⟨⟨(some (false, 69)), .fa (.l 68) 0, none⟩, 3, true, []⟩,
  ⟨⟨(some (false, 70)), .ld none (.l 69), none⟩, 4, true, []⟩,
  ⟨⟨(some (false, 71)), .fa (.g 15) 0, none⟩, 5, true, []⟩,
  ⟨⟨(some (false, 72)), .ld none (.l 71), none⟩, 6, true, []⟩,
  ⟨⟨(some (false, 73)), .bin .lss (.l 70) (.l 72), none⟩, 7, true, []⟩,
  ⟨⟨(some (true, 65)), .mv (.l 73), none⟩, 8, true, []⟩])
(.cond (.g 65)
(.reg [
  ⟨(some (false, 74)), .mv (.g 13), none⟩,
  ⟨(some (false, 75)), .mks false 1 [.c (.lit (.int .i64 2))], none⟩,
  ⟨(some (false, 76)), .app 1 8 (.l 74) (.l 75), none⟩,
  ⟨(some (true, 13)), .mv (.l 76), none⟩])
(.reg [
  ⟨(some (false, 50)), .mv (.g 13), none⟩,
  ⟨(some (false, 51)), .mks false 1 [.c (.lit (.int .i64 3))], none⟩,
  ⟨(some (false, 52)), .app 1 8 (.l 50) (.l 51), none⟩,
  ⟨(some (true, 13)), .mv (.l 52), none⟩]))))))))
(.reg [
  ⟨(some (false, 77)), .bin .add (.g 45) (.c (.lit (.int .i64 1))), none⟩,
  ⟨(some (true, 45)), .mv (.l 77), none⟩])))))))
(.seq
(.reg [
  ⟨(some (false, 78)), .mv (.g 13), none⟩,
  ⟨(some (true, 4)), .mv (.l 78), none⟩,
  ⟨(some (true, 5)), .mv (.c (.lit (.int .i64 0))), none⟩])
.ret))))))))
def K14 : List Nat := [0, 1, 20, 46, 53, 65, 4, 5, 2, 6, 7, 8, 9, 11, 13, 43, 44, 45, 15, 14]
noncomputable def b14 : Code := match Tryd.f14.body with | some c => c | none => .skip
theorem t14 : trCode ⟨Tryd.prog, K14, [], 79, none⟩ b14 = some c14 := by kernel_rfl
theorem go14 {args : List AV} {H : AHeap} {Kk : AV → AHeap → Prop} (hn : args.length = 2) (h : AGo ⟨Tryd.prog, K14, [], 79, none⟩ H.length [.code c14] (RetP [.t (.g 4), .t (.g 5)] H.length Kk) ⟨[], argsG 0 args⟩ H) : ACalls Tryd.prog 14 args H Kk :=
  ACalls_of Tryd.func14 (c := b14) rfl (by kernel_rfl) t14 (rs := [.t (.g 4), .t (.g 5)]) (by kernel_rfl) (by rw [hn]; exact Nat.le_of_ble_eq_true rfl) (by rw [hn]; rfl) (h.weaken (fun _ _ => RetP.hands) (by simp))

/-- sastrugi/sastrugilaw08.season -/
def c4 : ACode :=
  (.seq
(.reg [
  ⟨(some (true, 0)), .new [.int .i64 0, .int .i64 0, .int .i64 0, .int .i64 0, .slice none 0 0, .slice none 0 0], none⟩])
(.seq
(.reg [
  ⟨(some (false, 3)), .call (.c (.fn 15 [])) [.c (.lit (.int .i64 1)), .c (.lit (.int .i64 2))], none⟩,
  ⟨(some (false, 4)), .call (.c (.fn 15 [])) [.c (.lit (.int .i64 4)), .c (.lit (.int .i64 5))], none⟩,
  ⟨(some (false, 5)), .mk [.int .i64 0, .int .i64 0, .int .i64 0, .int .i64 0] [(0, 1, .c (.lit (.int .i64 4))), (1, 1, .c (.lit (.int .i64 3))), (2, 1, .c (.lit (.int .i64 5))), (3, 1, .c (.lit (.int .i64 20)))], none⟩,
  ⟨(some (false, 6)), .mk [.int .i64 0, .int .i64 0, .int .i64 0, .int .i64 0] [(0, 1, .c (.lit (.int .i64 5))), (1, 1, .c (.lit (.int .i64 5))), (2, 1, .c (.lit (.int .i64 1))), (3, 1, .c (.lit (.int .i64 10)))], none⟩,
  ⟨(some (false, 7)), .mks false 4 [.l 5, .l 6], none⟩,
  ⟨(some (false, 8)), .mk [.int .i64 0, .int .i64 0, .int .i64 0, .int .i64 0, .slice none 0 0, .slice none 0 0] [(0, 2, .l 3), (2, 2, .l 4), (5, 1, .l 7)], none⟩,
  ⟨(some (true, 1)), .new [.int .i64 0, .int .i64 0, .int .i64 0, .int .i64 0, .slice none 0 0, .slice none 0 0], none⟩,
  ⟨none, .st 6 (.g 1) (.l 8), none⟩])
(.seq
(.seq
(.reg [
  ⟨(some (true, 2)), .mv (.c (.lit (.int .i64 0))), none⟩])
(.block 0
(.loop
(.seq
(.seq
(.reg [
  ⟨(some (false, 9)), .mv (.g 2), none⟩,
  ⟨(some (true, 10)), .bin .lss (.l 9) (.c (.lit (.int .i64 7))), none⟩])
(.cond (.g 10)
.skip
(.exit 0)))
(.seq
(.block 1
(.draw [
  ⟨⟨(some (false, 13)), .fa (.g 1) 4, none⟩, 0, true, []⟩,
  ⟨⟨(some (false, 14)), .ld none (.l 13), none⟩, 1, true, []⟩,
  ⟨⟨(some (false, 15)), .call (.c (.fn 15 [])) [.c (.lit (.int .i64 2)), .c (.lit (.int .i64 3))], none⟩, 2, false, []⟩,
  ⟨⟨(some (false, 16)), .mks false 2 [.l 15], none⟩, 3, true, []⟩,
  ⟨⟨(some (false, 17)), .app 2 16 (.l 14) (.l 16), none⟩, 4, false, []⟩,
  ⟨⟨(some (false, 18)), .fa (.g 1) 4, none⟩, 5, true, []⟩,
  ⟨⟨none, .st 1 (.l 18) (.l 17), none⟩, 6, true, []⟩]))
(.reg [
  ⟨(some (false, 11)), .mv (.g 2), none⟩,
  ⟨(some (false, 12)), .bin .add (.l 11) (.c (.lit (.int .i64 1))), none⟩,
  ⟨(some (true, 2)), .mv (.l 12), none⟩]))))))
(.seq
(.reg [
  ⟨(some (false, 19)), .ld (some 6) (.g 1), none⟩,
  ⟨none, .st 6 (.g 0) (.l 19), none⟩])
.ret))))
def K4 : List Nat := [10, 0, 1, 2]
noncomputable def b4 : Code := match Tryd.f4.body with | some c => c | none => .skip
theorem t4 : trCode ⟨Tryd.prog, K4, [], 20, none⟩ b4 = some c4 := by kernel_rfl
theorem go4 {args : List AV} {H : AHeap} {Kk : AV → AHeap → Prop} (hn : args.length = 0) (h : AGo ⟨Tryd.prog, K4, [], 20, none⟩ H.length [.code c4] (RetP [.cell (.g 0) (some 6)] H.length Kk) ⟨[], argsG 0 args⟩ H) : ACalls Tryd.prog 4 args H Kk :=
  ACalls_of Tryd.func4 (c := b4) rfl (by kernel_rfl) t4 (rs := [.cell (.g 0) (some 6)]) (by kernel_rfl) (by rw [hn]; exact Nat.le_of_ble_eq_true rfl) (by rw [hn]; rfl) (h.weaken (fun _ _ => RetP.hands) (by simp))

/-- sastrugi/freight.checkSpan -/
def c20 : ACode :=
  (.seq
(.reg [
  ⟨(some (true, 3)), .box (.g 0), none⟩,
  ⟨(some (true, 6)), .mv (.c (.lit (.int .i64 0))), none⟩])
(.seq
(.block 0
(.seq
(.reg [
  ⟨(some (false, 8)), .fa (.g 3) 0, none⟩,
  ⟨(some (false, 9)), .ld none (.l 8), none⟩,
  ⟨(some (false, 10)), .mv (.g 1), none⟩,
  ⟨(some (false, 11)), .mv (.g 2), none⟩,
  ⟨(some (false, 12)), .call (.c (.fn 21 [])) [.l 9, .l 10, .l 11], none⟩,
  ⟨(some (false, 13)), .un .not (.l 12), none⟩,
  ⟨(some (false, 14)), .mv (.l 13), none⟩,
  ⟨(some (false, 15)), .fa (.g 3) 1, (some (.l 14, false))⟩,
  ⟨(some (false, 16)), .ld none (.l 15), (some (.l 14, false))⟩,
  ⟨(some (false, 17)), .mv (.g 1), (some (.l 14, false))⟩,
  ⟨(some (false, 18)), .mv (.g 2), (some (.l 14, false))⟩,
  ⟨(some (false, 19)), .call (.c (.fn 21 [])) [.l 16, .l 17, .l 18], (some (.l 14, false))⟩,
  ⟨(some (false, 20)), .un .not (.l 19), (some (.l 14, false))⟩,
  ⟨(some (false, 21)), .pick (.l 14) (.c (.lit (.bool true))) (.l 20), none⟩,
  ⟨(some (true, 7)), .mv (.l 21), none⟩])
(.cond (.g 7)
(.seq
(.reg [
  ⟨(some (true, 6)), .mv (.c (.lit (.int .i64 2))), none⟩])
.ret)
(.seq
(.reg [
  ⟨(some (false, 23)), .fa (.g 3) 0, none⟩,
  ⟨(some (false, 24)), .ld none (.l 23), none⟩,
  ⟨(some (false, 25)), .fa (.g 3) 1, none⟩,
  ⟨(some (false, 26)), .ld none (.l 25), none⟩,
  ⟨(some (false, 27)), .bin .gtr (.l 24) (.l 26), none⟩,
  ⟨(some (true, 22)), .mv (.l 27), none⟩])
(.cond (.g 22)
(.seq
(.reg [
  ⟨(some (true, 6)), .mv (.c (.lit (.int .i64 11))), none⟩])
.ret)
.skip)))))
(.seq
(.reg [
  ⟨(some (true, 6)), .mv (.c (.lit (.int .i64 0))), none⟩])
.ret)))
def K20 : List Nat := [0, 1, 2, 7, 22, 6, 3]
noncomputable def b20 : Code := match Tryd.f20.body with | some c => c | none => .skip
theorem t20 : trCode ⟨Tryd.prog, K20, [], 28, none⟩ b20 = some c20 := by kernel_rfl
theorem go20 {args : List AV} {H : AHeap} {Kk : AV → AHeap → Prop} (hn : args.length = 3) (h : AGo ⟨Tryd.prog, K20, [], 28, none⟩ H.length [.code c20] (RetP [.t (.g 6)] H.length Kk) ⟨[], argsG 0 args⟩ H) : ACalls Tryd.prog 20 args H Kk :=
  ACalls_of Tryd.func20 (c := b20) rfl (by kernel_rfl) t20 (rs := [.t (.g 6)]) (by kernel_rfl) (by rw [hn]; exact Nat.le_of_ble_eq_true rfl) (by rw [hn]; rfl) (h.weaken (fun _ _ => RetP.hands) (by simp))

/-- sastrugi/freight.in -/
def c21 : ACode :=
  (.seq
(.reg [
  ⟨(some (true, 6)), .mv (.c (.lit (.bool false))), none⟩])
(.seq
(.reg [
  ⟨(some (false, 7)), .mv (.g 1), none⟩,
  ⟨(some (false, 8)), .mv (.g 0), none⟩,
  ⟨(some (false, 9)), .bin .leq (.l 7) (.l 8), none⟩,
  ⟨(some (false, 10)), .mv (.l 9), none⟩,
  ⟨(some (false, 11)), .mv (.g 0), (some (.l 10, true))⟩,
  ⟨(some (false, 12)), .mv (.g 2), (some (.l 10, true))⟩,
  ⟨(some (false, 13)), .bin .leq (.l 11) (.l 12), (some (.l 10, true))⟩,
  ⟨(some (false, 14)), .pick (.l 10) (.l 13) (.c (.lit (.bool false))), none⟩,
  ⟨(some (true, 6)), .mv (.l 14), none⟩])
.ret))
def K21 : List Nat := [0, 1, 2, 6]
noncomputable def b21 : Code := match Tryd.f21.body with | some c => c | none => .skip
theorem t21 : trCode ⟨Tryd.prog, K21, [], 15, none⟩ b21 = some c21 := by kernel_rfl
theorem go21 {args : List AV} {H : AHeap} {Kk : AV → AHeap → Prop} (hn : args.length = 3) (h : AGo ⟨Tryd.prog, K21, [], 15, none⟩ H.length [.code c21] (RetP [.t (.g 6)] H.length Kk) ⟨[], argsG 0 args⟩ H) : ACalls Tryd.prog 21 args H Kk :=
  ACalls_of Tryd.func21 (c := b21) rfl (by kernel_rfl) t21 (rs := [.t (.g 6)]) (by kernel_rfl) (by rw [hn]; exact Nat.le_of_ble_eq_true rfl) (by rw [hn]; rfl) (h.weaken (fun _ _ => RetP.hands) (by simp))

/-- sastrugi/freight.worst -/
def c30 : ACode :=
  (.seq
(.reg [
  ⟨(some (true, 1)), .box (.g 0), none⟩,
  ⟨(some (true, 2)), .new [.int .i64 0, .int .i64 0, .int .i64 0, .int .i64 0, .slice none 0 0, .slice none 0 0, .int .i64 0, .int .i64 0, .slice none 0 0], none⟩])
(.seq
(.reg [
  ⟨(some (false, 6)), .fa (.g 1) 0, none⟩,
  ⟨(some (false, 7)), .fa (.l 6) 1, none⟩,
  ⟨(some (false, 8)), .ld none (.l 7), none⟩,
  ⟨(some (false, 9)), .fa (.g 1) 2, none⟩,
  ⟨(some (false, 10)), .fa (.l 9) 0, none⟩,
  ⟨(some (false, 11)), .ld none (.l 10), none⟩,
  ⟨(some (false, 12)), .mk [.int .i64 0, .int .i64 0, .slice none 0 0] [(0, 1, .l 8), (1, 1, .l 11)], none⟩,
  ⟨(some (true, 3)), .new [.int .i64 0, .int .i64 0, .slice none 0 0], none⟩,
  ⟨none, .st 3 (.g 3) (.l 12), none⟩])
(.seq
(.seq
(.reg [
  ⟨(some (false, 13)), .fa (.g 1) 4, none⟩,
  ⟨(some (true, 14)), .ld none (.l 13), none⟩,
  ⟨(some (true, 15)), .len (.g 14), none⟩,
  ⟨(some (true, 16)), .mv (.c (.lit (.int .i64 0))), none⟩])
(.block 0
(.loop
(.seq
(.reg [
  ⟨(some (true, 17)), .bin .lss (.g 16) (.g 15), none⟩])
(.seq
(.cond (.g 17)
.skip
(.exit 0))
(.seq
(.block 1
(.seq
(.reg [
  ⟨(some (false, 18)), .ia 2 (.g 14) (.g 16), none⟩,
  ⟨(some (false, 19)), .ld (some 2) (.l 18), none⟩,
  ⟨(some (true, 5)), .new [.int .i64 0, .int .i64 0], none⟩,
  ⟨none, .st 2 (.g 5) (.l 19), none⟩])
(.reg [
  ⟨(some (false, 20)), .fa (.g 3) 2, none⟩,
  ⟨(some (false, 21)), .ld none (.l 20), none⟩,
  ⟨(some (false, 22)), .fa (.g 5) 0, none⟩,
  ⟨(some (false, 23)), .ld none (.l 22), none⟩,
  ⟨(some (false, 24)), .mks false 1 [.l 23], none⟩,
  ⟨(some (false, 25)), .app 1 8 (.l 21) (.l 24), none⟩,
  ⟨(some (false, 26)), .fa (.g 3) 2, none⟩,
  ⟨none, .st 1 (.l 26) (.l 25), none⟩])))
(.reg [
  ⟨(some (false, 27)), .bin .add (.g 16) (.c (.lit (.int .i64 1))), none⟩,
  ⟨(some (true, 16)), .mv (.l 27), none⟩])))))))
(.seq
(.reg [
  ⟨(some (false, 28)), .ld (some 6) (.g 1), none⟩,
  ⟨(some (false, 29)), .ld (some 3) (.g 3), none⟩,
  ⟨(some (false, 30)), .mk [.int .i64 0, .int .i64 0, .int .i64 0, .int .i64 0, .slice none 0 0, .slice none 0 0, .int .i64 0, .int .i64 0, .slice none 0 0] [(0, 6, .l 28), (6, 3, .l 29)], none⟩,
  ⟨none, .st 9 (.g 2) (.l 30), none⟩])
.ret))))
def K30 : List Nat := [0, 17, 2, 1, 3, 14, 15, 16, 5]
noncomputable def b30 : Code := match Tryd.f30.body with | some c => c | none => .skip
theorem t30 : trCode ⟨Tryd.prog, K30, [], 31, none⟩ b30 = some c30 := by kernel_rfl
theorem go30 {args : List AV} {H : AHeap} {Kk : AV → AHeap → Prop} (hn : args.length = 1) (h : AGo ⟨Tryd.prog, K30, [], 31, none⟩ H.length [.code c30] (RetP [.cell (.g 2) (some 9)] H.length Kk) ⟨[], argsG 0 args⟩ H) : ACalls Tryd.prog 30 args H Kk :=
  ACalls_of Tryd.func30 (c := b30) rfl (by kernel_rfl) t30 (rs := [.cell (.g 2) (some 9)]) (by kernel_rfl) (by rw [hn]; exact Nat.le_of_ble_eq_true rfl) (by rw [hn]; rfl) (h.weaken (fun _ _ => RetP.hands) (by simp))

/-- sastrugi/freight.plans -/
def c34 : ACode :=
  (.seq
(.reg [
  ⟨(some (true, 1)), .box (.g 0), none⟩,
  ⟨(some (true, 2)), .mv (.c (.lit (.nilFunc))), none⟩])
(.seq
(.reg [
  ⟨(some (false, 3)), .mkf 51 [.g 1], none⟩,
  ⟨(some (true, 2)), .mv (.l 3), none⟩])
.ret))
def K34 : List Nat := [0, 2, 1]
noncomputable def b34 : Code := match Tryd.f34.body with | some c => c | none => .skip
theorem t34 : trCode ⟨Tryd.prog, K34, [], 4, none⟩ b34 = some c34 := by kernel_rfl
theorem go34 {args : List AV} {H : AHeap} {Kk : AV → AHeap → Prop} (hn : args.length = 1) (h : AGo ⟨Tryd.prog, K34, [], 4, none⟩ H.length [.code c34] (RetP [.t (.g 2)] H.length Kk) ⟨[], argsG 0 args⟩ H) : ACalls Tryd.prog 34 args H Kk :=
  ACalls_of Tryd.func34 (c := b34) rfl (by kernel_rfl) t34 (rs := [.t (.g 2)]) (by kernel_rfl) (by rw [hn]; exact Nat.le_of_ble_eq_true rfl) (by rw [hn]; rfl) (h.weaken (fun _ _ => RetP.hands) (by simp))

/-- (sastrugi/freight.season).cost -/
def c29 : ACode :=
  (.seq
(.reg [
  ⟨(some (true, 2)), .box (.g 0), none⟩,
  ⟨(some (true, 4)), .mv (.c (.lit (.int .i64 0))), none⟩])
(.seq
(.draw [
  ⟨⟨(some (false, 8)), .ld (some 9) (.g 2), none⟩, 0, true, []⟩,
  ⟨⟨(some (false, 9)), .ld (some 9) (.g 2), none⟩, 1, true, []⟩,
  ⟨⟨(some (false, 10)), .mv (.g 1), none⟩, 2, true, []⟩,
  ⟨⟨(some (false, 11)), .call (.c (.fn 24 [])) [.l 9, .l 10], none⟩, 3, false, []⟩,
  ⟨⟨(some (false, 12)), .call (.c (.fn 26 [])) [.l 8, .l 11], none⟩, 4, false, []⟩,
  ⟨⟨(some (false, 7)), .mv (.l 12), none⟩, 5, true, []⟩,
  ⟨⟨(some (false, 13)), .ex (.l 7) 0, none⟩, 6, true, []⟩,
  ⟨⟨(some (false, 14)), .ex (.l 7) 1, none⟩, 7, true, []⟩,
  ⟨⟨(some (false, 5)), .mv (.l 13), none⟩, 8, true, []⟩,
  ⟨⟨(some (true, 6)), .mv (.l 14), none⟩, 9, true, []⟩])
(.seq
(.reg [
  ⟨(some (false, 15)), .mv (.g 6), none⟩,
  ⟨(some (true, 4)), .mv (.l 15), none⟩])
.ret)))
def K29 : List Nat := [0, 1, 4, 2, 6]
noncomputable def b29 : Code := match Tryd.f29.body with | some c => c | none => .skip
theorem t29 : trCode ⟨Tryd.prog, K29, [], 16, none⟩ b29 = some c29 := by kernel_rfl
theorem go29 {args : List AV} {H : AHeap} {Kk : AV → AHeap → Prop} (hn : args.length = 2) (h : AGo ⟨Tryd.prog, K29, [], 16, none⟩ H.length [.code c29] (RetP [.t (.g 4)] H.length Kk) ⟨[], argsG 0 args⟩ H) : ACalls Tryd.prog 29 args H Kk :=
  ACalls_of Tryd.func29 (c := b29) rfl (by kernel_rfl) t29 (rs := [.t (.g 4)]) (by kernel_rfl) (by rw [hn]; exact Nat.le_of_ble_eq_true rfl) (by rw [hn]; rfl) (h.weaken (fun _ _ => RetP.hands) (by simp))

/-- (sastrugi/freight.season).room -/
def c35 : ACode :=
  (.seq
(.reg [
  ⟨(some (true, 2)), .box (.g 0), none⟩,
  ⟨(some (true, 4)), .mv (.c (.lit (.int .i64 0))), none⟩])
(.seq
(.seq
(.reg [
  ⟨(some (false, 5)), .mv (.g 1), none⟩,
  ⟨(some (false, 6)), .fa (.g 2) 6, none⟩,
  ⟨(some (false, 7)), .fa (.l 6) 0, none⟩,
  ⟨(some (false, 8)), .ld none (.l 7), none⟩,
  ⟨(some (false, 9)), .fa (.g 2) 6, none⟩,
  ⟨(some (false, 10)), .fa (.l 9) 1, none⟩,
  ⟨(some (false, 11)), .ld none (.l 10), none⟩,
  ⟨(some (false, 12)), .call (.c (.fn 21 [])) [.l 5, .l 8, .l 11], none⟩,
  ⟨(some (true, 13)), .un .not (.l 12), none⟩])
(.cond (.g 13)
(.seq
(.reg [
  ⟨(some (true, 4)), .mv (.c (.lit (.int .i64 0))), none⟩])
.ret)
.skip))
(.seq
(.reg [
  ⟨(some (false, 14)), .fa (.g 2) 6, none⟩,
  ⟨(some (false, 15)), .fa (.l 14) 2, none⟩,
  ⟨(some (false, 16)), .ld none (.l 15), none⟩,
  ⟨(some (false, 17)), .mv (.g 1), none⟩,
  ⟨(some (false, 18)), .ia 1 (.l 16) (.l 17), none⟩,
  ⟨(some (false, 19)), .ld none (.l 18), none⟩,
  ⟨(some (true, 4)), .mv (.l 19), none⟩])
.ret)))
def K35 : List Nat := [0, 1, 13, 4, 2]
noncomputable def b35 : Code := match Tryd.f35.body with | some c => c | none => .skip
theorem t35 : trCode ⟨Tryd.prog, K35, [], 20, none⟩ b35 = some c35 := by kernel_rfl
theorem go35 {args : List AV} {H : AHeap} {Kk : AV → AHeap → Prop} (hn : args.length = 2) (h : AGo ⟨Tryd.prog, K35, [], 20, none⟩ H.length [.code c35] (RetP [.t (.g 4)] H.length Kk) ⟨[], argsG 0 args⟩ H) : ACalls Tryd.prog 35 args H Kk :=
  ACalls_of Tryd.func35 (c := b35) rfl (by kernel_rfl) t35 (rs := [.t (.g 4)]) (by kernel_rfl) (by rw [hn]; exact Nat.le_of_ble_eq_true rfl) (by rw [hn]; rfl) (h.weaken (fun _ _ => RetP.hands) (by simp))

end Go.Sas
namespace Go.Sas
open Go.Proofs
set_option maxRecDepth 100000
/-- sastrugi/sastrugikit.Same -/
def c16 : ACode :=
  (.seq
(.reg [
  ⟨(some (true, 4)), .mv (.c (.lit (.bool false))), none⟩])
(.seq
(.seq
(.reg [
  ⟨(some (false, 6)), .mv (.g 0), none⟩,
  ⟨(some (false, 7)), .len (.l 6), none⟩,
  ⟨(some (false, 8)), .mv (.g 1), none⟩,
  ⟨(some (false, 9)), .len (.l 8), none⟩,
  ⟨(some (true, 10)), .bin .neq (.l 7) (.l 9), none⟩])
(.cond (.g 10)
(.seq
(.reg [
  ⟨(some (true, 4)), .mv (.c (.lit (.bool false))), none⟩])
.ret)
.skip))
(.seq
(.seq
(.reg [
  ⟨(some (true, 5)), .mv (.c (.lit (.int .i64 0))), none⟩])
(.block 0
(.loop
(.seq
(.seq
(.reg [
  ⟨(some (false, 11)), .mv (.g 5), none⟩,
  ⟨(some (false, 12)), .mv (.g 0), none⟩,
  ⟨(some (false, 13)), .len (.l 12), none⟩,
  ⟨(some (true, 14)), .bin .lss (.l 11) (.l 13), none⟩])
(.cond (.g 14)
.skip
(.exit 0)))
(.seq
(.block 1
(.seq
(.draw [
  ⟨⟨(some (false, 17)), .mv (.g 0), none⟩, 0, true, []⟩,
  ⟨⟨(some (false, 18)), .mv (.g 5), none⟩, 1, true, []⟩,
  ⟨⟨(some (false, 19)), .ia 1 (.l 17) (.l 18), none⟩, 2, true, []⟩,
  ⟨⟨(some (false, 20)), .ld none (.l 19), none⟩, 3, true, []⟩,
  ⟨⟨(some (false, 21)), .mv (.g 1), none⟩, 4, true, []⟩,
  ⟨⟨(some (false, 22)), .mv (.g 5), none⟩, 5, true, []⟩,
  ⟨⟨(some (false, 23)), .ia 1 (.l 21) (.l 22), none⟩, 6, true, []⟩,
  ⟨⟨(some (false, 24)), .ld none (.l 23), none⟩, 7, true, []⟩,
  ⟨⟨(some (true, 25)), .bin .neq (.l 20) (.l 24), none⟩, 8, true, []⟩])
(.cond (.g 25)
(.seq
(.reg [
  ⟨(some (true, 4)), .mv (.c (.lit (.bool false))), none⟩])
.ret)
.skip)))
(.reg [
  ⟨(some (false, 15)), .mv (.g 5), none⟩,
  ⟨(some (false, 16)), .bin .add (.l 15) (.c (.lit (.int .i64 1))), none⟩,
  ⟨(some (true, 5)), .mv (.l 16), none⟩]))))))
(.seq
(.reg [
  ⟨(some (true, 4)), .mv (.c (.lit (.bool true))), none⟩])
.ret))))
def K16 : List Nat := [0, 1, 10, 14, 25, 4, 5]
noncomputable def b16 : Code := match Tryd.f16.body with | some c => c | none => .skip
theorem t16 : trCode ⟨Tryd.prog, K16, [], 26, none⟩ b16 = some c16 := by kernel_rfl
theorem go16 {args : List AV} {H : AHeap} {Kk : AV → AHeap → Prop} (hn : args.length = 2) (h : AGo ⟨Tryd.prog, K16, [], 26, none⟩ H.length [.code c16] (RetP [.t (.g 4)] H.length Kk) ⟨[], argsG 0 args⟩ H) : ACalls Tryd.prog 16 args H Kk :=
  ACalls_of Tryd.func16 (c := b16) rfl (by kernel_rfl) t16 (rs := [.t (.g 4)]) (by kernel_rfl) (by rw [hn]; exact Nat.le_of_ble_eq_true rfl) (by rw [hn]; rfl) (h.weaken (fun _ _ => RetP.hands) (by simp))

/-- sastrugi/sastrugikit.SameWays -/
def c11 : ACode :=
  (.seq
(.reg [
  ⟨(some (true, 4)), .mv (.c (.lit (.bool false))), none⟩])
(.seq
(.seq
(.reg [
  ⟨(some (false, 6)), .mv (.g 0), none⟩,
  ⟨(some (false, 7)), .len (.l 6), none⟩,
  ⟨(some (false, 8)), .mv (.g 1), none⟩,
  ⟨(some (false, 9)), .len (.l 8), none⟩,
  ⟨(some (true, 10)), .bin .neq (.l 7) (.l 9), none⟩])
(.cond (.g 10)
(.seq
(.reg [
  ⟨(some (true, 4)), .mv (.c (.lit (.bool false))), none⟩])
.ret)
.skip))
(.seq
(.seq
(.reg [
  ⟨(some (true, 5)), .mv (.c (.lit (.int .i64 0))), none⟩])
(.block 0
(.loop
(.seq
(.seq
(.reg [
  ⟨(some (false, 11)), .mv (.g 5), none⟩,
  ⟨(some (false, 12)), .mv (.g 0), none⟩,
  ⟨(some (false, 13)), .len (.l 12), none⟩,
  ⟨(some (true, 14)), .bin .lss (.l 11) (.l 13), none⟩])
(.cond (.g 14)
.skip
(.exit 0)))
(.seq
(.block 1
(.seq
(.draw [
  ⟨⟨(some (false, 17)), .mv (.g 0), none⟩, 0, true, []⟩,
  ⟨⟨(some (false, 18)), .mv (.g 5), none⟩, 1, true, []⟩,
  ⟨⟨(some (false, 19)), .ia 1 (.l 17) (.l 18), none⟩, 2, true, []⟩,
  ⟨⟨(some (false, 20)), .ld none (.l 19), none⟩, 3, true, []⟩,
  ⟨⟨(some (false, 21)), .mv (.g 1), none⟩, 4, true, []⟩,
  ⟨⟨(some (false, 22)), .mv (.g 5), none⟩, 5, true, []⟩,
  ⟨⟨(some (false, 23)), .ia 1 (.l 21) (.l 22), none⟩, 6, true, []⟩,
  ⟨⟨(some (false, 24)), .ld none (.l 23), none⟩, 7, true, []⟩,
  ⟨⟨(some (false, 25)), .call (.c (.fn 16 [])) [.l 20, .l 24], none⟩, 8, false, []⟩,
  ⟨⟨(some (true, 26)), .un .not (.l 25), none⟩, 9, true, []⟩])
(.cond (.g 26)
(.seq
(.reg [
  ⟨(some (true, 4)), .mv (.c (.lit (.bool false))), none⟩])
.ret)
.skip)))
(.reg [
  ⟨(some (false, 15)), .mv (.g 5), none⟩,
  ⟨(some (false, 16)), .bin .add (.l 15) (.c (.lit (.int .i64 1))), none⟩,
  ⟨(some (true, 5)), .mv (.l 16), none⟩]))))))
(.seq
(.reg [
  ⟨(some (true, 4)), .mv (.c (.lit (.bool true))), none⟩])
.ret))))
def K11 : List Nat := [0, 1, 10, 14, 26, 4, 5]
noncomputable def b11 : Code := match Tryd.f11.body with | some c => c | none => .skip
theorem t11 : trCode ⟨Tryd.prog, K11, [], 27, none⟩ b11 = some c11 := by kernel_rfl
theorem go11 {args : List AV} {H : AHeap} {Kk : AV → AHeap → Prop} (hn : args.length = 2) (h : AGo ⟨Tryd.prog, K11, [], 27, none⟩ H.length [.code c11] (RetP [.t (.g 4)] H.length Kk) ⟨[], argsG 0 args⟩ H) : ACalls Tryd.prog 11 args H Kk :=
  ACalls_of Tryd.func11 (c := b11) rfl (by kernel_rfl) t11 (rs := [.t (.g 4)]) (by kernel_rfl) (by rw [hn]; exact Nat.le_of_ble_eq_true rfl) (by rw [hn]; rfl) (h.weaken (fun _ _ => RetP.hands) (by simp))

/-- sastrugi/sastrugikit.WorstOf -/
def c9 : ACode :=
  (.seq
(.reg [
  ⟨(some (true, 1)), .box (.g 0), none⟩,
  ⟨(some (true, 2)), .new [.int .i64 0, .int .i64 0, .slice none 0 0], none⟩])
(.seq
(.reg [
  ⟨(some (false, 5)), .fa (.g 1) 0, none⟩,
  ⟨(some (false, 6)), .fa (.l 5) 1, none⟩,
  ⟨(some (false, 7)), .ld none (.l 6), none⟩,
  ⟨(some (false, 8)), .fa (.g 1) 2, none⟩,
  ⟨(some (false, 9)), .fa (.l 8) 0, none⟩,
  ⟨(some (false, 10)), .ld none (.l 9), none⟩,
  ⟨(some (false, 11)), .mk [.int .i64 0, .int .i64 0, .slice none 0 0] [(0, 1, .l 7), (1, 1, .l 10)], none⟩,
  ⟨(some (true, 3)), .new [.int .i64 0, .int .i64 0, .slice none 0 0], none⟩,
  ⟨none, .st 3 (.g 3) (.l 11), none⟩])
(.seq
(.seq
(.reg [
  ⟨(some (true, 4)), .mv (.c (.lit (.int .i64 0))), none⟩])
(.block 0
(.loop
(.seq
(.seq
(.reg [
  ⟨(some (false, 12)), .mv (.g 4), none⟩,
  ⟨(some (false, 13)), .fa (.g 1) 4, none⟩,
  ⟨(some (false, 14)), .ld none (.l 13), none⟩,
  ⟨(some (false, 15)), .len (.l 14), none⟩,
  ⟨(some (true, 16)), .bin .lss (.l 12) (.l 15), none⟩])
(.cond (.g 16)
.skip
(.exit 0)))
(.seq
(.block 1
(.draw [
  ⟨⟨(some (false, 19)), .fa (.g 3) 2, none⟩, 0, true, []⟩,
  ⟨⟨(some (false, 20)), .ld none (.l 19), none⟩, 1, true, []⟩,
  ⟨⟨(some (false, 21)), .fa (.g 1) 4, none⟩, 2, true, []⟩,
  ⟨⟨(some (false, 22)), .ld none (.l 21), none⟩, 3, true, []⟩,
  ⟨⟨(some (false, 23)), .mv (.g 4), none⟩, 4, true, []⟩,
  ⟨⟨(some (false, 24)), .ia 2 (.l 22) (.l 23), none⟩, 5, true, []⟩,
  ⟨⟨(some (false, 25)), .fa (.l 24) 0, none⟩, 6, true, []⟩,
  ⟨⟨(some (false, 26)), .ld none (.l 25), none⟩, 7, true, []⟩,
  ⟨⟨(some (false, 27)), .mks false 1 [.l 26], none⟩, 8, true, []⟩,
  ⟨⟨(some (false, 28)), .app 1 8 (.l 20) (.l 27), none⟩, 9, false, []⟩,
  ⟨⟨(some (false, 29)), .fa (.g 3) 2, none⟩, 10, true, []⟩,
  ⟨⟨none, .st 1 (.l 29) (.l 28), none⟩, 11, true, []⟩]))
(.reg [
  ⟨(some (false, 17)), .mv (.g 4), none⟩,
  ⟨(some (false, 18)), .bin .add (.l 17) (.c (.lit (.int .i64 1))), none⟩,
  ⟨(some (true, 4)), .mv (.l 18), none⟩]))))))
(.seq
(.reg [
  ⟨(some (false, 30)), .ld (some 3) (.g 3), none⟩,
  ⟨none, .st 3 (.g 2) (.l 30), none⟩])
.ret))))
def K9 : List Nat := [0, 16, 2, 1, 3, 4]
noncomputable def b9 : Code := match Tryd.f9.body with | some c => c | none => .skip
theorem t9 : trCode ⟨Tryd.prog, K9, [], 31, none⟩ b9 = some c9 := by kernel_rfl
theorem go9 {args : List AV} {H : AHeap} {Kk : AV → AHeap → Prop} (hn : args.length = 1) (h : AGo ⟨Tryd.prog, K9, [], 31, none⟩ H.length [.code c9] (RetP [.cell (.g 2) (some 3)] H.length Kk) ⟨[], argsG 0 args⟩ H) : ACalls Tryd.prog 9 args H Kk :=
  ACalls_of Tryd.func9 (c := b9) rfl (by kernel_rfl) t9 (rs := [.cell (.g 2) (some 3)]) (by kernel_rfl) (by rw [hn]; exact Nat.le_of_ble_eq_true rfl) (by rw [hn]; rfl) (h.weaken (fun _ _ => RetP.hands) (by simp))

/-- sastrugi/sastrugikit.BestOf -/
def c8 : ACode :=
  (.seq
(.reg [
  ⟨(some (true, 1)), .box (.g 0), none⟩,
  ⟨(some (true, 2)), .new [.int .i64 0, .int .i64 0, .slice none 0 0], none⟩])
(.seq
(.reg [
  ⟨(some (false, 5)), .fa (.g 1) 0, none⟩,
  ⟨(some (false, 6)), .fa (.l 5) 0, none⟩,
  ⟨(some (false, 7)), .ld none (.l 6), none⟩,
  ⟨(some (false, 8)), .fa (.g 1) 2, none⟩,
  ⟨(some (false, 9)), .fa (.l 8) 1, none⟩,
  ⟨(some (false, 10)), .ld none (.l 9), none⟩,
  ⟨(some (false, 11)), .mk [.int .i64 0, .int .i64 0, .slice none 0 0] [(0, 1, .l 7), (1, 1, .l 10)], none⟩,
  ⟨(some (true, 3)), .new [.int .i64 0, .int .i64 0, .slice none 0 0], none⟩,
  ⟨none, .st 3 (.g 3) (.l 11), none⟩])
(.seq
(.seq
(.reg [
  ⟨(some (true, 4)), .mv (.c (.lit (.int .i64 0))), none⟩])
(.block 0
(.loop
(.seq
(.seq
(.reg [
  ⟨(some (false, 12)), .mv (.g 4), none⟩,
  ⟨(some (false, 13)), .fa (.g 1) 4, none⟩,
  ⟨(some (false, 14)), .ld none (.l 13), none⟩,
  ⟨(some (false, 15)), .len (.l 14), none⟩,
  ⟨(some (true, 16)), .bin .lss (.l 12) (.l 15), none⟩])
(.cond (.g 16)
.skip
(.exit 0)))
(.seq
(.block 1
(.draw [
  ⟨⟨(some (false, 19)), .fa (.g 3) 2, none⟩, 0, true, []⟩,
  ⟨⟨(some (false, 20)), .ld none (.l 19), none⟩, 1, true, []⟩,
  ⟨⟨(some (false, 21)), .fa (.g 1) 4, none⟩, 2, true, []⟩,
  ⟨⟨(some (false, 22)), .ld none (.l 21), none⟩, 3, true, []⟩,
  ⟨⟨(some (false, 23)), .mv (.g 4), none⟩, 4, true, []⟩,
  ⟨⟨(some (false, 24)), .ia 2 (.l 22) (.l 23), none⟩, 5, true, []⟩,
  ⟨⟨(some (false, 25)), .fa (.l 24) 1, none⟩, 6, true, []⟩,
  ⟨⟨(some (false, 26)), .ld none (.l 25), none⟩, 7, true, []⟩,
  ⟨⟨(some (false, 27)), .mks false 1 [.l 26], none⟩, 8, true, []⟩,
  ⟨⟨(some (false, 28)), .app 1 8 (.l 20) (.l 27), none⟩, 9, false, []⟩,
  ⟨⟨(some (false, 29)), .fa (.g 3) 2, none⟩, 10, true, []⟩,
  ⟨⟨none, .st 1 (.l 29) (.l 28), none⟩, 11, true, []⟩]))
(.reg [
  ⟨(some (false, 17)), .mv (.g 4), none⟩,
  ⟨(some (false, 18)), .bin .add (.l 17) (.c (.lit (.int .i64 1))), none⟩,
  ⟨(some (true, 4)), .mv (.l 18), none⟩]))))))
(.seq
(.reg [
  ⟨(some (false, 30)), .ld (some 3) (.g 3), none⟩,
  ⟨none, .st 3 (.g 2) (.l 30), none⟩])
.ret))))
def K8 : List Nat := [0, 16, 2, 1, 3, 4]
noncomputable def b8 : Code := match Tryd.f8.body with | some c => c | none => .skip
theorem t8 : trCode ⟨Tryd.prog, K8, [], 31, none⟩ b8 = some c8 := by kernel_rfl
theorem go8 {args : List AV} {H : AHeap} {Kk : AV → AHeap → Prop} (hn : args.length = 1) (h : AGo ⟨Tryd.prog, K8, [], 31, none⟩ H.length [.code c8] (RetP [.cell (.g 2) (some 3)] H.length Kk) ⟨[], argsG 0 args⟩ H) : ACalls Tryd.prog 8 args H Kk :=
  ACalls_of Tryd.func8 (c := b8) rfl (by kernel_rfl) t8 (rs := [.cell (.g 2) (some 3)]) (by kernel_rfl) (by rw [hn]; exact Nat.le_of_ble_eq_true rfl) (by rw [hn]; rfl) (h.weaken (fun _ _ => RetP.hands) (by simp))

/-- sastrugi/sastrugilaw08.span -/
def c15 : ACode :=
  (.seq
(.reg [
  ⟨(some (true, 4)), .new [.int .i64 0, .int .i64 0], none⟩])
(.seq
(.reg [
  ⟨(some (false, 5)), .mv (.g 0), none⟩,
  ⟨(some (false, 6)), .mv (.g 1), none⟩,
  ⟨(some (false, 7)), .mk [.int .i64 0, .int .i64 0] [(0, 1, .l 5), (1, 1, .l 6)], none⟩,
  ⟨none, .st 2 (.g 4) (.l 7), none⟩])
.ret))
def K15 : List Nat := [0, 1, 4]
noncomputable def b15 : Code := match Tryd.f15.body with | some c => c | none => .skip
theorem t15 : trCode ⟨Tryd.prog, K15, [], 8, none⟩ b15 = some c15 := by kernel_rfl
theorem go15 {args : List AV} {H : AHeap} {Kk : AV → AHeap → Prop} (hn : args.length = 2) (h : AGo ⟨Tryd.prog, K15, [], 8, none⟩ H.length [.code c15] (RetP [.cell (.g 4) (some 2)] H.length Kk) ⟨[], argsG 0 args⟩ H) : ACalls Tryd.prog 15 args H Kk :=
  ACalls_of Tryd.func15 (c := b15) rfl (by kernel_rfl) t15 (rs := [.cell (.g 4) (some 2)]) (by kernel_rfl) (by rw [hn]; exact Nat.le_of_ble_eq_true rfl) (by rw [hn]; rfl) (h.weaken (fun _ _ => RetP.hands) (by simp))

/-- sastrugi/sastrugikit.SameDeliveries -/
def c12 : ACode :=
  (.seq
(.reg [
  ⟨(some (true, 4)), .mv (.c (.lit (.bool false))), none⟩])
(.seq
(.seq
(.reg [
  ⟨(some (false, 6)), .mv (.g 0), none⟩,
  ⟨(some (false, 7)), .len (.l 6), none⟩,
  ⟨(some (false, 8)), .mv (.g 1), none⟩,
  ⟨(some (false, 9)), .len (.l 8), none⟩,
  ⟨(some (true, 10)), .bin .neq (.l 7) (.l 9), none⟩])
(.cond (.g 10)
(.seq
(.reg [
  ⟨(some (true, 4)), .mv (.c (.lit (.bool false))), none⟩])
.ret)
.skip))
(.seq
(.seq
(.reg [
  ⟨(some (true, 5)), .mv (.c (.lit (.int .i64 0))), none⟩])
(.block 0
(.loop
(.seq
(.seq
(.reg [
  ⟨(some (false, 11)), .mv (.g 5), none⟩,
  ⟨(some (false, 12)), .mv (.g 0), none⟩,
  ⟨(some (false, 13)), .len (.l 12), none⟩,
  ⟨(some (true, 14)), .bin .lss (.l 11) (.l 13), none⟩])
(.cond (.g 14)
.skip
(.exit 0)))
(.seq
(.block 1
(.seq
(.draw [
  ⟨⟨(some (false, 17)), .mv (.g 0), none⟩, 0, true, []⟩,
  ⟨⟨(some (false, 18)), .mv (.g 5), none⟩, 1, true, []⟩,
  ⟨⟨(some (false, 19)), .ia 4 (.l 17) (.l 18), none⟩, 2, true, []⟩,
  ⟨⟨(some (false, 20)), .ld (some 4) (.l 19), none⟩, 3, true, []⟩,
  ⟨⟨(some (false, 21)), .mv (.g 1), none⟩, 4, true, []⟩,
  ⟨⟨(some (false, 22)), .mv (.g 5), none⟩, 5, true, []⟩,
  ⟨⟨(some (false, 23)), .ia 4 (.l 21) (.l 22), none⟩, 6, true, []⟩,
  ⟨⟨(some (false, 24)), .ld (some 4) (.l 23), none⟩, 7, true, []⟩,
  ⟨⟨(some (true, 25)), .eqs true (.fld 0 none .i (.fld 1 none .i (.fld 2 none .i (.fld 3 none .i .nil)))) (.l 20) (.l 24), none⟩, 8, true, []⟩])
(.cond (.g 25)
(.seq
(.reg [
  ⟨(some (true, 4)), .mv (.c (.lit (.bool false))), none⟩])
.ret)
.skip)))
(.reg [
  ⟨(some (false, 15)), .mv (.g 5), none⟩,
  ⟨(some (false, 16)), .bin .add (.l 15) (.c (.lit (.int .i64 1))), none⟩,
  ⟨(some (true, 5)), .mv (.l 16), none⟩]))))))
(.seq
(.reg [
  ⟨(some (true, 4)), .mv (.c (.lit (.bool true))), none⟩])
.ret))))
def K12 : List Nat := [0, 1, 10, 14, 25, 4, 5]
noncomputable def b12 : Code := match Tryd.f12.body with | some c => c | none => .skip
theorem t12 : trCode ⟨Tryd.prog, K12, [], 26, none⟩ b12 = some c12 := by kernel_rfl
theorem go12 {args : List AV} {H : AHeap} {Kk : AV → AHeap → Prop} (hn : args.length = 2) (h : AGo ⟨Tryd.prog, K12, [], 26, none⟩ H.length [.code c12] (RetP [.t (.g 4)] H.length Kk) ⟨[], argsG 0 args⟩ H) : ACalls Tryd.prog 12 args H Kk :=
  ACalls_of Tryd.func12 (c := b12) rfl (by kernel_rfl) t12 (rs := [.t (.g 4)]) (by kernel_rfl) (by rw [hn]; exact Nat.le_of_ble_eq_true rfl) (by rw [hn]; rfl) (h.weaken (fun _ _ => RetP.hands) (by simp))

end Go.Sas
namespace Go.Sas
open Go.Proofs
set_option maxRecDepth 100000
/-- sastrugi/freight.Spread -/
def c7 : ACode :=
  (.seq
(.reg [
  ⟨(some (true, 3)), .box (.g 0), none⟩,
  ⟨(some (true, 4)), .box (.g 1), none⟩,
  ⟨(some (true, 6)), .mv (.c (.lit (.slice none 0 0))), none⟩,
  ⟨(some (true, 7)), .mv (.c (.lit (.int .i64 0))), none⟩])
(.seq
(.seq
(.reg [
  ⟨(some (false, 9)), .ld (some 6) (.g 3), none⟩,
  ⟨(some (false, 10)), .ld (some 3) (.g 4), none⟩,
  ⟨(some (false, 11)), .call (.c (.fn 22 [])) [.l 9, .l 10], none⟩,
  ⟨(some (true, 8)), .mv (.l 11), none⟩])
(.seq
(.reg [
  ⟨(some (false, 12)), .mv (.g 8), none⟩,
  ⟨(some (true, 13)), .bin .neq (.l 12) (.c (.lit (.int .i64 0))), none⟩])
(.cond (.g 13)
(.seq
(.reg [
  ⟨(some (false, 14)), .mv (.g 8), none⟩,
  ⟨(some (true, 6)), .mv (.c (.lit (.slice none 0 0))), none⟩,
  ⟨(some (true, 7)), .mv (.l 14), none⟩])
.ret)
.skip)))
(.seq
(.seq
(.reg [
  ⟨(some (false, 15)), .ld (some 6) (.g 3), none⟩,
  ⟨(some (false, 16)), .mv (.g 2), none⟩,
  ⟨(some (false, 17)), .call (.c (.fn 23 [])) [.l 15, .l 16], none⟩,
  ⟨(some (true, 18)), .un .not (.l 17), none⟩])
(.cond (.g 18)
(.seq
(.reg [
  ⟨(some (true, 6)), .mv (.c (.lit (.slice none 0 0))), none⟩,
  ⟨(some (true, 7)), .mv (.c (.lit (.int .i64 3))), none⟩])
.ret)
.skip))
(.seq
(.reg [
  ⟨(some (false, 19)), .ld (some 6) (.g 3), none⟩,
  ⟨(some (false, 20)), .ld (some 3) (.g 4), none⟩,
  ⟨(some (false, 21)), .mk [.int .i64 0, .int .i64 0, .int .i64 0, .int .i64 0, .slice none 0 0, .slice none 0 0, .int .i64 0, .int .i64 0, .slice none 0 0] [(0, 6, .l 19), (6, 3, .l 20)], none⟩,
  ⟨(some (false, 22)), .mv (.g 2), none⟩,
  ⟨(some (false, 23)), .call (.c (.fn 24 [])) [.l 21, .l 22], none⟩,
  ⟨(some (true, 6)), .mv (.l 23), none⟩,
  ⟨(some (true, 7)), .mv (.c (.lit (.int .i64 0))), none⟩])
.ret))))
def K7 : List Nat := [0, 1, 2, 13, 18, 6, 7, 3, 4, 8]
noncomputable def b7 : Code := match Tryd.f7.body with | some c => c | none => .skip
theorem t7 : trCode ⟨Tryd.prog, K7, [], 24, none⟩ b7 = some c7 := by kernel_rfl
theorem go7 {args : List AV} {H : AHeap} {Kk : AV → AHeap → Prop} (hn : args.length = 3) (h : AGo ⟨Tryd.prog, K7, [], 24, none⟩ H.length [.code c7] (RetP [.t (.g 6), .t (.g 7)] H.length Kk) ⟨[], argsG 0 args⟩ H) : ACalls Tryd.prog 7 args H Kk :=
  ACalls_of Tryd.func7 (c := b7) rfl (by kernel_rfl) t7 (rs := [.t (.g 6), .t (.g 7)]) (by kernel_rfl) (by rw [hn]; exact Nat.le_of_ble_eq_true rfl) (by rw [hn]; rfl) (h.weaken (fun _ _ => RetP.hands) (by simp))

/-- sastrugi/freight.Tell -/
def c10 : ACode :=
  (.seq
(.reg [
  ⟨(some (true, 3)), .box (.g 0), none⟩,
  ⟨(some (true, 4)), .box (.g 1), none⟩,
  ⟨(some (true, 6)), .mv (.c (.lit (.slice none 0 0))), none⟩,
  ⟨(some (true, 7)), .mv (.c (.lit (.int .i64 0))), none⟩,
  ⟨(some (true, 8)), .mv (.c (.lit (.int .i64 0))), none⟩])
(.seq
(.seq
(.reg [
  ⟨(some (false, 10)), .ld (some 6) (.g 3), none⟩,
  ⟨(some (false, 11)), .ld (some 3) (.g 4), none⟩,
  ⟨(some (false, 12)), .mv (.g 2), none⟩,
  ⟨(some (false, 13)), .call (.c (.fn 25 [])) [.l 10, .l 11, .l 12], none⟩,
  ⟨(some (true, 9)), .mv (.l 13), none⟩])
(.seq
(.reg [
  ⟨(some (false, 14)), .mv (.g 9), none⟩,
  ⟨(some (true, 15)), .bin .neq (.l 14) (.c (.lit (.int .i64 0))), none⟩])
(.cond (.g 15)
(.seq
(.reg [
  ⟨(some (false, 16)), .mv (.g 9), none⟩,
  ⟨(some (true, 6)), .mv (.c (.lit (.slice none 0 0))), none⟩,
  ⟨(some (true, 7)), .mv (.c (.lit (.int .i64 0))), none⟩,
  ⟨(some (true, 8)), .mv (.l 16), none⟩])
.ret)
.skip)))
(.seq
(.reg [
  ⟨(some (false, 18)), .ld (some 6) (.g 3), none⟩,
  ⟨(some (false, 19)), .ld (some 3) (.g 4), none⟩,
  ⟨(some (false, 20)), .mk [.int .i64 0, .int .i64 0, .int .i64 0, .int .i64 0, .slice none 0 0, .slice none 0 0, .int .i64 0, .int .i64 0, .slice none 0 0] [(0, 6, .l 18), (6, 3, .l 19)], none⟩,
  ⟨(some (false, 21)), .mv (.g 2), none⟩,
  ⟨(some (false, 22)), .call (.c (.fn 26 [])) [.l 20, .l 21], none⟩,
  ⟨(some (false, 17)), .mv (.l 22), none⟩,
  ⟨(some (false, 23)), .ex (.l 17) 0, none⟩,
  ⟨(some (false, 24)), .ex (.l 17) 1, none⟩,
  ⟨(some (true, 6)), .mv (.l 23), none⟩,
  ⟨(some (true, 7)), .mv (.l 24), none⟩])
(.seq
(.reg [
  ⟨(some (false, 25)), .mv (.g 6), none⟩,
  ⟨(some (false, 26)), .mv (.g 7), none⟩,
  ⟨(some (true, 6)), .mv (.l 25), none⟩,
  ⟨(some (true, 7)), .mv (.l 26), none⟩,
  ⟨(some (true, 8)), .mv (.c (.lit (.int .i64 0))), none⟩])
.ret))))
def K10 : List Nat := [0, 1, 2, 15, 6, 7, 8, 3, 4, 9]
noncomputable def b10 : Code := match Tryd.f10.body with | some c => c | none => .skip
theorem t10 : trCode ⟨Tryd.prog, K10, [], 27, none⟩ b10 = some c10 := by kernel_rfl
theorem go10 {args : List AV} {H : AHeap} {Kk : AV → AHeap → Prop} (hn : args.length = 3) (h : AGo ⟨Tryd.prog, K10, [], 27, none⟩ H.length [.code c10] (RetP [.t (.g 6), .t (.g 7), .t (.g 8)] H.length Kk) ⟨[], argsG 0 args⟩ H) : ACalls Tryd.prog 10 args H Kk :=
  ACalls_of Tryd.func10 (c := b10) rfl (by kernel_rfl) t10 (rs := [.t (.g 6), .t (.g 7), .t (.g 8)]) (by kernel_rfl) (by rw [hn]; exact Nat.le_of_ble_eq_true rfl) (by rw [hn]; rfl) (h.weaken (fun _ _ => RetP.hands) (by simp))

/-- sastrugi/freight.Bound$1 -/
def c36 : ACode :=
  (.seq
(.reg [
  ⟨(some (true, 1)), .box (.g 0), none⟩,
  ⟨(some (true, 2)), .mv (.c (.lit (.int .i64 0))), none⟩])
(.seq
(.reg [
  ⟨(some (false, 3)), .fa (.g 1) 3, none⟩,
  ⟨(some (false, 4)), .ld none (.l 3), none⟩,
  ⟨(some (false, 5)), .fa (.g 1) 2, none⟩,
  ⟨(some (false, 6)), .ld none (.l 5), none⟩,
  ⟨(some (false, 7)), .bin .sub (.l 4) (.l 6), none⟩,
  ⟨(some (true, 2)), .mv (.l 7), none⟩])
.ret))
def K36 : List Nat := [0, 2, 1]
noncomputable def b36 : Code := match Tryd.f36.body with | some c => c | none => .skip
theorem t36 : trCode ⟨Tryd.prog, K36, [], 8, none⟩ b36 = some c36 := by kernel_rfl
theorem go36 {args : List AV} {H : AHeap} {Kk : AV → AHeap → Prop} (hn : args.length = 1) (h : AGo ⟨Tryd.prog, K36, [], 8, none⟩ H.length [.code c36] (RetP [.t (.g 2)] H.length Kk) ⟨[], argsG 0 args⟩ H) : ACalls Tryd.prog 36 args H Kk :=
  ACalls_of Tryd.func36 (c := b36) rfl (by kernel_rfl) t36 (rs := [.t (.g 2)]) (by kernel_rfl) (by rw [hn]; exact Nat.le_of_ble_eq_true rfl) (by rw [hn]; rfl) (h.weaken (fun _ _ => RetP.hands) (by simp))

/-- sastrugi/freight.sorted -/
def c37 : ACode :=
  (.seq
(.reg [
  ⟨(some (true, 2)), .box (.g 0), none⟩,
  ⟨(some (true, 3)), .box (.g 1), none⟩,
  ⟨(some (true, 4)), .mv (.c (.lit (.slice none 0 0))), none⟩])
(.seq
(.reg [
  ⟨(some (false, 6)), .fa (.g 2) 5, none⟩,
  ⟨(some (false, 7)), .ld none (.l 6), none⟩,
  ⟨(some (false, 8)), .call (.c (.fn 55 [])) [.l 7], none⟩,
  ⟨(some (true, 5)), .mv (.l 8), none⟩])
(.seq
(.reg [
  ⟨(some (false, 9)), .mv (.g 5), none⟩,
  ⟨(some (false, 10)), .mkf 57 [.g 3], none⟩,
  ⟨(some (false, 11)), .call (.c (.fn 56 [])) [.l 9, .l 10], none⟩])
(.seq
(.reg [
  ⟨(some (false, 12)), .mv (.g 5), none⟩,
  ⟨(some (true, 4)), .mv (.l 12), none⟩])
.ret))))
def K37 : List Nat := [0, 1, 4, 2, 3, 5]
noncomputable def b37 : Code := match Tryd.f37.body with | some c => c | none => .skip
theorem t37 : trCode ⟨Tryd.prog, K37, [], 13, none⟩ b37 = some c37 := by kernel_rfl
theorem go37 {args : List AV} {H : AHeap} {Kk : AV → AHeap → Prop} (hn : args.length = 2) (h : AGo ⟨Tryd.prog, K37, [], 13, none⟩ H.length [.code c37] (RetP [.t (.g 4)] H.length Kk) ⟨[], argsG 0 args⟩ H) : ACalls Tryd.prog 37 args H Kk :=
  ACalls_of Tryd.func37 (c := b37) rfl (by kernel_rfl) t37 (rs := [.t (.g 4)]) (by kernel_rfl) (by rw [hn]; exact Nat.le_of_ble_eq_true rfl) (by rw [hn]; rfl) (h.weaken (fun _ _ => RetP.hands) (by simp))

/-- sastrugi/freight.Bound$2 -/
def c38 : ACode :=
  (.seq
(.reg [
  ⟨(some (true, 1)), .box (.g 0), none⟩,
  ⟨(some (true, 2)), .mv (.c (.lit (.int .i64 0))), none⟩])
(.seq
(.reg [
  ⟨(some (false, 3)), .fa (.g 1) 2, none⟩,
  ⟨(some (false, 4)), .ld none (.l 3), none⟩,
  ⟨(some (true, 2)), .mv (.l 4), none⟩])
.ret))
def K38 : List Nat := [0, 2, 1]
noncomputable def b38 : Code := match Tryd.f38.body with | some c => c | none => .skip
theorem t38 : trCode ⟨Tryd.prog, K38, [], 5, none⟩ b38 = some c38 := by kernel_rfl
theorem go38 {args : List AV} {H : AHeap} {Kk : AV → AHeap → Prop} (hn : args.length = 1) (h : AGo ⟨Tryd.prog, K38, [], 5, none⟩ H.length [.code c38] (RetP [.t (.g 2)] H.length Kk) ⟨[], argsG 0 args⟩ H) : ACalls Tryd.prog 38 args H Kk :=
  ACalls_of Tryd.func38 (c := b38) rfl (by kernel_rfl) t38 (rs := [.t (.g 2)]) (by kernel_rfl) (by rw [hn]; exact Nat.le_of_ble_eq_true rfl) (by rw [hn]; rfl) (h.weaken (fun _ _ => RetP.hands) (by simp))

/-- sastrugi/freight.checkPlan -/
def c27 : ACode :=
  (.seq
(.reg [
  ⟨(some (true, 2)), .box (.g 0), none⟩,
  ⟨(some (true, 4)), .mv (.c (.lit (.int .i64 0))), none⟩])
(.seq
(.seq
(.reg [
  ⟨(some (false, 6)), .ld (some 6) (.g 2), none⟩,
  ⟨(some (false, 7)), .call (.c (.fn 6 [])) [.l 6], none⟩,
  ⟨(some (true, 5)), .mv (.l 7), none⟩])
(.seq
(.reg [
  ⟨(some (false, 8)), .mv (.g 5), none⟩,
  ⟨(some (true, 9)), .bin .neq (.l 8) (.c (.lit (.int .i64 0))), none⟩])
(.cond (.g 9)
(.seq
(.reg [
  ⟨(some (false, 10)), .mv (.g 5), none⟩,
  ⟨(some (true, 4)), .mv (.l 10), none⟩])
.ret)
.skip)))
(.seq
(.seq
(.reg [
  ⟨(some (false, 11)), .ld (some 6) (.g 2), none⟩,
  ⟨(some (false, 12)), .mv (.g 1), none⟩,
  ⟨(some (false, 13)), .call (.c (.fn 23 [])) [.l 11, .l 12], none⟩,
  ⟨(some (true, 14)), .un .not (.l 13), none⟩])
(.cond (.g 14)
(.seq
(.reg [
  ⟨(some (true, 4)), .mv (.c (.lit (.int .i64 3))), none⟩])
.ret)
.skip))
(.seq
(.reg [
  ⟨(some (true, 4)), .mv (.c (.lit (.int .i64 0))), none⟩])
.ret))))
def K27 : List Nat := [0, 1, 9, 14, 4, 2, 5]
noncomputable def b27 : Code := match Tryd.f27.body with | some c => c | none => .skip
theorem t27 : trCode ⟨Tryd.prog, K27, [], 15, none⟩ b27 = some c27 := by kernel_rfl
theorem go27 {args : List AV} {H : AHeap} {Kk : AV → AHeap → Prop} (hn : args.length = 2) (h : AGo ⟨Tryd.prog, K27, [], 15, none⟩ H.length [.code c27] (RetP [.t (.g 4)] H.length Kk) ⟨[], argsG 0 args⟩ H) : ACalls Tryd.prog 27 args H Kk :=
  ACalls_of Tryd.func27 (c := b27) rfl (by kernel_rfl) t27 (rs := [.t (.g 4)]) (by kernel_rfl) (by rw [hn]; exact Nat.le_of_ble_eq_true rfl) (by rw [hn]; rfl) (h.weaken (fun _ _ => RetP.hands) (by simp))

/-- sastrugi/freight.best -/
def c28 : ACode :=
  (.seq
(.reg [
  ⟨(some (true, 1)), .box (.g 0), none⟩,
  ⟨(some (true, 2)), .new [.int .i64 0, .int .i64 0, .int .i64 0, .int .i64 0, .slice none 0 0, .slice none 0 0, .int .i64 0, .int .i64 0, .slice none 0 0], none⟩])
(.seq
(.reg [
  ⟨(some (false, 6)), .fa (.g 1) 0, none⟩,
  ⟨(some (false, 7)), .fa (.l 6) 0, none⟩,
  ⟨(some (false, 8)), .ld none (.l 7), none⟩,
  ⟨(some (false, 9)), .fa (.g 1) 2, none⟩,
  ⟨(some (false, 10)), .fa (.l 9) 1, none⟩,
  ⟨(some (false, 11)), .ld none (.l 10), none⟩,
  ⟨(some (false, 12)), .mk [.int .i64 0, .int .i64 0, .slice none 0 0] [(0, 1, .l 8), (1, 1, .l 11)], none⟩,
  ⟨(some (true, 3)), .new [.int .i64 0, .int .i64 0, .slice none 0 0], none⟩,
  ⟨none, .st 3 (.g 3) (.l 12), none⟩])
(.seq
(.seq
(.reg [
  ⟨(some (false, 13)), .fa (.g 1) 4, none⟩,
  ⟨(some (true, 14)), .ld none (.l 13), none⟩,
  ⟨(some (true, 15)), .len (.g 14), none⟩,
  ⟨(some (true, 16)), .mv (.c (.lit (.int .i64 0))), none⟩])
(.block 0
(.loop
(.seq
(.reg [
  ⟨(some (true, 17)), .bin .lss (.g 16) (.g 15), none⟩])
(.seq
(.cond (.g 17)
.skip
(.exit 0))
(.seq
(.block 1
(.seq
(.reg [
  ⟨(some (false, 18)), .ia 2 (.g 14) (.g 16), none⟩,
  ⟨(some (false, 19)), .ld (some 2) (.l 18), none⟩,
  ⟨(some (true, 5)), .new [.int .i64 0, .int .i64 0], none⟩,
  ⟨none, .st 2 (.g 5) (.l 19), none⟩])
(.reg [
  ⟨(some (false, 20)), .fa (.g 3) 2, none⟩,
  ⟨(some (false, 21)), .ld none (.l 20), none⟩,
  ⟨(some (false, 22)), .fa (.g 5) 1, none⟩,
  ⟨(some (false, 23)), .ld none (.l 22), none⟩,
  ⟨(some (false, 24)), .mks false 1 [.l 23], none⟩,
  ⟨(some (false, 25)), .app 1 8 (.l 21) (.l 24), none⟩,
  ⟨(some (false, 26)), .fa (.g 3) 2, none⟩,
  ⟨none, .st 1 (.l 26) (.l 25), none⟩])))
(.reg [
  ⟨(some (false, 27)), .bin .add (.g 16) (.c (.lit (.int .i64 1))), none⟩,
  ⟨(some (true, 16)), .mv (.l 27), none⟩])))))))
(.seq
(.reg [
  ⟨(some (false, 28)), .ld (some 6) (.g 1), none⟩,
  ⟨(some (false, 29)), .ld (some 3) (.g 3), none⟩,
  ⟨(some (false, 30)), .mk [.int .i64 0, .int .i64 0, .int .i64 0, .int .i64 0, .slice none 0 0, .slice none 0 0, .int .i64 0, .int .i64 0, .slice none 0 0] [(0, 6, .l 28), (6, 3, .l 29)], none⟩,
  ⟨none, .st 9 (.g 2) (.l 30), none⟩])
.ret))))
def K28 : List Nat := [0, 17, 2, 1, 3, 14, 15, 16, 5]
noncomputable def b28 : Code := match Tryd.f28.body with | some c => c | none => .skip
theorem t28 : trCode ⟨Tryd.prog, K28, [], 31, none⟩ b28 = some c28 := by kernel_rfl
theorem go28 {args : List AV} {H : AHeap} {Kk : AV → AHeap → Prop} (hn : args.length = 1) (h : AGo ⟨Tryd.prog, K28, [], 31, none⟩ H.length [.code c28] (RetP [.cell (.g 2) (some 9)] H.length Kk) ⟨[], argsG 0 args⟩ H) : ACalls Tryd.prog 28 args H Kk :=
  ACalls_of Tryd.func28 (c := b28) rfl (by kernel_rfl) t28 (rs := [.cell (.g 2) (some 9)]) (by kernel_rfl) (by rw [hn]; exact Nat.le_of_ble_eq_true rfl) (by rw [hn]; rfl) (h.weaken (fun _ _ => RetP.hands) (by simp))

/-- (sastrugi/freight.season).tell -/
def c26 : ACode :=
  (.seq
(.reg [
  ⟨(some (true, 2)), .box (.g 0), none⟩,
  ⟨(some (true, 4)), .mv (.c (.lit (.slice none 0 0))), none⟩,
  ⟨(some (true, 5)), .mv (.c (.lit (.int .i64 0))), none⟩])
(.seq
(.seq
(.reg [
  ⟨(some (false, 13)), .fa (.g 2) 0, none⟩,
  ⟨(some (false, 14)), .fa (.l 13) 5, none⟩,
  ⟨(some (true, 15)), .ld none (.l 14), none⟩,
  ⟨(some (true, 16)), .len (.g 15), none⟩,
  ⟨(some (true, 17)), .mv (.c (.lit (.int .i64 0))), none⟩])
(.block 0
(.loop
(.seq
(.reg [
  ⟨(some (true, 18)), .bin .lss (.g 17) (.g 16), none⟩])
(.seq
(.cond (.g 18)
.skip
(.exit 0))
(.seq
(.block 1
(.seq
(.reg [
  ⟨(some (false, 19)), .mv (.g 17), none⟩,
  ⟨(some (false, 20)), .ia 4 (.g 15) (.g 17), none⟩,
  ⟨(some (false, 21)), .ld (some 4) (.l 20), none⟩,
  ⟨(some (true, 7)), .new [.int .i64 0, .int .i64 0, .int .i64 0, .int .i64 0], none⟩,
  ⟨(some (true, 6)), .mv (.l 19), none⟩,
  ⟨none, .st 4 (.g 7) (.l 21), none⟩])
(.seq
(.draw [
  ⟨⟨(some (false, 22)), .mv (.g 1), none⟩, 0, true, []⟩,
  ⟨⟨(some (false, 23)), .mv (.g 6), none⟩, 1, true, []⟩,
  ⟨⟨(some (false, 24)), .ia 1 (.l 22) (.l 23), none⟩, 2, true, []⟩,
  ⟨⟨(some (false, 25)), .ld none (.l 24), none⟩, 3, true, []⟩,
  ⟨⟨(some (false, 26)), .fa (.g 7) 1, none⟩, 4, true, []⟩,
  ⟨⟨(some (false, 27)), .ld none (.l 26), none⟩, 5, true, []⟩,
  ⟨⟨(some (false, 28)), .bin .add (.l 27) (.c (.lit (.int .i64 1))), none⟩, 6, true, []⟩,
  ⟨⟨(some (false, 29)), .fa (.g 2) 0, none⟩, 7, true, []⟩,
  ⟨⟨(some (false, 30)), .fa (.l 29) 4, none⟩, 8, true, []⟩,
  ⟨⟨(some (false, 31)), .ld none (.l 30), none⟩, 9, true, []⟩,
  ⟨⟨(some (false, 32)), .len (.l 31), none⟩, 10, true, []⟩,
  ⟨⟨(some (false, 33)), .mn [.l 28, .l 32], none⟩, 11, true, []⟩,
  ⟨⟨(some (false, 34)), .sl 1 (.l 25) none (some (.l 33)) none, none⟩, 12, true, []⟩,
  ⟨⟨(some (false, 35)), .call (.c (.fn 42 [])) [.l 34], none⟩, 13, false, []⟩,
  ⟨⟨(some (true, 8)), .mv (.l 35), none⟩, 14, true, []⟩])
(.seq
(.reg [
  ⟨(some (false, 36)), .mv (.g 1), none⟩,
  ⟨(some (false, 37)), .mv (.g 6), none⟩,
  ⟨(some (false, 38)), .ia 1 (.l 36) (.l 37), none⟩,
  ⟨(some (false, 39)), .ld none (.l 38), none⟩,
  ⟨(some (false, 40)), .call (.c (.fn 42 [])) [.l 39], none⟩,
  ⟨(some (true, 9)), .mv (.l 40), none⟩])
(.seq
(.reg [
  ⟨(some (false, 41)), .mv (.g 8), none⟩,
  ⟨(some (false, 42)), .mv (.g 9), none⟩,
  ⟨(some (false, 43)), .mv (.g 8), none⟩,
  ⟨(some (false, 44)), .bin .sub (.l 42) (.l 43), none⟩,
  ⟨(some (false, 45)), .fa (.g 7) 0, none⟩,
  ⟨(some (false, 46)), .ld none (.l 45), none⟩,
  ⟨(some (false, 47)), .mv (.g 9), none⟩,
  ⟨(some (false, 48)), .bin .sub (.l 46) (.l 47), none⟩,
  ⟨(some (false, 49)), .mk [.int .i64 0, .int .i64 0, .int .i64 0, .int .i64 0] [(0, 1, .l 41), (1, 1, .l 44), (2, 1, .l 48), (3, 1, .c (.lit (.int .i64 (-1))))], none⟩,
  ⟨(some (true, 10)), .new [.int .i64 0, .int .i64 0, .int .i64 0, .int .i64 0], none⟩,
  ⟨none, .st 4 (.g 10) (.l 49), none⟩])
(.seq
(.seq
(.reg [
  ⟨(some (false, 50)), .fa (.g 10) 2, none⟩,
  ⟨(some (false, 51)), .ld none (.l 50), none⟩,
  ⟨(some (true, 52)), .bin .eql (.l 51) (.c (.lit (.int .i64 0))), none⟩])
(.cond (.g 52)
(.seq
(.reg [
  ⟨(some (false, 53)), .mv (.g 1), none⟩,
  ⟨(some (false, 54)), .mv (.g 6), none⟩,
  ⟨(some (false, 55)), .ia 1 (.l 53) (.l 54), none⟩,
  ⟨(some (true, 56)), .ld none (.l 55), none⟩,
  ⟨(some (true, 57)), .len (.g 56), none⟩,
  ⟨(some (true, 58)), .mv (.c (.lit (.int .i64 0))), none⟩])
(.block 2
(.loop
(.seq
(.reg [
  ⟨(some (true, 59)), .bin .lss (.g 58) (.g 57), none⟩])
(.seq
(.cond (.g 59)
.skip
(.exit 2))
(.seq
(.block 3
(.seq
(.reg [
  ⟨(some (false, 60)), .mv (.g 58), none⟩,
  ⟨(some (false, 61)), .ia 1 (.g 56) (.g 58), none⟩,
  ⟨(some (false, 62)), .ld none (.l 61), none⟩,
  ⟨(some (true, 11)), .mv (.l 60), none⟩,
  ⟨(some (true, 12)), .mv (.l 62), none⟩])
(.seq
(.reg [
  ⟨(some (false, 63)), .mv (.g 12), none⟩,
  ⟨(some (true, 64)), .bin .gtr (.l 63) (.c (.lit (.int .i64 0))), none⟩])
(.cond (.g 64)
(.reg [
  ⟨(some (false, 65)), .mv (.g 11), none⟩,
  ⟨(some (false, 66)), .fa (.g 10) 3, none⟩,
  ⟨none, .st 1 (.l 66) (.l 65), none⟩])
.skip))))
(.reg [
  ⟨(some (false, 67)), .bin .add (.g 58) (.c (.lit (.int .i64 1))), none⟩,
  ⟨(some (true, 58)), .mv (.l 67), none⟩])))))))
.skip))
(.seq
(.reg [
  ⟨(some (false, 68)), .mv (.g 4), none⟩,
  ⟨(some (false, 69)), .ld (some 4) (.g 10), none⟩,
  ⟨(some (false, 70)), .mks false 4 [.l 69], none⟩,
  ⟨(some (false, 71)), .app 4 32 (.l 68) (.l 70), none⟩,
  ⟨(some (true, 4)), .mv (.l 71), none⟩])
(.reg [
  ⟨(some (false, 72)), .mv (.g 5), none⟩,
  ⟨(some (false, 73)), .fa (.g 10) 1, none⟩,
  ⟨(some (false, 74)), .ld none (.l 73), none⟩,
  ⟨(some (false, 75)), .fa (.g 7) 2, none⟩,
  ⟨(some (false, 76)), .ld none (.l 75), none⟩,
  ⟨(some (false, 77)), .bin .mul (.l 74) (.l 76), none⟩,
  ⟨(some (false, 78)), .fa (.g 10) 2, none⟩,
  ⟨(some (false, 79)), .ld none (.l 78), none⟩,
  ⟨(some (false, 80)), .fa (.g 7) 3, none⟩,
  ⟨(some (false, 81)), .ld none (.l 80), none⟩,
  ⟨(some (false, 82)), .bin .mul (.l 79) (.l 81), none⟩,
  ⟨(some (false, 83)), .bin .add (.l 77) (.l 82), none⟩,
  ⟨(some (false, 84)), .bin .add (.l 72) (.l 83), none⟩,
  ⟨(some (true, 5)), .mv (.l 84), none⟩]))))))))
(.reg [
  ⟨(some (false, 85)), .bin .add (.g 17) (.c (.lit (.int .i64 1))), none⟩,
  ⟨(some (true, 17)), .mv (.l 85), none⟩])))))))
(.seq
(.reg [
  ⟨(some (false, 86)), .mv (.g 4), none⟩,
  ⟨(some (false, 87)), .mv (.g 5), none⟩,
  ⟨(some (true, 4)), .mv (.l 86), none⟩,
  ⟨(some (true, 5)), .mv (.l 87), none⟩])
.ret)))
def K26 : List Nat := [0, 1, 18, 52, 59, 64, 4, 5, 2, 15, 16, 17, 7, 6, 8, 9, 10, 56, 57, 58, 11, 12]
noncomputable def b26 : Code := match Tryd.f26.body with | some c => c | none => .skip
theorem t26 : trCode ⟨Tryd.prog, K26, [], 88, none⟩ b26 = some c26 := by kernel_rfl
theorem go26 {args : List AV} {H : AHeap} {Kk : AV → AHeap → Prop} (hn : args.length = 2) (h : AGo ⟨Tryd.prog, K26, [], 88, none⟩ H.length [.code c26] (RetP [.t (.g 4), .t (.g 5)] H.length Kk) ⟨[], argsG 0 args⟩ H) : ACalls Tryd.prog 26 args H Kk :=
  ACalls_of Tryd.func26 (c := b26) rfl (by kernel_rfl) t26 (rs := [.t (.g 4), .t (.g 5)]) (by kernel_rfl) (by rw [hn]; exact Nat.le_of_ble_eq_true rfl) (by rw [hn]; rfl) (h.weaken (fun _ _ => RetP.hands) (by simp))

/-- (sastrugi/freight.season).spread -/
def c24 : ACode :=
  (.seq
(.reg [
  ⟨(some (true, 2)), .box (.g 0), none⟩,
  ⟨(some (true, 4)), .mv (.c (.lit (.slice none 0 0))), none⟩])
(.seq
(.reg [
  ⟨(some (true, 5)), .new [.int .i64 0, .int .i64 0, .int .i64 0, .int .i64 0, .int .i64 0, .int .i64 0], none⟩])
(.seq
(.reg [
  ⟨(some (false, 14)), .fa (.g 2) 0, none⟩,
  ⟨(some (false, 15)), .fa (.l 14) 5, none⟩,
  ⟨(some (false, 16)), .ld none (.l 15), none⟩,
  ⟨(some (false, 17)), .len (.l 16), none⟩,
  ⟨(some (false, 18)), .mksl 1 24 [.slice none 0 0] (.l 17) (.l 17), none⟩,
  ⟨(some (true, 6)), .mv (.l 18), none⟩])
(.seq
(.seq
(.reg [
  ⟨(some (false, 19)), .fa (.g 2) 0, none⟩,
  ⟨(some (false, 20)), .fa (.l 19) 5, none⟩,
  ⟨(some (true, 21)), .ld none (.l 20), none⟩,
  ⟨(some (true, 22)), .len (.g 21), none⟩,
  ⟨(some (true, 23)), .mv (.c (.lit (.int .i64 0))), none⟩])
(.block 0
(.loop
(.seq
(.reg [
  ⟨(some (true, 24)), .bin .lss (.g 23) (.g 22), none⟩])
(.seq
(.cond (.g 24)
.skip
(.exit 0))
(.seq
(.block 1
(.seq
(.reg [
  ⟨(some (false, 25)), .mv (.g 23), none⟩,
  ⟨(some (false, 26)), .ia 4 (.g 21) (.g 23), none⟩,
  ⟨(some (false, 27)), .ld (some 4) (.l 26), none⟩,
  ⟨(some (true, 8)), .new [.int .i64 0, .int .i64 0, .int .i64 0, .int .i64 0], none⟩,
  ⟨(some (true, 7)), .mv (.l 25), none⟩,
  ⟨none, .st 4 (.g 8) (.l 27), none⟩])
(.seq
(.reg [
  ⟨(some (false, 28)), .mv (.g 7), none⟩,
  ⟨(some (false, 29)), .fa (.g 8) 0, none⟩,
  ⟨(some (false, 30)), .ld none (.l 29), none⟩,
  ⟨(some (false, 31)), .iaa 6 1 (.g 5) (.l 28), none⟩,
  ⟨none, .st 1 (.l 31) (.l 30), none⟩])
(.reg [
  ⟨(some (false, 32)), .mv (.g 6), none⟩,
  ⟨(some (false, 33)), .mv (.g 7), none⟩,
  ⟨(some (false, 34)), .fa (.g 2) 0, none⟩,
  ⟨(some (false, 35)), .fa (.l 34) 4, none⟩,
  ⟨(some (false, 36)), .ld none (.l 35), none⟩,
  ⟨(some (false, 37)), .len (.l 36), none⟩,
  ⟨(some (false, 38)), .mksl 1 8 [.int .i64 0] (.l 37) (.l 37), none⟩,
  ⟨(some (false, 39)), .ia 1 (.l 32) (.l 33), none⟩,
  ⟨none, .st 1 (.l 39) (.l 38), none⟩]))))
(.reg [
  ⟨(some (false, 40)), .bin .add (.g 23) (.c (.lit (.int .i64 1))), none⟩,
  ⟨(some (true, 23)), .mv (.l 40), none⟩])))))))
(.seq
(.seq
(.reg [
  ⟨(some (false, 41)), .fa (.g 2) 0, none⟩,
  ⟨(some (false, 42)), .fa (.l 41) 4, none⟩,
  ⟨(some (false, 43)), .ld none (.l 42), none⟩,
  ⟨(some (true, 44)), .len (.l 43), none⟩,
  ⟨(some (true, 45)), .mv (.c (.lit (.int .i64 0))), none⟩])
(.block 2
(.loop
(.seq
(.reg [
  ⟨(some (true, 46)), .bin .lss (.g 45) (.g 44), none⟩])
(.seq
(.cond (.g 46)
.skip
(.exit 2))
(.seq
(.block 3
(.seq
(.reg [
  ⟨(some (false, 47)), .mv (.g 45), none⟩,
  ⟨(some (true, 9)), .mv (.l 47), none⟩])
(.seq
(.reg [
  ⟨(some (false, 48)), .ld (some 9) (.g 2), none⟩,
  ⟨(some (false, 49)), .mv (.g 9), none⟩,
  ⟨(some (false, 50)), .call (.c (.fn 35 [])) [.l 48, .l 49], none⟩,
  ⟨(some (true, 10)), .mv (.l 50), none⟩])
(.seq
(.reg [
  ⟨(some (true, 51)), .mv (.g 1), none⟩,
  ⟨(some (true, 52)), .len (.g 51), none⟩,
  ⟨(some (true, 53)), .mv (.c (.lit (.int .i64 0))), none⟩])
(.block 4
(.loop
(.seq
(.reg [
  ⟨(some (true, 54)), .bin .lss (.g 53) (.g 52), none⟩])
(.seq
(.cond (.g 54)
.skip
(.exit 4))
(.seq
(.block 5
(.seq
(.reg [
  ⟨(some (false, 55)), .ia 1 (.g 51) (.g 53), none⟩,
  ⟨(some (false, 56)), .ld none (.l 55), none⟩,
  ⟨(some (true, 12)), .mv (.l 56), none⟩])
(.seq
(.reg [
  ⟨(some (false, 57)), .mv (.g 10), none⟩,
  ⟨(some (false, 58)), .mv (.g 12), none⟩,
  ⟨(some (false, 59)), .iaa 6 1 (.g 5) (.l 58), none⟩,
  ⟨(some (false, 60)), .ld none (.l 59), none⟩,
  ⟨(some (false, 61)), .mn [.l 57, .l 60], none⟩,
  ⟨(some (true, 13)), .mv (.l 61), none⟩])
(.seq
(.reg [
  ⟨(some (false, 62)), .mv (.g 6), none⟩,
  ⟨(some (false, 63)), .mv (.g 12), none⟩,
  ⟨(some (false, 64)), .ia 1 (.l 62) (.l 63), none⟩,
  ⟨(some (false, 65)), .ld none (.l 64), none⟩,
  ⟨(some (false, 66)), .mv (.g 9), none⟩,
  ⟨(some (false, 67)), .mv (.g 13), none⟩,
  ⟨(some (false, 68)), .ia 1 (.l 65) (.l 66), none⟩,
  ⟨none, .st 1 (.l 68) (.l 67), none⟩])
(.seq
(.reg [
  ⟨(some (false, 69)), .mv (.g 10), none⟩,
  ⟨(some (false, 70)), .mv (.g 13), none⟩,
  ⟨(some (false, 71)), .bin .sub (.l 69) (.l 70), none⟩,
  ⟨(some (true, 10)), .mv (.l 71), none⟩])
(.reg [
  ⟨(some (false, 72)), .mv (.g 12), none⟩,
  ⟨(some (false, 73)), .iaa 6 1 (.g 5) (.l 72), none⟩,
  ⟨(some (false, 74)), .ld none (.l 73), none⟩,
  ⟨(some (false, 75)), .mv (.g 13), none⟩,
  ⟨(some (false, 76)), .bin .sub (.l 74) (.l 75), none⟩,
  ⟨(some (false, 77)), .iaa 6 1 (.g 5) (.l 72), none⟩,
  ⟨none, .st 1 (.l 77) (.l 76), none⟩]))))))
(.reg [
  ⟨(some (false, 78)), .bin .add (.g 53) (.c (.lit (.int .i64 1))), none⟩,
  ⟨(some (true, 53)), .mv (.l 78), none⟩]))))))))))
(.reg [
  ⟨(some (false, 79)), .bin .add (.g 45) (.c (.lit (.int .i64 1))), none⟩,
  ⟨(some (true, 45)), .mv (.l 79), none⟩])))))))
(.seq
(.reg [
  ⟨(some (false, 80)), .mv (.g 6), none⟩,
  ⟨(some (true, 4)), .mv (.l 80), none⟩])
.ret))))))
def K24 : List Nat := [0, 1, 24, 46, 54, 4, 2, 5, 6, 21, 22, 23, 8, 7, 44, 45, 9, 10, 51, 52, 53, 12, 13]
noncomputable def b24 : Code := match Tryd.f24.body with | some c => c | none => .skip
theorem t24 : trCode ⟨Tryd.prog, K24, [], 81, none⟩ b24 = some c24 := by kernel_rfl
theorem go24 {args : List AV} {H : AHeap} {Kk : AV → AHeap → Prop} (hn : args.length = 2) (h : AGo ⟨Tryd.prog, K24, [], 81, none⟩ H.length [.code c24] (RetP [.t (.g 4)] H.length Kk) ⟨[], argsG 0 args⟩ H) : ACalls Tryd.prog 24 args H Kk :=
  ACalls_of Tryd.func24 (c := b24) rfl (by kernel_rfl) t24 (rs := [.t (.g 4)]) (by kernel_rfl) (by rw [hn]; exact Nat.le_of_ble_eq_true rfl) (by rw [hn]; rfl) (h.weaken (fun _ _ => RetP.hands) (by simp))

/-- sastrugi/freight.checkWinter -/
def c22 : ACode :=
  (.seq
(.reg [
  ⟨(some (true, 2)), .box (.g 0), none⟩,
  ⟨(some (true, 3)), .box (.g 1), none⟩,
  ⟨(some (true, 4)), .mv (.c (.lit (.int .i64 0))), none⟩])
(.seq
(.seq
(.reg [
  ⟨(some (false, 9)), .ld (some 6) (.g 2), none⟩,
  ⟨(some (false, 10)), .call (.c (.fn 6 [])) [.l 9], none⟩,
  ⟨(some (true, 5)), .mv (.l 10), none⟩])
(.seq
(.reg [
  ⟨(some (false, 11)), .mv (.g 5), none⟩,
  ⟨(some (true, 12)), .bin .neq (.l 11) (.c (.lit (.int .i64 0))), none⟩])
(.cond (.g 12)
(.seq
(.reg [
  ⟨(some (false, 13)), .mv (.g 5), none⟩,
  ⟨(some (true, 4)), .mv (.l 13), none⟩])
.ret)
.skip)))
(.seq
(.seq
(.reg [
  ⟨(some (false, 14)), .fa (.g 3) 2, none⟩,
  ⟨(some (false, 15)), .ld none (.l 14), none⟩,
  ⟨(some (false, 16)), .len (.l 15), none⟩,
  ⟨(some (false, 17)), .fa (.g 2) 4, none⟩,
  ⟨(some (false, 18)), .ld none (.l 17), none⟩,
  ⟨(some (false, 19)), .len (.l 18), none⟩,
  ⟨(some (true, 20)), .bin .neq (.l 16) (.l 19), none⟩])
(.cond (.g 20)
(.seq
(.reg [
  ⟨(some (true, 4)), .mv (.c (.lit (.int .i64 3))), none⟩])
.ret)
.skip))
(.seq
(.reg [
  ⟨(some (false, 21)), .fa (.g 3) 0, none⟩,
  ⟨(some (false, 22)), .ld none (.l 21), none⟩,
  ⟨(some (false, 23)), .fa (.g 2) 0, none⟩,
  ⟨(some (false, 24)), .fa (.l 23) 0, none⟩,
  ⟨(some (false, 25)), .ld none (.l 24), none⟩,
  ⟨(some (false, 26)), .fa (.g 2) 0, none⟩,
  ⟨(some (false, 27)), .fa (.l 26) 1, none⟩,
  ⟨(some (false, 28)), .ld none (.l 27), none⟩,
  ⟨(some (false, 29)), .call (.c (.fn 21 [])) [.l 22, .l 25, .l 28], none⟩,
  ⟨(some (false, 30)), .mv (.l 29), none⟩,
  ⟨(some (false, 31)), .fa (.g 3) 1, (some (.l 30, true))⟩,
  ⟨(some (false, 32)), .ld none (.l 31), (some (.l 30, true))⟩,
  ⟨(some (false, 33)), .fa (.g 2) 2, (some (.l 30, true))⟩,
  ⟨(some (false, 34)), .fa (.l 33) 0, (some (.l 30, true))⟩,
  ⟨(some (false, 35)), .ld none (.l 34), (some (.l 30, true))⟩,
  ⟨(some (false, 36)), .fa (.g 2) 2, (some (.l 30, true))⟩,
  ⟨(some (false, 37)), .fa (.l 36) 1, (some (.l 30, true))⟩,
  ⟨(some (false, 38)), .ld none (.l 37), (some (.l 30, true))⟩,
  ⟨(some (false, 39)), .call (.c (.fn 21 [])) [.l 32, .l 35, .l 38], (some (.l 30, true))⟩,
  ⟨(some (false, 40)), .pick (.l 30) (.l 39) (.c (.lit (.bool false))), none⟩,
  ⟨(some (true, 6)), .mv (.l 40), none⟩])
(.seq
(.seq
(.reg [
  ⟨(some (false, 41)), .fa (.g 3) 2, none⟩,
  ⟨(some (true, 42)), .ld none (.l 41), none⟩,
  ⟨(some (true, 43)), .len (.g 42), none⟩,
  ⟨(some (true, 44)), .mv (.c (.lit (.int .i64 0))), none⟩])
(.block 0
(.loop
(.seq
(.reg [
  ⟨(some (true, 45)), .bin .lss (.g 44) (.g 43), none⟩])
(.seq
(.cond (.g 45)
.skip
(.exit 0))
(.seq
(.block 1
(.seq
(.reg [
  ⟨(some (false, 46)), .mv (.g 44), none⟩,
  ⟨(some (false, 47)), .ia 1 (.g 42) (.g 44), none⟩,
  ⟨(some (false, 48)), .ld none (.l 47), none⟩,
  ⟨(some (true, 7)), .mv (.l 46), none⟩,
  ⟨(some (true, 8)), .mv (.l 48), none⟩])
(.draw [
  ⟨⟨(some (false, 49)), .mv (.g 6), none⟩, 0, true, []⟩,
  ⟨⟨(some (false, 50)), .mv (.l 49), none⟩, 1, true, []⟩,
  ⟨⟨(some (false, 51)), .mv (.g 8), (some (.l 50, true))⟩, 2, true, []⟩,
  ⟨⟨(some (false, 52)), .fa (.g 2) 4, (some (.l 50, true))⟩, 3, true, []⟩,
  ⟨⟨(some (false, 53)), .ld none (.l 52), (some (.l 50, true))⟩, 4, true, []⟩,
  ⟨⟨(some (false, 54)), .mv (.g 7), (some (.l 50, true))⟩, 5, true, []⟩,
  ⟨⟨(some (false, 55)), .ia 2 (.l 53) (.l 54), (some (.l 50, true))⟩, 6, true, []⟩,
  ⟨⟨(some (false, 56)), .fa (.l 55) 0, (some (.l 50, true))⟩, 7, true, []⟩,
  ⟨⟨(some (false, 57)), .ld none (.l 56), (some (.l 50, true))⟩, 8, true, []⟩,
  ⟨⟨(some (false, 58)), .fa (.g 2) 4, (some (.l 50, true))⟩, 9, true, []⟩,
  ⟨⟨(some (false, 59)), .ld none (.l 58), (some (.l 50, true))⟩, 10, true, []⟩,
  ⟨⟨(some (false, 60)), .mv (.g 7), (some (.l 50, true))⟩, 11, true, []⟩,
  ⟨⟨(some (false, 61)), .ia 2 (.l 59) (.l 60), (some (.l 50, true))⟩, 12, true, []⟩,
  ⟨⟨(some (false, 62)), .fa (.l 61) 1, (some (.l 50, true))⟩, 13, true, []⟩,
  ⟨⟨(some (false, 63)), .ld none (.l 62), (some (.l 50, true))⟩, 14, true, []⟩,
  ⟨⟨(some (false, 64)), .call (.c (.fn 21 [])) [.l 51, .l 57, .l 63], (some (.l 50, true))⟩, 15, false, []⟩,
  ⟨⟨(some (false, 65)), .pick (.l 50) (.l 64) (.c (.lit (.bool false))), none⟩, 16, true, []⟩,
  ⟨⟨(some (true, 6)), .mv (.l 65), none⟩, 17, true, []⟩])))
(.reg [
  ⟨(some (false, 66)), .bin .add (.g 44) (.c (.lit (.int .i64 1))), none⟩,
  ⟨(some (true, 44)), .mv (.l 66), none⟩])))))))
(.seq
(.seq
(.reg [
  ⟨(some (false, 67)), .mv (.g 6), none⟩,
  ⟨(some (true, 68)), .un .not (.l 67), none⟩])
(.cond (.g 68)
(.seq
(.reg [
  ⟨(some (true, 4)), .mv (.c (.lit (.int .i64 2))), none⟩])
.ret)
.skip))
(.seq
(.reg [
  ⟨(some (true, 4)), .mv (.c (.lit (.int .i64 0))), none⟩])
.ret)))))))
def K22 : List Nat := [0, 1, 12, 20, 45, 68, 4, 2, 3, 5, 6, 42, 43, 44, 7, 8]
noncomputable def b22 : Code := match Tryd.f22.body with | some c => c | none => .skip
theorem t22 : trCode ⟨Tryd.prog, K22, [], 69, none⟩ b22 = some c22 := by kernel_rfl
theorem go22 {args : List AV} {H : AHeap} {Kk : AV → AHeap → Prop} (hn : args.length = 2) (h : AGo ⟨Tryd.prog, K22, [], 69, none⟩ H.length [.code c22] (RetP [.t (.g 4)] H.length Kk) ⟨[], argsG 0 args⟩ H) : ACalls Tryd.prog 22 args H Kk :=
  ACalls_of Tryd.func22 (c := b22) rfl (by kernel_rfl) t22 (rs := [.t (.g 4)]) (by kernel_rfl) (by rw [hn]; exact Nat.le_of_ble_eq_true rfl) (by rw [hn]; rfl) (h.weaken (fun _ _ => RetP.hands) (by simp))

/-- sastrugi/freight.isPlan -/
def c23 : ACode :=
  (.seq
(.reg [
  ⟨(some (true, 2)), .box (.g 0), none⟩,
  ⟨(some (true, 4)), .mv (.c (.lit (.bool false))), none⟩])
(.seq
(.reg [
  ⟨(some (true, 5)), .new [.bool false, .bool false, .bool false, .bool false, .bool false, .bool false], none⟩])
(.seq
(.seq
(.reg [
  ⟨(some (true, 8)), .mv (.g 1), none⟩,
  ⟨(some (true, 9)), .len (.g 8), none⟩,
  ⟨(some (true, 10)), .mv (.c (.lit (.int .i64 0))), none⟩])
(.block 0
(.loop
(.seq
(.reg [
  ⟨(some (true, 11)), .bin .lss (.g 10) (.g 9), none⟩])
(.seq
(.cond (.g 11)
.skip
(.exit 0))
(.seq
(.block 1
(.seq
(.reg [
  ⟨(some (false, 12)), .ia 1 (.g 8) (.g 10), none⟩,
  ⟨(some (false, 13)), .ld none (.l 12), none⟩,
  ⟨(some (true, 7)), .mv (.l 13), none⟩])
(.seq
(.seq
(.reg [
  ⟨(some (false, 14)), .mv (.g 7), none⟩,
  ⟨(some (false, 15)), .fa (.g 2) 5, none⟩,
  ⟨(some (false, 16)), .ld none (.l 15), none⟩,
  ⟨(some (false, 17)), .len (.l 16), none⟩,
  ⟨(some (false, 18)), .bin .sub (.l 17) (.c (.lit (.int .i64 1))), none⟩,
  ⟨(some (false, 19)), .call (.c (.fn 21 [])) [.l 14, .c (.lit (.int .i64 0)), .l 18], none⟩,
  ⟨(some (false, 20)), .un .not (.l 19), none⟩,
  ⟨(some (false, 21)), .mv (.l 20), none⟩,
  ⟨(some (false, 22)), .mv (.g 7), (some (.l 21, false))⟩,
  ⟨(some (false, 23)), .iaa 6 1 (.g 5) (.l 22), (some (.l 21, false))⟩,
  ⟨(some (false, 24)), .ld none (.l 23), (some (.l 21, false))⟩,
  ⟨(some (true, 25)), .pick (.l 21) (.c (.lit (.bool true))) (.l 24), none⟩])
(.cond (.g 25)
(.seq
(.reg [
  ⟨(some (true, 4)), .mv (.c (.lit (.bool false))), none⟩])
.ret)
.skip))
(.reg [
  ⟨(some (false, 26)), .mv (.g 7), none⟩,
  ⟨(some (false, 27)), .iaa 6 1 (.g 5) (.l 26), none⟩,
  ⟨none, .st 1 (.l 27) (.c (.lit (.bool true))), none⟩]))))
(.reg [
  ⟨(some (false, 28)), .bin .add (.g 10) (.c (.lit (.int .i64 1))), none⟩,
  ⟨(some (true, 10)), .mv (.l 28), none⟩])))))))
(.seq
(.reg [
  ⟨(some (false, 29)), .mv (.g 1), none⟩,
  ⟨(some (false, 30)), .len (.l 29), none⟩,
  ⟨(some (false, 31)), .fa (.g 2) 5, none⟩,
  ⟨(some (false, 32)), .ld none (.l 31), none⟩,
  ⟨(some (false, 33)), .len (.l 32), none⟩,
  ⟨(some (false, 34)), .bin .eql (.l 30) (.l 33), none⟩,
  ⟨(some (true, 4)), .mv (.l 34), none⟩])
.ret))))
def K23 : List Nat := [0, 1, 11, 25, 4, 2, 5, 8, 9, 10, 7]
noncomputable def b23 : Code := match Tryd.f23.body with | some c => c | none => .skip
theorem t23 : trCode ⟨Tryd.prog, K23, [], 35, none⟩ b23 = some c23 := by kernel_rfl
theorem go23 {args : List AV} {H : AHeap} {Kk : AV → AHeap → Prop} (hn : args.length = 2) (h : AGo ⟨Tryd.prog, K23, [], 35, none⟩ H.length [.code c23] (RetP [.t (.g 4)] H.length Kk) ⟨[], argsG 0 args⟩ H) : ACalls Tryd.prog 23 args H Kk :=
  ACalls_of Tryd.func23 (c := b23) rfl (by kernel_rfl) t23 (rs := [.t (.g 4)]) (by kernel_rfl) (by rw [hn]; exact Nat.le_of_ble_eq_true rfl) (by rw [hn]; rfl) (h.weaken (fun _ _ => RetP.hands) (by simp))

/-- sastrugi/freight.checkWay -/
def c25 : ACode :=
  (.seq
(.reg [
  ⟨(some (true, 3)), .box (.g 0), none⟩,
  ⟨(some (true, 4)), .box (.g 1), none⟩,
  ⟨(some (true, 6)), .mv (.c (.lit (.int .i64 0))), none⟩])
(.seq
(.seq
(.reg [
  ⟨(some (false, 18)), .ld (some 6) (.g 3), none⟩,
  ⟨(some (false, 19)), .ld (some 3) (.g 4), none⟩,
  ⟨(some (false, 20)), .call (.c (.fn 22 [])) [.l 18, .l 19], none⟩,
  ⟨(some (true, 7)), .mv (.l 20), none⟩])
(.seq
(.reg [
  ⟨(some (false, 21)), .mv (.g 7), none⟩,
  ⟨(some (true, 22)), .bin .neq (.l 21) (.c (.lit (.int .i64 0))), none⟩])
(.cond (.g 22)
(.seq
(.reg [
  ⟨(some (false, 23)), .mv (.g 7), none⟩,
  ⟨(some (true, 6)), .mv (.l 23), none⟩])
.ret)
.skip)))
(.seq
(.seq
(.reg [
  ⟨(some (false, 24)), .mv (.g 2), none⟩,
  ⟨(some (false, 25)), .len (.l 24), none⟩,
  ⟨(some (false, 26)), .fa (.g 3) 5, none⟩,
  ⟨(some (false, 27)), .ld none (.l 26), none⟩,
  ⟨(some (false, 28)), .len (.l 27), none⟩,
  ⟨(some (false, 29)), .bin .neq (.l 25) (.l 28), none⟩,
  ⟨(some (false, 30)), .mv (.l 29), none⟩,
  ⟨(some (false, 31)), .mv (.g 2), (some (.l 30, false))⟩,
  ⟨(some (false, 32)), .mkf 41 [.g 3], (some (.l 30, false))⟩,
  ⟨(some (false, 33)), .call (.c (.fn 40 [])) [.l 31, .l 32], (some (.l 30, false))⟩,
  ⟨(some (true, 34)), .pick (.l 30) (.c (.lit (.bool true))) (.l 33), none⟩])
(.cond (.g 34)
(.seq
(.reg [
  ⟨(some (true, 6)), .mv (.c (.lit (.int .i64 3))), none⟩])
.ret)
.skip))
(.seq
(.reg [
  ⟨(some (false, 35)), .fa (.g 3) 4, none⟩,
  ⟨(some (false, 36)), .ld none (.l 35), none⟩,
  ⟨(some (false, 37)), .len (.l 36), none⟩,
  ⟨(some (false, 38)), .mksl 1 8 [.int .i64 0] (.l 37) (.l 37), none⟩,
  ⟨(some (true, 8)), .mv (.l 38), none⟩])
(.seq
(.seq
(.reg [
  ⟨(some (true, 39)), .mv (.g 2), none⟩,
  ⟨(some (true, 40)), .len (.g 39), none⟩,
  ⟨(some (true, 41)), .mv (.c (.lit (.int .i64 0))), none⟩])
(.block 0
(.loop
(.seq
(.reg [
  ⟨(some (true, 42)), .bin .lss (.g 41) (.g 40), none⟩])
(.seq
(.cond (.g 42)
.skip
(.exit 0))
(.seq
(.block 1
(.seq
(.reg [
  ⟨(some (false, 43)), .ia 1 (.g 39) (.g 41), none⟩,
  ⟨(some (false, 44)), .ld none (.l 43), none⟩,
  ⟨(some (true, 10)), .mv (.l 44), none⟩])
(.seq
(.reg [
  ⟨(some (true, 45)), .mv (.g 10), none⟩,
  ⟨(some (true, 46)), .len (.g 45), none⟩,
  ⟨(some (true, 47)), .mv (.c (.lit (.int .i64 0))), none⟩])
(.block 2
(.loop
(.seq
(.reg [
  ⟨(some (true, 48)), .bin .lss (.g 47) (.g 46), none⟩])
(.seq
(.cond (.g 48)
.skip
(.exit 2))
(.seq
(.block 3
(.seq
(.reg [
  ⟨(some (false, 49)), .mv (.g 47), none⟩,
  ⟨(some (false, 50)), .ia 1 (.g 45) (.g 47), none⟩,
  ⟨(some (false, 51)), .ld none (.l 50), none⟩,
  ⟨(some (true, 11)), .mv (.l 49), none⟩,
  ⟨(some (true, 12)), .mv (.l 51), none⟩])
(.seq
(.seq
(.reg [
  ⟨(some (false, 52)), .mv (.g 12), none⟩,
  ⟨(some (false, 53)), .call (.c (.fn 21 [])) [.l 52, .c (.lit (.int .i64 0)), .c (.lit (.int .i64 1000000))], none⟩,
  ⟨(some (true, 54)), .un .not (.l 53), none⟩])
(.cond (.g 54)
(.seq
(.reg [
  ⟨(some (true, 6)), .mv (.c (.lit (.int .i64 2))), none⟩])
.ret)
.skip))
(.reg [
  ⟨(some (false, 55)), .mv (.g 8), none⟩,
  ⟨(some (false, 56)), .mv (.g 11), none⟩,
  ⟨(some (false, 57)), .ia 1 (.l 55) (.l 56), none⟩,
  ⟨(some (false, 58)), .ld none (.l 57), none⟩,
  ⟨(some (false, 59)), .mv (.g 12), none⟩,
  ⟨(some (false, 60)), .bin .add (.l 58) (.l 59), none⟩,
  ⟨(some (false, 61)), .ia 1 (.l 55) (.l 56), none⟩,
  ⟨none, .st 1 (.l 61) (.l 60), none⟩]))))
(.reg [
  ⟨(some (false, 62)), .bin .add (.g 47) (.c (.lit (.int .i64 1))), none⟩,
  ⟨(some (true, 47)), .mv (.l 62), none⟩])))))))))
(.reg [
  ⟨(some (false, 63)), .bin .add (.g 41) (.c (.lit (.int .i64 1))), none⟩,
  ⟨(some (true, 41)), .mv (.l 63), none⟩])))))))
(.seq
(.reg [
  ⟨(some (false, 64)), .ld (some 6) (.g 3), none⟩,
  ⟨(some (false, 65)), .ld (some 3) (.g 4), none⟩,
  ⟨(some (false, 66)), .mk [.int .i64 0, .int .i64 0, .int .i64 0, .int .i64 0, .slice none 0 0, .slice none 0 0, .int .i64 0, .int .i64 0, .slice none 0 0] [(0, 6, .l 64), (6, 3, .l 65)], none⟩,
  ⟨(some (true, 13)), .new [.int .i64 0, .int .i64 0, .int .i64 0, .int .i64 0, .slice none 0 0, .slice none 0 0, .int .i64 0, .int .i64 0, .slice none 0 0], none⟩,
  ⟨none, .st 9 (.g 13) (.l 66), none⟩])
(.seq
(.seq
(.reg [
  ⟨(some (true, 67)), .mv (.g 8), none⟩,
  ⟨(some (true, 68)), .len (.g 67), none⟩,
  ⟨(some (true, 69)), .mv (.c (.lit (.int .i64 0))), none⟩])
(.block 4
(.loop
(.seq
(.reg [
  ⟨(some (true, 70)), .bin .lss (.g 69) (.g 68), none⟩])
(.seq
(.cond (.g 70)
.skip
(.exit 4))
(.seq
(.block 5
(.seq
(.reg [
  ⟨(some (false, 71)), .mv (.g 69), none⟩,
  ⟨(some (false, 72)), .ia 1 (.g 67) (.g 69), none⟩,
  ⟨(some (false, 73)), .ld none (.l 72), none⟩,
  ⟨(some (true, 14)), .mv (.l 71), none⟩,
  ⟨(some (true, 15)), .mv (.l 73), none⟩])
(.seq
(.reg [
  ⟨(some (false, 74)), .mv (.g 15), none⟩,
  ⟨(some (false, 75)), .ld (some 9) (.g 13), none⟩,
  ⟨(some (false, 76)), .mv (.g 14), none⟩,
  ⟨(some (false, 77)), .call (.c (.fn 35 [])) [.l 75, .l 76], none⟩,
  ⟨(some (true, 78)), .bin .gtr (.l 74) (.l 77), none⟩])
(.cond (.g 78)
(.seq
(.reg [
  ⟨(some (true, 6)), .mv (.c (.lit (.int .i64 12))), none⟩])
.ret)
.skip))))
(.reg [
  ⟨(some (false, 79)), .bin .add (.g 69) (.c (.lit (.int .i64 1))), none⟩,
  ⟨(some (true, 69)), .mv (.l 79), none⟩])))))))
(.seq
(.seq
(.reg [
  ⟨(some (true, 80)), .mv (.g 2), none⟩,
  ⟨(some (true, 81)), .len (.g 80), none⟩,
  ⟨(some (true, 82)), .mv (.c (.lit (.int .i64 0))), none⟩])
(.block 6
(.loop
(.seq
(.reg [
  ⟨(some (true, 83)), .bin .lss (.g 82) (.g 81), none⟩])
(.seq
(.cond (.g 83)
.skip
(.exit 6))
(.seq
(.block 7
(.seq
(.reg [
  ⟨(some (false, 84)), .mv (.g 82), none⟩,
  ⟨(some (false, 85)), .ia 1 (.g 80) (.g 82), none⟩,
  ⟨(some (false, 86)), .ld none (.l 85), none⟩,
  ⟨(some (true, 16)), .mv (.l 84), none⟩,
  ⟨(some (true, 17)), .mv (.l 86), none⟩])
(.seq
(.draw [
  ⟨⟨(some (false, 87)), .mv (.g 17), none⟩, 0, true, []⟩,
  ⟨⟨(some (false, 89)), .fa (.g 3) 5, none⟩, 2, true, []⟩,
  ⟨⟨(some (false, 90)), .ld none (.l 89), none⟩, 3, true, []⟩,
  ⟨⟨(some (false, 91)), .mv (.g 16), none⟩, 4, true, []⟩,
  ⟨⟨(some (false, 92)), .ia 4 (.l 90) (.l 91), none⟩, 5, true, []⟩,
  ⟨⟨(some (false, 93)), .fa (.l 92) 0, none⟩, 6, true, []⟩,
  ⟨⟨(some (false, 94)), .ld none (.l 93), none⟩, 7, true, []⟩,
  ⟨⟨(some (false, 88)), .call (.c (.fn 42 [])) [.l 87], none⟩, 1, false, []⟩,
  ⟨⟨(some (true, 95)), .bin .gtr (.l 88) (.l 94), none⟩, 8, true, []⟩])
(.cond (.g 95)
(.seq
(.reg [
  ⟨(some (true, 6)), .mv (.c (.lit (.int .i64 14))), none⟩])
.ret)
.skip))))
(.reg [
  ⟨(some (false, 96)), .bin .add (.g 82) (.c (.lit (.int .i64 1))), none⟩,
  ⟨(some (true, 82)), .mv (.l 96), none⟩])))))))
(.seq
(.reg [
  ⟨(some (true, 6)), .mv (.c (.lit (.int .i64 0))), none⟩])
.ret)))))))))
def K25 : List Nat := [0, 1, 2, 22, 34, 42, 48, 54, 70, 78, 83, 95, 6, 3, 4, 7, 8, 39, 40, 41, 10, 45, 46, 47, 11, 12, 13, 67, 68, 69, 14, 15, 80, 81, 82, 16, 17]
noncomputable def b25 : Code := match Tryd.f25.body with | some c => c | none => .skip
theorem t25 : trCode ⟨Tryd.prog, K25, [], 97, none⟩ b25 = some c25 := by kernel_rfl
theorem go25 {args : List AV} {H : AHeap} {Kk : AV → AHeap → Prop} (hn : args.length = 3) (h : AGo ⟨Tryd.prog, K25, [], 97, none⟩ H.length [.code c25] (RetP [.t (.g 6)] H.length Kk) ⟨[], argsG 0 args⟩ H) : ACalls Tryd.prog 25 args H Kk :=
  ACalls_of Tryd.func25 (c := b25) rfl (by kernel_rfl) t25 (rs := [.t (.g 6)]) (by kernel_rfl) (by rw [hn]; exact Nat.le_of_ble_eq_true rfl) (by rw [hn]; rfl) (h.weaken (fun _ _ => RetP.hands) (by simp))

/-- sastrugi/freight.total -/
def c42 : ACode :=
  (.seq
(.reg [
  ⟨(some (true, 2)), .mv (.c (.lit (.int .i64 0))), none⟩])
(.seq
(.reg [
  ⟨(some (true, 3)), .mv (.c (.lit (.int .i64 0))), none⟩])
(.seq
(.seq
(.reg [
  ⟨(some (true, 6)), .mv (.g 0), none⟩,
  ⟨(some (true, 7)), .len (.g 6), none⟩,
  ⟨(some (true, 8)), .mv (.c (.lit (.int .i64 0))), none⟩])
(.block 0
(.loop
(.seq
(.reg [
  ⟨(some (true, 9)), .bin .lss (.g 8) (.g 7), none⟩])
(.seq
(.cond (.g 9)
.skip
(.exit 0))
(.seq
(.block 1
(.seq
(.reg [
  ⟨(some (false, 10)), .ia 1 (.g 6) (.g 8), none⟩,
  ⟨(some (false, 11)), .ld none (.l 10), none⟩,
  ⟨(some (true, 5)), .mv (.l 11), none⟩])
(.reg [
  ⟨(some (false, 12)), .mv (.g 3), none⟩,
  ⟨(some (false, 13)), .mv (.g 5), none⟩,
  ⟨(some (false, 14)), .bin .add (.l 12) (.l 13), none⟩,
  ⟨(some (true, 3)), .mv (.l 14), none⟩])))
(.reg [
  ⟨(some (false, 15)), .bin .add (.g 8) (.c (.lit (.int .i64 1))), none⟩,
  ⟨(some (true, 8)), .mv (.l 15), none⟩])))))))
(.seq
(.reg [
  ⟨(some (false, 16)), .mv (.g 3), none⟩,
  ⟨(some (true, 2)), .mv (.l 16), none⟩])
.ret))))
def K42 : List Nat := [0, 9, 2, 3, 6, 7, 8, 5]
noncomputable def b42 : Code := match Tryd.f42.body with | some c => c | none => .skip
theorem t42 : trCode ⟨Tryd.prog, K42, [], 17, none⟩ b42 = some c42 := by kernel_rfl
theorem go42 {args : List AV} {H : AHeap} {Kk : AV → AHeap → Prop} (hn : args.length = 1) (h : AGo ⟨Tryd.prog, K42, [], 17, none⟩ H.length [.code c42] (RetP [.t (.g 2)] H.length Kk) ⟨[], argsG 0 args⟩ H) : ACalls Tryd.prog 42 args H Kk :=
  ACalls_of Tryd.func42 (c := b42) rfl (by kernel_rfl) t42 (rs := [.t (.g 2)]) (by kernel_rfl) (by rw [hn]; exact Nat.le_of_ble_eq_true rfl) (by rw [hn]; rfl) (h.weaken (fun _ _ => RetP.hands) (by simp))

/-- sastrugi/freight.plans$1 -/
def c51 : ACode :=
  (.seq
(.reg [
  ⟨(some (true, 2)), .box (.g 0), none⟩])
(.seq
(.reg [
  ⟨(some (true, 3)), .new [.nilFunc], none⟩])
(.seq
(.reg [
  ⟨(some (false, 4)), .mkf 52 [.g 1, .g 2, .g 3], none⟩,
  ⟨none, .st 1 (.g 3) (.l 4), none⟩])
(.reg [
  ⟨(some (false, 5)), .ld none (.g 3), none⟩,
  ⟨(some (false, 6)), .call (.l 5) [.c (.lit (.slice none 0 0))], none⟩]))))
def K51 : List Nat := [0, 1, 2, 3]
noncomputable def b51 : Code := match Tryd.f51.body with | some c => c | none => .skip
theorem t51 : trCode ⟨Tryd.prog, K51, [], 7, none⟩ b51 = some c51 := by kernel_rfl
theorem go51 {args : List AV} {H : AHeap} {Kk : AV → AHeap → Prop} (hn : args.length = 2) (h : AGo ⟨Tryd.prog, K51, [], 7, none⟩ H.length [.code c51] (RetP [] H.length Kk) ⟨[], argsG 0 args⟩ H) : ACalls Tryd.prog 51 args H Kk :=
  ACalls_of Tryd.func51 (c := b51) rfl (by kernel_rfl) t51 (rs := []) (by kernel_rfl) (by rw [hn]; exact Nat.le_of_ble_eq_true rfl) (by rw [hn]; rfl) (h.weaken (fun _ _ => RetP.hands) (by simp))

/-- sastrugi/freight.plans$1$1 -/
def c52 : ACode :=
  (.seq
(.reg [
  ⟨(some (true, 5)), .mv (.c (.lit (.bool false))), none⟩])
(.seq
(.seq
(.reg [
  ⟨(some (false, 7)), .mv (.g 0), none⟩,
  ⟨(some (false, 8)), .len (.l 7), none⟩,
  ⟨(some (false, 9)), .ld none (.g 1), none⟩,
  ⟨(some (true, 10)), .bin .eql (.l 8) (.l 9), none⟩])
(.cond (.g 10)
(.seq
(.reg [
  ⟨(some (false, 11)), .ld none (.g 2), none⟩,
  ⟨(some (false, 12)), .mv (.g 0), none⟩,
  ⟨(some (false, 13)), .call (.l 11) [.l 12], none⟩,
  ⟨(some (true, 5)), .mv (.l 13), none⟩])
.ret)
.skip))
(.seq
(.seq
(.reg [
  ⟨(some (true, 14)), .ld none (.g 1), none⟩,
  ⟨(some (true, 15)), .mv (.c (.lit (.int .i64 0))), none⟩])
(.block 0
(.loop
(.seq
(.reg [
  ⟨(some (true, 16)), .bin .lss (.g 15) (.g 14), none⟩])
(.seq
(.cond (.g 16)
.skip
(.exit 0))
(.seq
(.block 1
(.seq
(.reg [
  ⟨(some (false, 17)), .mv (.g 15), none⟩,
  ⟨(some (true, 6)), .mv (.l 17), none⟩])
(.seq
(.draw [
  ⟨⟨(some (false, 18)), .mv (.g 0), none⟩, 0, true, []⟩,
  ⟨⟨(some (false, 19)), .mv (.g 6), none⟩, 1, true, []⟩,
  ⟨⟨(some (false, 20)), .call (.c (.fn 53 [])) [.l 18, .l 19], none⟩, 2, false, []⟩,
  ⟨⟨(some (false, 21)), .un .not (.l 20), none⟩, 3, true, []⟩,
  ⟨⟨(some (false, 22)), .mv (.l 21), none⟩, 4, true, []⟩,
  ⟨⟨(some (false, 23)), .ld none (.g 3), (some (.l 22, true))⟩, 5, true, []⟩,
  ⟨⟨(some (false, 24)), .mv (.g 0), (some (.l 22, true))⟩, 6, true, []⟩,
  ⟨⟨(some (false, 26)), .mv (.g 6), (some (.l 22, true))⟩, 8, true, []⟩,
  ⟨⟨(some (false, 27)), .mks false 1 [.l 26], (some (.l 22, true))⟩, 9, true, []⟩,
  ⟨⟨(some (false, 25)), .call (.c (.fn 54 [])) [.l 24], (some (.l 22, true))⟩, 7, false, []⟩,
  ⟨⟨(some (false, 28)), .app 1 8 (.l 25) (.l 27), (some (.l 22, true))⟩, 10, false, []⟩,
  ⟨⟨(some (false, 29)), .call (.l 23) [.l 28], (some (.l 22, true))⟩, 11, false, []⟩,
  ⟨⟨(some (false, 30)), .un .not (.l 29), (some (.l 22, true))⟩, 12, true, []⟩,
  ⟨⟨(some (true, 31)), .pick (.l 22) (.l 30) (.c (.lit (.bool false))), none⟩, 13, true, []⟩])
(.cond (.g 31)
(.seq
(.reg [
  ⟨(some (true, 5)), .mv (.c (.lit (.bool false))), none⟩])
.ret)
.skip))))
(.reg [
  ⟨(some (false, 32)), .bin .add (.g 15) (.c (.lit (.int .i64 1))), none⟩,
  ⟨(some (true, 15)), .mv (.l 32), none⟩])))))))
(.seq
(.reg [
  ⟨(some (true, 5)), .mv (.c (.lit (.bool true))), none⟩])
.ret))))
def K52 : List Nat := [0, 1, 2, 3, 10, 16, 31, 5, 14, 15, 6]
noncomputable def b52 : Code := match Tryd.f52.body with | some c => c | none => .skip
theorem t52 : trCode ⟨Tryd.prog, K52, [], 33, none⟩ b52 = some c52 := by kernel_rfl
theorem go52 {args : List AV} {H : AHeap} {Kk : AV → AHeap → Prop} (hn : args.length = 4) (h : AGo ⟨Tryd.prog, K52, [], 33, none⟩ H.length [.code c52] (RetP [.t (.g 5)] H.length Kk) ⟨[], argsG 0 args⟩ H) : ACalls Tryd.prog 52 args H Kk :=
  ACalls_of Tryd.func52 (c := b52) rfl (by kernel_rfl) t52 (rs := [.t (.g 5)]) (by kernel_rfl) (by rw [hn]; exact Nat.le_of_ble_eq_true rfl) (by rw [hn]; rfl) (h.weaken (fun _ _ => RetP.hands) (by simp))

/-- slices.Contains[[]int,int] -/
def c53 : ACode :=
  (.seq
(.reg [
  ⟨(some (true, 4)), .mv (.c (.lit (.bool false))), none⟩])
(.seq
(.reg [
  ⟨(some (false, 5)), .mv (.g 0), none⟩,
  ⟨(some (false, 6)), .mv (.g 1), none⟩,
  ⟨(some (false, 7)), .call (.c (.fn 66 [])) [.l 5, .l 6], none⟩,
  ⟨(some (false, 8)), .bin .geq (.l 7) (.c (.lit (.int .i64 0))), none⟩,
  ⟨(some (true, 4)), .mv (.l 8), none⟩])
.ret))
def K53 : List Nat := [0, 1, 4]
noncomputable def b53 : Code := match Tryd.f53.body with | some c => c | none => .skip
theorem t53 : trCode ⟨Tryd.prog, K53, [], 9, none⟩ b53 = some c53 := by kernel_rfl
theorem go53 {args : List AV} {H : AHeap} {Kk : AV → AHeap → Prop} (hn : args.length = 2) (h : AGo ⟨Tryd.prog, K53, [], 9, none⟩ H.length [.code c53] (RetP [.t (.g 4)] H.length Kk) ⟨[], argsG 0 args⟩ H) : ACalls Tryd.prog 53 args H Kk :=
  ACalls_of Tryd.func53 (c := b53) rfl (by kernel_rfl) t53 (rs := [.t (.g 4)]) (by kernel_rfl) (by rw [hn]; exact Nat.le_of_ble_eq_true rfl) (by rw [hn]; rfl) (h.weaken (fun _ _ => RetP.hands) (by simp))

/-- slices.Clone[[]int,int] -/
def c54 : ACode :=
  (.seq
(.reg [
  ⟨(some (true, 2)), .mv (.c (.lit (.slice none 0 0))), none⟩])
(.seq
(.seq
(.reg [
  ⟨(some (false, 3)), .mv (.g 0), none⟩,
  ⟨(some (true, 4)), .eqn false (.l 3), none⟩])
(.cond (.g 4)
(.seq
(.reg [
  ⟨(some (true, 2)), .mv (.c (.lit (.slice none 0 0))), none⟩])
.ret)
.skip))
(.seq
(.reg [
  ⟨(some (false, 5)), .mks false 1 [], none⟩,
  ⟨(some (false, 6)), .mv (.g 0), none⟩,
  ⟨(some (false, 7)), .app 1 8 (.l 5) (.l 6), none⟩,
  ⟨(some (true, 2)), .mv (.l 7), none⟩])
.ret)))
def K54 : List Nat := [0, 4, 2]
noncomputable def b54 : Code := match Tryd.f54.body with | some c => c | none => .skip
theorem t54 : trCode ⟨Tryd.prog, K54, [], 8, none⟩ b54 = some c54 := by kernel_rfl
theorem go54 {args : List AV} {H : AHeap} {Kk : AV → AHeap → Prop} (hn : args.length = 1) (h : AGo ⟨Tryd.prog, K54, [], 8, none⟩ H.length [.code c54] (RetP [.t (.g 2)] H.length Kk) ⟨[], argsG 0 args⟩ H) : ACalls Tryd.prog 54 args H Kk :=
  ACalls_of Tryd.func54 (c := b54) rfl (by kernel_rfl) t54 (rs := [.t (.g 2)]) (by kernel_rfl) (by rw [hn]; exact Nat.le_of_ble_eq_true rfl) (by rw [hn]; rfl) (h.weaken (fun _ _ => RetP.hands) (by simp))

/-- slices.Clone[[]sastrugi/api.Order,sastrugi/api.Order] -/
def c55 : ACode :=
  (.seq
(.reg [
  ⟨(some (true, 2)), .mv (.c (.lit (.slice none 0 0))), none⟩])
(.seq
(.seq
(.reg [
  ⟨(some (false, 3)), .mv (.g 0), none⟩,
  ⟨(some (true, 4)), .eqn false (.l 3), none⟩])
(.cond (.g 4)
(.seq
(.reg [
  ⟨(some (true, 2)), .mv (.c (.lit (.slice none 0 0))), none⟩])
.ret)
.skip))
(.seq
(.reg [
  ⟨(some (false, 5)), .mks false 4 [], none⟩,
  ⟨(some (false, 6)), .mv (.g 0), none⟩,
  ⟨(some (false, 7)), .app 4 32 (.l 5) (.l 6), none⟩,
  ⟨(some (true, 2)), .mv (.l 7), none⟩])
.ret)))
def K55 : List Nat := [0, 4, 2]
noncomputable def b55 : Code := match Tryd.f55.body with | some c => c | none => .skip
theorem t55 : trCode ⟨Tryd.prog, K55, [], 8, none⟩ b55 = some c55 := by kernel_rfl
theorem go55 {args : List AV} {H : AHeap} {Kk : AV → AHeap → Prop} (hn : args.length = 1) (h : AGo ⟨Tryd.prog, K55, [], 8, none⟩ H.length [.code c55] (RetP [.t (.g 2)] H.length Kk) ⟨[], argsG 0 args⟩ H) : ACalls Tryd.prog 55 args H Kk :=
  ACalls_of Tryd.func55 (c := b55) rfl (by kernel_rfl) t55 (rs := [.t (.g 2)]) (by kernel_rfl) (by rw [hn]; exact Nat.le_of_ble_eq_true rfl) (by rw [hn]; rfl) (h.weaken (fun _ _ => RetP.hands) (by simp))

/-- slices.SortStableFunc[[]sastrugi/api.Order,sastrugi/api.Order] -/
def c56 : ACode :=
  (.reg [
  ⟨(some (false, 4)), .mv (.g 0), none⟩,
  ⟨(some (false, 5)), .mv (.g 0), none⟩,
  ⟨(some (false, 6)), .len (.l 5), none⟩,
  ⟨(some (false, 7)), .mv (.g 1), none⟩,
  ⟨(some (false, 8)), .call (.c (.fn 67 [])) [.l 4, .l 6, .l 7], none⟩])
def K56 : List Nat := [0, 1]
noncomputable def b56 : Code := match Tryd.f56.body with | some c => c | none => .skip
theorem t56 : trCode ⟨Tryd.prog, K56, [], 9, none⟩ b56 = some c56 := by kernel_rfl
theorem go56 {args : List AV} {H : AHeap} {Kk : AV → AHeap → Prop} (hn : args.length = 2) (h : AGo ⟨Tryd.prog, K56, [], 9, none⟩ H.length [.code c56] (RetP [] H.length Kk) ⟨[], argsG 0 args⟩ H) : ACalls Tryd.prog 56 args H Kk :=
  ACalls_of Tryd.func56 (c := b56) rfl (by kernel_rfl) t56 (rs := []) (by kernel_rfl) (by rw [hn]; exact Nat.le_of_ble_eq_true rfl) (by rw [hn]; rfl) (h.weaken (fun _ _ => RetP.hands) (by simp))

/-- sastrugi/freight.sorted$1 -/
def c57 : ACode :=
  (.seq
(.reg [
  ⟨(some (true, 3)), .box (.g 0), none⟩,
  ⟨(some (true, 4)), .box (.g 1), none⟩,
  ⟨(some (true, 5)), .mv (.c (.lit (.int .i64 0))), none⟩])
(.seq
(.draw [
  ⟨⟨(some (false, 6)), .ld none (.g 2), none⟩, 0, true, []⟩,
  ⟨⟨(some (false, 7)), .ld (some 4) (.g 4), none⟩, 1, true, []⟩,
  ⟨⟨(some (false, 9)), .ld none (.g 2), none⟩, 3, true, []⟩,
  ⟨⟨(some (false, 10)), .ld (some 4) (.g 3), none⟩, 4, true, []⟩,
  ⟨⟨(some (false, 8)), .call (.l 6) [.l 7], none⟩, 2, false, []⟩,
  ⟨⟨(some (false, 11)), .call (.l 9) [.l 10], none⟩, 5, false, []⟩,
  ⟨⟨(some (false, 12)), .call (.c (.fn 58 [])) [.l 8, .l 11], none⟩, 6, false, []⟩,
  ⟨⟨(some (true, 5)), .mv (.l 12), none⟩, 7, true, []⟩])
.ret))
def K57 : List Nat := [0, 1, 2, 5, 3, 4]
noncomputable def b57 : Code := match Tryd.f57.body with | some c => c | none => .skip
theorem t57 : trCode ⟨Tryd.prog, K57, [], 13, none⟩ b57 = some c57 := by kernel_rfl
theorem go57 {args : List AV} {H : AHeap} {Kk : AV → AHeap → Prop} (hn : args.length = 3) (h : AGo ⟨Tryd.prog, K57, [], 13, none⟩ H.length [.code c57] (RetP [.t (.g 5)] H.length Kk) ⟨[], argsG 0 args⟩ H) : ACalls Tryd.prog 57 args H Kk :=
  ACalls_of Tryd.func57 (c := b57) rfl (by kernel_rfl) t57 (rs := [.t (.g 5)]) (by kernel_rfl) (by rw [hn]; exact Nat.le_of_ble_eq_true rfl) (by rw [hn]; rfl) (h.weaken (fun _ _ => RetP.hands) (by simp))

/-- cmp.Compare[int] -/
def c58 : ACode :=
  (.seq
(.reg [
  ⟨(some (true, 4)), .mv (.c (.lit (.int .i64 0))), none⟩])
(.seq
(.reg [
  ⟨(some (false, 7)), .mv (.g 0), none⟩,
  ⟨(some (false, 8)), .call (.c (.fn 68 [])) [.l 7], none⟩,
  ⟨(some (true, 5)), .mv (.l 8), none⟩])
(.seq
(.reg [
  ⟨(some (false, 9)), .mv (.g 1), none⟩,
  ⟨(some (false, 10)), .call (.c (.fn 68 [])) [.l 9], none⟩,
  ⟨(some (true, 6)), .mv (.l 10), none⟩])
(.seq
(.seq
(.reg [
  ⟨(some (true, 11)), .mv (.g 5), none⟩])
(.cond (.g 11)
(.seq
(.seq
(.reg [
  ⟨(some (true, 12)), .mv (.g 6), none⟩])
(.cond (.g 12)
(.seq
(.reg [
  ⟨(some (true, 4)), .mv (.c (.lit (.int .i64 0))), none⟩])
.ret)
.skip))
(.seq
(.reg [
  ⟨(some (true, 4)), .mv (.c (.lit (.int .i64 (-1)))), none⟩])
.ret))
.skip))
(.seq
(.seq
(.reg [
  ⟨(some (true, 13)), .mv (.g 6), none⟩])
(.cond (.g 13)
(.seq
(.reg [
  ⟨(some (true, 4)), .mv (.c (.lit (.int .i64 1))), none⟩])
.ret)
.skip))
(.seq
(.seq
(.reg [
  ⟨(some (false, 14)), .mv (.g 0), none⟩,
  ⟨(some (false, 15)), .mv (.g 1), none⟩,
  ⟨(some (true, 16)), .bin .lss (.l 14) (.l 15), none⟩])
(.cond (.g 16)
(.seq
(.reg [
  ⟨(some (true, 4)), .mv (.c (.lit (.int .i64 (-1)))), none⟩])
.ret)
.skip))
(.seq
(.seq
(.reg [
  ⟨(some (false, 17)), .mv (.g 0), none⟩,
  ⟨(some (false, 18)), .mv (.g 1), none⟩,
  ⟨(some (true, 19)), .bin .gtr (.l 17) (.l 18), none⟩])
(.cond (.g 19)
(.seq
(.reg [
  ⟨(some (true, 4)), .mv (.c (.lit (.int .i64 1))), none⟩])
.ret)
.skip))
(.seq
(.reg [
  ⟨(some (true, 4)), .mv (.c (.lit (.int .i64 0))), none⟩])
.ret))))))))
def K58 : List Nat := [0, 1, 11, 12, 13, 16, 19, 4, 5, 6]
noncomputable def b58 : Code := match Tryd.f58.body with | some c => c | none => .skip
theorem t58 : trCode ⟨Tryd.prog, K58, [], 20, none⟩ b58 = some c58 := by kernel_rfl
theorem go58 {args : List AV} {H : AHeap} {Kk : AV → AHeap → Prop} (hn : args.length = 2) (h : AGo ⟨Tryd.prog, K58, [], 20, none⟩ H.length [.code c58] (RetP [.t (.g 4)] H.length Kk) ⟨[], argsG 0 args⟩ H) : ACalls Tryd.prog 58 args H Kk :=
  ACalls_of Tryd.func58 (c := b58) rfl (by kernel_rfl) t58 (rs := [.t (.g 4)]) (by kernel_rfl) (by rw [hn]; exact Nat.le_of_ble_eq_true rfl) (by rw [hn]; rfl) (h.weaken (fun _ _ => RetP.hands) (by simp))

/-- slices.ContainsFunc[[][]int,[]int] -/
def c40 : ACode :=
  (.seq
(.reg [
  ⟨(some (true, 4)), .mv (.c (.lit (.bool false))), none⟩])
(.seq
(.reg [
  ⟨(some (false, 5)), .mv (.g 0), none⟩,
  ⟨(some (false, 6)), .mv (.g 1), none⟩,
  ⟨(some (false, 7)), .call (.c (.fn 59 [])) [.l 5, .l 6], none⟩,
  ⟨(some (false, 8)), .bin .geq (.l 7) (.c (.lit (.int .i64 0))), none⟩,
  ⟨(some (true, 4)), .mv (.l 8), none⟩])
.ret))
def K40 : List Nat := [0, 1, 4]
noncomputable def b40 : Code := match Tryd.f40.body with | some c => c | none => .skip
theorem t40 : trCode ⟨Tryd.prog, K40, [], 9, none⟩ b40 = some c40 := by kernel_rfl
theorem go40 {args : List AV} {H : AHeap} {Kk : AV → AHeap → Prop} (hn : args.length = 2) (h : AGo ⟨Tryd.prog, K40, [], 9, none⟩ H.length [.code c40] (RetP [.t (.g 4)] H.length Kk) ⟨[], argsG 0 args⟩ H) : ACalls Tryd.prog 40 args H Kk :=
  ACalls_of Tryd.func40 (c := b40) rfl (by kernel_rfl) t40 (rs := [.t (.g 4)]) (by kernel_rfl) (by rw [hn]; exact Nat.le_of_ble_eq_true rfl) (by rw [hn]; rfl) (h.weaken (fun _ _ => RetP.hands) (by simp))

/-- sastrugi/freight.checkWay$1 -/
def c41 : ACode :=
  (.seq
(.reg [
  ⟨(some (true, 3)), .mv (.c (.lit (.bool false))), none⟩])
(.seq
(.reg [
  ⟨(some (false, 4)), .mv (.g 0), none⟩,
  ⟨(some (false, 5)), .len (.l 4), none⟩,
  ⟨(some (false, 6)), .fa (.g 1) 4, none⟩,
  ⟨(some (false, 7)), .ld none (.l 6), none⟩,
  ⟨(some (false, 8)), .len (.l 7), none⟩,
  ⟨(some (false, 9)), .bin .neq (.l 5) (.l 8), none⟩,
  ⟨(some (true, 3)), .mv (.l 9), none⟩])
.ret))
def K41 : List Nat := [0, 1, 3]
noncomputable def b41 : Code := match Tryd.f41.body with | some c => c | none => .skip
theorem t41 : trCode ⟨Tryd.prog, K41, [], 10, none⟩ b41 = some c41 := by kernel_rfl
theorem go41 {args : List AV} {H : AHeap} {Kk : AV → AHeap → Prop} (hn : args.length = 2) (h : AGo ⟨Tryd.prog, K41, [], 10, none⟩ H.length [.code c41] (RetP [.t (.g 3)] H.length Kk) ⟨[], argsG 0 args⟩ H) : ACalls Tryd.prog 41 args H Kk :=
  ACalls_of Tryd.func41 (c := b41) rfl (by kernel_rfl) t41 (rs := [.t (.g 3)]) (by kernel_rfl) (by rw [hn]; exact Nat.le_of_ble_eq_true rfl) (by rw [hn]; rfl) (h.weaken (fun _ _ => RetP.hands) (by simp))

/-- slices.stableCmpFunc[sastrugi/api.Order] -/
def c67 : ACode :=
  (.seq
(.reg [
  ⟨(some (true, 6)), .mv (.c (.lit (.int .i64 20))), none⟩])
(.seq
(.reg [
  ⟨(some (false, 10)), .mv (.g 6), none⟩,
  ⟨(some (true, 7)), .mv (.c (.lit (.int .i64 0))), none⟩,
  ⟨(some (true, 8)), .mv (.l 10), none⟩])
(.seq
(.block 0
(.loop
(.seq
(.seq
(.reg [
  ⟨(some (false, 11)), .mv (.g 8), none⟩,
  ⟨(some (false, 12)), .mv (.g 1), none⟩,
  ⟨(some (true, 13)), .bin .leq (.l 11) (.l 12), none⟩])
(.cond (.g 13)
.skip
(.exit 0)))
(.block 1
(.seq
(.reg [
  ⟨(some (false, 14)), .mv (.g 0), none⟩,
  ⟨(some (false, 15)), .mv (.g 7), none⟩,
  ⟨(some (false, 16)), .mv (.g 8), none⟩,
  ⟨(some (false, 17)), .mv (.g 2), none⟩,
  ⟨(some (false, 18)), .call (.c (.fn 73 [])) [.l 14, .l 15, .l 16, .l 17], none⟩])
(.seq
(.reg [
  ⟨(some (false, 19)), .mv (.g 8), none⟩,
  ⟨(some (true, 7)), .mv (.l 19), none⟩])
(.reg [
  ⟨(some (false, 20)), .mv (.g 8), none⟩,
  ⟨(some (false, 21)), .mv (.g 6), none⟩,
  ⟨(some (false, 22)), .bin .add (.l 20) (.l 21), none⟩,
  ⟨(some (true, 8)), .mv (.l 22), none⟩])))))))
(.seq
(.reg [
  ⟨(some (false, 23)), .mv (.g 0), none⟩,
  ⟨(some (false, 24)), .mv (.g 7), none⟩,
  ⟨(some (false, 25)), .mv (.g 1), none⟩,
  ⟨(some (false, 26)), .mv (.g 2), none⟩,
  ⟨(some (false, 27)), .call (.c (.fn 73 [])) [.l 23, .l 24, .l 25, .l 26], none⟩])
(.block 2
(.loop
(.seq
(.seq
(.reg [
  ⟨(some (false, 28)), .mv (.g 6), none⟩,
  ⟨(some (false, 29)), .mv (.g 1), none⟩,
  ⟨(some (true, 30)), .bin .lss (.l 28) (.l 29), none⟩])
(.cond (.g 30)
.skip
(.exit 2)))
(.block 3
(.seq
(.reg [
  ⟨(some (false, 31)), .mv (.g 6), none⟩,
  ⟨(some (false, 32)), .bin .mul (.c (.lit (.int .i64 2))) (.l 31), none⟩,
  ⟨(some (true, 7)), .mv (.c (.lit (.int .i64 0))), none⟩,
  ⟨(some (true, 8)), .mv (.l 32), none⟩])
(.seq
(.block 4
(.loop
(.seq
(.seq
(.reg [
  ⟨(some (false, 33)), .mv (.g 8), none⟩,
  ⟨(some (false, 34)), .mv (.g 1), none⟩,
  ⟨(some (true, 35)), .bin .leq (.l 33) (.l 34), none⟩])
(.cond (.g 35)
.skip
(.exit 4)))
(.block 5
(.seq
(.reg [
  ⟨(some (false, 36)), .mv (.g 0), none⟩,
  ⟨(some (false, 37)), .mv (.g 7), none⟩,
  ⟨(some (false, 38)), .mv (.g 7), none⟩,
  ⟨(some (false, 39)), .mv (.g 6), none⟩,
  ⟨(some (false, 40)), .bin .add (.l 38) (.l 39), none⟩,
  ⟨(some (false, 41)), .mv (.g 8), none⟩,
  ⟨(some (false, 42)), .mv (.g 2), none⟩,
  ⟨(some (false, 43)), .call (.c (.fn 74 [])) [.l 36, .l 37, .l 40, .l 41, .l 42], none⟩])
(.seq
(.reg [
  ⟨(some (false, 44)), .mv (.g 8), none⟩,
  ⟨(some (true, 7)), .mv (.l 44), none⟩])
(.reg [
  ⟨(some (false, 45)), .mv (.g 8), none⟩,
  ⟨(some (false, 46)), .mv (.g 6), none⟩,
  ⟨(some (false, 47)), .bin .mul (.c (.lit (.int .i64 2))) (.l 46), none⟩,
  ⟨(some (false, 48)), .bin .add (.l 45) (.l 47), none⟩,
  ⟨(some (true, 8)), .mv (.l 48), none⟩])))))))
(.seq
(.seq
(.reg [
  ⟨(some (false, 49)), .mv (.g 7), none⟩,
  ⟨(some (false, 50)), .mv (.g 6), none⟩,
  ⟨(some (false, 51)), .bin .add (.l 49) (.l 50), none⟩,
  ⟨(some (true, 9)), .mv (.l 51), none⟩])
(.seq
(.reg [
  ⟨(some (false, 52)), .mv (.g 9), none⟩,
  ⟨(some (false, 53)), .mv (.g 1), none⟩,
  ⟨(some (true, 54)), .bin .lss (.l 52) (.l 53), none⟩])
(.cond (.g 54)
(.reg [
  ⟨(some (false, 55)), .mv (.g 0), none⟩,
  ⟨(some (false, 56)), .mv (.g 7), none⟩,
  ⟨(some (false, 57)), .mv (.g 9), none⟩,
  ⟨(some (false, 58)), .mv (.g 1), none⟩,
  ⟨(some (false, 59)), .mv (.g 2), none⟩,
  ⟨(some (false, 60)), .call (.c (.fn 74 [])) [.l 55, .l 56, .l 57, .l 58, .l 59], none⟩])
.skip)))
(.reg [
  ⟨(some (false, 61)), .mv (.g 6), none⟩,
  ⟨(some (false, 62)), .bin .mul (.l 61) (.c (.lit (.int .i64 2))), none⟩,
  ⟨(some (true, 6)), .mv (.l 62), none⟩]))))))))))))
def K67 : List Nat := [0, 1, 2, 13, 30, 35, 54, 6, 7, 8, 9]
noncomputable def b67 : Code := match Tryd.f67.body with | some c => c | none => .skip
theorem t67 : trCode ⟨Tryd.prog, K67, [], 63, none⟩ b67 = some c67 := by kernel_rfl
theorem go67 {args : List AV} {H : AHeap} {Kk : AV → AHeap → Prop} (hn : args.length = 3) (h : AGo ⟨Tryd.prog, K67, [], 63, none⟩ H.length [.code c67] (RetP [] H.length Kk) ⟨[], argsG 0 args⟩ H) : ACalls Tryd.prog 67 args H Kk :=
  ACalls_of Tryd.func67 (c := b67) rfl (by kernel_rfl) t67 (rs := []) (by kernel_rfl) (by rw [hn]; exact Nat.le_of_ble_eq_true rfl) (by rw [hn]; rfl) (h.weaken (fun _ _ => RetP.hands) (by simp))

/-- cmp.isNaN[int] -/
def c68 : ACode :=
  (.seq
(.reg [
  ⟨(some (true, 2)), .mv (.c (.lit (.bool false))), none⟩])
(.seq
(.reg [
  ⟨(some (false, 3)), .mv (.g 0), none⟩,
  ⟨(some (false, 4)), .mv (.g 0), none⟩,
  ⟨(some (false, 5)), .bin .neq (.l 3) (.l 4), none⟩,
  ⟨(some (true, 2)), .mv (.l 5), none⟩])
.ret))
def K68 : List Nat := [0, 2]
noncomputable def b68 : Code := match Tryd.f68.body with | some c => c | none => .skip
theorem t68 : trCode ⟨Tryd.prog, K68, [], 6, none⟩ b68 = some c68 := by kernel_rfl
theorem go68 {args : List AV} {H : AHeap} {Kk : AV → AHeap → Prop} (hn : args.length = 1) (h : AGo ⟨Tryd.prog, K68, [], 6, none⟩ H.length [.code c68] (RetP [.t (.g 2)] H.length Kk) ⟨[], argsG 0 args⟩ H) : ACalls Tryd.prog 68 args H Kk :=
  ACalls_of Tryd.func68 (c := b68) rfl (by kernel_rfl) t68 (rs := [.t (.g 2)]) (by kernel_rfl) (by rw [hn]; exact Nat.le_of_ble_eq_true rfl) (by rw [hn]; rfl) (h.weaken (fun _ _ => RetP.hands) (by simp))

/-- slices.IndexFunc[[][]int,[]int] -/
def c59 : ACode :=
  (.seq
(.reg [
  ⟨(some (true, 4)), .mv (.c (.lit (.int .i64 0))), none⟩])
(.seq
(.seq
(.reg [
  ⟨(some (false, 6)), .mv (.g 0), none⟩,
  ⟨(some (true, 7)), .len (.l 6), none⟩,
  ⟨(some (true, 8)), .mv (.c (.lit (.int .i64 0))), none⟩])
(.block 0
(.loop
(.seq
(.reg [
  ⟨(some (true, 9)), .bin .lss (.g 8) (.g 7), none⟩])
(.seq
(.cond (.g 9)
.skip
(.exit 0))
(.seq
(.block 1
(.seq
(.reg [
  ⟨(some (false, 10)), .mv (.g 8), none⟩,
  ⟨(some (true, 5)), .mv (.l 10), none⟩])
(.seq
(.reg [
  ⟨(some (false, 11)), .mv (.g 1), none⟩,
  ⟨(some (false, 12)), .mv (.g 0), none⟩,
  ⟨(some (false, 13)), .mv (.g 5), none⟩,
  ⟨(some (false, 14)), .ia 1 (.l 12) (.l 13), none⟩,
  ⟨(some (false, 15)), .ld none (.l 14), none⟩,
  ⟨(some (true, 16)), .call (.l 11) [.l 15], none⟩])
(.cond (.g 16)
(.seq
(.reg [
  ⟨(some (false, 17)), .mv (.g 5), none⟩,
  ⟨(some (true, 4)), .mv (.l 17), none⟩])
.ret)
.skip))))
(.reg [
  ⟨(some (false, 18)), .bin .add (.g 8) (.c (.lit (.int .i64 1))), none⟩,
  ⟨(some (true, 8)), .mv (.l 18), none⟩])))))))
(.seq
(.reg [
  ⟨(some (true, 4)), .mv (.c (.lit (.int .i64 (-1)))), none⟩])
.ret)))
def K59 : List Nat := [0, 1, 9, 16, 4, 7, 8, 5]
noncomputable def b59 : Code := match Tryd.f59.body with | some c => c | none => .skip
theorem t59 : trCode ⟨Tryd.prog, K59, [], 19, none⟩ b59 = some c59 := by kernel_rfl
theorem go59 {args : List AV} {H : AHeap} {Kk : AV → AHeap → Prop} (hn : args.length = 2) (h : AGo ⟨Tryd.prog, K59, [], 19, none⟩ H.length [.code c59] (RetP [.t (.g 4)] H.length Kk) ⟨[], argsG 0 args⟩ H) : ACalls Tryd.prog 59 args H Kk :=
  ACalls_of Tryd.func59 (c := b59) rfl (by kernel_rfl) t59 (rs := [.t (.g 4)]) (by kernel_rfl) (by rw [hn]; exact Nat.le_of_ble_eq_true rfl) (by rw [hn]; rfl) (h.weaken (fun _ _ => RetP.hands) (by simp))

/-- slices.insertionSortCmpFunc[sastrugi/api.Order] -/
def c73 : ACode :=
  (.seq
(.reg [
  ⟨(some (false, 10)), .mv (.g 1), none⟩,
  ⟨(some (false, 11)), .bin .add (.l 10) (.c (.lit (.int .i64 1))), none⟩,
  ⟨(some (true, 8)), .mv (.l 11), none⟩])
(.block 0
(.loop
(.seq
(.seq
(.reg [
  ⟨(some (false, 12)), .mv (.g 8), none⟩,
  ⟨(some (false, 13)), .mv (.g 2), none⟩,
  ⟨(some (true, 14)), .bin .lss (.l 12) (.l 13), none⟩])
(.cond (.g 14)
.skip
(.exit 0)))
(.seq
(.block 1
(.seq
(.reg [
  ⟨(some (false, 17)), .mv (.g 8), none⟩,
  ⟨(some (true, 9)), .mv (.l 17), none⟩])
(.block 2
(.loop
(.seq
(.seq
(.draw [
  ⟨⟨(some (false, 18)), .mv (.g 9), none⟩, 0, true, []⟩,
  ⟨⟨(some (false, 19)), .mv (.g 1), none⟩, 1, true, []⟩,
  ⟨⟨(some (false, 20)), .bin .gtr (.l 18) (.l 19), none⟩, 2, true, []⟩,
  ⟨⟨(some (false, 21)), .mv (.l 20), none⟩, 3, true, []⟩,
  ⟨⟨(some (false, 22)), .mv (.g 3), (some (.l 21, true))⟩, 4, true, []⟩,
  ⟨⟨(some (false, 23)), .mv (.g 0), (some (.l 21, true))⟩, 5, true, []⟩,
  ⟨⟨(some (false, 24)), .mv (.g 9), (some (.l 21, true))⟩, 6, true, []⟩,
  ⟨⟨(some (false, 25)), .ia 4 (.l 23) (.l 24), (some (.l 21, true))⟩, 7, true, []⟩,
  ⟨⟨(some (false, 26)), .ld (some 4) (.l 25), (some (.l 21, true))⟩, 8, true, []⟩,
  ⟨⟨(some (false, 27)), .mv (.g 0), (some (.l 21, true))⟩, 9, true, []⟩,
  ⟨⟨(some (false, 28)), .mv (.g 9), (some (.l 21, true))⟩, 10, true, []⟩,
  ⟨⟨(some (false, 29)), .bin .sub (.l 28) (.c (.lit (.int .i64 1))), (some (.l 21, true))⟩, 11, true, []⟩,
  ⟨⟨(some (false, 30)), .ia 4 (.l 27) (.l 29), (some (.l 21, true))⟩, 12, true, []⟩,
  ⟨⟨(some (false, 31)), .ld (some 4) (.l 30), (some (.l 21, true))⟩, 13, true, []⟩,
  ⟨⟨(some (false, 32)), .call (.l 22) [.l 26, .l 31], (some (.l 21, true))⟩, 14, false, []⟩,
  ⟨⟨(some (false, 33)), .bin .lss (.l 32) (.c (.lit (.int .i64 0))), (some (.l 21, true))⟩, 15, true, []⟩,
  ⟨⟨(some (true, 34)), .pick (.l 21) (.l 33) (.c (.lit (.bool false))), none⟩, 16, true, []⟩])
(.cond (.g 34)
.skip
(.exit 2)))
(.seq
(.block 3
(.draw [
  ⟨⟨(some (false, 37)), .mv (.g 0), none⟩, 0, true, []⟩,
  ⟨⟨(some (false, 38)), .mv (.g 9), none⟩, 1, true, []⟩,
  ⟨⟨(some (false, 39)), .mv (.g 0), none⟩, 2, false, []⟩,
  ⟨⟨(some (false, 40)), .mv (.g 9), none⟩, 3, false, []⟩,
  ⟨⟨(some (false, 41)), .bin .sub (.l 40) (.c (.lit (.int .i64 1))), none⟩, 4, false, []⟩,
  ⟨⟨(some (false, 42)), .mv (.g 0), none⟩, 5, true, []⟩,
  ⟨⟨(some (false, 43)), .mv (.g 9), none⟩, 6, true, []⟩,
  ⟨⟨(some (false, 44)), .bin .sub (.l 43) (.c (.lit (.int .i64 1))), none⟩, 7, true, []⟩,
  ⟨⟨(some (false, 45)), .ia 4 (.l 42) (.l 44), none⟩, 8, true, []⟩,
  ⟨⟨(some (false, 46)), .ld (some 4) (.l 45), none⟩, 9, true, []⟩,
  ⟨⟨(some (false, 47)), .mv (.g 0), none⟩, 10, false, []⟩,
  ⟨⟨(some (false, 48)), .mv (.g 9), none⟩, 11, false, []⟩,
  ⟨⟨(some (false, 49)), .ia 4 (.l 47) (.l 48), none⟩, 12, true, []⟩,
  ⟨⟨(some (false, 50)), .ld (some 4) (.l 49), none⟩, 13, true, []⟩,
  ⟨⟨(some (false, 51)), .ia 4 (.l 37) (.l 38), none⟩, 14, true, []⟩,
  ⟨⟨none, .st 4 (.l 51) (.l 46), none⟩, 15, false, []⟩,
  ⟨⟨(some (false, 52)), .ia 4 (.l 39) (.l 41), none⟩, 16, false, []⟩,
  ⟨⟨none, .st 4 (.l 52) (.l 50), none⟩, 17, true, []⟩]))
(.reg [
  ⟨(some (false, 35)), .mv (.g 9), none⟩,
  ⟨(some (false, 36)), .bin .sub (.l 35) (.c (.lit (.int .i64 1))), none⟩,
  ⟨(some (true, 9)), .mv (.l 36), none⟩])))))))
(.reg [
  ⟨(some (false, 15)), .mv (.g 8), none⟩,
  ⟨(some (false, 16)), .bin .add (.l 15) (.c (.lit (.int .i64 1))), none⟩,
  ⟨(some (true, 8)), .mv (.l 16), none⟩]))))))
def K73 : List Nat := [0, 1, 2, 3, 14, 34, 8, 9]
noncomputable def b73 : Code := match Tryd.f73.body with | some c => c | none => .skip
theorem t73 : trCode ⟨Tryd.prog, K73, [], 53, none⟩ b73 = some c73 := by kernel_rfl
theorem go73 {args : List AV} {H : AHeap} {Kk : AV → AHeap → Prop} (hn : args.length = 4) (h : AGo ⟨Tryd.prog, K73, [], 53, none⟩ H.length [.code c73] (RetP [] H.length Kk) ⟨[], argsG 0 args⟩ H) : ACalls Tryd.prog 73 args H Kk :=
  ACalls_of Tryd.func73 (c := b73) rfl (by kernel_rfl) t73 (rs := []) (by kernel_rfl) (by rw [hn]; exact Nat.le_of_ble_eq_true rfl) (by rw [hn]; rfl) (h.weaken (fun _ _ => RetP.hands) (by simp))

/-- slices.symMergeCmpFunc[sastrugi/api.Order] -/
def c74 : ACode :=
  (.seq
(.seq
(.reg [
  ⟨(some (false, 25)), .mv (.g 2), none⟩,
  ⟨(some (false, 26)), .mv (.g 1), none⟩,
  ⟨(some (false, 27)), .bin .sub (.l 25) (.l 26), none⟩,
  ⟨(some (true, 28)), .bin .eql (.l 27) (.c (.lit (.int .i64 1))), none⟩])
(.cond (.g 28)
(.seq
(.reg [
  ⟨(some (false, 29)), .mv (.g 2), none⟩,
  ⟨(some (true, 10)), .mv (.l 29), none⟩])
(.seq
(.reg [
  ⟨(some (false, 30)), .mv (.g 3), none⟩,
  ⟨(some (true, 11)), .mv (.l 30), none⟩])
(.seq
(.block 0
(.loop
(.seq
(.seq
(.reg [
  ⟨(some (false, 31)), .mv (.g 10), none⟩,
  ⟨(some (false, 32)), .mv (.g 11), none⟩,
  ⟨(some (true, 33)), .bin .lss (.l 31) (.l 32), none⟩])
(.cond (.g 33)
.skip
(.exit 0)))
(.block 1
(.seq
(.reg [
  ⟨(some (false, 34)), .mv (.g 10), none⟩,
  ⟨(some (false, 35)), .mv (.g 11), none⟩,
  ⟨(some (false, 36)), .bin .add (.l 34) (.l 35), none⟩,
  ⟨(some (false, 37)), .cv .u64 (.l 36), none⟩,
  ⟨(some (false, 38)), .bin .shr (.l 37) (.c (.lit (.int .u64 1))), none⟩,
  ⟨(some (false, 39)), .cv .i64 (.l 38), none⟩,
  ⟨(some (true, 12)), .mv (.l 39), none⟩])
(.seq
(.draw [
  ⟨⟨(some (false, 40)), .mv (.g 4), none⟩, 0, true, []⟩,
  ⟨⟨(some (false, 41)), .mv (.g 0), none⟩, 1, true, []⟩,
  ⟨⟨(some (false, 42)), .mv (.g 12), none⟩, 2, true, []⟩,
  ⟨⟨(some (false, 43)), .ia 4 (.l 41) (.l 42), none⟩, 3, true, []⟩,
  ⟨⟨(some (false, 44)), .ld (some 4) (.l 43), none⟩, 4, true, []⟩,
  ⟨⟨(some (false, 45)), .mv (.g 0), none⟩, 5, true, []⟩,
  ⟨⟨(some (false, 46)), .mv (.g 1), none⟩, 6, true, []⟩,
  ⟨⟨(some (false, 47)), .ia 4 (.l 45) (.l 46), none⟩, 7, true, []⟩,
  ⟨⟨(some (false, 48)), .ld (some 4) (.l 47), none⟩, 8, true, []⟩,
  ⟨⟨(some (false, 49)), .call (.l 40) [.l 44, .l 48], none⟩, 9, false, []⟩,
  ⟨⟨(some (true, 50)), .bin .lss (.l 49) (.c (.lit (.int .i64 0))), none⟩, 10, true, []⟩])
(.cond (.g 50)
(.reg [
  ⟨(some (false, 51)), .mv (.g 12), none⟩,
  ⟨(some (false, 52)), .bin .add (.l 51) (.c (.lit (.int .i64 1))), none⟩,
  ⟨(some (true, 10)), .mv (.l 52), none⟩])
(.reg [
  ⟨(some (false, 53)), .mv (.g 12), none⟩,
  ⟨(some (true, 11)), .mv (.l 53), none⟩]))))))))
(.seq
(.seq
(.reg [
  ⟨(some (false, 54)), .mv (.g 1), none⟩,
  ⟨(some (true, 13)), .mv (.l 54), none⟩])
(.block 2
(.loop
(.seq
(.seq
(.reg [
  ⟨(some (false, 55)), .mv (.g 13), none⟩,
  ⟨(some (false, 56)), .mv (.g 10), none⟩,
  ⟨(some (false, 57)), .bin .sub (.l 56) (.c (.lit (.int .i64 1))), none⟩,
  ⟨(some (true, 58)), .bin .lss (.l 55) (.l 57), none⟩])
(.cond (.g 58)
.skip
(.exit 2)))
(.seq
(.block 3
(.draw [
  ⟨⟨(some (false, 61)), .mv (.g 0), none⟩, 0, true, []⟩,
  ⟨⟨(some (false, 62)), .mv (.g 13), none⟩, 1, true, []⟩,
  ⟨⟨(some (false, 63)), .mv (.g 0), none⟩, 2, false, []⟩,
  ⟨⟨(some (false, 64)), .mv (.g 13), none⟩, 3, false, []⟩,
  ⟨⟨(some (false, 65)), .bin .add (.l 64) (.c (.lit (.int .i64 1))), none⟩, 4, false, []⟩,
  ⟨⟨(some (false, 66)), .mv (.g 0), none⟩, 5, true, []⟩,
  ⟨⟨(some (false, 67)), .mv (.g 13), none⟩, 6, true, []⟩,
  ⟨⟨(some (false, 68)), .bin .add (.l 67) (.c (.lit (.int .i64 1))), none⟩, 7, true, []⟩,
  ⟨⟨(some (false, 69)), .ia 4 (.l 66) (.l 68), none⟩, 8, true, []⟩,
  ⟨⟨(some (false, 70)), .ld (some 4) (.l 69), none⟩, 9, true, []⟩,
  ⟨⟨(some (false, 71)), .mv (.g 0), none⟩, 10, false, []⟩,
  ⟨⟨(some (false, 72)), .mv (.g 13), none⟩, 11, false, []⟩,
  ⟨⟨(some (false, 73)), .ia 4 (.l 71) (.l 72), none⟩, 12, true, []⟩,
  ⟨⟨(some (false, 74)), .ld (some 4) (.l 73), none⟩, 13, true, []⟩,
  ⟨⟨(some (false, 75)), .ia 4 (.l 61) (.l 62), none⟩, 14, true, []⟩,
  ⟨⟨none, .st 4 (.l 75) (.l 70), none⟩, 15, false, []⟩,
  ⟨⟨(some (false, 76)), .ia 4 (.l 63) (.l 65), none⟩, 16, false, []⟩,
  ⟨⟨none, .st 4 (.l 76) (.l 74), none⟩, 17, true, []⟩]))
(.reg [
  ⟨(some (false, 59)), .mv (.g 13), none⟩,
  ⟨(some (false, 60)), .bin .add (.l 59) (.c (.lit (.int .i64 1))), none⟩,
  ⟨(some (true, 13)), .mv (.l 60), none⟩]))))))
.ret))))
.skip))
(.seq
(.seq
(.reg [
  ⟨(some (false, 77)), .mv (.g 3), none⟩,
  ⟨(some (false, 78)), .mv (.g 2), none⟩,
  ⟨(some (false, 79)), .bin .sub (.l 77) (.l 78), none⟩,
  ⟨(some (true, 80)), .bin .eql (.l 79) (.c (.lit (.int .i64 1))), none⟩])
(.cond (.g 80)
(.seq
(.reg [
  ⟨(some (false, 81)), .mv (.g 1), none⟩,
  ⟨(some (true, 14)), .mv (.l 81), none⟩])
(.seq
(.reg [
  ⟨(some (false, 82)), .mv (.g 2), none⟩,
  ⟨(some (true, 15)), .mv (.l 82), none⟩])
(.seq
(.block 4
(.loop
(.seq
(.seq
(.reg [
  ⟨(some (false, 83)), .mv (.g 14), none⟩,
  ⟨(some (false, 84)), .mv (.g 15), none⟩,
  ⟨(some (true, 85)), .bin .lss (.l 83) (.l 84), none⟩])
(.cond (.g 85)
.skip
(.exit 4)))
(.block 5
(.seq
(.reg [
  ⟨(some (false, 86)), .mv (.g 14), none⟩,
  ⟨(some (false, 87)), .mv (.g 15), none⟩,
  ⟨(some (false, 88)), .bin .add (.l 86) (.l 87), none⟩,
  ⟨(some (false, 89)), .cv .u64 (.l 88), none⟩,
  ⟨(some (false, 90)), .bin .shr (.l 89) (.c (.lit (.int .u64 1))), none⟩,
  ⟨(some (false, 91)), .cv .i64 (.l 90), none⟩,
  ⟨(some (true, 16)), .mv (.l 91), none⟩])
(.seq
(.draw [
  ⟨⟨(some (false, 92)), .mv (.g 4), none⟩, 0, true, []⟩,
  ⟨⟨(some (false, 93)), .mv (.g 0), none⟩, 1, true, []⟩,
  ⟨⟨(some (false, 94)), .mv (.g 2), none⟩, 2, true, []⟩,
  ⟨⟨(some (false, 95)), .ia 4 (.l 93) (.l 94), none⟩, 3, true, []⟩,
  ⟨⟨(some (false, 96)), .ld (some 4) (.l 95), none⟩, 4, true, []⟩,
  ⟨⟨(some (false, 97)), .mv (.g 0), none⟩, 5, true, []⟩,
  ⟨⟨(some (false, 98)), .mv (.g 16), none⟩, 6, true, []⟩,
  ⟨⟨(some (false, 99)), .ia 4 (.l 97) (.l 98), none⟩, 7, true, []⟩,
  ⟨⟨(some (false, 100)), .ld (some 4) (.l 99), none⟩, 8, true, []⟩,
  ⟨⟨(some (false, 101)), .call (.l 92) [.l 96, .l 100], none⟩, 9, false, []⟩,
  ⟨⟨(some (false, 102)), .bin .lss (.l 101) (.c (.lit (.int .i64 0))), none⟩, 10, true, []⟩,
  ⟨⟨(some (true, 103)), .un .not (.l 102), none⟩, 11, true, []⟩])
(.cond (.g 103)
(.reg [
  ⟨(some (false, 104)), .mv (.g 16), none⟩,
  ⟨(some (false, 105)), .bin .add (.l 104) (.c (.lit (.int .i64 1))), none⟩,
  ⟨(some (true, 14)), .mv (.l 105), none⟩])
(.reg [
  ⟨(some (false, 106)), .mv (.g 16), none⟩,
  ⟨(some (true, 15)), .mv (.l 106), none⟩]))))))))
(.seq
(.seq
(.reg [
  ⟨(some (false, 107)), .mv (.g 2), none⟩,
  ⟨(some (true, 17)), .mv (.l 107), none⟩])
(.block 6
(.loop
(.seq
(.seq
(.reg [
  ⟨(some (false, 108)), .mv (.g 17), none⟩,
  ⟨(some (false, 109)), .mv (.g 14), none⟩,
  ⟨(some (true, 110)), .bin .gtr (.l 108) (.l 109), none⟩])
(.cond (.g 110)
.skip
(.exit 6)))
(.seq
(.block 7
(.draw [
  ⟨⟨(some (false, 113)), .mv (.g 0), none⟩, 0, true, []⟩,
  ⟨⟨(some (false, 114)), .mv (.g 17), none⟩, 1, true, []⟩,
  ⟨⟨(some (false, 115)), .mv (.g 0), none⟩, 2, false, []⟩,
  ⟨⟨(some (false, 116)), .mv (.g 17), none⟩, 3, false, []⟩,
  ⟨⟨(some (false, 117)), .bin .sub (.l 116) (.c (.lit (.int .i64 1))), none⟩, 4, false, []⟩,
  ⟨⟨(some (false, 118)), .mv (.g 0), none⟩, 5, true, []⟩,
  ⟨⟨(some (false, 119)), .mv (.g 17), none⟩, 6, true, []⟩,
  ⟨⟨(some (false, 120)), .bin .sub (.l 119) (.c (.lit (.int .i64 1))), none⟩, 7, true, []⟩,
  ⟨⟨(some (false, 121)), .ia 4 (.l 118) (.l 120), none⟩, 8, true, []⟩,
  ⟨⟨(some (false, 122)), .ld (some 4) (.l 121), none⟩, 9, true, []⟩,
  ⟨⟨(some (false, 123)), .mv (.g 0), none⟩, 10, false, []⟩,
  ⟨⟨(some (false, 124)), .mv (.g 17), none⟩, 11, false, []⟩,
  ⟨⟨(some (false, 125)), .ia 4 (.l 123) (.l 124), none⟩, 12, true, []⟩,
  ⟨⟨(some (false, 126)), .ld (some 4) (.l 125), none⟩, 13, true, []⟩,
  ⟨⟨(some (false, 127)), .ia 4 (.l 113) (.l 114), none⟩, 14, true, []⟩,
  ⟨⟨none, .st 4 (.l 127) (.l 122), none⟩, 15, false, []⟩,
  ⟨⟨(some (false, 128)), .ia 4 (.l 115) (.l 117), none⟩, 16, false, []⟩,
  ⟨⟨none, .st 4 (.l 128) (.l 126), none⟩, 17, true, []⟩]))
(.reg [
  ⟨(some (false, 111)), .mv (.g 17), none⟩,
  ⟨(some (false, 112)), .bin .sub (.l 111) (.c (.lit (.int .i64 1))), none⟩,
  ⟨(some (true, 17)), .mv (.l 112), none⟩]))))))
.ret))))
.skip))
(.seq
(.reg [
  ⟨(some (false, 129)), .mv (.g 1), none⟩,
  ⟨(some (false, 130)), .mv (.g 3), none⟩,
  ⟨(some (false, 131)), .bin .add (.l 129) (.l 130), none⟩,
  ⟨(some (false, 132)), .cv .u64 (.l 131), none⟩,
  ⟨(some (false, 133)), .bin .shr (.l 132) (.c (.lit (.int .u64 1))), none⟩,
  ⟨(some (false, 134)), .cv .i64 (.l 133), none⟩,
  ⟨(some (true, 18)), .mv (.l 134), none⟩])
(.seq
(.reg [
  ⟨(some (false, 135)), .mv (.g 18), none⟩,
  ⟨(some (false, 136)), .mv (.g 2), none⟩,
  ⟨(some (false, 137)), .bin .add (.l 135) (.l 136), none⟩,
  ⟨(some (true, 19)), .mv (.l 137), none⟩])
(.seq
(.reg [
  ⟨(some (true, 20)), .mv (.c (.lit (.int .i64 0))), none⟩,
  ⟨(some (true, 21)), .mv (.c (.lit (.int .i64 0))), none⟩])
(.seq
(.seq
(.reg [
  ⟨(some (false, 138)), .mv (.g 2), none⟩,
  ⟨(some (false, 139)), .mv (.g 18), none⟩,
  ⟨(some (true, 140)), .bin .gtr (.l 138) (.l 139), none⟩])
(.cond (.g 140)
(.seq
(.reg [
  ⟨(some (false, 141)), .mv (.g 19), none⟩,
  ⟨(some (false, 142)), .mv (.g 3), none⟩,
  ⟨(some (false, 143)), .bin .sub (.l 141) (.l 142), none⟩,
  ⟨(some (true, 20)), .mv (.l 143), none⟩])
(.reg [
  ⟨(some (false, 144)), .mv (.g 18), none⟩,
  ⟨(some (true, 21)), .mv (.l 144), none⟩]))
(.seq
(.reg [
  ⟨(some (false, 145)), .mv (.g 1), none⟩,
  ⟨(some (true, 20)), .mv (.l 145), none⟩])
(.reg [
  ⟨(some (false, 146)), .mv (.g 2), none⟩,
  ⟨(some (true, 21)), .mv (.l 146), none⟩]))))
(.seq
(.reg [
  ⟨(some (false, 147)), .mv (.g 19), none⟩,
  ⟨(some (false, 148)), .bin .sub (.l 147) (.c (.lit (.int .i64 1))), none⟩,
  ⟨(some (true, 22)), .mv (.l 148), none⟩])
(.seq
(.block 8
(.loop
(.seq
(.seq
(.reg [
  ⟨(some (false, 149)), .mv (.g 20), none⟩,
  ⟨(some (false, 150)), .mv (.g 21), none⟩,
  ⟨(some (true, 151)), .bin .lss (.l 149) (.l 150), none⟩])
(.cond (.g 151)
.skip
(.exit 8)))
(.block 9
(.seq
(.reg [
  ⟨(some (false, 152)), .mv (.g 20), none⟩,
  ⟨(some (false, 153)), .mv (.g 21), none⟩,
  ⟨(some (false, 154)), .bin .add (.l 152) (.l 153), none⟩,
  ⟨(some (false, 155)), .cv .u64 (.l 154), none⟩,
  ⟨(some (false, 156)), .bin .shr (.l 155) (.c (.lit (.int .u64 1))), none⟩,
  ⟨(some (false, 157)), .cv .i64 (.l 156), none⟩,
  ⟨(some (true, 23)), .mv (.l 157), none⟩])
(.seq
(.draw [
  ⟨⟨(some (false, 158)), .mv (.g 4), none⟩, 0, true, []⟩,
  ⟨⟨(some (false, 159)), .mv (.g 0), none⟩, 1, true, []⟩,
  ⟨⟨(some (false, 160)), .mv (.g 22), none⟩, 2, true, []⟩,
  ⟨⟨(some (false, 161)), .mv (.g 23), none⟩, 3, true, []⟩,
  ⟨⟨(some (false, 162)), .bin .sub (.l 160) (.l 161), none⟩, 4, true, []⟩,
  ⟨⟨(some (false, 163)), .ia 4 (.l 159) (.l 162), none⟩, 5, true, []⟩,
  ⟨⟨(some (false, 164)), .ld (some 4) (.l 163), none⟩, 6, true, []⟩,
  ⟨⟨(some (false, 165)), .mv (.g 0), none⟩, 7, true, []⟩,
  ⟨⟨(some (false, 166)), .mv (.g 23), none⟩, 8, true, []⟩,
  ⟨⟨(some (false, 167)), .ia 4 (.l 165) (.l 166), none⟩, 9, true, []⟩,
  ⟨⟨(some (false, 168)), .ld (some 4) (.l 167), none⟩, 10, true, []⟩,
  ⟨⟨(some (false, 169)), .call (.l 158) [.l 164, .l 168], none⟩, 11, false, []⟩,
  ⟨⟨(some (false, 170)), .bin .lss (.l 169) (.c (.lit (.int .i64 0))), none⟩, 12, true, []⟩,
  ⟨⟨(some (true, 171)), .un .not (.l 170), none⟩, 13, true, []⟩])
(.cond (.g 171)
(.reg [
  ⟨(some (false, 172)), .mv (.g 23), none⟩,
  ⟨(some (false, 173)), .bin .add (.l 172) (.c (.lit (.int .i64 1))), none⟩,
  ⟨(some (true, 20)), .mv (.l 173), none⟩])
(.reg [
  ⟨(some (false, 174)), .mv (.g 23), none⟩,
  ⟨(some (true, 21)), .mv (.l 174), none⟩]))))))))
(.seq
(.reg [
  ⟨(some (false, 175)), .mv (.g 19), none⟩,
  ⟨(some (false, 176)), .mv (.g 20), none⟩,
  ⟨(some (false, 177)), .bin .sub (.l 175) (.l 176), none⟩,
  ⟨(some (true, 24)), .mv (.l 177), none⟩])
(.seq
(.seq
(.reg [
  ⟨(some (false, 178)), .mv (.g 20), none⟩,
  ⟨(some (false, 179)), .mv (.g 2), none⟩,
  ⟨(some (false, 180)), .bin .lss (.l 178) (.l 179), none⟩,
  ⟨(some (false, 181)), .mv (.l 180), none⟩,
  ⟨(some (false, 182)), .mv (.g 2), (some (.l 181, true))⟩,
  ⟨(some (false, 183)), .mv (.g 24), (some (.l 181, true))⟩,
  ⟨(some (false, 184)), .bin .lss (.l 182) (.l 183), (some (.l 181, true))⟩,
  ⟨(some (true, 185)), .pick (.l 181) (.l 184) (.c (.lit (.bool false))), none⟩])
(.cond (.g 185)
(.reg [
  ⟨(some (false, 186)), .mv (.g 0), none⟩,
  ⟨(some (false, 187)), .mv (.g 20), none⟩,
  ⟨(some (false, 188)), .mv (.g 2), none⟩,
  ⟨(some (false, 189)), .mv (.g 24), none⟩,
  ⟨(some (false, 190)), .mv (.g 4), none⟩,
  ⟨(some (false, 191)), .call (.c (.fn 83 [])) [.l 186, .l 187, .l 188, .l 189, .l 190], none⟩])
.skip))
(.seq
(.seq
(.reg [
  ⟨(some (false, 192)), .mv (.g 1), none⟩,
  ⟨(some (false, 193)), .mv (.g 20), none⟩,
  ⟨(some (false, 194)), .bin .lss (.l 192) (.l 193), none⟩,
  ⟨(some (false, 195)), .mv (.l 194), none⟩,
  ⟨(some (false, 196)), .mv (.g 20), (some (.l 195, true))⟩,
  ⟨(some (false, 197)), .mv (.g 18), (some (.l 195, true))⟩,
  ⟨(some (false, 198)), .bin .lss (.l 196) (.l 197), (some (.l 195, true))⟩,
  ⟨(some (true, 199)), .pick (.l 195) (.l 198) (.c (.lit (.bool false))), none⟩])
(.cond (.g 199)
(.reg [
  ⟨(some (false, 200)), .mv (.g 0), none⟩,
  ⟨(some (false, 201)), .mv (.g 1), none⟩,
  ⟨(some (false, 202)), .mv (.g 20), none⟩,
  ⟨(some (false, 203)), .mv (.g 18), none⟩,
  ⟨(some (false, 204)), .mv (.g 4), none⟩,
  ⟨(some (false, 205)), .call (.c (.fn 74 [])) [.l 200, .l 201, .l 202, .l 203, .l 204], none⟩])
.skip))
(.seq
(.reg [
  ⟨(some (false, 206)), .mv (.g 18), none⟩,
  ⟨(some (false, 207)), .mv (.g 24), none⟩,
  ⟨(some (false, 208)), .bin .lss (.l 206) (.l 207), none⟩,
  ⟨(some (false, 209)), .mv (.l 208), none⟩,
  ⟨(some (false, 210)), .mv (.g 24), (some (.l 209, true))⟩,
  ⟨(some (false, 211)), .mv (.g 3), (some (.l 209, true))⟩,
  ⟨(some (false, 212)), .bin .lss (.l 210) (.l 211), (some (.l 209, true))⟩,
  ⟨(some (true, 213)), .pick (.l 209) (.l 212) (.c (.lit (.bool false))), none⟩])
(.cond (.g 213)
(.reg [
  ⟨(some (false, 214)), .mv (.g 0), none⟩,
  ⟨(some (false, 215)), .mv (.g 18), none⟩,
  ⟨(some (false, 216)), .mv (.g 24), none⟩,
  ⟨(some (false, 217)), .mv (.g 3), none⟩,
  ⟨(some (false, 218)), .mv (.g 4), none⟩,
  ⟨(some (false, 219)), .call (.c (.fn 74 [])) [.l 214, .l 215, .l 216, .l 217, .l 218], none⟩])
.skip)))))))))))))
def K74 : List Nat := [0, 1, 2, 3, 4, 28, 33, 50, 58, 80, 85, 103, 110, 140, 151, 171, 185, 199, 213, 10, 11, 12, 13, 14, 15, 16, 17, 18, 19, 20, 21, 22, 23, 24]
noncomputable def b74 : Code := match Tryd.f74.body with | some c => c | none => .skip
theorem t74 : trCode ⟨Tryd.prog, K74, [], 220, none⟩ b74 = some c74 := by kernel_rfl
theorem go74 {args : List AV} {H : AHeap} {Kk : AV → AHeap → Prop} (hn : args.length = 5) (h : AGo ⟨Tryd.prog, K74, [], 220, none⟩ H.length [.code c74] (RetP [] H.length Kk) ⟨[], argsG 0 args⟩ H) : ACalls Tryd.prog 74 args H Kk :=
  ACalls_of Tryd.func74 (c := b74) rfl (by kernel_rfl) t74 (rs := []) (by kernel_rfl) (by rw [hn]; exact Nat.le_of_ble_eq_true rfl) (by rw [hn]; rfl) (h.weaken (fun _ _ => RetP.hands) (by simp))

/-- slices.rotateCmpFunc[sastrugi/api.Order] -/
def c83 : ACode :=
  (.seq
(.reg [
  ⟨(some (false, 12)), .mv (.g 2), none⟩,
  ⟨(some (false, 13)), .mv (.g 1), none⟩,
  ⟨(some (false, 14)), .bin .sub (.l 12) (.l 13), none⟩,
  ⟨(some (true, 10)), .mv (.l 14), none⟩])
(.seq
(.reg [
  ⟨(some (false, 15)), .mv (.g 3), none⟩,
  ⟨(some (false, 16)), .mv (.g 2), none⟩,
  ⟨(some (false, 17)), .bin .sub (.l 15) (.l 16), none⟩,
  ⟨(some (true, 11)), .mv (.l 17), none⟩])
(.seq
(.block 0
(.loop
(.seq
(.seq
(.reg [
  ⟨(some (false, 18)), .mv (.g 10), none⟩,
  ⟨(some (false, 19)), .mv (.g 11), none⟩,
  ⟨(some (true, 20)), .bin .neq (.l 18) (.l 19), none⟩])
(.cond (.g 20)
.skip
(.exit 0)))
(.block 1
(.seq
(.reg [
  ⟨(some (false, 21)), .mv (.g 10), none⟩,
  ⟨(some (false, 22)), .mv (.g 11), none⟩,
  ⟨(some (true, 23)), .bin .gtr (.l 21) (.l 22), none⟩])
(.cond (.g 23)
(.seq
(.reg [
  ⟨(some (false, 24)), .mv (.g 0), none⟩,
  ⟨(some (false, 25)), .mv (.g 2), none⟩,
  ⟨(some (false, 26)), .mv (.g 10), none⟩,
  ⟨(some (false, 27)), .bin .sub (.l 25) (.l 26), none⟩,
  ⟨(some (false, 28)), .mv (.g 2), none⟩,
  ⟨(some (false, 29)), .mv (.g 11), none⟩,
  ⟨(some (false, 30)), .mv (.g 4), none⟩,
  ⟨(some (false, 31)), .call (.c (.fn 90 [])) [.l 24, .l 27, .l 28, .l 29, .l 30], none⟩])
(.reg [
  ⟨(some (false, 32)), .mv (.g 10), none⟩,
  ⟨(some (false, 33)), .mv (.g 11), none⟩,
  ⟨(some (false, 34)), .bin .sub (.l 32) (.l 33), none⟩,
  ⟨(some (true, 10)), .mv (.l 34), none⟩]))
(.seq
(.reg [
  ⟨(some (false, 35)), .mv (.g 0), none⟩,
  ⟨(some (false, 36)), .mv (.g 2), none⟩,
  ⟨(some (false, 37)), .mv (.g 10), none⟩,
  ⟨(some (false, 38)), .bin .sub (.l 36) (.l 37), none⟩,
  ⟨(some (false, 39)), .mv (.g 2), none⟩,
  ⟨(some (false, 40)), .mv (.g 11), none⟩,
  ⟨(some (false, 41)), .bin .add (.l 39) (.l 40), none⟩,
  ⟨(some (false, 42)), .mv (.g 10), none⟩,
  ⟨(some (false, 43)), .bin .sub (.l 41) (.l 42), none⟩,
  ⟨(some (false, 44)), .mv (.g 10), none⟩,
  ⟨(some (false, 45)), .mv (.g 4), none⟩,
  ⟨(some (false, 46)), .call (.c (.fn 90 [])) [.l 35, .l 38, .l 43, .l 44, .l 45], none⟩])
(.reg [
  ⟨(some (false, 47)), .mv (.g 11), none⟩,
  ⟨(some (false, 48)), .mv (.g 10), none⟩,
  ⟨(some (false, 49)), .bin .sub (.l 47) (.l 48), none⟩,
  ⟨(some (true, 11)), .mv (.l 49), none⟩]))))))))
(.reg [
  ⟨(some (false, 50)), .mv (.g 0), none⟩,
  ⟨(some (false, 51)), .mv (.g 2), none⟩,
  ⟨(some (false, 52)), .mv (.g 10), none⟩,
  ⟨(some (false, 53)), .bin .sub (.l 51) (.l 52), none⟩,
  ⟨(some (false, 54)), .mv (.g 2), none⟩,
  ⟨(some (false, 55)), .mv (.g 10), none⟩,
  ⟨(some (false, 56)), .mv (.g 4), none⟩,
  ⟨(some (false, 57)), .call (.c (.fn 90 [])) [.l 50, .l 53, .l 54, .l 55, .l 56], none⟩]))))
def K83 : List Nat := [0, 1, 2, 3, 4, 20, 23, 10, 11]
noncomputable def b83 : Code := match Tryd.f83.body with | some c => c | none => .skip
theorem t83 : trCode ⟨Tryd.prog, K83, [], 58, none⟩ b83 = some c83 := by kernel_rfl
theorem go83 {args : List AV} {H : AHeap} {Kk : AV → AHeap → Prop} (hn : args.length = 5) (h : AGo ⟨Tryd.prog, K83, [], 58, none⟩ H.length [.code c83] (RetP [] H.length Kk) ⟨[], argsG 0 args⟩ H) : ACalls Tryd.prog 83 args H Kk :=
  ACalls_of Tryd.func83 (c := b83) rfl (by kernel_rfl) t83 (rs := []) (by kernel_rfl) (by rw [hn]; exact Nat.le_of_ble_eq_true rfl) (by rw [hn]; rfl) (h.weaken (fun _ _ => RetP.hands) (by simp))

/-- slices.swapRangeCmpFunc[sastrugi/api.Order] -/
def c90 : ACode :=
  (.seq
(.reg [
  ⟨(some (true, 10)), .mv (.c (.lit (.int .i64 0))), none⟩])
(.block 0
(.loop
(.seq
(.seq
(.reg [
  ⟨(some (false, 11)), .mv (.g 10), none⟩,
  ⟨(some (false, 12)), .mv (.g 3), none⟩,
  ⟨(some (true, 13)), .bin .lss (.l 11) (.l 12), none⟩])
(.cond (.g 13)
.skip
(.exit 0)))
(.seq
(.block 1
(.draw [
  ⟨⟨(some (false, 16)), .mv (.g 0), none⟩, 0, true, []⟩,
  ⟨⟨(some (false, 17)), .mv (.g 1), none⟩, 1, true, []⟩,
  ⟨⟨(some (false, 18)), .mv (.g 10), none⟩, 2, true, []⟩,
  ⟨⟨(some (false, 19)), .bin .add (.l 17) (.l 18), none⟩, 3, true, []⟩,
  ⟨⟨(some (false, 20)), .mv (.g 0), none⟩, 4, false, []⟩,
  ⟨⟨(some (false, 21)), .mv (.g 2), none⟩, 5, false, []⟩,
  ⟨⟨(some (false, 22)), .mv (.g 10), none⟩, 6, false, []⟩,
  ⟨⟨(some (false, 23)), .bin .add (.l 21) (.l 22), none⟩, 7, false, []⟩,
  ⟨⟨(some (false, 24)), .mv (.g 0), none⟩, 8, true, []⟩,
  ⟨⟨(some (false, 25)), .mv (.g 2), none⟩, 9, true, []⟩,
  ⟨⟨(some (false, 26)), .mv (.g 10), none⟩, 10, true, []⟩,
  ⟨⟨(some (false, 27)), .bin .add (.l 25) (.l 26), none⟩, 11, true, []⟩,
  ⟨⟨(some (false, 28)), .ia 4 (.l 24) (.l 27), none⟩, 12, true, []⟩,
  ⟨⟨(some (false, 29)), .ld (some 4) (.l 28), none⟩, 13, true, []⟩,
  ⟨⟨(some (false, 30)), .mv (.g 0), none⟩, 14, false, []⟩,
  ⟨⟨(some (false, 31)), .mv (.g 1), none⟩, 15, false, []⟩,
  ⟨⟨(some (false, 32)), .mv (.g 10), none⟩, 16, false, []⟩,
  ⟨⟨(some (false, 33)), .bin .add (.l 31) (.l 32), none⟩, 17, false, []⟩,
  ⟨⟨(some (false, 34)), .ia 4 (.l 30) (.l 33), none⟩, 18, true, []⟩,
  ⟨⟨(some (false, 35)), .ld (some 4) (.l 34), none⟩, 19, true, []⟩,
  ⟨⟨(some (false, 36)), .ia 4 (.l 16) (.l 19), none⟩, 20, true, []⟩,
  ⟨⟨none, .st 4 (.l 36) (.l 29), none⟩, 21, false, []⟩,
  ⟨⟨(some (false, 37)), .ia 4 (.l 20) (.l 23), none⟩, 22, false, []⟩,
  ⟨⟨none, .st 4 (.l 37) (.l 35), none⟩, 23, true, []⟩]))
(.reg [
  ⟨(some (false, 14)), .mv (.g 10), none⟩,
  ⟨(some (false, 15)), .bin .add (.l 14) (.c (.lit (.int .i64 1))), none⟩,
  ⟨(some (true, 10)), .mv (.l 15), none⟩]))))))
def K90 : List Nat := [0, 1, 2, 3, 4, 13, 10]
noncomputable def b90 : Code := match Tryd.f90.body with | some c => c | none => .skip
theorem t90 : trCode ⟨Tryd.prog, K90, [], 38, none⟩ b90 = some c90 := by kernel_rfl
theorem go90 {args : List AV} {H : AHeap} {Kk : AV → AHeap → Prop} (hn : args.length = 5) (h : AGo ⟨Tryd.prog, K90, [], 38, none⟩ H.length [.code c90] (RetP [] H.length Kk) ⟨[], argsG 0 args⟩ H) : ACalls Tryd.prog 90 args H Kk :=
  ACalls_of Tryd.func90 (c := b90) rfl (by kernel_rfl) t90 (rs := []) (by kernel_rfl) (by rw [hn]; exact Nat.le_of_ble_eq_true rfl) (by rw [hn]; rfl) (h.weaken (fun _ _ => RetP.hands) (by simp))

/-- slices.Index[[]int,int] -/
def c66 : ACode :=
  (.seq
(.reg [
  ⟨(some (true, 4)), .mv (.c (.lit (.int .i64 0))), none⟩])
(.seq
(.seq
(.reg [
  ⟨(some (false, 6)), .mv (.g 0), none⟩,
  ⟨(some (true, 7)), .len (.l 6), none⟩,
  ⟨(some (true, 8)), .mv (.c (.lit (.int .i64 0))), none⟩])
(.block 0
(.loop
(.seq
(.reg [
  ⟨(some (true, 9)), .bin .lss (.g 8) (.g 7), none⟩])
(.seq
(.cond (.g 9)
.skip
(.exit 0))
(.seq
(.block 1
(.seq
(.reg [
  ⟨(some (false, 10)), .mv (.g 8), none⟩,
  ⟨(some (true, 5)), .mv (.l 10), none⟩])
(.seq
(.reg [
  ⟨(some (false, 11)), .mv (.g 1), none⟩,
  ⟨(some (false, 12)), .mv (.g 0), none⟩,
  ⟨(some (false, 13)), .mv (.g 5), none⟩,
  ⟨(some (false, 14)), .ia 1 (.l 12) (.l 13), none⟩,
  ⟨(some (false, 15)), .ld none (.l 14), none⟩,
  ⟨(some (true, 16)), .bin .eql (.l 11) (.l 15), none⟩])
(.cond (.g 16)
(.seq
(.reg [
  ⟨(some (false, 17)), .mv (.g 5), none⟩,
  ⟨(some (true, 4)), .mv (.l 17), none⟩])
.ret)
.skip))))
(.reg [
  ⟨(some (false, 18)), .bin .add (.g 8) (.c (.lit (.int .i64 1))), none⟩,
  ⟨(some (true, 8)), .mv (.l 18), none⟩])))))))
(.seq
(.reg [
  ⟨(some (true, 4)), .mv (.c (.lit (.int .i64 (-1)))), none⟩])
.ret)))
def K66 : List Nat := [0, 1, 9, 16, 4, 7, 8, 5]
noncomputable def b66 : Code := match Tryd.f66.body with | some c => c | none => .skip
theorem t66 : trCode ⟨Tryd.prog, K66, [], 19, none⟩ b66 = some c66 := by kernel_rfl
theorem go66 {args : List AV} {H : AHeap} {Kk : AV → AHeap → Prop} (hn : args.length = 2) (h : AGo ⟨Tryd.prog, K66, [], 19, none⟩ H.length [.code c66] (RetP [.t (.g 4)] H.length Kk) ⟨[], argsG 0 args⟩ H) : ACalls Tryd.prog 66 args H Kk :=
  ACalls_of Tryd.func66 (c := b66) rfl (by kernel_rfl) t66 (rs := [.t (.g 4)]) (by kernel_rfl) (by rw [hn]; exact Nat.le_of_ble_eq_true rfl) (by rw [hn]; rfl) (h.weaken (fun _ _ => RetP.hands) (by simp))

end Go.Sas
