/-
The code of some functions with its types resolved, printed by a program; that it is the code is checked by the kernel.
Conditions: none.
-/
import Derived.Test.YtaeaamhlejhgkaaGreatDoorP4
import Derived.Test.YtaeaamhlejhgkaaGreatDoorProg
set_option linter.unusedVariables false
set_option linter.unusedSimpArgs false
namespace Go.Sas
open Go.Proofs
set_option maxRecDepth 100000
/-- sastrugi/freight.take -/
def c37 : ACode :=
  (.seq
(.reg [
  ⟨(some (true, 6)), .mv (.c (.lit (.bool false))), none⟩])
(.seq
(.seq
(.reg [
  ⟨(some (false, 13)), .mv (.g 1), none⟩,
  ⟨(some (true, 14)), .bin .eql (.l 13) (.c (.lit (.int .i64 0))), none⟩])
(.cond (.g 14)
(.seq
(.reg [
  ⟨(some (false, 16)), .mv (.g 2), none⟩,
  ⟨(some (false, 17)), .call (.c (.fn 59 [])) [.l 16, .c (.lit (.string ⟨[115, 101, 97, 115, 111, 110].toArray⟩)), .c (.lit (.int .i64 4))], none⟩,
  ⟨(some (false, 15)), .mv (.l 17), none⟩,
  ⟨(some (false, 18)), .ex (.l 15) 0, none⟩,
  ⟨(some (false, 19)), .ex (.l 15) 1, none⟩,
  ⟨(some (true, 7)), .mv (.l 18), none⟩,
  ⟨(some (true, 8)), .mv (.l 19), none⟩])
(.seq
(.seq
(.reg [
  ⟨(some (true, 20)), .mv (.g 8), none⟩])
(.cond (.g 20)
(.draw [
  ⟨⟨(some (false, 21)), .mv (.g 0), none⟩, 0, true, []⟩,
  ⟨⟨(some (false, 22)), .mv (.g 0), none⟩, 1, false, []⟩,
  ⟨⟨(some (false, 23)), .mv (.g 7), none⟩, 2, true, []⟩,
  ⟨⟨(some (false, 24)), .ia 1 (.l 23) (.c (.lit (.int .i64 0))), none⟩, 3, true, []⟩,
  ⟨⟨(some (false, 25)), .ld none (.l 24), none⟩, 4, true, []⟩,
  ⟨⟨(some (false, 26)), .mv (.g 7), none⟩, 5, true, []⟩,
  ⟨⟨(some (false, 27)), .ia 1 (.l 26) (.c (.lit (.int .i64 1))), none⟩, 6, true, []⟩,
  ⟨⟨(some (false, 28)), .ld none (.l 27), none⟩, 7, true, []⟩,
  ⟨⟨(some (false, 29)), .mk [.int .i64 0, .int .i64 0] [(0, 1, .l 25), (1, 1, .l 28)], none⟩, 8, true, []⟩,
  ⟨⟨(some (false, 30)), .mv (.g 7), none⟩, 9, false, []⟩,
  ⟨⟨(some (false, 31)), .ia 1 (.l 30) (.c (.lit (.int .i64 2))), none⟩, 10, true, []⟩,
  ⟨⟨(some (false, 32)), .ld none (.l 31), none⟩, 11, true, []⟩,
  ⟨⟨(some (false, 33)), .mv (.g 7), none⟩, 12, false, []⟩,
  ⟨⟨(some (false, 34)), .ia 1 (.l 33) (.c (.lit (.int .i64 3))), none⟩, 13, true, []⟩,
  ⟨⟨(some (false, 35)), .ld none (.l 34), none⟩, 14, true, []⟩,
  ⟨⟨(some (false, 36)), .mk [.int .i64 0, .int .i64 0] [(0, 1, .l 32), (1, 1, .l 35)], none⟩, 15, false, []⟩,
  ⟨⟨(some (false, 37)), .nilc (.l 21), none⟩, 16, true, []⟩,
  ⟨⟨(some (false, 38)), .fa (.l 37) 0, none⟩, 17, true, []⟩,
  ⟨⟨none, .st 2 (.l 38) (.l 29), none⟩, 18, false, []⟩,
  ⟨⟨(some (false, 39)), .nilc (.l 22), none⟩, 19, false, []⟩,
  ⟨⟨(some (false, 40)), .fa (.l 39) 2, none⟩, 20, false, []⟩,
  ⟨⟨none, .st 2 (.l 40) (.l 36), none⟩, 21, true, []⟩])
.skip))
(.seq
(.reg [
  ⟨(some (false, 41)), .mv (.g 8), none⟩,
  ⟨(some (true, 6)), .mv (.l 41), none⟩])
.ret)))
.skip))
(.seq
(.seq
(.reg [
  ⟨(some (false, 43)), .mv (.g 2), none⟩,
  ⟨(some (false, 44)), .call (.c (.fn 59 [])) [.l 43, .c (.lit (.string ⟨[99, 97, 112].toArray⟩)), .c (.lit (.int .i64 2))], none⟩,
  ⟨(some (false, 42)), .mv (.l 44), none⟩,
  ⟨(some (false, 45)), .ex (.l 42) 0, none⟩,
  ⟨(some (false, 46)), .ex (.l 42) 1, none⟩,
  ⟨(some (true, 9)), .mv (.l 45), none⟩,
  ⟨(some (true, 10)), .mv (.l 46), none⟩])
(.seq
(.reg [
  ⟨(some (false, 47)), .mv (.g 10), none⟩,
  ⟨(some (false, 48)), .mv (.l 47), none⟩,
  ⟨(some (false, 49)), .mv (.g 0), (some (.l 48, true))⟩,
  ⟨(some (false, 50)), .nilc (.l 49), (some (.l 48, true))⟩,
  ⟨(some (false, 51)), .fa (.l 50) 5, (some (.l 48, true))⟩,
  ⟨(some (false, 52)), .ld none (.l 51), (some (.l 48, true))⟩,
  ⟨(some (false, 53)), .len (.l 52), (some (.l 48, true))⟩,
  ⟨(some (false, 54)), .bin .eql (.l 53) (.c (.lit (.int .i64 0))), (some (.l 48, true))⟩,
  ⟨(some (true, 55)), .pick (.l 48) (.l 54) (.c (.lit (.bool false))), none⟩])
(.cond (.g 55)
(.seq
(.draw [
  ⟨⟨(some (false, 56)), .mv (.g 0), none⟩, 0, true, []⟩,
  ⟨⟨(some (false, 57)), .mv (.g 0), none⟩, 1, true, []⟩,
  ⟨⟨(some (false, 58)), .nilc (.l 57), none⟩, 2, true, []⟩,
  ⟨⟨(some (false, 59)), .fa (.l 58) 4, none⟩, 3, true, []⟩,
  ⟨⟨(some (false, 60)), .ld none (.l 59), none⟩, 4, true, []⟩,
  ⟨⟨(some (false, 61)), .mv (.g 9), none⟩, 5, true, []⟩,
  ⟨⟨(some (false, 62)), .ia 1 (.l 61) (.c (.lit (.int .i64 0))), none⟩, 6, true, []⟩,
  ⟨⟨(some (false, 63)), .ld none (.l 62), none⟩, 7, true, []⟩,
  ⟨⟨(some (false, 64)), .mv (.g 9), none⟩, 8, true, []⟩,
  ⟨⟨(some (false, 65)), .ia 1 (.l 64) (.c (.lit (.int .i64 1))), none⟩, 9, true, []⟩,
  ⟨⟨(some (false, 66)), .ld none (.l 65), none⟩, 10, true, []⟩,
  ⟨⟨(some (false, 67)), .mk [.int .i64 0, .int .i64 0] [(0, 1, .l 63), (1, 1, .l 66)], none⟩, 11, true, []⟩,
  ⟨⟨(some (false, 68)), .mks false 2 [.l 67], none⟩, 12, true, []⟩,
  ⟨⟨(some (false, 69)), .app 2 16 (.l 60) (.l 68), none⟩, 13, false, []⟩,
  ⟨⟨(some (false, 70)), .nilc (.l 56), none⟩, 14, true, []⟩,
  ⟨⟨(some (false, 71)), .fa (.l 70) 4, none⟩, 15, true, []⟩,
  ⟨⟨none, .st 1 (.l 71) (.l 69), none⟩, 16, true, []⟩])
(.seq
(.reg [
  ⟨(some (true, 6)), .mv (.c (.lit (.bool true))), none⟩])
.ret))
.skip)))
(.seq
(.reg [
  ⟨(some (false, 73)), .mv (.g 2), none⟩,
  ⟨(some (false, 74)), .call (.c (.fn 59 [])) [.l 73, .c (.lit (.string ⟨[111, 114, 100, 101, 114].toArray⟩)), .c (.lit (.int .i64 4))], none⟩,
  ⟨(some (false, 72)), .mv (.l 74), none⟩,
  ⟨(some (false, 75)), .ex (.l 72) 0, none⟩,
  ⟨(some (false, 76)), .ex (.l 72) 1, none⟩,
  ⟨(some (true, 11)), .mv (.l 75), none⟩,
  ⟨(some (true, 12)), .mv (.l 76), none⟩])
(.seq
(.seq
(.reg [
  ⟨(some (true, 77)), .mv (.g 12), none⟩])
(.cond (.g 77)
(.draw [
  ⟨⟨(some (false, 78)), .mv (.g 0), none⟩, 0, true, []⟩,
  ⟨⟨(some (false, 79)), .mv (.g 0), none⟩, 1, true, []⟩,
  ⟨⟨(some (false, 80)), .nilc (.l 79), none⟩, 2, true, []⟩,
  ⟨⟨(some (false, 81)), .fa (.l 80) 5, none⟩, 3, true, []⟩,
  ⟨⟨(some (false, 82)), .ld none (.l 81), none⟩, 4, true, []⟩,
  ⟨⟨(some (false, 83)), .mv (.g 11), none⟩, 5, true, []⟩,
  ⟨⟨(some (false, 84)), .ia 1 (.l 83) (.c (.lit (.int .i64 0))), none⟩, 6, true, []⟩,
  ⟨⟨(some (false, 85)), .ld none (.l 84), none⟩, 7, true, []⟩,
  ⟨⟨(some (false, 86)), .mv (.g 11), none⟩, 8, true, []⟩,
  ⟨⟨(some (false, 87)), .ia 1 (.l 86) (.c (.lit (.int .i64 1))), none⟩, 9, true, []⟩,
  ⟨⟨(some (false, 88)), .ld none (.l 87), none⟩, 10, true, []⟩,
  ⟨⟨(some (false, 89)), .mv (.g 11), none⟩, 11, true, []⟩,
  ⟨⟨(some (false, 90)), .ia 1 (.l 89) (.c (.lit (.int .i64 2))), none⟩, 12, true, []⟩,
  ⟨⟨(some (false, 91)), .ld none (.l 90), none⟩, 13, true, []⟩,
  ⟨⟨(some (false, 92)), .mv (.g 11), none⟩, 14, true, []⟩,
  ⟨⟨(some (false, 93)), .ia 1 (.l 92) (.c (.lit (.int .i64 3))), none⟩, 15, true, []⟩,
  ⟨⟨(some (false, 94)), .ld none (.l 93), none⟩, 16, true, []⟩,
  ⟨⟨(some (false, 95)), .mk [.int .i64 0, .int .i64 0, .int .i64 0, .int .i64 0] [(0, 1, .l 85), (1, 1, .l 88), (2, 1, .l 91), (3, 1, .l 94)], none⟩, 17, true, []⟩,
  ⟨⟨(some (false, 96)), .mks false 4 [.l 95], none⟩, 18, true, []⟩,
  ⟨⟨(some (false, 97)), .app 4 32 (.l 82) (.l 96), none⟩, 19, false, []⟩,
  ⟨⟨(some (false, 98)), .nilc (.l 78), none⟩, 20, true, []⟩,
  ⟨⟨(some (false, 99)), .fa (.l 98) 5, none⟩, 21, true, []⟩,
  ⟨⟨none, .st 1 (.l 99) (.l 97), none⟩, 22, true, []⟩])
.skip))
(.seq
(.reg [
  ⟨(some (false, 100)), .mv (.g 12), none⟩,
  ⟨(some (true, 6)), .mv (.l 100), none⟩])
.ret))))))
def K37 : List Nat := [0, 1, 2, 14, 20, 55, 77, 6, 7, 8, 9, 10, 11, 12]
noncomputable def b37 : Code := match Tryz.f37.body with | some c => c | none => .skip
theorem t37 : trCode ⟨Tryz.prog, K37, [], 101, none⟩ b37 = some c37 := by kernel_rfl
theorem go37 {args : List AV} {H : AHeap} {Kk : AV → AHeap → Prop} (hn : args.length = 3) (h : AGo ⟨Tryz.prog, K37, [], 101, none⟩ H.length [.code c37] (RetP [.t (.g 6)] H.length Kk) ⟨[], argsG 0 args⟩ H) : ACalls Tryz.prog 37 args H Kk :=
  ACalls_of Tryz.func37 (c := b37) rfl (by kernel_rfl) t37 (rs := [.t (.g 6)]) (by kernel_rfl) (by rw [hn]; exact Nat.le_of_ble_eq_true rfl) (by rw [hn]; rfl) (h.weaken (fun _ _ => RetP.hands) (by simp))

/-- sastrugi/freight.Read -/
def c12 : ACode :=
  (.seq
(.reg [
  ⟨(some (true, 2)), .new [.int .i64 0, .int .i64 0, .int .i64 0, .int .i64 0, .slice none 0 0, .slice none 0 0], none⟩,
  ⟨(some (true, 3)), .mv (.c (.lit (.int .i64 0))), none⟩,
  ⟨(some (true, 4)), .mv (.c (.lit (.int .i64 0))), none⟩])
(.seq
(.seq
(.reg [
  ⟨(some (false, 10)), .mv (.g 0), none⟩,
  ⟨(some (false, 11)), .lens (.l 10), none⟩,
  ⟨(some (true, 12)), .bin .gtr (.l 11) (.c (.lit (.int .i64 20000))), none⟩])
(.cond (.g 12)
(.seq
(.reg [
  ⟨(some (false, 13)), .mk [.int .i64 0, .int .i64 0, .int .i64 0, .int .i64 0, .slice none 0 0, .slice none 0 0] [], none⟩,
  ⟨none, .st 6 (.g 2) (.l 13), none⟩,
  ⟨(some (true, 3)), .mv (.c (.lit (.int .i64 0))), none⟩,
  ⟨(some (true, 4)), .mv (.c (.lit (.int .i64 5))), none⟩])
.ret)
.skip))
(.seq
(.reg [
  ⟨(some (false, 14)), .mv (.g 0), none⟩,
  ⟨(some (false, 15)), .call (.c (.fn 36 [])) [.l 14, .c (.lit (.string ⟨[10].toArray⟩))], none⟩,
  ⟨(some (true, 5)), .mv (.l 15), none⟩])
(.seq
(.reg [
  ⟨(some (false, 16)), .mv (.g 5), none⟩,
  ⟨(some (false, 17)), .len (.l 16), none⟩,
  ⟨(some (false, 18)), .bin .sub (.l 17) (.c (.lit (.int .i64 1))), none⟩,
  ⟨(some (true, 6)), .mv (.l 18), none⟩])
(.seq
(.seq
(.reg [
  ⟨(some (false, 19)), .mv (.g 5), none⟩,
  ⟨(some (false, 20)), .mv (.g 6), none⟩,
  ⟨(some (true, 21)), .sl 1 (.l 19) none (some (.l 20)) none, none⟩,
  ⟨(some (true, 22)), .len (.g 21), none⟩,
  ⟨(some (true, 23)), .mv (.c (.lit (.int .i64 0))), none⟩])
(.block 0
(.loop
(.seq
(.reg [
  ⟨(some (true, 24)), .bin .lss (.g 23) (.g 22), none⟩])
(.seq
(.cond (.g 24)
.skip
(.exit 0))
(.seq
(.block 1
(.seq
(.reg [
  ⟨(some (false, 25)), .mv (.g 23), none⟩,
  ⟨(some (false, 26)), .ia 1 (.g 21) (.g 23), none⟩,
  ⟨(some (false, 27)), .ld none (.l 26), none⟩,
  ⟨(some (true, 7)), .mv (.l 25), none⟩,
  ⟨(some (true, 8)), .mv (.l 27), none⟩])
(.seq
(.reg [
  ⟨(some (false, 28)), .mv (.g 7), none⟩,
  ⟨(some (false, 29)), .mv (.g 8), none⟩,
  ⟨(some (false, 30)), .call (.c (.fn 37 [])) [.g 2, .l 28, .l 29], none⟩,
  ⟨(some (true, 31)), .un .not (.l 30), none⟩])
(.cond (.g 31)
(.seq
(.reg [
  ⟨(some (false, 32)), .mk [.int .i64 0, .int .i64 0, .int .i64 0, .int .i64 0, .slice none 0 0, .slice none 0 0] [], none⟩,
  ⟨(some (false, 33)), .mv (.g 7), none⟩,
  ⟨(some (false, 34)), .bin .add (.l 33) (.c (.lit (.int .i64 1))), none⟩,
  ⟨none, .st 6 (.g 2) (.l 32), none⟩,
  ⟨(some (true, 3)), .mv (.l 34), none⟩,
  ⟨(some (true, 4)), .mv (.c (.lit (.int .i64 3))), none⟩])
.ret)
.skip))))
(.reg [
  ⟨(some (false, 35)), .bin .add (.g 23) (.c (.lit (.int .i64 1))), none⟩,
  ⟨(some (true, 23)), .mv (.l 35), none⟩])))))))
(.seq
(.seq
(.reg [
  ⟨(some (false, 36)), .mv (.g 6), none⟩,
  ⟨(some (false, 37)), .bin .eql (.l 36) (.c (.lit (.int .i64 0))), none⟩,
  ⟨(some (false, 38)), .mv (.l 37), none⟩,
  ⟨(some (false, 39)), .mv (.g 5), (some (.l 38, false))⟩,
  ⟨(some (false, 40)), .mv (.g 6), (some (.l 38, false))⟩,
  ⟨(some (false, 41)), .ia 1 (.l 39) (.l 40), (some (.l 38, false))⟩,
  ⟨(some (false, 42)), .ld none (.l 41), (some (.l 38, false))⟩,
  ⟨(some (false, 43)), .bin .neq (.l 42) (.c (.lit (.string ⟨[].toArray⟩))), (some (.l 38, false))⟩,
  ⟨(some (true, 44)), .pick (.l 38) (.c (.lit (.bool true))) (.l 43), none⟩])
(.cond (.g 44)
(.seq
(.reg [
  ⟨(some (false, 45)), .mk [.int .i64 0, .int .i64 0, .int .i64 0, .int .i64 0, .slice none 0 0, .slice none 0 0] [], none⟩,
  ⟨(some (false, 46)), .mv (.g 6), none⟩,
  ⟨(some (false, 47)), .bin .add (.l 46) (.c (.lit (.int .i64 1))), none⟩,
  ⟨none, .st 6 (.g 2) (.l 45), none⟩,
  ⟨(some (true, 3)), .mv (.l 47), none⟩,
  ⟨(some (true, 4)), .mv (.c (.lit (.int .i64 3))), none⟩])
.ret)
.skip))
(.seq
(.seq
(.reg [
  ⟨(some (false, 48)), .ld (some 6) (.g 2), none⟩,
  ⟨(some (false, 49)), .call (.c (.fn 27 [])) [.l 48], none⟩,
  ⟨(some (true, 9)), .mv (.l 49), none⟩])
(.seq
(.reg [
  ⟨(some (false, 50)), .mv (.g 9), none⟩,
  ⟨(some (true, 51)), .bin .neq (.l 50) (.c (.lit (.int .i64 0))), none⟩])
(.cond (.g 51)
(.seq
(.reg [
  ⟨(some (false, 52)), .mk [.int .i64 0, .int .i64 0, .int .i64 0, .int .i64 0, .slice none 0 0, .slice none 0 0] [], none⟩,
  ⟨(some (false, 53)), .mv (.g 9), none⟩,
  ⟨none, .st 6 (.g 2) (.l 52), none⟩,
  ⟨(some (true, 3)), .mv (.c (.lit (.int .i64 0))), none⟩,
  ⟨(some (true, 4)), .mv (.l 53), none⟩])
.ret)
.skip)))
(.seq
(.reg [
  ⟨(some (false, 54)), .ld (some 6) (.g 2), none⟩,
  ⟨none, .st 6 (.g 2) (.l 54), none⟩,
  ⟨(some (true, 3)), .mv (.c (.lit (.int .i64 0))), none⟩,
  ⟨(some (true, 4)), .mv (.c (.lit (.int .i64 0))), none⟩])
.ret))))))))
def K12 : List Nat := [0, 12, 24, 31, 44, 51, 2, 3, 4, 5, 6, 21, 22, 23, 7, 8, 9]
noncomputable def b12 : Code := match Tryz.f12.body with | some c => c | none => .skip
theorem t12 : trCode ⟨Tryz.prog, K12, [], 55, none⟩ b12 = some c12 := by kernel_rfl
theorem go12 {args : List AV} {H : AHeap} {Kk : AV → AHeap → Prop} (hn : args.length = 1) (h : AGo ⟨Tryz.prog, K12, [], 55, none⟩ H.length [.code c12] (RetP [.cell (.g 2) (some 6), .t (.g 3), .t (.g 4)] H.length Kk) ⟨[], argsG 0 args⟩ H) : ACalls Tryz.prog 12 args H Kk :=
  ACalls_of Tryz.func12 (c := b12) rfl (by kernel_rfl) t12 (rs := [.cell (.g 2) (some 6), .t (.g 3), .t (.g 4)]) (by kernel_rfl) (by rw [hn]; exact Nat.le_of_ble_eq_true rfl) (by rw [hn]; rfl) (h.weaken (fun _ _ => RetP.hands) (by simp))

/-- sastrugi/sastrugiref08.Write -/
def c10 : ACode :=
  (.seq
(.reg [
  ⟨(some (true, 1)), .box (.g 0), none⟩,
  ⟨(some (true, 2)), .mv (.c (.lit (.string ⟨[].toArray⟩))), none⟩,
  ⟨(some (true, 3)), .mv (.c (.lit (.int .i64 0))), none⟩])
(.seq
(.seq
(.reg [
  ⟨(some (false, 9)), .ld (some 6) (.g 1), none⟩,
  ⟨(some (false, 10)), .call (.c (.fn 33 [])) [.l 9], none⟩,
  ⟨(some (true, 4)), .mv (.l 10), none⟩])
(.seq
(.reg [
  ⟨(some (false, 11)), .mv (.g 4), none⟩,
  ⟨(some (true, 12)), .bin .neq (.l 11) (.c (.lit (.int .i64 0))), none⟩])
(.cond (.g 12)
(.seq
(.reg [
  ⟨(some (false, 13)), .mv (.g 4), none⟩,
  ⟨(some (true, 2)), .mv (.c (.lit (.string ⟨[].toArray⟩))), none⟩,
  ⟨(some (true, 3)), .mv (.l 13), none⟩])
.ret)
.skip)))
(.seq
(.reg [
  ⟨(some (false, 14)), .fa (.g 1) 0, none⟩,
  ⟨(some (false, 15)), .fa (.l 14) 0, none⟩,
  ⟨(some (false, 16)), .ld none (.l 15), none⟩,
  ⟨(some (false, 17)), .fa (.g 1) 0, none⟩,
  ⟨(some (false, 18)), .fa (.l 17) 1, none⟩,
  ⟨(some (false, 19)), .ld none (.l 18), none⟩,
  ⟨(some (false, 20)), .fa (.g 1) 2, none⟩,
  ⟨(some (false, 21)), .fa (.l 20) 0, none⟩,
  ⟨(some (false, 22)), .ld none (.l 21), none⟩,
  ⟨(some (false, 23)), .fa (.g 1) 2, none⟩,
  ⟨(some (false, 24)), .fa (.l 23) 1, none⟩,
  ⟨(some (false, 25)), .ld none (.l 24), none⟩,
  ⟨(some (false, 26)), .mks false 1 [.l 16, .l 19, .l 22, .l 25], none⟩,
  ⟨(some (false, 27)), .call (.c (.fn 34 [])) [.c (.lit (.string ⟨[115, 101, 97, 115, 111, 110].toArray⟩)), .l 26], none⟩,
  ⟨(some (true, 5)), .mv (.l 27), none⟩])
(.seq
(.seq
(.reg [
  ⟨(some (true, 6)), .mv (.c (.lit (.int .i64 0))), none⟩])
(.block 0
(.loop
(.seq
(.seq
(.reg [
  ⟨(some (false, 28)), .mv (.g 6), none⟩,
  ⟨(some (false, 29)), .fa (.g 1) 4, none⟩,
  ⟨(some (false, 30)), .ld none (.l 29), none⟩,
  ⟨(some (false, 31)), .len (.l 30), none⟩,
  ⟨(some (true, 32)), .bin .lss (.l 28) (.l 31), none⟩])
(.cond (.g 32)
.skip
(.exit 0)))
(.seq
(.block 1
(.draw [
  ⟨⟨(some (false, 35)), .mv (.g 5), none⟩, 0, true, []⟩,
  ⟨⟨(some (false, 36)), .fa (.g 1) 4, none⟩, 1, true, []⟩,
  ⟨⟨(some (false, 37)), .ld none (.l 36), none⟩, 2, true, []⟩,
  ⟨⟨(some (false, 38)), .mv (.g 6), none⟩, 3, true, []⟩,
  ⟨⟨(some (false, 39)), .ia 2 (.l 37) (.l 38), none⟩, 4, true, []⟩,
  ⟨⟨(some (false, 40)), .fa (.l 39) 0, none⟩, 5, true, []⟩,
  ⟨⟨(some (false, 41)), .ld none (.l 40), none⟩, 6, true, []⟩,
  ⟨⟨(some (false, 42)), .fa (.g 1) 4, none⟩, 7, true, []⟩,
  ⟨⟨(some (false, 43)), .ld none (.l 42), none⟩, 8, true, []⟩,
  ⟨⟨(some (false, 44)), .mv (.g 6), none⟩, 9, true, []⟩,
  ⟨⟨(some (false, 45)), .ia 2 (.l 43) (.l 44), none⟩, 10, true, []⟩,
  ⟨⟨(some (false, 46)), .fa (.l 45) 1, none⟩, 11, true, []⟩,
  ⟨⟨(some (false, 47)), .ld none (.l 46), none⟩, 12, true, []⟩,
  ⟨⟨(some (false, 48)), .mks false 1 [.l 41, .l 47], none⟩, 13, true, []⟩,
  ⟨⟨(some (false, 49)), .call (.c (.fn 34 [])) [.c (.lit (.string ⟨[99, 97, 112].toArray⟩)), .l 48], none⟩, 14, false, []⟩,
  ⟨⟨(some (false, 50)), .bin .add (.l 35) (.l 49), none⟩, 15, true, []⟩,
  ⟨⟨(some (true, 5)), .mv (.l 50), none⟩, 16, true, []⟩]))
(.reg [
  ⟨(some (false, 33)), .mv (.g 6), none⟩,
  ⟨(some (false, 34)), .bin .add (.l 33) (.c (.lit (.int .i64 1))), none⟩,
  ⟨(some (true, 6)), .mv (.l 34), none⟩]))))))
(.seq
(.seq
(.reg [
  ⟨(some (true, 7)), .mv (.c (.lit (.int .i64 0))), none⟩])
(.block 2
(.loop
(.seq
(.seq
(.reg [
  ⟨(some (false, 51)), .mv (.g 7), none⟩,
  ⟨(some (false, 52)), .fa (.g 1) 5, none⟩,
  ⟨(some (false, 53)), .ld none (.l 52), none⟩,
  ⟨(some (false, 54)), .len (.l 53), none⟩,
  ⟨(some (true, 55)), .bin .lss (.l 51) (.l 54), none⟩])
(.cond (.g 55)
.skip
(.exit 2)))
(.seq
(.block 3
(.seq
(.reg [
  ⟨(some (false, 58)), .fa (.g 1) 5, none⟩,
  ⟨(some (false, 59)), .ld none (.l 58), none⟩,
  ⟨(some (false, 60)), .mv (.g 7), none⟩,
  ⟨(some (false, 61)), .ia 4 (.l 59) (.l 60), none⟩,
  ⟨(some (false, 62)), .ld (some 4) (.l 61), none⟩,
  ⟨(some (true, 8)), .new [.int .i64 0, .int .i64 0, .int .i64 0, .int .i64 0], none⟩,
  ⟨none, .st 4 (.g 8) (.l 62), none⟩])
(.reg [
  ⟨(some (false, 63)), .mv (.g 5), none⟩,
  ⟨(some (false, 64)), .fa (.g 8) 0, none⟩,
  ⟨(some (false, 65)), .ld none (.l 64), none⟩,
  ⟨(some (false, 66)), .fa (.g 8) 1, none⟩,
  ⟨(some (false, 67)), .ld none (.l 66), none⟩,
  ⟨(some (false, 68)), .fa (.g 8) 2, none⟩,
  ⟨(some (false, 69)), .ld none (.l 68), none⟩,
  ⟨(some (false, 70)), .fa (.g 8) 3, none⟩,
  ⟨(some (false, 71)), .ld none (.l 70), none⟩,
  ⟨(some (false, 72)), .mks false 1 [.l 65, .l 67, .l 69, .l 71], none⟩,
  ⟨(some (false, 73)), .call (.c (.fn 34 [])) [.c (.lit (.string ⟨[111, 114, 100, 101, 114].toArray⟩)), .l 72], none⟩,
  ⟨(some (false, 74)), .bin .add (.l 63) (.l 73), none⟩,
  ⟨(some (true, 5)), .mv (.l 74), none⟩])))
(.reg [
  ⟨(some (false, 56)), .mv (.g 7), none⟩,
  ⟨(some (false, 57)), .bin .add (.l 56) (.c (.lit (.int .i64 1))), none⟩,
  ⟨(some (true, 7)), .mv (.l 57), none⟩]))))))
(.seq
(.reg [
  ⟨(some (false, 75)), .mv (.g 5), none⟩,
  ⟨(some (true, 2)), .mv (.l 75), none⟩,
  ⟨(some (true, 3)), .mv (.c (.lit (.int .i64 0))), none⟩])
.ret))))))
def K10 : List Nat := [0, 12, 32, 55, 2, 3, 1, 4, 5, 6, 7, 8]
noncomputable def b10 : Code := match Tryz.f10.body with | some c => c | none => .skip
theorem t10 : trCode ⟨Tryz.prog, K10, [], 76, none⟩ b10 = some c10 := by kernel_rfl
theorem go10 {args : List AV} {H : AHeap} {Kk : AV → AHeap → Prop} (hn : args.length = 1) (h : AGo ⟨Tryz.prog, K10, [], 76, none⟩ H.length [.code c10] (RetP [.t (.g 2), .t (.g 3)] H.length Kk) ⟨[], argsG 0 args⟩ H) : ACalls Tryz.prog 10 args H Kk :=
  ACalls_of Tryz.func10 (c := b10) rfl (by kernel_rfl) t10 (rs := [.t (.g 2), .t (.g 3)]) (by kernel_rfl) (by rw [hn]; exact Nat.le_of_ble_eq_true rfl) (by rw [hn]; rfl) (h.weaken (fun _ _ => RetP.hands) (by simp))

/-- sastrugi/sastrugiref08.row -/
def c34 : ACode :=
  (.seq
(.reg [
  ⟨(some (true, 4)), .mv (.c (.lit (.string ⟨[].toArray⟩))), none⟩])
(.seq
(.seq
(.reg [
  ⟨(some (true, 5)), .mv (.c (.lit (.int .i64 0))), none⟩])
(.block 0
(.loop
(.seq
(.seq
(.reg [
  ⟨(some (false, 6)), .mv (.g 5), none⟩,
  ⟨(some (false, 7)), .mv (.g 1), none⟩,
  ⟨(some (false, 8)), .len (.l 7), none⟩,
  ⟨(some (true, 9)), .bin .lss (.l 6) (.l 8), none⟩])
(.cond (.g 9)
.skip
(.exit 0)))
(.seq
(.block 1
(.reg [
  ⟨(some (false, 12)), .mv (.g 0), none⟩,
  ⟨(some (false, 13)), .bin .add (.l 12) (.c (.lit (.string ⟨[32].toArray⟩))), none⟩,
  ⟨(some (false, 14)), .mv (.g 1), none⟩,
  ⟨(some (false, 15)), .mv (.g 5), none⟩,
  ⟨(some (false, 16)), .ia 1 (.l 14) (.l 15), none⟩,
  ⟨(some (false, 17)), .ld none (.l 16), none⟩,
  ⟨(some (false, 18)), .call (.c (.fn 30 [])) [.l 17], none⟩,
  ⟨(some (false, 19)), .bin .add (.l 13) (.l 18), none⟩,
  ⟨(some (true, 0)), .mv (.l 19), none⟩]))
(.reg [
  ⟨(some (false, 10)), .mv (.g 5), none⟩,
  ⟨(some (false, 11)), .bin .add (.l 10) (.c (.lit (.int .i64 1))), none⟩,
  ⟨(some (true, 5)), .mv (.l 11), none⟩]))))))
(.seq
(.reg [
  ⟨(some (false, 20)), .mv (.g 0), none⟩,
  ⟨(some (false, 21)), .bin .add (.l 20) (.c (.lit (.string ⟨[10].toArray⟩))), none⟩,
  ⟨(some (true, 4)), .mv (.l 21), none⟩])
.ret)))
def K34 : List Nat := [0, 1, 9, 4, 5]
noncomputable def b34 : Code := match Tryz.f34.body with | some c => c | none => .skip
theorem t34 : trCode ⟨Tryz.prog, K34, [], 22, none⟩ b34 = some c34 := by kernel_rfl
theorem go34 {args : List AV} {H : AHeap} {Kk : AV → AHeap → Prop} (hn : args.length = 2) (h : AGo ⟨Tryz.prog, K34, [], 22, none⟩ H.length [.code c34] (RetP [.t (.g 4)] H.length Kk) ⟨[], argsG 0 args⟩ H) : ACalls Tryz.prog 34 args H Kk :=
  ACalls_of Tryz.func34 (c := b34) rfl (by kernel_rfl) t34 (rs := [.t (.g 4)]) (by kernel_rfl) (by rw [hn]; exact Nat.le_of_ble_eq_true rfl) (by rw [hn]; rfl) (h.weaken (fun _ _ => RetP.hands) (by simp))

/-- sastrugi/sastrugiref08.Read -/
def c13 : ACode :=
  (.seq
(.reg [
  ⟨(some (true, 2)), .new [.int .i64 0, .int .i64 0, .int .i64 0, .int .i64 0, .slice none 0 0, .slice none 0 0], none⟩,
  ⟨(some (true, 3)), .mv (.c (.lit (.int .i64 0))), none⟩,
  ⟨(some (true, 4)), .mv (.c (.lit (.int .i64 0))), none⟩])
(.seq
(.seq
(.reg [
  ⟨(some (false, 11)), .mv (.g 0), none⟩,
  ⟨(some (false, 12)), .lens (.l 11), none⟩,
  ⟨(some (true, 13)), .bin .gtr (.l 12) (.c (.lit (.int .i64 20000))), none⟩])
(.cond (.g 13)
(.seq
(.reg [
  ⟨(some (false, 14)), .mk [.int .i64 0, .int .i64 0, .int .i64 0, .int .i64 0, .slice none 0 0, .slice none 0 0] [], none⟩,
  ⟨none, .st 6 (.g 2) (.l 14), none⟩,
  ⟨(some (true, 3)), .mv (.c (.lit (.int .i64 0))), none⟩,
  ⟨(some (true, 4)), .mv (.c (.lit (.int .i64 5))), none⟩])
.ret)
.skip))
(.seq
(.reg [
  ⟨(some (false, 15)), .mv (.g 0), none⟩,
  ⟨(some (false, 16)), .call (.c (.fn 38 [])) [.l 15, .c (.lit (.int .u8 10))], none⟩,
  ⟨(some (true, 5)), .mv (.l 16), none⟩])
(.seq
(.reg [
  ⟨(some (true, 6)), .new [.int .i64 0, .int .i64 0, .int .i64 0, .int .i64 0, .slice none 0 0, .slice none 0 0], none⟩])
(.seq
(.seq
(.reg [
  ⟨(some (true, 7)), .mv (.c (.lit (.int .i64 0))), none⟩])
(.block 0
(.loop
(.seq
(.seq
(.reg [
  ⟨(some (false, 17)), .mv (.g 7), none⟩,
  ⟨(some (false, 18)), .mv (.g 5), none⟩,
  ⟨(some (false, 19)), .len (.l 18), none⟩,
  ⟨(some (false, 20)), .bin .sub (.l 19) (.c (.lit (.int .i64 1))), none⟩,
  ⟨(some (true, 21)), .bin .lss (.l 17) (.l 20), none⟩])
(.cond (.g 21)
.skip
(.exit 0)))
(.seq
(.block 1
(.seq
(.seq
(.reg [
  ⟨(some (false, 24)), .mv (.g 7), none⟩,
  ⟨(some (true, 25)), .bin .gtr (.l 24) (.c (.lit (.int .i64 0))), none⟩])
(.cond (.g 25)
(.seq
(.seq
(.reg [
  ⟨(some (false, 26)), .mv (.g 5), none⟩,
  ⟨(some (false, 27)), .mv (.g 7), none⟩,
  ⟨(some (false, 28)), .ia 1 (.l 26) (.l 27), none⟩,
  ⟨(some (false, 29)), .ld none (.l 28), none⟩,
  ⟨(some (false, 30)), .call (.c (.fn 39 [])) [.g 6, .l 29], none⟩,
  ⟨(some (true, 31)), .un .not (.l 30), none⟩])
(.cond (.g 31)
(.seq
(.reg [
  ⟨(some (false, 32)), .mk [.int .i64 0, .int .i64 0, .int .i64 0, .int .i64 0, .slice none 0 0, .slice none 0 0] [], none⟩,
  ⟨(some (false, 33)), .mv (.g 7), none⟩,
  ⟨(some (false, 34)), .bin .add (.l 33) (.c (.lit (.int .i64 1))), none⟩,
  ⟨none, .st 6 (.g 2) (.l 32), none⟩,
  ⟨(some (true, 3)), .mv (.l 34), none⟩,
  ⟨(some (true, 4)), .mv (.c (.lit (.int .i64 3))), none⟩])
.ret)
.skip))
(.exit 1))
.skip))
(.seq
(.reg [
  ⟨(some (false, 36)), .mv (.g 5), none⟩,
  ⟨(some (false, 37)), .ia 1 (.l 36) (.c (.lit (.int .i64 0))), none⟩,
  ⟨(some (false, 38)), .ld none (.l 37), none⟩,
  ⟨(some (false, 39)), .call (.c (.fn 40 [])) [.l 38, .c (.lit (.string ⟨[115, 101, 97, 115, 111, 110].toArray⟩)), .c (.lit (.int .i64 4))], none⟩,
  ⟨(some (false, 35)), .mv (.l 39), none⟩,
  ⟨(some (false, 40)), .ex (.l 35) 0, none⟩,
  ⟨(some (false, 41)), .ex (.l 35) 1, none⟩,
  ⟨(some (true, 8)), .mv (.l 40), none⟩,
  ⟨(some (true, 9)), .mv (.l 41), none⟩])
(.seq
(.seq
(.reg [
  ⟨(some (false, 42)), .mv (.g 9), none⟩,
  ⟨(some (true, 43)), .un .not (.l 42), none⟩])
(.cond (.g 43)
(.seq
(.reg [
  ⟨(some (false, 44)), .mk [.int .i64 0, .int .i64 0, .int .i64 0, .int .i64 0, .slice none 0 0, .slice none 0 0] [], none⟩,
  ⟨none, .st 6 (.g 2) (.l 44), none⟩,
  ⟨(some (true, 3)), .mv (.c (.lit (.int .i64 1))), none⟩,
  ⟨(some (true, 4)), .mv (.c (.lit (.int .i64 3))), none⟩])
.ret)
.skip))
(.draw [
  ⟨⟨(some (false, 45)), .mv (.g 8), none⟩, 0, true, []⟩,
  ⟨⟨(some (false, 46)), .ia 1 (.l 45) (.c (.lit (.int .i64 0))), none⟩, 1, true, []⟩,
  ⟨⟨(some (false, 47)), .ld none (.l 46), none⟩, 2, true, []⟩,
  ⟨⟨(some (false, 48)), .mv (.g 8), none⟩, 3, true, []⟩,
  ⟨⟨(some (false, 49)), .ia 1 (.l 48) (.c (.lit (.int .i64 1))), none⟩, 4, true, []⟩,
  ⟨⟨(some (false, 50)), .ld none (.l 49), none⟩, 5, true, []⟩,
  ⟨⟨(some (false, 51)), .mk [.int .i64 0, .int .i64 0] [(0, 1, .l 47), (1, 1, .l 50)], none⟩, 6, true, []⟩,
  ⟨⟨(some (false, 52)), .mv (.g 8), none⟩, 7, false, []⟩,
  ⟨⟨(some (false, 53)), .ia 1 (.l 52) (.c (.lit (.int .i64 2))), none⟩, 8, true, []⟩,
  ⟨⟨(some (false, 54)), .ld none (.l 53), none⟩, 9, true, []⟩,
  ⟨⟨(some (false, 55)), .mv (.g 8), none⟩, 10, false, []⟩,
  ⟨⟨(some (false, 56)), .ia 1 (.l 55) (.c (.lit (.int .i64 3))), none⟩, 11, true, []⟩,
  ⟨⟨(some (false, 57)), .ld none (.l 56), none⟩, 12, true, []⟩,
  ⟨⟨(some (false, 58)), .mk [.int .i64 0, .int .i64 0] [(0, 1, .l 54), (1, 1, .l 57)], none⟩, 13, false, []⟩,
  ⟨⟨(some (false, 59)), .fa (.g 6) 0, none⟩, 14, true, []⟩,
  ⟨⟨none, .st 2 (.l 59) (.l 51), none⟩, 15, false, []⟩,
  ⟨⟨(some (false, 60)), .fa (.g 6) 2, none⟩, 16, false, []⟩,
  ⟨⟨none, .st 2 (.l 60) (.l 58), none⟩, 17, true, []⟩])))))
(.reg [
  ⟨(some (false, 22)), .mv (.g 7), none⟩,
  ⟨(some (false, 23)), .bin .add (.l 22) (.c (.lit (.int .i64 1))), none⟩,
  ⟨(some (true, 7)), .mv (.l 23), none⟩]))))))
(.seq
(.seq
(.reg [
  ⟨(some (false, 61)), .mv (.g 5), none⟩,
  ⟨(some (false, 62)), .len (.l 61), none⟩,
  ⟨(some (false, 63)), .bin .eql (.l 62) (.c (.lit (.int .i64 1))), none⟩,
  ⟨(some (false, 64)), .mv (.l 63), none⟩,
  ⟨(some (false, 65)), .mv (.g 5), (some (.l 64, false))⟩,
  ⟨(some (false, 66)), .mv (.g 5), (some (.l 64, false))⟩,
  ⟨(some (false, 67)), .len (.l 66), (some (.l 64, false))⟩,
  ⟨(some (false, 68)), .bin .sub (.l 67) (.c (.lit (.int .i64 1))), (some (.l 64, false))⟩,
  ⟨(some (false, 69)), .ia 1 (.l 65) (.l 68), (some (.l 64, false))⟩,
  ⟨(some (false, 70)), .ld none (.l 69), (some (.l 64, false))⟩,
  ⟨(some (false, 71)), .bin .neq (.l 70) (.c (.lit (.string ⟨[].toArray⟩))), (some (.l 64, false))⟩,
  ⟨(some (true, 72)), .pick (.l 64) (.c (.lit (.bool true))) (.l 71), none⟩])
(.cond (.g 72)
(.seq
(.reg [
  ⟨(some (false, 73)), .mk [.int .i64 0, .int .i64 0, .int .i64 0, .int .i64 0, .slice none 0 0, .slice none 0 0] [], none⟩,
  ⟨(some (false, 74)), .mv (.g 5), none⟩,
  ⟨(some (false, 75)), .len (.l 74), none⟩,
  ⟨none, .st 6 (.g 2) (.l 73), none⟩,
  ⟨(some (true, 3)), .mv (.l 75), none⟩,
  ⟨(some (true, 4)), .mv (.c (.lit (.int .i64 3))), none⟩])
.ret)
.skip))
(.seq
(.seq
(.reg [
  ⟨(some (false, 76)), .ld (some 6) (.g 6), none⟩,
  ⟨(some (false, 77)), .call (.c (.fn 33 [])) [.l 76], none⟩,
  ⟨(some (true, 10)), .mv (.l 77), none⟩])
(.seq
(.reg [
  ⟨(some (false, 78)), .mv (.g 10), none⟩,
  ⟨(some (true, 79)), .bin .neq (.l 78) (.c (.lit (.int .i64 0))), none⟩])
(.cond (.g 79)
(.seq
(.reg [
  ⟨(some (false, 80)), .mk [.int .i64 0, .int .i64 0, .int .i64 0, .int .i64 0, .slice none 0 0, .slice none 0 0] [], none⟩,
  ⟨(some (false, 81)), .mv (.g 10), none⟩,
  ⟨none, .st 6 (.g 2) (.l 80), none⟩,
  ⟨(some (true, 3)), .mv (.c (.lit (.int .i64 0))), none⟩,
  ⟨(some (true, 4)), .mv (.l 81), none⟩])
.ret)
.skip)))
(.seq
(.reg [
  ⟨(some (false, 82)), .ld (some 6) (.g 6), none⟩,
  ⟨none, .st 6 (.g 2) (.l 82), none⟩,
  ⟨(some (true, 3)), .mv (.c (.lit (.int .i64 0))), none⟩,
  ⟨(some (true, 4)), .mv (.c (.lit (.int .i64 0))), none⟩])
.ret))))))))
def K13 : List Nat := [0, 13, 21, 25, 31, 43, 72, 79, 2, 3, 4, 5, 6, 7, 8, 9, 10]
noncomputable def b13 : Code := match Tryz.f13.body with | some c => c | none => .skip
theorem t13 : trCode ⟨Tryz.prog, K13, [], 83, none⟩ b13 = some c13 := by kernel_rfl
theorem go13 {args : List AV} {H : AHeap} {Kk : AV → AHeap → Prop} (hn : args.length = 1) (h : AGo ⟨Tryz.prog, K13, [], 83, none⟩ H.length [.code c13] (RetP [.cell (.g 2) (some 6), .t (.g 3), .t (.g 4)] H.length Kk) ⟨[], argsG 0 args⟩ H) : ACalls Tryz.prog 13 args H Kk :=
  ACalls_of Tryz.func13 (c := b13) rfl (by kernel_rfl) t13 (rs := [.cell (.g 2) (some 6), .t (.g 3), .t (.g 4)]) (by kernel_rfl) (by rw [hn]; exact Nat.le_of_ble_eq_true rfl) (by rw [hn]; rfl) (h.weaken (fun _ _ => RetP.hands) (by simp))

/-- sastrugi/sastrugiref08.split -/
def c38 : ACode :=
  (.seq
(.reg [
  ⟨(some (true, 4)), .mv (.c (.lit (.slice none 0 0))), none⟩])
(.seq
(.reg [
  ⟨(some (true, 5)), .mv (.c (.lit (.slice none 0 0))), none⟩])
(.seq
(.reg [
  ⟨(some (true, 6)), .mv (.c (.lit (.int .i64 0))), none⟩])
(.seq
(.seq
(.reg [
  ⟨(some (true, 7)), .mv (.c (.lit (.int .i64 0))), none⟩])
(.block 0
(.loop
(.seq
(.seq
(.reg [
  ⟨(some (false, 8)), .mv (.g 7), none⟩,
  ⟨(some (false, 9)), .mv (.g 0), none⟩,
  ⟨(some (false, 10)), .lens (.l 9), none⟩,
  ⟨(some (true, 11)), .bin .leq (.l 8) (.l 10), none⟩])
(.cond (.g 11)
.skip
(.exit 0)))
(.seq
(.block 1
(.seq
(.reg [
  ⟨(some (false, 14)), .mv (.g 7), none⟩,
  ⟨(some (false, 15)), .mv (.g 0), none⟩,
  ⟨(some (false, 16)), .lens (.l 15), none⟩,
  ⟨(some (false, 17)), .bin .eql (.l 14) (.l 16), none⟩,
  ⟨(some (false, 18)), .mv (.l 17), none⟩,
  ⟨(some (false, 19)), .mv (.g 0), (some (.l 18, false))⟩,
  ⟨(some (false, 20)), .mv (.g 7), (some (.l 18, false))⟩,
  ⟨(some (false, 21)), .sx (.l 19) (.l 20), (some (.l 18, false))⟩,
  ⟨(some (false, 22)), .mv (.g 1), (some (.l 18, false))⟩,
  ⟨(some (false, 23)), .bin .eql (.l 21) (.l 22), (some (.l 18, false))⟩,
  ⟨(some (true, 24)), .pick (.l 18) (.c (.lit (.bool true))) (.l 23), none⟩])
(.cond (.g 24)
(.seq
(.reg [
  ⟨(some (false, 25)), .mv (.g 5), none⟩,
  ⟨(some (false, 26)), .mv (.g 0), none⟩,
  ⟨(some (false, 27)), .mv (.g 6), none⟩,
  ⟨(some (false, 28)), .mv (.g 7), none⟩,
  ⟨(some (false, 29)), .ssl (.l 26) (some (.l 27)) (some (.l 28)), none⟩,
  ⟨(some (false, 30)), .mks false 1 [.l 29], none⟩,
  ⟨(some (false, 31)), .app 1 16 (.l 25) (.l 30), none⟩,
  ⟨(some (true, 5)), .mv (.l 31), none⟩])
(.reg [
  ⟨(some (false, 32)), .mv (.g 7), none⟩,
  ⟨(some (false, 33)), .bin .add (.l 32) (.c (.lit (.int .i64 1))), none⟩,
  ⟨(some (true, 6)), .mv (.l 33), none⟩]))
.skip)))
(.reg [
  ⟨(some (false, 12)), .mv (.g 7), none⟩,
  ⟨(some (false, 13)), .bin .add (.l 12) (.c (.lit (.int .i64 1))), none⟩,
  ⟨(some (true, 7)), .mv (.l 13), none⟩]))))))
(.seq
(.reg [
  ⟨(some (false, 34)), .mv (.g 5), none⟩,
  ⟨(some (true, 4)), .mv (.l 34), none⟩])
.ret)))))
def K38 : List Nat := [0, 1, 11, 24, 4, 5, 6, 7]
noncomputable def b38 : Code := match Tryz.f38.body with | some c => c | none => .skip
theorem t38 : trCode ⟨Tryz.prog, K38, [], 35, none⟩ b38 = some c38 := by kernel_rfl
theorem go38 {args : List AV} {H : AHeap} {Kk : AV → AHeap → Prop} (hn : args.length = 2) (h : AGo ⟨Tryz.prog, K38, [], 35, none⟩ H.length [.code c38] (RetP [.t (.g 4)] H.length Kk) ⟨[], argsG 0 args⟩ H) : ACalls Tryz.prog 38 args H Kk :=
  ACalls_of Tryz.func38 (c := b38) rfl (by kernel_rfl) t38 (rs := [.t (.g 4)]) (by kernel_rfl) (by rw [hn]; exact Nat.le_of_ble_eq_true rfl) (by rw [hn]; rfl) (h.weaken (fun _ _ => RetP.hands) (by simp))

/-- sastrugi/sastrugiref08.read -/
def c39 : ACode :=
  (.seq
(.reg [
  ⟨(some (true, 4)), .mv (.c (.lit (.bool false))), none⟩])
(.seq
(.seq
(.reg [
  ⟨(some (false, 10)), .mv (.g 1), none⟩,
  ⟨(some (false, 11)), .call (.c (.fn 40 [])) [.l 10, .c (.lit (.string ⟨[99, 97, 112].toArray⟩)), .c (.lit (.int .i64 2))], none⟩,
  ⟨(some (false, 9)), .mv (.l 11), none⟩,
  ⟨(some (false, 12)), .ex (.l 9) 0, none⟩,
  ⟨(some (false, 13)), .ex (.l 9) 1, none⟩,
  ⟨(some (true, 5)), .mv (.l 12), none⟩,
  ⟨(some (true, 6)), .mv (.l 13), none⟩])
(.seq
(.reg [
  ⟨(some (false, 14)), .mv (.g 6), none⟩,
  ⟨(some (false, 15)), .mv (.l 14), none⟩,
  ⟨(some (false, 16)), .mv (.g 0), (some (.l 15, true))⟩,
  ⟨(some (false, 17)), .nilc (.l 16), (some (.l 15, true))⟩,
  ⟨(some (false, 18)), .fa (.l 17) 5, (some (.l 15, true))⟩,
  ⟨(some (false, 19)), .ld none (.l 18), (some (.l 15, true))⟩,
  ⟨(some (false, 20)), .len (.l 19), (some (.l 15, true))⟩,
  ⟨(some (false, 21)), .bin .eql (.l 20) (.c (.lit (.int .i64 0))), (some (.l 15, true))⟩,
  ⟨(some (true, 22)), .pick (.l 15) (.l 21) (.c (.lit (.bool false))), none⟩])
(.cond (.g 22)
(.seq
(.draw [
  ⟨⟨(some (false, 23)), .mv (.g 0), none⟩, 0, true, []⟩,
  ⟨⟨(some (false, 24)), .mv (.g 0), none⟩, 1, true, []⟩,
  ⟨⟨(some (false, 25)), .nilc (.l 24), none⟩, 2, true, []⟩,
  ⟨⟨(some (false, 26)), .fa (.l 25) 4, none⟩, 3, true, []⟩,
  ⟨⟨(some (false, 27)), .ld none (.l 26), none⟩, 4, true, []⟩,
  ⟨⟨(some (false, 28)), .mv (.g 5), none⟩, 5, true, []⟩,
  ⟨⟨(some (false, 29)), .ia 1 (.l 28) (.c (.lit (.int .i64 0))), none⟩, 6, true, []⟩,
  ⟨⟨(some (false, 30)), .ld none (.l 29), none⟩, 7, true, []⟩,
  ⟨⟨(some (false, 31)), .mv (.g 5), none⟩, 8, true, []⟩,
  ⟨⟨(some (false, 32)), .ia 1 (.l 31) (.c (.lit (.int .i64 1))), none⟩, 9, true, []⟩,
  ⟨⟨(some (false, 33)), .ld none (.l 32), none⟩, 10, true, []⟩,
  ⟨⟨(some (false, 34)), .mk [.int .i64 0, .int .i64 0] [(0, 1, .l 30), (1, 1, .l 33)], none⟩, 11, true, []⟩,
  ⟨⟨(some (false, 35)), .mks false 2 [.l 34], none⟩, 12, true, []⟩,
  ⟨⟨(some (false, 36)), .app 2 16 (.l 27) (.l 35), none⟩, 13, false, []⟩,
  ⟨⟨(some (false, 37)), .nilc (.l 23), none⟩, 14, true, []⟩,
  ⟨⟨(some (false, 38)), .fa (.l 37) 4, none⟩, 15, true, []⟩,
  ⟨⟨none, .st 1 (.l 38) (.l 36), none⟩, 16, true, []⟩])
(.seq
(.reg [
  ⟨(some (true, 4)), .mv (.c (.lit (.bool true))), none⟩])
.ret))
.skip)))
(.seq
(.reg [
  ⟨(some (false, 40)), .mv (.g 1), none⟩,
  ⟨(some (false, 41)), .call (.c (.fn 40 [])) [.l 40, .c (.lit (.string ⟨[111, 114, 100, 101, 114].toArray⟩)), .c (.lit (.int .i64 4))], none⟩,
  ⟨(some (false, 39)), .mv (.l 41), none⟩,
  ⟨(some (false, 42)), .ex (.l 39) 0, none⟩,
  ⟨(some (false, 43)), .ex (.l 39) 1, none⟩,
  ⟨(some (true, 7)), .mv (.l 42), none⟩,
  ⟨(some (true, 8)), .mv (.l 43), none⟩])
(.seq
(.seq
(.reg [
  ⟨(some (true, 44)), .mv (.g 8), none⟩])
(.cond (.g 44)
(.draw [
  ⟨⟨(some (false, 45)), .mv (.g 0), none⟩, 0, true, []⟩,
  ⟨⟨(some (false, 46)), .mv (.g 0), none⟩, 1, true, []⟩,
  ⟨⟨(some (false, 47)), .nilc (.l 46), none⟩, 2, true, []⟩,
  ⟨⟨(some (false, 48)), .fa (.l 47) 5, none⟩, 3, true, []⟩,
  ⟨⟨(some (false, 49)), .ld none (.l 48), none⟩, 4, true, []⟩,
  ⟨⟨(some (false, 50)), .mv (.g 7), none⟩, 5, true, []⟩,
  ⟨⟨(some (false, 51)), .ia 1 (.l 50) (.c (.lit (.int .i64 0))), none⟩, 6, true, []⟩,
  ⟨⟨(some (false, 52)), .ld none (.l 51), none⟩, 7, true, []⟩,
  ⟨⟨(some (false, 53)), .mv (.g 7), none⟩, 8, true, []⟩,
  ⟨⟨(some (false, 54)), .ia 1 (.l 53) (.c (.lit (.int .i64 1))), none⟩, 9, true, []⟩,
  ⟨⟨(some (false, 55)), .ld none (.l 54), none⟩, 10, true, []⟩,
  ⟨⟨(some (false, 56)), .mv (.g 7), none⟩, 11, true, []⟩,
  ⟨⟨(some (false, 57)), .ia 1 (.l 56) (.c (.lit (.int .i64 2))), none⟩, 12, true, []⟩,
  ⟨⟨(some (false, 58)), .ld none (.l 57), none⟩, 13, true, []⟩,
  ⟨⟨(some (false, 59)), .mv (.g 7), none⟩, 14, true, []⟩,
  ⟨⟨(some (false, 60)), .ia 1 (.l 59) (.c (.lit (.int .i64 3))), none⟩, 15, true, []⟩,
  ⟨⟨(some (false, 61)), .ld none (.l 60), none⟩, 16, true, []⟩,
  ⟨⟨(some (false, 62)), .mk [.int .i64 0, .int .i64 0, .int .i64 0, .int .i64 0] [(0, 1, .l 52), (1, 1, .l 55), (2, 1, .l 58), (3, 1, .l 61)], none⟩, 17, true, []⟩,
  ⟨⟨(some (false, 63)), .mks false 4 [.l 62], none⟩, 18, true, []⟩,
  ⟨⟨(some (false, 64)), .app 4 32 (.l 49) (.l 63), none⟩, 19, false, []⟩,
  ⟨⟨(some (false, 65)), .nilc (.l 45), none⟩, 20, true, []⟩,
  ⟨⟨(some (false, 66)), .fa (.l 65) 5, none⟩, 21, true, []⟩,
  ⟨⟨none, .st 1 (.l 66) (.l 64), none⟩, 22, true, []⟩])
.skip))
(.seq
(.reg [
  ⟨(some (false, 67)), .mv (.g 8), none⟩,
  ⟨(some (true, 4)), .mv (.l 67), none⟩])
.ret)))))
def K39 : List Nat := [0, 1, 22, 44, 4, 5, 6, 7, 8]
noncomputable def b39 : Code := match Tryz.f39.body with | some c => c | none => .skip
theorem t39 : trCode ⟨Tryz.prog, K39, [], 68, none⟩ b39 = some c39 := by kernel_rfl
theorem go39 {args : List AV} {H : AHeap} {Kk : AV → AHeap → Prop} (hn : args.length = 2) (h : AGo ⟨Tryz.prog, K39, [], 68, none⟩ H.length [.code c39] (RetP [.t (.g 4)] H.length Kk) ⟨[], argsG 0 args⟩ H) : ACalls Tryz.prog 39 args H Kk :=
  ACalls_of Tryz.func39 (c := b39) rfl (by kernel_rfl) t39 (rs := [.t (.g 4)]) (by kernel_rfl) (by rw [hn]; exact Nat.le_of_ble_eq_true rfl) (by rw [hn]; rfl) (h.weaken (fun _ _ => RetP.hands) (by simp))

/-- sastrugi/sastrugiref08.numbers -/
def c40 : ACode :=
  (.seq
(.reg [
  ⟨(some (true, 6)), .mv (.c (.lit (.slice none 0 0))), none⟩,
  ⟨(some (true, 7)), .mv (.c (.lit (.bool false))), none⟩])
(.seq
(.reg [
  ⟨(some (false, 13)), .mv (.g 0), none⟩,
  ⟨(some (false, 14)), .call (.c (.fn 38 [])) [.l 13, .c (.lit (.int .u8 32))], none⟩,
  ⟨(some (true, 8)), .mv (.l 14), none⟩])
(.seq
(.seq
(.reg [
  ⟨(some (false, 15)), .mv (.g 8), none⟩,
  ⟨(some (false, 16)), .len (.l 15), none⟩,
  ⟨(some (false, 17)), .mv (.g 2), none⟩,
  ⟨(some (false, 18)), .bin .add (.l 17) (.c (.lit (.int .i64 1))), none⟩,
  ⟨(some (false, 19)), .bin .neq (.l 16) (.l 18), none⟩,
  ⟨(some (false, 20)), .mv (.l 19), none⟩,
  ⟨(some (false, 21)), .mv (.g 8), (some (.l 20, false))⟩,
  ⟨(some (false, 22)), .ia 1 (.l 21) (.c (.lit (.int .i64 0))), (some (.l 20, false))⟩,
  ⟨(some (false, 23)), .ld none (.l 22), (some (.l 20, false))⟩,
  ⟨(some (false, 24)), .mv (.g 1), (some (.l 20, false))⟩,
  ⟨(some (false, 25)), .bin .neq (.l 23) (.l 24), (some (.l 20, false))⟩,
  ⟨(some (true, 26)), .pick (.l 20) (.c (.lit (.bool true))) (.l 25), none⟩])
(.cond (.g 26)
(.seq
(.reg [
  ⟨(some (true, 6)), .mv (.c (.lit (.slice none 0 0))), none⟩,
  ⟨(some (true, 7)), .mv (.c (.lit (.bool false))), none⟩])
.ret)
.skip))
(.seq
(.reg [
  ⟨(some (true, 9)), .mv (.c (.lit (.slice none 0 0))), none⟩])
(.seq
(.seq
(.reg [
  ⟨(some (true, 10)), .mv (.c (.lit (.int .i64 1))), none⟩])
(.block 0
(.loop
(.seq
(.seq
(.reg [
  ⟨(some (false, 27)), .mv (.g 10), none⟩,
  ⟨(some (false, 28)), .mv (.g 8), none⟩,
  ⟨(some (false, 29)), .len (.l 28), none⟩,
  ⟨(some (true, 30)), .bin .lss (.l 27) (.l 29), none⟩])
(.cond (.g 30)
.skip
(.exit 0)))
(.seq
(.block 1
(.seq
(.reg [
  ⟨(some (false, 34)), .mv (.g 8), none⟩,
  ⟨(some (false, 35)), .mv (.g 10), none⟩,
  ⟨(some (false, 36)), .ia 1 (.l 34) (.l 35), none⟩,
  ⟨(some (false, 37)), .ld none (.l 36), none⟩,
  ⟨(some (false, 38)), .call (.c (.fn 60 [])) [.l 37], none⟩,
  ⟨(some (false, 33)), .mv (.l 38), none⟩,
  ⟨(some (false, 39)), .ex (.l 33) 0, none⟩,
  ⟨(some (false, 40)), .ex (.l 33) 1, none⟩,
  ⟨(some (true, 11)), .mv (.l 39), none⟩,
  ⟨(some (true, 12)), .mv (.l 40), none⟩])
(.seq
(.seq
(.reg [
  ⟨(some (false, 41)), .mv (.g 12), none⟩,
  ⟨(some (true, 42)), .un .not (.l 41), none⟩])
(.cond (.g 42)
(.seq
(.reg [
  ⟨(some (true, 6)), .mv (.c (.lit (.slice none 0 0))), none⟩,
  ⟨(some (true, 7)), .mv (.c (.lit (.bool false))), none⟩])
.ret)
.skip))
(.reg [
  ⟨(some (false, 43)), .mv (.g 9), none⟩,
  ⟨(some (false, 44)), .mv (.g 11), none⟩,
  ⟨(some (false, 45)), .mks false 1 [.l 44], none⟩,
  ⟨(some (false, 46)), .app 1 8 (.l 43) (.l 45), none⟩,
  ⟨(some (true, 9)), .mv (.l 46), none⟩]))))
(.reg [
  ⟨(some (false, 31)), .mv (.g 10), none⟩,
  ⟨(some (false, 32)), .bin .add (.l 31) (.c (.lit (.int .i64 1))), none⟩,
  ⟨(some (true, 10)), .mv (.l 32), none⟩]))))))
(.seq
(.reg [
  ⟨(some (false, 47)), .mv (.g 9), none⟩,
  ⟨(some (true, 6)), .mv (.l 47), none⟩,
  ⟨(some (true, 7)), .mv (.c (.lit (.bool true))), none⟩])
.ret))))))
def K40 : List Nat := [0, 1, 2, 26, 30, 42, 6, 7, 8, 9, 10, 11, 12]
noncomputable def b40 : Code := match Tryz.f40.body with | some c => c | none => .skip
theorem t40 : trCode ⟨Tryz.prog, K40, [], 48, none⟩ b40 = some c40 := by kernel_rfl
theorem go40 {args : List AV} {H : AHeap} {Kk : AV → AHeap → Prop} (hn : args.length = 3) (h : AGo ⟨Tryz.prog, K40, [], 48, none⟩ H.length [.code c40] (RetP [.t (.g 6), .t (.g 7)] H.length Kk) ⟨[], argsG 0 args⟩ H) : ACalls Tryz.prog 40 args H Kk :=
  ACalls_of Tryz.func40 (c := b40) rfl (by kernel_rfl) t40 (rs := [.t (.g 6), .t (.g 7)]) (by kernel_rfl) (by rw [hn]; exact Nat.le_of_ble_eq_true rfl) (by rw [hn]; rfl) (h.weaken (fun _ _ => RetP.hands) (by simp))

/-- sastrugi/sastrugiref08.number -/
def c60 : ACode :=
  (.seq
(.reg [
  ⟨(some (true, 2)), .mv (.c (.lit (.int .i64 0))), none⟩,
  ⟨(some (true, 3)), .mv (.c (.lit (.bool false))), none⟩])
(.seq
(.seq
(.reg [
  ⟨(some (false, 6)), .mv (.g 0), none⟩,
  ⟨(some (false, 7)), .lens (.l 6), none⟩,
  ⟨(some (false, 8)), .bin .lss (.l 7) (.c (.lit (.int .i64 1))), none⟩,
  ⟨(some (false, 9)), .mv (.l 8), none⟩,
  ⟨(some (false, 10)), .mv (.g 0), (some (.l 9, false))⟩,
  ⟨(some (false, 11)), .lens (.l 10), (some (.l 9, false))⟩,
  ⟨(some (false, 12)), .bin .gtr (.l 11) (.c (.lit (.int .i64 9))), (some (.l 9, false))⟩,
  ⟨(some (false, 13)), .pick (.l 9) (.c (.lit (.bool true))) (.l 12), none⟩,
  ⟨(some (false, 14)), .mv (.l 13), none⟩,
  ⟨(some (false, 15)), .mv (.g 0), (some (.l 14, false))⟩,
  ⟨(some (false, 16)), .sx (.l 15) (.c (.lit (.int .i64 0))), (some (.l 14, false))⟩,
  ⟨(some (false, 17)), .bin .eql (.l 16) (.c (.lit (.int .u8 48))), (some (.l 14, false))⟩,
  ⟨(some (false, 18)), .mv (.l 17), (some (.l 14, false))⟩,
  ⟨(some (false, 19)), .mv (.g 0), (some (.l 18, true))⟩,
  ⟨(some (false, 20)), .lens (.l 19), (some (.l 18, true))⟩,
  ⟨(some (false, 21)), .bin .gtr (.l 20) (.c (.lit (.int .i64 1))), (some (.l 18, true))⟩,
  ⟨(some (false, 22)), .pick (.l 18) (.l 21) (.c (.lit (.bool false))), (some (.l 14, false))⟩,
  ⟨(some (true, 23)), .pick (.l 14) (.c (.lit (.bool true))) (.l 22), none⟩])
(.cond (.g 23)
(.seq
(.reg [
  ⟨(some (true, 2)), .mv (.c (.lit (.int .i64 0))), none⟩,
  ⟨(some (true, 3)), .mv (.c (.lit (.bool false))), none⟩])
.ret)
.skip))
(.seq
(.reg [
  ⟨(some (true, 4)), .mv (.c (.lit (.int .i64 0))), none⟩])
(.seq
(.seq
(.reg [
  ⟨(some (true, 5)), .mv (.c (.lit (.int .i64 0))), none⟩])
(.block 0
(.loop
(.seq
(.seq
(.reg [
  ⟨(some (false, 24)), .mv (.g 5), none⟩,
  ⟨(some (false, 25)), .mv (.g 0), none⟩,
  ⟨(some (false, 26)), .lens (.l 25), none⟩,
  ⟨(some (true, 27)), .bin .lss (.l 24) (.l 26), none⟩])
(.cond (.g 27)
.skip
(.exit 0)))
(.seq
(.block 1
(.seq
(.seq
(.reg [
  ⟨(some (false, 30)), .mv (.g 0), none⟩,
  ⟨(some (false, 31)), .mv (.g 5), none⟩,
  ⟨(some (false, 32)), .sx (.l 30) (.l 31), none⟩,
  ⟨(some (false, 33)), .bin .lss (.l 32) (.c (.lit (.int .u8 48))), none⟩,
  ⟨(some (false, 34)), .mv (.l 33), none⟩,
  ⟨(some (false, 35)), .mv (.g 0), (some (.l 34, false))⟩,
  ⟨(some (false, 36)), .mv (.g 5), (some (.l 34, false))⟩,
  ⟨(some (false, 37)), .sx (.l 35) (.l 36), (some (.l 34, false))⟩,
  ⟨(some (false, 38)), .bin .gtr (.l 37) (.c (.lit (.int .u8 57))), (some (.l 34, false))⟩,
  ⟨(some (true, 39)), .pick (.l 34) (.c (.lit (.bool true))) (.l 38), none⟩])
(.cond (.g 39)
(.seq
(.reg [
  ⟨(some (true, 2)), .mv (.c (.lit (.int .i64 0))), none⟩,
  ⟨(some (true, 3)), .mv (.c (.lit (.bool false))), none⟩])
.ret)
.skip))
(.reg [
  ⟨(some (false, 40)), .mv (.g 4), none⟩,
  ⟨(some (false, 41)), .bin .mul (.c (.lit (.int .i64 10))) (.l 40), none⟩,
  ⟨(some (false, 42)), .mv (.g 0), none⟩,
  ⟨(some (false, 43)), .mv (.g 5), none⟩,
  ⟨(some (false, 44)), .sx (.l 42) (.l 43), none⟩,
  ⟨(some (false, 45)), .bin .sub (.l 44) (.c (.lit (.int .u8 48))), none⟩,
  ⟨(some (false, 46)), .cv .i64 (.l 45), none⟩,
  ⟨(some (false, 47)), .bin .add (.l 41) (.l 46), none⟩,
  ⟨(some (true, 4)), .mv (.l 47), none⟩])))
(.reg [
  ⟨(some (false, 28)), .mv (.g 5), none⟩,
  ⟨(some (false, 29)), .bin .add (.l 28) (.c (.lit (.int .i64 1))), none⟩,
  ⟨(some (true, 5)), .mv (.l 29), none⟩]))))))
(.seq
(.reg [
  ⟨(some (false, 48)), .mv (.g 4), none⟩,
  ⟨(some (true, 2)), .mv (.l 48), none⟩,
  ⟨(some (true, 3)), .mv (.c (.lit (.bool true))), none⟩])
.ret)))))
def K60 : List Nat := [0, 23, 27, 39, 2, 3, 4, 5]
noncomputable def b60 : Code := match Tryz.f60.body with | some c => c | none => .skip
theorem t60 : trCode ⟨Tryz.prog, K60, [], 49, none⟩ b60 = some c60 := by kernel_rfl
theorem go60 {args : List AV} {H : AHeap} {Kk : AV → AHeap → Prop} (hn : args.length = 1) (h : AGo ⟨Tryz.prog, K60, [], 49, none⟩ H.length [.code c60] (RetP [.t (.g 2), .t (.g 3)] H.length Kk) ⟨[], argsG 0 args⟩ H) : ACalls Tryz.prog 60 args H Kk :=
  ACalls_of Tryz.func60 (c := b60) rfl (by kernel_rfl) t60 (rs := [.t (.g 2), .t (.g 3)]) (by kernel_rfl) (by rw [hn]; exact Nat.le_of_ble_eq_true rfl) (by rw [hn]; rfl) (h.weaken (fun _ _ => RetP.hands) (by simp))

/-- sastrugi/sastrugikit.Wrap -/
def c35 : ACode :=
  (.seq
(.reg [
  ⟨(some (true, 4)), .mv (.c (.lit (.int .i64 0))), none⟩])
(.seq
(.seq
(.reg [
  ⟨(some (false, 5)), .mv (.g 1), none⟩,
  ⟨(some (true, 6)), .bin .lss (.l 5) (.c (.lit (.int .i64 2))), none⟩])
(.cond (.g 6)
(.seq
(.reg [
  ⟨(some (true, 4)), .mv (.c (.lit (.int .i64 0))), none⟩])
.ret)
.skip))
(.seq
(.reg [
  ⟨(some (false, 7)), .mv (.g 0), none⟩,
  ⟨(some (false, 8)), .mv (.g 1), none⟩,
  ⟨(some (false, 9)), .bin .rem (.l 7) (.l 8), none⟩,
  ⟨(some (false, 10)), .mv (.g 1), none⟩,
  ⟨(some (false, 11)), .bin .add (.l 9) (.l 10), none⟩,
  ⟨(some (false, 12)), .mv (.g 1), none⟩,
  ⟨(some (false, 13)), .bin .rem (.l 11) (.l 12), none⟩,
  ⟨(some (true, 4)), .mv (.l 13), none⟩])
.ret)))
def K35 : List Nat := [0, 1, 6, 4]
noncomputable def b35 : Code := match Tryz.f35.body with | some c => c | none => .skip
theorem t35 : trCode ⟨Tryz.prog, K35, [], 14, none⟩ b35 = some c35 := by kernel_rfl
theorem go35 {args : List AV} {H : AHeap} {Kk : AV → AHeap → Prop} (hn : args.length = 2) (h : AGo ⟨Tryz.prog, K35, [], 14, none⟩ H.length [.code c35] (RetP [.t (.g 4)] H.length Kk) ⟨[], argsG 0 args⟩ H) : ACalls Tryz.prog 35 args H Kk :=
  ACalls_of Tryz.func35 (c := b35) rfl (by kernel_rfl) t35 (rs := [.t (.g 4)]) (by kernel_rfl) (by rw [hn]; exact Nat.le_of_ble_eq_true rfl) (by rw [hn]; rfl) (h.weaken (fun _ _ => RetP.hands) (by simp))

/-- sastrugi/sastrugilaw08.FreightTape -/
def c4 : ACode :=
  (.seq
(.reg [
  ⟨(some (true, 4)), .mv (.c (.lit (.bool false))), none⟩])
(.seq
(.seq
(.reg [
  ⟨(some (false, 16)), .mv (.g 1), none⟩,
  ⟨(some (false, 17)), .lens (.l 16), none⟩,
  ⟨(some (true, 18)), .bin .gtr (.l 17) (.c (.lit (.int .i64 2000))), none⟩])
(.cond (.g 18)
(.seq
(.reg [
  ⟨(some (false, 19)), .call (.c (.fn 6 [])) [], none⟩,
  ⟨(some (true, 4)), .mv (.l 19), none⟩])
.ret)
.skip))
(.seq
(.reg [
  ⟨(some (false, 20)), .mv (.g 0), none⟩,
  ⟨(some (false, 21)), .call (.c (.fn 8 [])) [.l 20], none⟩,
  ⟨(some (false, 22)), .call (.c (.fn 7 [])) [.l 21, .c (.lit (.int .i64 20)), .c (.lit (.int .i64 6))], none⟩,
  ⟨(some (true, 5)), .new [.int .i64 0, .int .i64 0, .int .i64 0, .int .i64 0, .slice none 0 0, .slice none 0 0], none⟩,
  ⟨none, .st 6 (.g 5) (.l 22), none⟩])
(.seq
(.reg [
  ⟨(some (false, 24)), .ld (some 6) (.g 5), none⟩,
  ⟨(some (false, 25)), .call (.c (.fn 9 [])) [.l 24], none⟩,
  ⟨(some (false, 23)), .mv (.l 25), none⟩,
  ⟨(some (false, 26)), .ex (.l 23) 0, none⟩,
  ⟨(some (false, 27)), .ex (.l 23) 1, none⟩,
  ⟨(some (true, 6)), .mv (.l 26), none⟩,
  ⟨(some (true, 7)), .mv (.l 27), none⟩])
(.seq
(.reg [
  ⟨(some (false, 29)), .mv (.g 6), none⟩,
  ⟨(some (false, 30)), .call (.c (.fn 12 [])) [.l 29], none⟩,
  ⟨(some (false, 28)), .mv (.l 30), none⟩,
  ⟨(some (false, 31)), .ex (.l 28) 0, none⟩,
  ⟨(some (false, 32)), .ex (.l 28) 1, none⟩,
  ⟨(some (false, 33)), .ex (.l 28) 2, none⟩,
  ⟨(some (true, 8)), .new [.int .i64 0, .int .i64 0, .int .i64 0, .int .i64 0, .slice none 0 0, .slice none 0 0], none⟩,
  ⟨none, .st 6 (.g 8) (.l 31), none⟩,
  ⟨(some (true, 9)), .mv (.l 32), none⟩,
  ⟨(some (true, 10)), .mv (.l 33), none⟩])
(.seq
(.seq
(.reg [
  ⟨(some (false, 34)), .mv (.g 7), none⟩,
  ⟨(some (false, 35)), .bin .neq (.l 34) (.c (.lit (.int .i64 0))), none⟩,
  ⟨(some (false, 36)), .mv (.l 35), none⟩,
  ⟨(some (false, 37)), .mv (.g 10), (some (.l 36, false))⟩,
  ⟨(some (false, 38)), .bin .neq (.l 37) (.c (.lit (.int .i64 0))), (some (.l 36, false))⟩,
  ⟨(some (false, 39)), .pick (.l 36) (.c (.lit (.bool true))) (.l 38), none⟩,
  ⟨(some (false, 40)), .mv (.l 39), none⟩,
  ⟨(some (false, 41)), .mv (.g 9), (some (.l 40, false))⟩,
  ⟨(some (false, 42)), .bin .neq (.l 41) (.c (.lit (.int .i64 0))), (some (.l 40, false))⟩,
  ⟨(some (false, 43)), .pick (.l 40) (.c (.lit (.bool true))) (.l 42), none⟩,
  ⟨(some (false, 44)), .mv (.l 43), none⟩,
  ⟨(some (false, 45)), .ld (some 6) (.g 5), (some (.l 44, false))⟩,
  ⟨(some (false, 46)), .ld (some 6) (.g 8), (some (.l 44, false))⟩,
  ⟨(some (false, 47)), .call (.c (.fn 14 [])) [.l 45, .l 46], (some (.l 44, false))⟩,
  ⟨(some (false, 48)), .un .not (.l 47), (some (.l 44, false))⟩,
  ⟨(some (true, 49)), .pick (.l 44) (.c (.lit (.bool true))) (.l 48), none⟩])
(.cond (.g 49)
(.seq
(.reg [
  ⟨(some (true, 4)), .mv (.c (.lit (.bool false))), none⟩])
.ret)
.skip))
(.seq
(.reg [
  ⟨(some (false, 51)), .mv (.g 1), none⟩,
  ⟨(some (false, 52)), .call (.c (.fn 12 [])) [.l 51], none⟩,
  ⟨(some (false, 50)), .mv (.l 52), none⟩,
  ⟨(some (false, 53)), .ex (.l 50) 0, none⟩,
  ⟨(some (false, 54)), .ex (.l 50) 1, none⟩,
  ⟨(some (false, 55)), .ex (.l 50) 2, none⟩,
  ⟨(some (true, 11)), .new [.int .i64 0, .int .i64 0, .int .i64 0, .int .i64 0, .slice none 0 0, .slice none 0 0], none⟩,
  ⟨none, .st 6 (.g 11) (.l 53), none⟩,
  ⟨(some (false, 12)), .mv (.l 54), none⟩,
  ⟨(some (true, 13)), .mv (.l 55), none⟩])
(.seq
(.seq
(.reg [
  ⟨(some (false, 56)), .mv (.g 13), none⟩,
  ⟨(some (true, 57)), .bin .neq (.l 56) (.c (.lit (.int .i64 0))), none⟩])
(.cond (.g 57)
(.seq
(.reg [
  ⟨(some (false, 58)), .call (.c (.fn 6 [])) [], none⟩,
  ⟨(some (true, 4)), .mv (.l 58), none⟩])
.ret)
.skip))
(.seq
(.reg [
  ⟨(some (false, 60)), .ld (some 6) (.g 11), none⟩,
  ⟨(some (false, 61)), .call (.c (.fn 9 [])) [.l 60], none⟩,
  ⟨(some (false, 59)), .mv (.l 61), none⟩,
  ⟨(some (false, 62)), .ex (.l 59) 0, none⟩,
  ⟨(some (false, 63)), .ex (.l 59) 1, none⟩,
  ⟨(some (true, 14)), .mv (.l 62), none⟩,
  ⟨(some (true, 15)), .mv (.l 63), none⟩])
(.seq
(.reg [
  ⟨(some (false, 64)), .mv (.g 15), none⟩,
  ⟨(some (false, 65)), .bin .eql (.l 64) (.c (.lit (.int .i64 0))), none⟩,
  ⟨(some (false, 66)), .mv (.l 65), none⟩,
  ⟨(some (false, 67)), .mv (.g 14), (some (.l 66, true))⟩,
  ⟨(some (false, 68)), .mv (.g 1), (some (.l 66, true))⟩,
  ⟨(some (false, 69)), .bin .eql (.l 67) (.l 68), (some (.l 66, true))⟩,
  ⟨(some (false, 70)), .pick (.l 66) (.l 69) (.c (.lit (.bool false))), none⟩,
  ⟨(some (false, 71)), .mv (.l 70), none⟩,
  ⟨(some (false, 72)), .call (.c (.fn 6 [])) [], (some (.l 71, true))⟩,
  ⟨(some (false, 73)), .pick (.l 71) (.l 72) (.c (.lit (.bool false))), none⟩,
  ⟨(some (true, 4)), .mv (.l 73), none⟩])
.ret))))))))))
def K4 : List Nat := [0, 1, 18, 49, 57, 4, 5, 6, 7, 8, 9, 10, 11, 13, 14, 15]
noncomputable def b4 : Code := match Tryz.f4.body with | some c => c | none => .skip
theorem t4 : trCode ⟨Tryz.prog, K4, [], 74, none⟩ b4 = some c4 := by kernel_rfl
end Go.Sas
