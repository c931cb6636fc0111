/-
The code of some functions with its types resolved, printed by a program; that it is the code is checked by the kernel.
Conditions: none.
-/
import Derived.Test.YtaeaamhlejhgkaaGreatDoorP4
import Derived.Test.YtaeaamhlejhgkaaGreatDoorProg
set_option linter.unusedVariables false
set_option linter.unusedSimpArgs false
namespace Go.Sas
open Go.Proofs
set_option maxRecDepth 100000
/-- sastrugi/freight.take -/
def c37 : ACode :=
  (.seq
(.reg [
  ⟨(some (true, 6)), .mv (.c (.lit (.bool false))), none⟩])
(.seq
(.seq
(.reg [
  ⟨(some (false, 13)), .mv (.g 1), none⟩,
  ⟨(some (true, 14)), .bin .eql (.l 13) (.c (.lit (.int .i64 0))), none⟩])
(.cond (.g 14)
(.seq
(.reg [
  ⟨(some (false, 16)), .mv (.g 2), none⟩,
  ⟨(some (false, 17)), .call (.c (.fn 59 [])) [.l 16, .c (.lit (.string ⟨[115, 101, 97, 115, 111, 110].toArray⟩)), .c (.lit (.int .i64 4))], none⟩,
  ⟨(some (false, 15)), .mv (.l 17), none⟩,
  ⟨(some (false, 18)), .ex (.l 15) 0, none⟩,
  ⟨(some (false, 19)), .ex (.l 15) 1, none⟩,
  ⟨(some (true, 7)), .mv (.l 18), none⟩,
  ⟨(some (true, 8)), .mv (.l 19), none⟩])
(.seq
(.seq
(.reg [
  ⟨(some (true, 20)), .mv (.g 8), none⟩])
(.cond (.g 20)
(.draw [
  ⟨⟨(some (false, 21)), .mv (.g 0), none⟩, 0, true, []⟩,
  ⟨⟨(some (false, 22)), .mv (.g 0), none⟩, 1, false, []⟩,
  ⟨⟨(some (false, 23)), .mv (.g 7), none⟩, 2, true, []⟩,
  ⟨⟨(some (false, 24)), .ia 1 (.l 23) (.c (.lit (.int .i64 0))), none⟩, 3, true, []⟩,
  ⟨⟨(some (false, 25)), .ld none (.l 24), none⟩, 4, true, []⟩,
  ⟨⟨(some (false, 26)), .mv (.g 7), none⟩, 5, true, []⟩,
  ⟨⟨(some (false, 27)), .ia 1 (.l 26) (.c (.lit (.int .i64 1))), none⟩, 6, true, []⟩,
  ⟨⟨(some (false, 28)), .ld none (.l 27), none⟩, 7, true, []⟩,
  ⟨⟨(some (false, 29)), .mk [.int .i64 0, .int .i64 0] [(0, 1, .l 25), (1, 1, .l 28)], none⟩, 8, true, []⟩,
  ⟨⟨(some (false, 30)), .mv (.g 7), none⟩, 9, false, []⟩,
  ⟨⟨(some (false, 31)), .ia 1 (.l 30) (.c (.lit (.int .i64 2))), none⟩, 10, true, []⟩,
  ⟨⟨(some (false, 32)), .ld none (.l 31), none⟩, 11, true, []⟩,
  ⟨⟨(some (false, 33)), .mv (.g 7), none⟩, 12, false, []⟩,
  ⟨⟨(some (false, 34)), .ia 1 (.l 33) (.c (.lit (.int .i64 3))), none⟩, 13, true, []⟩,
  ⟨⟨(some (false, 35)), .ld none (.l 34), none⟩, 14, true, []⟩,
  ⟨⟨(some (false, 36)), .mk [.int .i64 0, .int .i64 0] [(0, 1, .l 32), (1, 1, .l 35)], none⟩, 15, false, []⟩,
  ⟨⟨(some (false, 37)), .nilc (.l 21), none⟩, 16, true, []⟩,
  ⟨⟨(some (false, 38)), .fa (.l 37) 0, none⟩, 17, true, []⟩,
  ⟨⟨none, .st 2 (.l 38) (.l 29), none⟩, 18, false, []⟩,
  ⟨⟨(some (false, 39)), .nilc (.l 22), none⟩, 19, false, []⟩,
  ⟨⟨(some (false, 40)), .fa (.l 39) 2, none⟩, 20, false, []⟩,
  ⟨⟨none, .st 2 (.l 40) (.l 36), none⟩, 21, true, []⟩])
.skip))
(.seq
(.reg [
  ⟨(some (false, 41)), .mv (.g 8), none⟩,
  ⟨(some (true, 6)), .mv (.l 41), none⟩])
.ret)))
.skip))
(.seq
(.seq
(.reg [
  ⟨(some (false, 43)), .mv (.g 2), none⟩,
  ⟨(some (false, 44)), .call (.c (.fn 59 [])) [.l 43, .c (.lit (.string ⟨[99, 97, 112].toArray⟩)), .c (.lit (.int .i64 2))], none⟩,
  ⟨(some (false, 42)), .mv (.l 44), none⟩,
  ⟨(some (false, 45)), .ex (.l 42) 0, none⟩,
  ⟨(some (false, 46)), .ex (.l 42) 1, none⟩,
  ⟨(some (true, 9)), .mv (.l 45), none⟩,
  ⟨(some (true, 10)), .mv (.l 46), none⟩])
(.seq
(.reg [
  ⟨(some (false, 47)), .mv (.g 10), none⟩,
  ⟨(some (false, 48)), .mv (.l 47), none⟩,
  ⟨(some (false, 49)), .mv (.g 0), (some (.l 48, true))⟩,
  ⟨(some (false, 50)), .nilc (.l 49), (some (.l 48, true))⟩,
  ⟨(some (false, 51)), .fa (.l 50) 5, (some (.l 48, true))⟩,
  ⟨(some (false, 52)), .ld none (.l 51), (some (.l 48, true))⟩,
  ⟨(some (false, 53)), .len (.l 52), (some (.l 48, true))⟩,
  ⟨(some (false, 54)), .bin .eql (.l 53) (.c (.lit (.int .i64 0))), (some (.l 48, true))⟩,
  ⟨(some (true, 55)), .pick (.l 48) (.l 54) (.c (.lit (.bool false))), none⟩])
(.cond (.g 55)
(.seq
(.draw [
  ⟨⟨(some (false, 56)), .mv (.g 0), none⟩, 0, true, []⟩,
  ⟨⟨(some (false, 57)), .mv (.g 0), none⟩, 1, true, []⟩,
  ⟨⟨(some (false, 58)), .nilc (.l 57), none⟩, 2, true, []⟩,
  ⟨⟨(some (false, 59)), .fa (.l 58) 4, none⟩, 3, true, []⟩,
  ⟨⟨(some (false, 60)), .ld none (.l 59), none⟩, 4, true, []⟩,
  ⟨⟨(some (false, 61)), .mv (.g 9), none⟩, 5, true, []⟩,
  ⟨⟨(some (false, 62)), .ia 1 (.l 61) (.c (.lit (.int .i64 0))), none⟩, 6, true, []⟩,
  ⟨⟨(some (false, 63)), .ld none (.l 62), none⟩, 7, true, []⟩,
  ⟨⟨(some (false, 64)), .mv (.g 9), none⟩, 8, true, []⟩,
  ⟨⟨(some (false, 65)), .ia 1 (.l 64) (.c (.lit (.int .i64 1))), none⟩, 9, true, []⟩,
  ⟨⟨(some (false, 66)), .ld none (.l 65), none⟩, 10, true, []⟩,
  ⟨⟨(some (false, 67)), .mk [.int .i64 0, .int .i64 0] [(0, 1, .l 63), (1, 1, .l 66)], none⟩, 11, true, []⟩,
  ⟨⟨(some (false, 68)), .mks false 2 [.l 67], none⟩, 12, true, []⟩,
  ⟨⟨(some (false, 69)), .app 2 16 (.l 60) (.l 68), none⟩, 13, false, []⟩,
  ⟨⟨(some (false, 70)), .nilc (.l 56), none⟩, 14, true, []⟩,
  ⟨⟨(some (false, 71)), .fa (.l 70) 4, none⟩, 15, true, []⟩,
  ⟨⟨none, .st 1 (.l 71) (.l 69), none⟩, 16, true, []⟩])
(.seq
(.reg [
  ⟨(some (true, 6)), .mv (.c (.lit (.bool true))), none⟩])
.ret))
.skip)))
(.seq
(.reg [
  ⟨(some (false, 73)), .mv (.g 2), none⟩,
  ⟨(some (false, 74)), .call (.c (.fn 59 [])) [.l 73, .c (.lit (.string ⟨[111, 114, 100, 101, 114].toArray⟩)), .c (.lit (.int .i64 4))], none⟩,
  ⟨(some (false, 72)), .mv (.l 74), none⟩,
  ⟨(some (false, 75)), .ex (.l 72) 0, none⟩,
  ⟨(some (false, 76)), .ex (.l 72) 1, none⟩,
  ⟨(some (true, 11)), .mv (.l 75), none⟩,
  ⟨(some (true, 12)), .mv (.l 76), none⟩])
(.seq
(.seq
(.reg [
  ⟨(some (true, 77)), .mv (.g 12), none⟩])
(.cond (.g 77)
(.draw [
  ⟨⟨(some (false, 78)), .mv (.g 0), none⟩, 0, true, []⟩,
  ⟨⟨(some (false, 79)), .mv (.g 0), none⟩, 1, true, []⟩,
  ⟨⟨(some (false, 80)), .nilc (.l 79), none⟩, 2, true, []⟩,
  ⟨⟨(some (false, 81)), .fa (.l 80) 5, none⟩, 3, true, []⟩,
  ⟨⟨(some (false, 82)), .ld none (.l 81), none⟩, 4, true, []⟩,
  ⟨⟨(some (false, 83)), .mv (.g 11), none⟩, 5, true, []⟩,
  ⟨⟨(some (false, 84)), .ia 1 (.l 83) (.c (.lit (.int .i64 0))), none⟩, 6, true, []⟩,
  ⟨⟨(some (false, 85)), .ld none (.l 84), none⟩, 7, true, []⟩,
  ⟨⟨(some (false, 86)), .mv (.g 11), none⟩, 8, true, []⟩,
  ⟨⟨(some (false, 87)), .ia 1 (.l 86) (.c (.lit (.int .i64 1))), none⟩, 9, true, []⟩,
  ⟨⟨(some (false, 88)), .ld none (.l 87), none⟩, 10, true, []⟩,
  ⟨⟨(some (false, 89)), .mv (.g 11), none⟩, 11, true, []⟩,
  ⟨⟨(some (false, 90)), .ia 1 (.l 89) (.c (.lit (.int .i64 2))), none⟩, 12, true, []⟩,
  ⟨⟨(some (false, 91)), .ld none (.l 90), none⟩, 13, true, []⟩,
  ⟨⟨(some (false, 92)), .mv (.g 11), none⟩, 14, true, []⟩,
  ⟨⟨(some (false, 93)), .ia 1 (.l 92) (.c (.lit (.int .i64 3))), none⟩, 15, true, []⟩,
  ⟨⟨(some (false, 94)), .ld none (.l 93), none⟩, 16, true, []⟩,
  ⟨⟨(some (false, 95)), .mk [.int .i64 0, .int .i64 0, .int .i64 0, .int .i64 0] [(0, 1, .l 85), (1, 1, .l 88), (2, 1, .l 91), (3, 1, .l 94)], none⟩, 17, true, []⟩,
  ⟨⟨(some (false, 96)), .mks false 4 [.l 95], none⟩, 18, true, []⟩,
  ⟨⟨(some (false, 97)), .app 4 32 (.l 82) (.l 96), none⟩, 19, false, []⟩,
  ⟨⟨(some (false, 98)), .nilc (.l 78), none⟩, 20, true, []⟩,
  ⟨⟨(some (false, 99)), .fa (.l 98) 5, none⟩, 21, true, []⟩,
  ⟨⟨none, .st 1 (.l 99) (.l 97), none⟩, 22, true, []⟩])
.skip))
(.seq
(.reg [
  ⟨(some (false, 100)), .mv (.g 12), none⟩,
  ⟨(some (true, 6)), .mv (.l 100), none⟩])
.ret))))))
def K37 : List Nat := [0, 1, 2, 14, 20, 55, 77, 6, 7, 8, 9, 10, 11, 12]
noncomputable def b37 : Code := match Tryz.f37.body with | some c => c | none => .skip
theorem t37 : trCode ⟨Tryz.prog, K37, [], 101, none⟩ b37 = some c37 := by kernel_rfl
theorem go37 {args : List AV} {H : AHeap} {Kk : AV → AHeap → Prop} (hn : args.length = 3) (h : AGo ⟨Tryz.prog, K37, [], 101, none⟩ H.length [.code c37] (RetP [.t (.g 6)] H.length Kk) ⟨[], argsG 0 args⟩ H) : ACalls Tryz.prog 37 args H Kk :=
  ACalls_of Tryz.func37 (c := b37) rfl (by kernel_rfl) t37 (rs := [.t (.g 6)]) (by kernel_rfl) (by rw [hn]; exact Nat.le_of_ble_eq_true rfl) (by rw [hn]; rfl) (h.weaken (fun _ _ => RetP.hands) (by simp))

/-- sastrugi/freight.Read -/
def c12 : ACode :=
  (.seq
(.reg [
  ⟨(some (true, 2)), .new [.int .i64 0, .int .i64 0, .int .i64 0, .int .i64 0, .slice none 0 0, .slice none 0 0], none⟩,
  ⟨(some (true, 3)), .mv (.c (.lit (.int .i64 0))), none⟩,
  ⟨(some (true, 4)), .mv (.c (.lit (.int .i64 0))), none⟩])
(.seq
(.seq
(.reg [
  ⟨(some (false, 10)), .mv (.g 0), none⟩,
  ⟨(some (false, 11)), .lens (.l 10), none⟩,
  ⟨(some (true, 12)), .bin .gtr (.l 11) (.c (.lit (.int .i64 20000))), none⟩])
(.cond (.g 12)
(.seq
(.reg [
  ⟨(some (false, 13)), .mk [.int .i64 0, .int .i64 0, .int .i64 0, .int .i64 0, .slice none 0 0, .slice none 0 0] [], none⟩,
  ⟨none, .st 6 (.g 2) (.l 13), none⟩,
  ⟨(some (true, 3)), .mv (.c (.lit (.int .i64 0))), none⟩,
  ⟨(some (true, 4)), .mv (.c (.lit (.int .i64 5))), none⟩])
.ret)
.skip))
(.seq
(.reg [
  ⟨(some (false, 14)), .mv (.g 0), none⟩,
  ⟨(some (false, 15)), .call (.c (.fn 36 [])) [.l 14, .c (.lit (.string ⟨[10].toArray⟩))], none⟩,
  ⟨(some (true, 5)), .mv (.l 15), none⟩])
(.seq
(.reg [
  ⟨(some (false, 16)), .mv (.g 5), none⟩,
  ⟨(some (false, 17)), .len (.l 16), none⟩,
  ⟨(some (false, 18)), .bin .sub (.l 17) (.c (.lit (.int .i64 1))), none⟩,
  ⟨(some (true, 6)), .mv (.l 18), none⟩])
(.seq
(.seq
(.reg [
  ⟨(some (false, 19)), .mv (.g 5), none⟩,
  ⟨(some (false, 20)), .mv (.g 6), none⟩,
  ⟨(some (true, 21)), .sl 1 (.l 19) none (some (.l 20)) none, none⟩,
  ⟨(some (true, 22)), .len (.g 21), none⟩,
  ⟨(some (true, 23)), .mv (.c (.lit (.int .i64 0))), none⟩])
(.block 0
(.loop
(.seq
(.reg [
  ⟨(some (true, 24)), .bin .lss (.g 23) (.g 22), none⟩])
(.seq
(.cond (.g 24)
.skip
(.exit 0))
(.seq
(.block 1
(.seq
(.reg [
  ⟨(some (false, 25)), .mv (.g 23), none⟩,
  ⟨(some (false, 26)), .ia 1 (.g 21) (.g 23), none⟩,
  ⟨(some (false, 27)), .ld none (.l 26), none⟩,
  ⟨(some (true, 7)), .mv (.l 25), none⟩,
  ⟨(some (true, 8)), .mv (.l 27), none⟩])
(.seq
(.reg [
  ⟨(some (false, 28)), .mv (.g 7), none⟩,
  ⟨(some (false, 29)), .mv (.g 8), none⟩,
  ⟨(some (false, 30)), .call (.c (.fn 37 [])) [.g 2, .l 28, .l 29], none⟩,
  ⟨(some (true, 31)), .un .not (.l 30), none⟩])
(.cond (.g 31)
(.seq
(.reg [
  ⟨(some (false, 32)), .mk [.int .i64 0, .int .i64 0, .int .i64 0, .int .i64 0, .slice none 0 0, .slice none 0 0] [], none⟩,
  ⟨(some (false, 33)), .mv (.g 7), none⟩,
  ⟨(some (false, 34)), .bin .add (.l 33) (.c (.lit (.int .i64 1))), none⟩,
  ⟨none, .st 6 (.g 2) (.l 32), none⟩,
  ⟨(some (true, 3)), .mv (.l 34), none⟩,
  ⟨(some (true, 4)), .mv (.c (.lit (.int .i64 3))), none⟩])
.ret)
.skip))))
(.reg [
  ⟨(some (false, 35)), .bin .add (.g 23) (.c (.lit (.int .i64 1))), none⟩,
  ⟨(some (true, 23)), .mv (.l 35), none⟩])))))))
(.seq
(.seq
(.reg [
  ⟨(some (false, 36)), .mv (.g 6), none⟩,
  ⟨(some (false, 37)), .bin .eql (.l 36) (.c (.lit (.int .i64 0))), none⟩,
  ⟨(some (false, 38)), .mv (.l 37), none⟩,
  ⟨(some (false, 39)), .mv (.g 5), (some (.l 38, false))⟩,
  ⟨(some (false, 40)), .mv (.g 6), (some (.l 38, false))⟩,
  ⟨(some (false, 41)), .ia 1 (.l 39) (.l 40), (some (.l 38, false))⟩,
  ⟨(some (false, 42)), .ld none (.l 41), (some (.l 38, false))⟩,
  ⟨(some (false, 43)), .bin .neq (.l 42) (.c (.lit (.string ⟨[].toArray⟩))), (some (.l 38, false))⟩,
  ⟨(some (true, 44)), .pick (.l 38) (.c (.lit (.bool true))) (.l 43), none⟩])
(.cond (.g 44)
(.seq
(.reg [
  ⟨(some (false, 45)), .mk [.int .i64 0, .int .i64 0, .int .i64 0, .int .i64 0, .slice none 0 0, .slice none 0 0] [], none⟩,
  ⟨(some (false, 46)), .mv (.g 6), none⟩,
  ⟨(some (false, 47)), .bin .add (.l 46) (.c (.lit (.int .i64 1))), none⟩,
  ⟨none, .st 6 (.g 2) (.l 45), none⟩,
  ⟨(some (true, 3)), .mv (.l 47), none⟩,
  ⟨(some (true, 4)), .mv (.c (.lit (.int .i64 3))), none⟩])
.ret)
.skip))
(.seq
(.seq
(.reg [
  ⟨(some (false, 48)), .ld (some 6) (.g 2), none⟩,
  ⟨(some (false, 49)), .call (.c (.fn 27 [])) [.l 48], none⟩,
  ⟨(some (true, 9)), .mv (.l 49), none⟩])
(.seq
(.reg [
  ⟨(some (false, 50)), .mv (.g 9), none⟩,
  ⟨(some (true, 51)), .bin .neq (.l 50) (.c (.lit (.int .i64 0))), none⟩])
(.cond (.g 51)
(.seq
(.reg [
  ⟨(some (false, 52)), .mk [.int .i64 0, .int .i64 0, .int .i64 0, .int .i64 0, .slice none 0 0, .slice none 0 0] [], none⟩,
  ⟨(some (false, 53)), .mv (.g 9), none⟩,
  ⟨none, .st 6 (.g 2) (.l 52), none⟩,
  ⟨(some (true, 3)), .mv (.c (.lit (.int .i64 0))), none⟩,
  ⟨(some (true, 4)), .mv (.l 53), none⟩])
.ret)
.skip)))
(.seq
(.reg [
  ⟨(some (false, 54)), .ld (some 6) (.g 2), none⟩,
  ⟨none, .st 6 (.g 2) (.l 54), none⟩,
  ⟨(some (true, 3)), .mv (.c (.lit (.int .i64 0))), none⟩,
  ⟨(some (true, 4)), .mv (.c (.lit (.int .i64 0))), none⟩])
.ret))))))))
def K12 : List Nat := [0, 12, 24, 31, 44, 51, 2, 3, 4, 5, 6, 21, 22, 23, 7, 8, 9]
noncomputable def b12 : Code := match Tryz.f12.body with | some c => c | none => .skip
theorem t12 : trCode ⟨Tryz.prog, K12, [], 55, none⟩ b12 = some c12 := by kernel_rfl
theorem go12 {args : List AV} {H : AHeap} {Kk : AV → AHeap → Prop} (hn : args.length = 1) (h : AGo ⟨Tryz.prog, K12, [], 55, none⟩ H.length [.code c12] (RetP [.cell (.g 2) (some 6), .t (.g 3), .t (.g 4)] H.length Kk) ⟨[], argsG 0 args⟩ H) : ACalls Tryz.prog 12 args H Kk :=
  ACalls_of Tryz.func12 (c := b12) rfl (by kernel_rfl) t12 (rs := [.cell (.g 2) (some 6), .t (.g 3), .t (.g 4)]) (by kernel_rfl) (by rw [hn]; exact Nat.le_of_ble_eq_true rfl) (by rw [hn]; rfl) (h.weaken (fun _ _ => RetP.hands) (by simp))

/-- sastrugi/sastrugilaw08.FreightTexts -/
def c3 : ACode :=
  (.seq
(.reg [
  ⟨(some (true, 6)), .box (.g 0), none⟩,
  ⟨(some (true, 12)), .mv (.c (.lit (.bool false))), none⟩])
(.seq
(.seq
(.reg [
  ⟨(some (false, 27)), .ld (some 6) (.g 6), none⟩,
  ⟨(some (false, 28)), .call (.c (.fn 5 [])) [.l 27], none⟩,
  ⟨(some (false, 29)), .mv (.l 28), none⟩,
  ⟨(some (false, 30)), .mv (.g 1), (some (.l 29, false))⟩,
  ⟨(some (false, 31)), .lens (.l 30), (some (.l 29, false))⟩,
  ⟨(some (false, 32)), .bin .gtr (.l 31) (.c (.lit (.int .i64 2000))), (some (.l 29, false))⟩,
  ⟨(some (false, 33)), .mv (.l 32), (some (.l 29, false))⟩,
  ⟨(some (false, 34)), .mv (.g 1), (some (.l 33, true))⟩,
  ⟨(some (false, 35)), .lens (.l 34), (some (.l 33, true))⟩,
  ⟨(some (false, 36)), .bin .leq (.l 35) (.c (.lit (.int .i64 20000))), (some (.l 33, true))⟩,
  ⟨(some (false, 37)), .pick (.l 33) (.l 36) (.c (.lit (.bool false))), (some (.l 29, false))⟩,
  ⟨(some (true, 38)), .pick (.l 29) (.c (.lit (.bool true))) (.l 37), none⟩])
(.cond (.g 38)
(.seq
(.reg [
  ⟨(some (false, 39)), .call (.c (.fn 6 [])) [], none⟩,
  ⟨(some (true, 12)), .mv (.l 39), none⟩])
.ret)
.skip))
(.seq
(.draw [
  ⟨⟨(some (false, 40)), .ld (some 6) (.g 6), none⟩, 0, true, []⟩,
  ⟨⟨(some (false, 41)), .mv (.g 2), none⟩, 1, true, []⟩,
  ⟨⟨(some (false, 45)), .mv (.g 1), none⟩, 5, true, []⟩,
  ⟨⟨(some (false, 46)), .mks false 1 [.l 45], none⟩, 6, true, []⟩,
  ⟨⟨(some (false, 42)), .call (.c (.fn 8 [])) [.l 41], none⟩, 2, false, []⟩,
  ⟨⟨(some (false, 43)), .call (.c (.fn 7 [])) [.l 42, .c (.lit (.int .i64 9)), .c (.lit (.int .i64 4))], none⟩, 3, false, []⟩,
  ⟨⟨(some (false, 44)), .mks false 6 [.l 40, .l 43], none⟩, 4, true, []⟩,
  ⟨⟨(some (true, 13)), .mv (.l 44), none⟩, 7, true, []⟩,
  ⟨⟨(some (true, 14)), .mv (.l 46), none⟩, 8, true, []⟩])
(.seq
(.seq
(.reg [
  ⟨(some (true, 15)), .mv (.c (.lit (.int .i64 0))), none⟩])
(.block 0
(.loop
(.seq
(.seq
(.reg [
  ⟨(some (false, 47)), .mv (.g 15), none⟩,
  ⟨(some (false, 48)), .mv (.g 13), none⟩,
  ⟨(some (false, 49)), .len (.l 48), none⟩,
  ⟨(some (true, 50)), .bin .lss (.l 47) (.l 49), none⟩])
(.cond (.g 50)
.skip
(.exit 0)))
(.seq
(.block 1
(.seq
(.reg [
  ⟨(some (false, 54)), .mv (.g 13), none⟩,
  ⟨(some (false, 55)), .mv (.g 15), none⟩,
  ⟨(some (false, 56)), .ia 6 (.l 54) (.l 55), none⟩,
  ⟨(some (false, 57)), .ld (some 6) (.l 56), none⟩,
  ⟨(some (false, 58)), .call (.c (.fn 9 [])) [.l 57], none⟩,
  ⟨(some (false, 53)), .mv (.l 58), none⟩,
  ⟨(some (false, 59)), .ex (.l 53) 0, none⟩,
  ⟨(some (false, 60)), .ex (.l 53) 1, none⟩,
  ⟨(some (true, 16)), .mv (.l 59), none⟩,
  ⟨(some (true, 17)), .mv (.l 60), none⟩])
(.seq
(.reg [
  ⟨(some (false, 62)), .mv (.g 13), none⟩,
  ⟨(some (false, 63)), .mv (.g 15), none⟩,
  ⟨(some (false, 64)), .ia 6 (.l 62) (.l 63), none⟩,
  ⟨(some (false, 65)), .ld (some 6) (.l 64), none⟩,
  ⟨(some (false, 66)), .call (.c (.fn 10 [])) [.l 65], none⟩,
  ⟨(some (false, 61)), .mv (.l 66), none⟩,
  ⟨(some (false, 67)), .ex (.l 61) 0, none⟩,
  ⟨(some (false, 68)), .ex (.l 61) 1, none⟩,
  ⟨(some (true, 18)), .mv (.l 67), none⟩,
  ⟨(some (true, 19)), .mv (.l 68), none⟩])
(.seq
(.seq
(.reg [
  ⟨(some (false, 69)), .mv (.g 16), none⟩,
  ⟨(some (false, 70)), .mv (.g 18), none⟩,
  ⟨(some (false, 71)), .bin .neq (.l 69) (.l 70), none⟩,
  ⟨(some (false, 72)), .mv (.l 71), none⟩,
  ⟨(some (false, 73)), .mv (.g 17), (some (.l 72, false))⟩,
  ⟨(some (false, 74)), .mv (.g 19), (some (.l 72, false))⟩,
  ⟨(some (false, 75)), .bin .neq (.l 73) (.l 74), (some (.l 72, false))⟩,
  ⟨(some (true, 76)), .pick (.l 72) (.c (.lit (.bool true))) (.l 75), none⟩])
(.cond (.g 76)
(.seq
(.reg [
  ⟨(some (true, 12)), .mv (.c (.lit (.bool false))), none⟩])
.ret)
.skip))
(.reg [
  ⟨(some (false, 77)), .mv (.g 14), none⟩,
  ⟨(some (false, 78)), .mv (.g 18), none⟩,
  ⟨(some (false, 79)), .mks false 1 [.l 78], none⟩,
  ⟨(some (false, 80)), .app 1 16 (.l 77) (.l 79), none⟩,
  ⟨(some (true, 14)), .mv (.l 80), none⟩])))))
(.reg [
  ⟨(some (false, 51)), .mv (.g 15), none⟩,
  ⟨(some (false, 52)), .bin .add (.l 51) (.c (.lit (.int .i64 1))), none⟩,
  ⟨(some (true, 15)), .mv (.l 52), none⟩]))))))
(.seq
(.reg [
  ⟨(some (false, 81)), .mv (.g 14), none⟩,
  ⟨(some (false, 82)), .mv (.g 14), none⟩,
  ⟨(some (false, 83)), .ia 1 (.l 82) (.c (.lit (.int .i64 2))), none⟩,
  ⟨(some (false, 84)), .ld none (.l 83), none⟩,
  ⟨(some (false, 85)), .mv (.g 3), none⟩,
  ⟨(some (false, 86)), .mv (.g 4), none⟩,
  ⟨(some (false, 87)), .mv (.g 5), none⟩,
  ⟨(some (false, 88)), .call (.c (.fn 11 [])) [.l 84, .l 85, .l 86, .l 87], none⟩,
  ⟨(some (false, 89)), .mks false 1 [.l 88], none⟩,
  ⟨(some (false, 90)), .app 1 16 (.l 81) (.l 89), none⟩,
  ⟨(some (true, 14)), .mv (.l 90), none⟩])
(.seq
(.seq
(.reg [
  ⟨(some (true, 20)), .mv (.c (.lit (.int .i64 0))), none⟩])
(.block 2
(.loop
(.seq
(.seq
(.reg [
  ⟨(some (false, 91)), .mv (.g 20), none⟩,
  ⟨(some (false, 92)), .mv (.g 14), none⟩,
  ⟨(some (false, 93)), .len (.l 92), none⟩,
  ⟨(some (true, 94)), .bin .lss (.l 91) (.l 93), none⟩])
(.cond (.g 94)
.skip
(.exit 2)))
(.seq
(.block 3
(.seq
(.reg [
  ⟨(some (false, 98)), .mv (.g 14), none⟩,
  ⟨(some (false, 99)), .mv (.g 20), none⟩,
  ⟨(some (false, 100)), .ia 1 (.l 98) (.l 99), none⟩,
  ⟨(some (false, 101)), .ld none (.l 100), none⟩,
  ⟨(some (false, 102)), .call (.c (.fn 12 [])) [.l 101], none⟩,
  ⟨(some (false, 97)), .mv (.l 102), none⟩,
  ⟨(some (false, 103)), .ex (.l 97) 0, none⟩,
  ⟨(some (false, 104)), .ex (.l 97) 1, none⟩,
  ⟨(some (false, 105)), .ex (.l 97) 2, none⟩,
  ⟨(some (true, 21)), .new [.int .i64 0, .int .i64 0, .int .i64 0, .int .i64 0, .slice none 0 0, .slice none 0 0], none⟩,
  ⟨none, .st 6 (.g 21) (.l 103), none⟩,
  ⟨(some (true, 22)), .mv (.l 104), none⟩,
  ⟨(some (true, 23)), .mv (.l 105), none⟩])
(.seq
(.reg [
  ⟨(some (false, 107)), .mv (.g 14), none⟩,
  ⟨(some (false, 108)), .mv (.g 20), none⟩,
  ⟨(some (false, 109)), .ia 1 (.l 107) (.l 108), none⟩,
  ⟨(some (false, 110)), .ld none (.l 109), none⟩,
  ⟨(some (false, 111)), .call (.c (.fn 13 [])) [.l 110], none⟩,
  ⟨(some (false, 106)), .mv (.l 111), none⟩,
  ⟨(some (false, 112)), .ex (.l 106) 0, none⟩,
  ⟨(some (false, 113)), .ex (.l 106) 1, none⟩,
  ⟨(some (false, 114)), .ex (.l 106) 2, none⟩,
  ⟨(some (true, 24)), .new [.int .i64 0, .int .i64 0, .int .i64 0, .int .i64 0, .slice none 0 0, .slice none 0 0], none⟩,
  ⟨none, .st 6 (.g 24) (.l 112), none⟩,
  ⟨(some (true, 25)), .mv (.l 113), none⟩,
  ⟨(some (true, 26)), .mv (.l 114), none⟩])
(.seq
(.reg [
  ⟨(some (false, 115)), .mv (.g 22), none⟩,
  ⟨(some (false, 116)), .mv (.g 25), none⟩,
  ⟨(some (false, 117)), .bin .neq (.l 115) (.l 116), none⟩,
  ⟨(some (false, 118)), .mv (.l 117), none⟩,
  ⟨(some (false, 119)), .mv (.g 23), (some (.l 118, false))⟩,
  ⟨(some (false, 120)), .mv (.g 26), (some (.l 118, false))⟩,
  ⟨(some (false, 121)), .bin .neq (.l 119) (.l 120), (some (.l 118, false))⟩,
  ⟨(some (false, 122)), .pick (.l 118) (.c (.lit (.bool true))) (.l 121), none⟩,
  ⟨(some (false, 123)), .mv (.l 122), none⟩,
  ⟨(some (false, 124)), .ld (some 6) (.g 21), (some (.l 123, false))⟩,
  ⟨(some (false, 125)), .ld (some 6) (.g 24), (some (.l 123, false))⟩,
  ⟨(some (false, 126)), .call (.c (.fn 14 [])) [.l 124, .l 125], (some (.l 123, false))⟩,
  ⟨(some (false, 127)), .un .not (.l 126), (some (.l 123, false))⟩,
  ⟨(some (true, 128)), .pick (.l 123) (.c (.lit (.bool true))) (.l 127), none⟩])
(.cond (.g 128)
(.seq
(.reg [
  ⟨(some (true, 12)), .mv (.c (.lit (.bool false))), none⟩])
.ret)
.skip)))))
(.reg [
  ⟨(some (false, 95)), .mv (.g 20), none⟩,
  ⟨(some (false, 96)), .bin .add (.l 95) (.c (.lit (.int .i64 1))), none⟩,
  ⟨(some (true, 20)), .mv (.l 96), none⟩]))))))
(.seq
(.reg [
  ⟨(some (false, 129)), .call (.c (.fn 6 [])) [], none⟩,
  ⟨(some (true, 12)), .mv (.l 129), none⟩])
.ret)))))))
def K3 : List Nat := [0, 1, 2, 3, 4, 5, 38, 50, 76, 94, 128, 12, 6, 13, 14, 15, 16, 17, 18, 19, 20, 21, 22, 23, 24, 25, 26]
noncomputable def b3 : Code := match Tryz.f3.body with | some c => c | none => .skip
theorem t3 : trCode ⟨Tryz.prog, K3, [], 130, none⟩ b3 = some c3 := by kernel_rfl
/-- sastrugi/sastrugilaw08.FreightTape -/
def c4 : ACode :=
  (.seq
(.reg [
  ⟨(some (true, 4)), .mv (.c (.lit (.bool false))), none⟩])
(.seq
(.seq
(.reg [
  ⟨(some (false, 16)), .mv (.g 1), none⟩,
  ⟨(some (false, 17)), .lens (.l 16), none⟩,
  ⟨(some (true, 18)), .bin .gtr (.l 17) (.c (.lit (.int .i64 2000))), none⟩])
(.cond (.g 18)
(.seq
(.reg [
  ⟨(some (false, 19)), .call (.c (.fn 6 [])) [], none⟩,
  ⟨(some (true, 4)), .mv (.l 19), none⟩])
.ret)
.skip))
(.seq
(.reg [
  ⟨(some (false, 20)), .mv (.g 0), none⟩,
  ⟨(some (false, 21)), .call (.c (.fn 8 [])) [.l 20], none⟩,
  ⟨(some (false, 22)), .call (.c (.fn 7 [])) [.l 21, .c (.lit (.int .i64 20)), .c (.lit (.int .i64 6))], none⟩,
  ⟨(some (true, 5)), .new [.int .i64 0, .int .i64 0, .int .i64 0, .int .i64 0, .slice none 0 0, .slice none 0 0], none⟩,
  ⟨none, .st 6 (.g 5) (.l 22), none⟩])
(.seq
(.reg [
  ⟨(some (false, 24)), .ld (some 6) (.g 5), none⟩,
  ⟨(some (false, 25)), .call (.c (.fn 9 [])) [.l 24], none⟩,
  ⟨(some (false, 23)), .mv (.l 25), none⟩,
  ⟨(some (false, 26)), .ex (.l 23) 0, none⟩,
  ⟨(some (false, 27)), .ex (.l 23) 1, none⟩,
  ⟨(some (true, 6)), .mv (.l 26), none⟩,
  ⟨(some (true, 7)), .mv (.l 27), none⟩])
(.seq
(.reg [
  ⟨(some (false, 29)), .mv (.g 6), none⟩,
  ⟨(some (false, 30)), .call (.c (.fn 12 [])) [.l 29], none⟩,
  ⟨(some (false, 28)), .mv (.l 30), none⟩,
  ⟨(some (false, 31)), .ex (.l 28) 0, none⟩,
  ⟨(some (false, 32)), .ex (.l 28) 1, none⟩,
  ⟨(some (false, 33)), .ex (.l 28) 2, none⟩,
  ⟨(some (true, 8)), .new [.int .i64 0, .int .i64 0, .int .i64 0, .int .i64 0, .slice none 0 0, .slice none 0 0], none⟩,
  ⟨none, .st 6 (.g 8) (.l 31), none⟩,
  ⟨(some (true, 9)), .mv (.l 32), none⟩,
  ⟨(some (true, 10)), .mv (.l 33), none⟩])
(.seq
(.seq
(.reg [
  ⟨(some (false, 34)), .mv (.g 7), none⟩,
  ⟨(some (false, 35)), .bin .neq (.l 34) (.c (.lit (.int .i64 0))), none⟩,
  ⟨(some (false, 36)), .mv (.l 35), none⟩,
  ⟨(some (false, 37)), .mv (.g 10), (some (.l 36, false))⟩,
  ⟨(some (false, 38)), .bin .neq (.l 37) (.c (.lit (.int .i64 0))), (some (.l 36, false))⟩,
  ⟨(some (false, 39)), .pick (.l 36) (.c (.lit (.bool true))) (.l 38), none⟩,
  ⟨(some (false, 40)), .mv (.l 39), none⟩,
  ⟨(some (false, 41)), .mv (.g 9), (some (.l 40, false))⟩,
  ⟨(some (false, 42)), .bin .neq (.l 41) (.c (.lit (.int .i64 0))), (some (.l 40, false))⟩,
  ⟨(some (false, 43)), .pick (.l 40) (.c (.lit (.bool true))) (.l 42), none⟩,
  ⟨(some (false, 44)), .mv (.l 43), none⟩,
  ⟨(some (false, 45)), .ld (some 6) (.g 5), (some (.l 44, false))⟩,
  ⟨(some (false, 46)), .ld (some 6) (.g 8), (some (.l 44, false))⟩,
  ⟨(some (false, 47)), .call (.c (.fn 14 [])) [.l 45, .l 46], (some (.l 44, false))⟩,
  ⟨(some (false, 48)), .un .not (.l 47), (some (.l 44, false))⟩,
  ⟨(some (true, 49)), .pick (.l 44) (.c (.lit (.bool true))) (.l 48), none⟩])
(.cond (.g 49)
(.seq
(.reg [
  ⟨(some (true, 4)), .mv (.c (.lit (.bool false))), none⟩])
.ret)
.skip))
(.seq
(.reg [
  ⟨(some (false, 51)), .mv (.g 1), none⟩,
  ⟨(some (false, 52)), .call (.c (.fn 12 [])) [.l 51], none⟩,
  ⟨(some (false, 50)), .mv (.l 52), none⟩,
  ⟨(some (false, 53)), .ex (.l 50) 0, none⟩,
  ⟨(some (false, 54)), .ex (.l 50) 1, none⟩,
  ⟨(some (false, 55)), .ex (.l 50) 2, none⟩,
  ⟨(some (true, 11)), .new [.int .i64 0, .int .i64 0, .int .i64 0, .int .i64 0, .slice none 0 0, .slice none 0 0], none⟩,
  ⟨none, .st 6 (.g 11) (.l 53), none⟩,
  ⟨(some (false, 12)), .mv (.l 54), none⟩,
  ⟨(some (true, 13)), .mv (.l 55), none⟩])
(.seq
(.seq
(.reg [
  ⟨(some (false, 56)), .mv (.g 13), none⟩,
  ⟨(some (true, 57)), .bin .neq (.l 56) (.c (.lit (.int .i64 0))), none⟩])
(.cond (.g 57)
(.seq
(.reg [
  ⟨(some (false, 58)), .call (.c (.fn 6 [])) [], none⟩,
  ⟨(some (true, 4)), .mv (.l 58), none⟩])
.ret)
.skip))
(.seq
(.reg [
  ⟨(some (false, 60)), .ld (some 6) (.g 11), none⟩,
  ⟨(some (false, 61)), .call (.c (.fn 9 [])) [.l 60], none⟩,
  ⟨(some (false, 59)), .mv (.l 61), none⟩,
  ⟨(some (false, 62)), .ex (.l 59) 0, none⟩,
  ⟨(some (false, 63)), .ex (.l 59) 1, none⟩,
  ⟨(some (true, 14)), .mv (.l 62), none⟩,
  ⟨(some (true, 15)), .mv (.l 63), none⟩])
(.seq
(.reg [
  ⟨(some (false, 64)), .mv (.g 15), none⟩,
  ⟨(some (false, 65)), .bin .eql (.l 64) (.c (.lit (.int .i64 0))), none⟩,
  ⟨(some (false, 66)), .mv (.l 65), none⟩,
  ⟨(some (false, 67)), .mv (.g 14), (some (.l 66, true))⟩,
  ⟨(some (false, 68)), .mv (.g 1), (some (.l 66, true))⟩,
  ⟨(some (false, 69)), .bin .eql (.l 67) (.l 68), (some (.l 66, true))⟩,
  ⟨(some (false, 70)), .pick (.l 66) (.l 69) (.c (.lit (.bool false))), none⟩,
  ⟨(some (false, 71)), .mv (.l 70), none⟩,
  ⟨(some (false, 72)), .call (.c (.fn 6 [])) [], (some (.l 71, true))⟩,
  ⟨(some (false, 73)), .pick (.l 71) (.l 72) (.c (.lit (.bool false))), none⟩,
  ⟨(some (true, 4)), .mv (.l 73), none⟩])
.ret))))))))))
def K4 : List Nat := [0, 1, 18, 49, 57, 4, 5, 6, 7, 8, 9, 10, 11, 13, 14, 15]
noncomputable def b4 : Code := match Tryz.f4.body with | some c => c | none => .skip
theorem t4 : trCode ⟨Tryz.prog, K4, [], 74, none⟩ b4 = some c4 := by kernel_rfl
theorem go4 {args : List AV} {H : AHeap} {Kk : AV → AHeap → Prop} (hn : args.length = 2) (h : AGo ⟨Tryz.prog, K4, [], 74, none⟩ H.length [.code c4] (RetP [.t (.g 4)] H.length Kk) ⟨[], argsG 0 args⟩ H) : ACalls Tryz.prog 4 args H Kk :=
  ACalls_of Tryz.func4 (c := b4) rfl (by kernel_rfl) t4 (rs := [.t (.g 4)]) (by kernel_rfl) (by rw [hn]; exact Nat.le_of_ble_eq_true rfl) (by rw [hn]; rfl) (h.weaken (fun _ _ => RetP.hands) (by simp))

end Go.Sas
