/-
The code of some functions with its types resolved, printed by a program; that it is the code is checked by the kernel.
Conditions: none.
-/
import Derived.Test.YthpjckoklnhbcaaZ4
import Derived.Test.YthpjckoklnhbcaaProg
set_option linter.unusedVariables false
set_option linter.unusedSimpArgs false
namespace Go.Sas
open Go.Proofs
set_option maxRecDepth 100000
/-- sastrugi/sastrugilaw08.FreightTruth -/
def c11 : ACode :=
  (.seq
(.reg [
  ⟨(some (true, 2)), .mv (.c (.lit (.bool false))), none⟩])
(.seq
(.reg [
  ⟨(some (false, 16)), .mv (.g 0), none⟩,
  ⟨(some (false, 17)), .call (.c (.fn 22 [])) [.l 16], none⟩,
  ⟨(some (true, 3)), .mv (.l 17), none⟩])
(.seq
(.reg [
  ⟨(some (false, 18)), .mv (.g 3), none⟩,
  ⟨(some (false, 19)), .call (.c (.fn 23 [])) [.l 18, .c (.lit (.int .i64 14)), .c (.lit (.int .i64 6))], none⟩,
  ⟨(some (true, 4)), .new [.int .i64 0, .int .i64 0, .int .i64 0, .int .i64 0, .slice none 0 0, .slice none 0 0], none⟩,
  ⟨none, .st 6 (.g 4) (.l 19), none⟩])
(.seq
(.draw [
  ⟨⟨(some (false, 20)), .mv (.g 3), none⟩, 0, true, []⟩,
  ⟨⟨(some (false, 21)), .fa (.g 4) 5, none⟩, 1, true, []⟩,
  ⟨⟨(some (false, 22)), .ld none (.l 21), none⟩, 2, true, []⟩,
  ⟨⟨(some (false, 23)), .len (.l 22), none⟩, 3, true, []⟩,
  ⟨⟨(some (false, 25)), .mv (.g 3), none⟩, 5, true, []⟩,
  ⟨⟨(some (false, 26)), .ld (some 6) (.g 4), none⟩, 6, true, []⟩,
  ⟨⟨(some (true, 6)), .new [.int .i64 0, .int .i64 0, .slice none 0 0], none⟩, 8, true, []⟩,
  ⟨⟨(some (false, 24)), .call (.c (.fn 31 [])) [.l 20, .l 23], none⟩, 4, false, []⟩,
  ⟨⟨(some (false, 27)), .call (.c (.fn 35 [])) [.l 25, .l 26], none⟩, 7, false, []⟩,
  ⟨⟨(some (true, 5)), .mv (.l 24), none⟩, 9, true, [8]⟩,
  ⟨⟨none, .st 3 (.g 6) (.l 27), none⟩, 10, true, [8]⟩])
(.seq
(.reg [
  ⟨(some (false, 29)), .ld (some 6) (.g 4), none⟩,
  ⟨(some (false, 30)), .ld (some 3) (.g 6), none⟩,
  ⟨(some (false, 31)), .mv (.g 5), none⟩,
  ⟨(some (false, 32)), .call (.c (.fn 50 [])) [.l 29, .l 30, .l 31], none⟩,
  ⟨(some (false, 28)), .mv (.l 32), none⟩,
  ⟨(some (false, 33)), .ex (.l 28) 0, none⟩,
  ⟨(some (false, 34)), .ex (.l 28) 1, none⟩,
  ⟨(some (false, 35)), .ex (.l 28) 2, none⟩,
  ⟨(some (true, 7)), .mv (.l 33), none⟩,
  ⟨(some (true, 8)), .mv (.l 34), none⟩,
  ⟨(some (true, 9)), .mv (.l 35), none⟩])
(.seq
(.reg [
  ⟨(some (false, 37)), .ld (some 6) (.g 4), none⟩,
  ⟨(some (false, 38)), .mv (.g 5), none⟩,
  ⟨(some (false, 39)), .call (.c (.fn 30 [])) [.l 37, .l 38], none⟩,
  ⟨(some (false, 36)), .mv (.l 39), none⟩,
  ⟨(some (false, 40)), .ex (.l 36) 0, none⟩,
  ⟨(some (false, 41)), .ex (.l 36) 1, none⟩,
  ⟨(some (true, 10)), .new [.int .i64 0, .int .i64 0], none⟩,
  ⟨none, .st 2 (.g 10) (.l 40), none⟩,
  ⟨(some (true, 11)), .mv (.l 41), none⟩])
(.seq
(.reg [
  ⟨(some (false, 43)), .ld (some 6) (.g 4), none⟩,
  ⟨(some (false, 44)), .mv (.g 5), none⟩,
  ⟨(some (false, 45)), .call (.c (.fn 33 [])) [.l 43, .l 44], none⟩,
  ⟨(some (false, 42)), .mv (.l 45), none⟩,
  ⟨(some (false, 46)), .ex (.l 42) 0, none⟩,
  ⟨(some (false, 47)), .ex (.l 42) 1, none⟩,
  ⟨(some (true, 12)), .mv (.l 46), none⟩,
  ⟨(some (true, 13)), .mv (.l 47), none⟩])
(.seq
(.seq
(.reg [
  ⟨(some (false, 48)), .mv (.g 9), none⟩,
  ⟨(some (false, 49)), .un .not (.l 48), none⟩,
  ⟨(some (false, 50)), .mv (.l 49), none⟩,
  ⟨(some (false, 51)), .mv (.g 11), (some (.l 50, false))⟩,
  ⟨(some (false, 52)), .bin .neq (.l 51) (.c (.lit (.int .i64 0))), (some (.l 50, false))⟩,
  ⟨(some (false, 53)), .pick (.l 50) (.c (.lit (.bool true))) (.l 52), none⟩,
  ⟨(some (false, 54)), .mv (.l 53), none⟩,
  ⟨(some (false, 55)), .mv (.g 13), (some (.l 54, false))⟩,
  ⟨(some (false, 56)), .bin .neq (.l 55) (.c (.lit (.int .i64 0))), (some (.l 54, false))⟩,
  ⟨(some (false, 57)), .pick (.l 54) (.c (.lit (.bool true))) (.l 56), none⟩,
  ⟨(some (false, 58)), .mv (.l 57), none⟩,
  ⟨(some (false, 59)), .mv (.g 12), (some (.l 58, false))⟩,
  ⟨(some (false, 60)), .len (.l 59), (some (.l 58, false))⟩,
  ⟨(some (false, 61)), .mv (.g 7), (some (.l 58, false))⟩,
  ⟨(some (false, 62)), .len (.l 61), (some (.l 58, false))⟩,
  ⟨(some (false, 63)), .bin .neq (.l 60) (.l 62), (some (.l 58, false))⟩,
  ⟨(some (false, 64)), .pick (.l 58) (.c (.lit (.bool true))) (.l 63), none⟩,
  ⟨(some (false, 65)), .mv (.l 64), none⟩,
  ⟨(some (false, 66)), .ld (some 2) (.g 10), (some (.l 65, false))⟩,
  ⟨(some (false, 67)), .mv (.g 8), (some (.l 65, false))⟩,
  ⟨(some (false, 68)), .call (.c (.fn 51 [])) [.l 66, .l 67], (some (.l 65, false))⟩,
  ⟨(some (false, 69)), .un .not (.l 68), (some (.l 65, false))⟩,
  ⟨(some (true, 70)), .pick (.l 65) (.c (.lit (.bool true))) (.l 69), none⟩])
(.cond (.g 70)
(.seq
(.reg [
  ⟨(some (true, 2)), .mv (.c (.lit (.bool false))), none⟩])
.ret)
.skip))
(.seq
(.seq
(.reg [
  ⟨(some (true, 14)), .mv (.c (.lit (.int .i64 0))), none⟩])
(.block 0
(.loop
(.seq
(.seq
(.reg [
  ⟨(some (false, 71)), .mv (.g 14), none⟩,
  ⟨(some (false, 72)), .mv (.g 12), none⟩,
  ⟨(some (false, 73)), .len (.l 72), none⟩,
  ⟨(some (true, 74)), .bin .lss (.l 71) (.l 73), none⟩])
(.cond (.g 74)
.skip
(.exit 0)))
(.seq
(.block 1
(.seq
(.draw [
  ⟨⟨(some (false, 77)), .mv (.g 7), none⟩, 0, true, []⟩,
  ⟨⟨(some (false, 78)), .mv (.g 14), none⟩, 1, true, []⟩,
  ⟨⟨(some (false, 79)), .ia 4 (.l 77) (.l 78), none⟩, 2, true, []⟩,
  ⟨⟨(some (false, 80)), .fa (.l 79) 0, none⟩, 3, true, []⟩,
  ⟨⟨(some (false, 81)), .ld none (.l 80), none⟩, 4, true, []⟩,
  ⟨⟨(some (false, 82)), .fa (.g 4) 5, none⟩, 5, true, []⟩,
  ⟨⟨(some (false, 83)), .ld none (.l 82), none⟩, 6, true, []⟩,
  ⟨⟨(some (false, 84)), .mv (.g 14), none⟩, 7, true, []⟩,
  ⟨⟨(some (false, 85)), .ia 4 (.l 83) (.l 84), none⟩, 8, true, []⟩,
  ⟨⟨(some (false, 86)), .fa (.l 85) 0, none⟩, 9, true, []⟩,
  ⟨⟨(some (false, 87)), .ld none (.l 86), none⟩, 10, true, []⟩,
  ⟨⟨(some (false, 88)), .bin .eql (.l 81) (.l 87), none⟩, 11, true, []⟩,
  ⟨⟨(some (true, 15)), .mv (.l 88), none⟩, 12, true, []⟩])
(.seq
(.reg [
  ⟨(some (false, 89)), .mv (.g 12), none⟩,
  ⟨(some (false, 90)), .mv (.g 14), none⟩,
  ⟨(some (false, 91)), .ia 1 (.l 89) (.l 90), none⟩,
  ⟨(some (false, 92)), .ld none (.l 91), none⟩,
  ⟨(some (false, 93)), .bin .eql (.l 92) (.c (.lit (.int .i64 1))), none⟩,
  ⟨(some (false, 94)), .mv (.l 93), none⟩,
  ⟨(some (false, 95)), .mv (.g 15), (some (.l 94, true))⟩,
  ⟨(some (false, 96)), .un .not (.l 95), (some (.l 94, true))⟩,
  ⟨(some (false, 97)), .pick (.l 94) (.l 96) (.c (.lit (.bool false))), none⟩,
  ⟨(some (false, 98)), .mv (.l 97), none⟩,
  ⟨(some (false, 99)), .mv (.g 12), (some (.l 98, false))⟩,
  ⟨(some (false, 100)), .mv (.g 14), (some (.l 98, false))⟩,
  ⟨(some (false, 101)), .ia 1 (.l 99) (.l 100), (some (.l 98, false))⟩,
  ⟨(some (false, 102)), .ld none (.l 101), (some (.l 98, false))⟩,
  ⟨(some (false, 103)), .bin .eql (.l 102) (.c (.lit (.int .i64 2))), (some (.l 98, false))⟩,
  ⟨(some (false, 104)), .mv (.l 103), (some (.l 98, false))⟩,
  ⟨(some (false, 105)), .mv (.g 15), (some (.l 104, true))⟩,
  ⟨(some (false, 106)), .pick (.l 104) (.l 105) (.c (.lit (.bool false))), (some (.l 98, false))⟩,
  ⟨(some (true, 107)), .pick (.l 98) (.c (.lit (.bool true))) (.l 106), none⟩])
(.cond (.g 107)
(.seq
(.reg [
  ⟨(some (true, 2)), .mv (.c (.lit (.bool false))), none⟩])
.ret)
.skip))))
(.reg [
  ⟨(some (false, 75)), .mv (.g 14), none⟩,
  ⟨(some (false, 76)), .bin .add (.l 75) (.c (.lit (.int .i64 1))), none⟩,
  ⟨(some (true, 14)), .mv (.l 76), none⟩]))))))
(.seq
(.reg [
  ⟨(some (false, 108)), .call (.c (.fn 17 [])) [], none⟩,
  ⟨(some (true, 2)), .mv (.l 108), none⟩])
.ret))))))))))
def K11 : List Nat := [0, 70, 74, 107, 2, 3, 4, 6, 5, 7, 8, 9, 10, 11, 12, 13, 14, 15]
noncomputable def b11 : Code := match Try.f11.body with | some c => c | none => .skip
theorem t11 : trCode ⟨Try.prog, K11, [], 109, none⟩ b11 = some c11 := by kernel_rfl
theorem go11 {args : List AV} {H : AHeap} {Kk : AV → AHeap → Prop} (hn : args.length = 1) (h : AGo ⟨Try.prog, K11, [], 109, none⟩ H.length [.code c11] (RetP [.t (.g 2)] H.length Kk) ⟨[], argsG 0 args⟩ H) : ACalls Try.prog 11 args H Kk :=
  ACalls_of Try.func11 (c := b11) rfl (by kernel_rfl) t11 (rs := [.t (.g 2)]) (by kernel_rfl) (by rw [hn]; exact Nat.le_of_ble_eq_true rfl) (by rw [hn]; rfl) (h.weaken (fun _ _ => RetP.hands) (by simp))

end Go.Sas
