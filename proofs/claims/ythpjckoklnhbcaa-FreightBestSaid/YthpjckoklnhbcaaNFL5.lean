/-
The code of some functions with its types resolved, printed by a program; that it is the code is checked by the kernel.
Conditions: none.
-/
import Derived.Test.YthpjckoklnhbcaaZ4
import Derived.Test.YthpjckoklnhbcaaProg
set_option linter.unusedVariables false
set_option linter.unusedSimpArgs false
namespace Go.Sas
open Go.Proofs
set_option maxRecDepth 100000
/-- sastrugi/sastrugilaw08.FreightBest -/
def c5 : ACode :=
  (.seq
(.reg [
  ⟨(some (true, 2)), .mv (.c (.lit (.bool false))), none⟩])
(.seq
(.reg [
  ⟨(some (false, 14)), .mv (.g 0), none⟩,
  ⟨(some (false, 15)), .call (.c (.fn 22 [])) [.l 14], none⟩,
  ⟨(some (false, 16)), .call (.c (.fn 23 [])) [.l 15, .c (.lit (.int .i64 10)), .c (.lit (.int .i64 5))], none⟩,
  ⟨(some (true, 3)), .new [.int .i64 0, .int .i64 0, .int .i64 0, .int .i64 0, .slice none 0 0, .slice none 0 0], none⟩,
  ⟨none, .st 6 (.g 3) (.l 16), none⟩])
(.seq
(.reg [
  ⟨(some (false, 18)), .ld (some 6) (.g 3), none⟩,
  ⟨(some (false, 19)), .call (.c (.fn 24 [])) [.l 18], none⟩,
  ⟨(some (false, 17)), .mv (.l 19), none⟩,
  ⟨(some (false, 20)), .ex (.l 17) 0, none⟩,
  ⟨(some (false, 21)), .ex (.l 17) 1, none⟩,
  ⟨(some (false, 22)), .ex (.l 17) 2, none⟩,
  ⟨(some (true, 4)), .mv (.l 20), none⟩,
  ⟨(some (true, 5)), .mv (.l 21), none⟩,
  ⟨(some (true, 6)), .mv (.l 22), none⟩])
(.seq
(.seq
(.reg [
  ⟨(some (false, 23)), .mv (.g 6), none⟩,
  ⟨(some (true, 24)), .bin .neq (.l 23) (.c (.lit (.int .i64 0))), none⟩])
(.cond (.g 24)
(.seq
(.reg [
  ⟨(some (true, 2)), .mv (.c (.lit (.bool false))), none⟩])
.ret)
.skip))
(.seq
(.reg [
  ⟨(some (false, 25)), .fa (.g 3) 5, none⟩,
  ⟨(some (false, 26)), .ld none (.l 25), none⟩,
  ⟨(some (false, 27)), .len (.l 26), none⟩,
  ⟨(some (false, 28)), .mksl 1 8 [.int .i64 0] (.l 27) (.l 27), none⟩,
  ⟨(some (true, 7)), .mv (.l 28), none⟩])
(.seq
(.seq
(.reg [
  ⟨(some (true, 8)), .mv (.c (.lit (.int .i64 0))), none⟩])
(.block 0
(.loop
(.seq
(.seq
(.reg [
  ⟨(some (false, 29)), .mv (.g 8), none⟩,
  ⟨(some (false, 30)), .mv (.g 7), none⟩,
  ⟨(some (false, 31)), .len (.l 30), none⟩,
  ⟨(some (true, 32)), .bin .lss (.l 29) (.l 31), none⟩])
(.cond (.g 32)
.skip
(.exit 0)))
(.seq
(.block 1
(.reg [
  ⟨(some (false, 35)), .mv (.g 7), none⟩,
  ⟨(some (false, 36)), .mv (.g 8), none⟩,
  ⟨(some (false, 37)), .mv (.g 8), none⟩,
  ⟨(some (false, 38)), .ia 1 (.l 35) (.l 36), none⟩,
  ⟨none, .st 1 (.l 38) (.l 37), none⟩]))
(.reg [
  ⟨(some (false, 33)), .mv (.g 8), none⟩,
  ⟨(some (false, 34)), .bin .add (.l 33) (.c (.lit (.int .i64 1))), none⟩,
  ⟨(some (true, 8)), .mv (.l 34), none⟩]))))))
(.seq
(.reg [
  ⟨(some (true, 9)), .mv (.c (.lit (.bool true))), none⟩])
(.seq
(.seq
(.reg [
  ⟨(some (true, 10)), .mv (.c (.lit (.bool true))), none⟩])
(.block 2
(.loop
(.seq
(.seq
(.reg [
  ⟨(some (true, 39)), .mv (.g 10), none⟩])
(.cond (.g 39)
.skip
(.exit 2)))
(.seq
(.block 3
(.seq
(.reg [
  ⟨(some (false, 43)), .ld (some 6) (.g 3), none⟩,
  ⟨(some (false, 44)), .mv (.g 7), none⟩,
  ⟨(some (false, 45)), .call (.c (.fn 30 [])) [.l 43, .l 44], none⟩,
  ⟨(some (false, 42)), .mv (.l 45), none⟩,
  ⟨(some (false, 46)), .ex (.l 42) 0, none⟩,
  ⟨(some (false, 47)), .ex (.l 42) 1, none⟩,
  ⟨(some (true, 11)), .new [.int .i64 0, .int .i64 0], none⟩,
  ⟨none, .st 2 (.g 11) (.l 46), none⟩,
  ⟨(some (true, 12)), .mv (.l 47), none⟩])
(.seq
(.reg [
  ⟨(some (false, 48)), .mv (.g 7), none⟩,
  ⟨(some (false, 49)), .mv (.g 4), none⟩,
  ⟨(some (false, 50)), .call (.c (.fn 28 [])) [.l 48, .l 49], none⟩,
  ⟨(some (true, 13)), .mv (.l 50), none⟩])
(.seq
(.reg [
  ⟨(some (false, 51)), .mv (.g 9), none⟩,
  ⟨(some (false, 52)), .mv (.l 51), none⟩,
  ⟨(some (false, 53)), .mv (.g 13), (some (.l 52, true))⟩,
  ⟨(some (false, 54)), .un .not (.l 53), (some (.l 52, true))⟩,
  ⟨(some (false, 55)), .pick (.l 52) (.l 54) (.c (.lit (.bool false))), none⟩,
  ⟨(some (true, 9)), .mv (.l 55), none⟩])
(.seq
(.reg [
  ⟨(some (false, 56)), .mv (.g 12), none⟩,
  ⟨(some (false, 57)), .bin .neq (.l 56) (.c (.lit (.int .i64 0))), none⟩,
  ⟨(some (false, 58)), .mv (.l 57), none⟩,
  ⟨(some (false, 59)), .mv (.g 13), (some (.l 58, false))⟩,
  ⟨(some (false, 60)), .mv (.l 59), (some (.l 58, false))⟩,
  ⟨(some (false, 61)), .fa (.g 11) 1, (some (.l 60, true))⟩,
  ⟨(some (false, 62)), .ld none (.l 61), (some (.l 60, true))⟩,
  ⟨(some (false, 63)), .mv (.g 5), (some (.l 60, true))⟩,
  ⟨(some (false, 64)), .bin .neq (.l 62) (.l 63), (some (.l 60, true))⟩,
  ⟨(some (false, 65)), .pick (.l 60) (.l 64) (.c (.lit (.bool false))), (some (.l 58, false))⟩,
  ⟨(some (false, 66)), .pick (.l 58) (.c (.lit (.bool true))) (.l 65), none⟩,
  ⟨(some (false, 67)), .mv (.l 66), none⟩,
  ⟨(some (false, 68)), .fa (.g 11) 1, (some (.l 67, false))⟩,
  ⟨(some (false, 69)), .ld none (.l 68), (some (.l 67, false))⟩,
  ⟨(some (false, 70)), .mv (.g 5), (some (.l 67, false))⟩,
  ⟨(some (false, 71)), .bin .lss (.l 69) (.l 70), (some (.l 67, false))⟩,
  ⟨(some (false, 72)), .pick (.l 67) (.c (.lit (.bool true))) (.l 71), none⟩,
  ⟨(some (false, 73)), .mv (.l 72), none⟩,
  ⟨(some (false, 74)), .mv (.g 9), (some (.l 73, false))⟩,
  ⟨(some (false, 75)), .mv (.l 74), (some (.l 73, false))⟩,
  ⟨(some (false, 76)), .fa (.g 11) 1, (some (.l 75, true))⟩,
  ⟨(some (false, 77)), .ld none (.l 76), (some (.l 75, true))⟩,
  ⟨(some (false, 78)), .mv (.g 5), (some (.l 75, true))⟩,
  ⟨(some (false, 79)), .bin .eql (.l 77) (.l 78), (some (.l 75, true))⟩,
  ⟨(some (false, 80)), .pick (.l 75) (.l 79) (.c (.lit (.bool false))), (some (.l 73, false))⟩,
  ⟨(some (true, 81)), .pick (.l 73) (.c (.lit (.bool true))) (.l 80), none⟩])
(.cond (.g 81)
(.seq
(.reg [
  ⟨(some (true, 2)), .mv (.c (.lit (.bool false))), none⟩])
.ret)
.skip))))))
(.reg [
  ⟨(some (false, 40)), .mv (.g 7), none⟩,
  ⟨(some (false, 41)), .call (.c (.fn 29 [])) [.l 40], none⟩,
  ⟨(some (true, 10)), .mv (.l 41), none⟩]))))))
(.seq
(.reg [
  ⟨(some (false, 82)), .mv (.g 9), none⟩,
  ⟨(some (false, 83)), .un .not (.l 82), none⟩,
  ⟨(some (false, 84)), .mv (.l 83), none⟩,
  ⟨(some (false, 85)), .call (.c (.fn 17 [])) [], (some (.l 84, true))⟩,
  ⟨(some (false, 86)), .pick (.l 84) (.l 85) (.c (.lit (.bool false))), none⟩,
  ⟨(some (true, 2)), .mv (.l 86), none⟩])
.ret)))))))))
def K5 : List Nat := [0, 24, 32, 39, 81, 2, 3, 4, 5, 6, 7, 8, 9, 10, 11, 12, 13]
noncomputable def b5 : Code := match Try.f5.body with | some c => c | none => .skip
theorem t5 : trCode ⟨Try.prog, K5, [], 87, none⟩ b5 = some c5 := by kernel_rfl
theorem go5 {args : List AV} {H : AHeap} {Kk : AV → AHeap → Prop} (hn : args.length = 1) (h : AGo ⟨Try.prog, K5, [], 87, none⟩ H.length [.code c5] (RetP [.t (.g 2)] H.length Kk) ⟨[], argsG 0 args⟩ H) : ACalls Try.prog 5 args H Kk :=
  ACalls_of Try.func5 (c := b5) rfl (by kernel_rfl) t5 (rs := [.t (.g 2)]) (by kernel_rfl) (by rw [hn]; exact Nat.le_of_ble_eq_true rfl) (by rw [hn]; rfl) (h.weaken (fun _ _ => RetP.hands) (by simp))

end Go.Sas
