/-
The code of some functions with its types resolved, printed by a program; that it is the code is checked by the kernel.
Conditions: none.
-/
import Derived.Test.YtaeaamhlejhgkaaGreatDoorP4
import Derived.Test.YtaeaamhlejhgkaaGreatDoorProg
set_option linter.unusedVariables false
set_option linter.unusedSimpArgs false
namespace Go.Sas
open Go.Proofs
set_option maxRecDepth 100000
/-- sastrugi/freight.numbers -/
def c59m : ACode :=
  (.seq
(.reg [
  ⟨(some (true, 6)), .mv (.c (.lit (.slice none 0 0))), none⟩,
  ⟨(some (true, 7)), .mv (.c (.lit (.bool false))), none⟩])
(.seq
(.reg [
  ⟨(some (false, 14)), .mv (.g 0), none⟩,
  ⟨(some (false, 15)), .call (.c (.fn 36 [])) [.l 14, .c (.lit (.string ⟨[32].toArray⟩))], none⟩,
  ⟨(some (true, 8)), .mv (.l 15), none⟩])
(.seq
(.seq
(.reg [
  ⟨(some (false, 16)), .mv (.g 8), none⟩,
  ⟨(some (false, 17)), .ia 1 (.l 16) (.c (.lit (.int .i64 0))), none⟩,
  ⟨(some (false, 18)), .ld none (.l 17), none⟩,
  ⟨(some (false, 19)), .mv (.g 1), none⟩,
  ⟨(some (false, 20)), .bin .neq (.l 18) (.l 19), none⟩,
  ⟨(some (false, 21)), .mv (.l 20), none⟩,
  ⟨(some (false, 22)), .mv (.g 8), (some (.l 21, false))⟩,
  ⟨(some (false, 23)), .len (.l 22), (some (.l 21, false))⟩,
  ⟨(some (false, 24)), .mv (.g 2), (some (.l 21, false))⟩,
  ⟨(some (false, 25)), .bin .add (.l 24) (.c (.lit (.int .i64 1))), (some (.l 21, false))⟩,
  ⟨(some (false, 26)), .bin .neq (.l 23) (.l 25), (some (.l 21, false))⟩,
  ⟨(some (true, 27)), .pick (.l 21) (.c (.lit (.bool true))) (.l 26), none⟩])
(.cond (.g 27)
(.seq
(.reg [
  ⟨(some (true, 6)), .mv (.c (.lit (.slice none 0 0))), none⟩,
  ⟨(some (true, 7)), .mv (.c (.lit (.bool false))), none⟩])
.ret)
.skip))
(.seq
(.reg [
  ⟨(some (true, 9)), .mv (.c (.lit (.slice none 0 0))), none⟩])
(.seq
(.seq
(.reg [
  ⟨(some (false, 28)), .mv (.g 8), none⟩,
  ⟨(some (true, 29)), .sl 1 (.l 28) (some (.c (.lit (.int .i64 1)))) none none, none⟩,
  ⟨(some (true, 30)), .len (.g 29), none⟩,
  ⟨(some (true, 31)), .mv (.c (.lit (.int .i64 0))), none⟩])
(.block 0
(.loop
(.seq
(.reg [
  ⟨(some (true, 32)), .bin .lss (.g 31) (.g 30), none⟩])
(.seq
(.cond (.g 32)
.skip
(.exit 0))
(.seq
(.block 1
(.seq
(.reg [
  ⟨(some (false, 33)), .ia 1 (.g 29) (.g 31), none⟩,
  ⟨(some (false, 34)), .ld none (.l 33), none⟩,
  ⟨(some (true, 11)), .mv (.l 34), none⟩])
(.seq
(.reg [
  ⟨(some (false, 36)), .mv (.g 11), none⟩,
  ⟨(some (false, 37)), .call (.c (.fn 77 [])) [.l 36], none⟩,
  ⟨(some (false, 35)), .mv (.l 37), none⟩,
  ⟨(some (false, 38)), .ex (.l 35) 0, none⟩,
  ⟨(some (false, 39)), .ex (.l 35) 1, none⟩,
  ⟨(some (true, 12)), .mv (.l 38), none⟩,
  ⟨(some (true, 13)), .mv (.l 39), none⟩])
(.seq
(.seq
(.reg [
  ⟨(some (false, 40)), .mv (.g 13), none⟩,
  ⟨(some (false, 41)), .eqi true (.l 40), none⟩,
  ⟨(some (false, 42)), .mv (.l 41), none⟩,
  ⟨(some (false, 43)), .mv (.g 12), (some (.l 42, false))⟩,
  ⟨(some (false, 44)), .bin .lss (.l 43) (.c (.lit (.int .i64 0))), (some (.l 42, false))⟩,
  ⟨(some (false, 45)), .pick (.l 42) (.c (.lit (.bool true))) (.l 44), none⟩,
  ⟨(some (false, 46)), .mv (.l 45), none⟩,
  ⟨(some (false, 47)), .mv (.g 11), (some (.l 46, false))⟩,
  ⟨(some (false, 48)), .lens (.l 47), (some (.l 46, false))⟩,
  ⟨(some (false, 49)), .bin .gtr (.l 48) (.c (.lit (.int .i64 9))), (some (.l 46, false))⟩,
  ⟨(some (false, 50)), .pick (.l 46) (.c (.lit (.bool true))) (.l 49), none⟩,
  ⟨(some (false, 51)), .mv (.l 50), none⟩,
  ⟨(some (false, 52)), .mv (.g 12), (some (.l 51, false))⟩,
  ⟨(some (false, 53)), .call (.c (.fn 30 [])) [.l 52], (some (.l 51, false))⟩,
  ⟨(some (false, 54)), .mv (.g 11), (some (.l 51, false))⟩,
  ⟨(some (false, 55)), .bin .neq (.l 53) (.l 54), (some (.l 51, false))⟩,
  ⟨(some (true, 56)), .pick (.l 51) (.c (.lit (.bool true))) (.l 55), none⟩])
(.cond (.g 56)
(.seq
(.reg [
  ⟨(some (true, 6)), .mv (.c (.lit (.slice none 0 0))), none⟩,
  ⟨(some (true, 7)), .mv (.c (.lit (.bool false))), none⟩])
.ret)
.skip))
(.reg [
  ⟨(some (false, 57)), .mv (.g 9), none⟩,
  ⟨(some (false, 58)), .mv (.g 12), none⟩,
  ⟨(some (false, 59)), .mks false 1 [.l 58], none⟩,
  ⟨(some (false, 60)), .app 1 8 (.l 57) (.l 59), none⟩,
  ⟨(some (true, 9)), .mv (.l 60), none⟩])))))
(.reg [
  ⟨(some (false, 61)), .bin .add (.g 31) (.c (.lit (.int .i64 1))), none⟩,
  ⟨(some (true, 31)), .mv (.l 61), none⟩])))))))
(.seq
(.reg [
  ⟨(some (false, 62)), .mv (.g 9), none⟩,
  ⟨(some (true, 6)), .mv (.l 62), none⟩,
  ⟨(some (true, 7)), .mv (.c (.lit (.bool true))), none⟩])
.ret))))))
def K59m : List Nat := [0, 1, 2, 27, 32, 56, 6, 7, 8, 9, 29, 30, 31, 11, 12, 13]
noncomputable def b59m : Code := match Tryz.f59.body with | some c => c | none => .skip
theorem t59m : trCode ⟨Tryz.prog, K59m, [9], 63, none⟩ b59m = some c59m := by kernel_rfl
theorem go59m {args : List AV} {H : AHeap} {Kk : AV → AHeap → Prop} (hn : args.length = 3) (h : AGo ⟨Tryz.prog, K59m, [9], 63, none⟩ H.length [.code c59m] (RetP [.t (.g 6), .t (.g 7)] H.length Kk) ⟨[], argsG 0 args⟩ H) : ACalls Tryz.prog 59 args H Kk :=
  ACalls_of Tryz.func59 (c := b59m) rfl (by kernel_rfl) t59m (rs := [.t (.g 6), .t (.g 7)]) (by kernel_rfl) (by rw [hn]; exact Nat.le_of_ble_eq_true rfl) (by rw [hn]; rfl) (h.weaken (fun _ _ => RetP.hands) (by simp))

end Go.Sas
