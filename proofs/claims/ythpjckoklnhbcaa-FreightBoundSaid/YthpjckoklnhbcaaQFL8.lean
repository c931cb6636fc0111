/-
The code of some functions with its types resolved, printed by a program; that it is the code is checked by the kernel.
Conditions: none.
-/
import Derived.Test.YthpjckoklnhbcaaH4
import Derived.Test.YthpjckoklnhbcaaProg
set_option linter.unusedVariables false
set_option linter.unusedSimpArgs false
namespace Go.Sas
open Go.Proofs
set_option maxRecDepth 100000
/-- sastrugi/sastrugilaw08.FreightBound -/
def c8 : ACode :=
  (.seq
(.reg [
  ⟨(some (true, 2)), .mv (.c (.lit (.bool false))), none⟩])
(.seq
(.reg [
  ⟨(some (false, 15)), .mv (.g 0), none⟩,
  ⟨(some (false, 16)), .call (.c (.fn 22 [])) [.l 15], none⟩,
  ⟨(some (true, 3)), .mv (.l 16), none⟩])
(.seq
(.reg [
  ⟨(some (false, 17)), .mv (.g 3), none⟩,
  ⟨(some (false, 18)), .call (.c (.fn 23 [])) [.l 17, .c (.lit (.int .i64 12)), .c (.lit (.int .i64 5))], none⟩,
  ⟨(some (true, 4)), .new [.int .i64 0, .int .i64 0, .int .i64 0, .int .i64 0, .slice none 0 0, .slice none 0 0], none⟩,
  ⟨none, .st 6 (.g 4) (.l 18), none⟩])
(.seq
(.reg [
  ⟨(some (false, 19)), .ld (some 6) (.g 4), none⟩,
  ⟨(some (false, 20)), .call (.c (.fn 41 [])) [.l 19], none⟩,
  ⟨(some (true, 5)), .new [.int .i64 0, .int .i64 0, .slice none 0 0], none⟩,
  ⟨none, .st 3 (.g 5) (.l 20), none⟩])
(.seq
(.reg [
  ⟨(some (false, 21)), .mv (.g 3), none⟩,
  ⟨(some (false, 22)), .ld (some 6) (.g 4), none⟩,
  ⟨(some (false, 23)), .ld (some 3) (.g 5), none⟩,
  ⟨(some (false, 24)), .call (.c (.fn 42 [])) [.l 21, .l 22, .l 23], none⟩,
  ⟨(some (true, 6)), .mv (.l 24), none⟩])
(.seq
(.reg [
  ⟨(some (false, 26)), .ld (some 6) (.g 4), none⟩,
  ⟨(some (false, 27)), .call (.c (.fn 26 [])) [.l 26], none⟩,
  ⟨(some (false, 25)), .mv (.l 27), none⟩,
  ⟨(some (false, 28)), .ex (.l 25) 0, none⟩,
  ⟨(some (false, 29)), .ex (.l 25) 1, none⟩,
  ⟨(some (true, 7)), .mv (.l 28), none⟩,
  ⟨(some (true, 8)), .mv (.l 29), none⟩])
(.seq
(.reg [
  ⟨(some (false, 31)), .ld (some 6) (.g 4), none⟩,
  ⟨(some (false, 32)), .ld (some 3) (.g 5), none⟩,
  ⟨(some (false, 33)), .mv (.g 6), none⟩,
  ⟨(some (false, 34)), .call (.c (.fn 43 [])) [.l 31, .l 32, .l 33], none⟩,
  ⟨(some (false, 30)), .mv (.l 34), none⟩,
  ⟨(some (false, 35)), .ex (.l 30) 0, none⟩,
  ⟨(some (false, 36)), .ex (.l 30) 1, none⟩,
  ⟨(some (false, 37)), .ex (.l 30) 2, none⟩,
  ⟨(some (false, 9)), .mv (.l 35), none⟩,
  ⟨(some (true, 10)), .mv (.l 36), none⟩,
  ⟨(some (true, 11)), .mv (.l 37), none⟩])
(.seq
(.reg [
  ⟨(some (false, 39)), .ld (some 6) (.g 4), none⟩,
  ⟨(some (false, 40)), .call (.c (.fn 24 [])) [.l 39], none⟩,
  ⟨(some (false, 38)), .mv (.l 40), none⟩,
  ⟨(some (false, 41)), .ex (.l 38) 0, none⟩,
  ⟨(some (false, 42)), .ex (.l 38) 1, none⟩,
  ⟨(some (false, 43)), .ex (.l 38) 2, none⟩,
  ⟨(some (false, 12)), .mv (.l 41), none⟩,
  ⟨(some (true, 13)), .mv (.l 42), none⟩,
  ⟨(some (true, 14)), .mv (.l 43), none⟩])
(.seq
(.reg [
  ⟨(some (false, 44)), .mv (.g 8), none⟩,
  ⟨(some (false, 45)), .bin .eql (.l 44) (.c (.lit (.int .i64 0))), none⟩,
  ⟨(some (false, 46)), .mv (.l 45), none⟩,
  ⟨(some (false, 47)), .mv (.g 11), (some (.l 46, true))⟩,
  ⟨(some (false, 48)), .bin .eql (.l 47) (.c (.lit (.int .i64 0))), (some (.l 46, true))⟩,
  ⟨(some (false, 49)), .pick (.l 46) (.l 48) (.c (.lit (.bool false))), none⟩,
  ⟨(some (false, 50)), .mv (.l 49), none⟩,
  ⟨(some (false, 51)), .mv (.g 14), (some (.l 50, true))⟩,
  ⟨(some (false, 52)), .bin .eql (.l 51) (.c (.lit (.int .i64 0))), (some (.l 50, true))⟩,
  ⟨(some (false, 53)), .pick (.l 50) (.l 52) (.c (.lit (.bool false))), none⟩,
  ⟨(some (false, 54)), .mv (.l 53), none⟩,
  ⟨(some (false, 55)), .mv (.g 10), (some (.l 54, true))⟩,
  ⟨(some (false, 56)), .mv (.g 7), (some (.l 54, true))⟩,
  ⟨(some (false, 57)), .bin .geq (.l 55) (.l 56), (some (.l 54, true))⟩,
  ⟨(some (false, 58)), .pick (.l 54) (.l 57) (.c (.lit (.bool false))), none⟩,
  ⟨(some (false, 59)), .mv (.l 58), none⟩,
  ⟨(some (false, 60)), .mv (.g 13), (some (.l 59, true))⟩,
  ⟨(some (false, 61)), .mv (.g 7), (some (.l 59, true))⟩,
  ⟨(some (false, 62)), .bin .geq (.l 60) (.l 61), (some (.l 59, true))⟩,
  ⟨(some (false, 63)), .pick (.l 59) (.l 62) (.c (.lit (.bool false))), none⟩,
  ⟨(some (false, 64)), .mv (.l 63), none⟩,
  ⟨(some (false, 65)), .call (.c (.fn 17 [])) [], (some (.l 64, true))⟩,
  ⟨(some (false, 66)), .pick (.l 64) (.l 65) (.c (.lit (.bool false))), none⟩,
  ⟨(some (true, 2)), .mv (.l 66), none⟩])
.ret)))))))))
def K8 : List Nat := [0, 2, 3, 4, 5, 6, 7, 8, 10, 11, 13, 14]
noncomputable def b8 : Code := match Try.f8.body with | some c => c | none => .skip
theorem t8 : trCode ⟨Try.prog, K8, [], 67, none⟩ b8 = some c8 := by kernel_rfl
theorem go8 {args : List AV} {H : AHeap} {Kk : AV → AHeap → Prop} (hn : args.length = 1) (h : AGo ⟨Try.prog, K8, [], 67, none⟩ H.length [.code c8] (RetP [.t (.g 2)] H.length Kk) ⟨[], argsG 0 args⟩ H) : ACalls Try.prog 8 args H Kk :=
  ACalls_of Try.func8 (c := b8) rfl (by kernel_rfl) t8 (rs := [.t (.g 2)]) (by kernel_rfl) (by rw [hn]; exact Nat.le_of_ble_eq_true rfl) (by rw [hn]; rfl) (h.weaken (fun _ _ => RetP.hands) (by simp))

end Go.Sas
