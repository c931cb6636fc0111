/-
The code of some functions with its types resolved, printed by a program; that it is the code is checked by the kernel.
Conditions: none.
-/
import Derived.Test.YtelmlpjkpebcgaaH4
import Derived.Test.YtelmlpjkpebcgaaProg
set_option linter.unusedVariables false
set_option linter.unusedSimpArgs false
namespace Go.Sas
open Go.Proofs
set_option maxRecDepth 100000
/-- sastrugi/sastrugilaw03.plate -/
def c79m : ACode :=
  (.seq
(.reg [
  ⟨(some (true, 0)), .new [.int .i64 0, .int .i64 0, .slice none 0 0, .slice none 0 0, .int .i64 0, .int .i64 0, .int .i64 0, .int .i64 0, .int .i64 0, .int .i64 0, .int .i64 0], none⟩])
(.seq
(.reg [
  ⟨(some (false, 1)), .call (.c (.fn 51 [])) [.c (.lit (.int .i64 40000)), .c (.lit (.int .i64 50000))], none⟩,
  ⟨(some (false, 2)), .mk [.int .i64 0, .int .i64 0] [(1, 1, .c (.lit (.int .i64 1000000)))], none⟩,
  ⟨(some (false, 3)), .mk [.int .i64 0, .int .i64 0] [(0, 1, .c (.lit (.int .i64 20))), (1, 1, .c (.lit (.int .i64 500000)))], none⟩,
  ⟨(some (false, 4)), .mk [.int .i64 0, .int .i64 0] [(0, 1, .c (.lit (.int .i64 100)))], none⟩,
  ⟨(some (false, 5)), .mks true 2 [.l 2, .l 3, .l 4], none⟩,
  ⟨(some (false, 6)), .mk [.int .i64 0, .int .i64 0] [(1, 1, .c (.lit (.int .i64 1000000)))], none⟩,
  ⟨(some (false, 7)), .mk [.int .i64 0, .int .i64 0] [(0, 1, .c (.lit (.int .i64 60))), (1, 1, .c (.lit (.int .i64 640000)))], none⟩,
  ⟨(some (false, 8)), .mk [.int .i64 0, .int .i64 0] [(0, 1, .c (.lit (.int .i64 600))), (1, 1, .c (.lit (.int .i64 250000)))], none⟩,
  ⟨(some (false, 9)), .mks false 2 [.l 6, .l 7, .l 8], none⟩,
  ⟨(some (false, 10)), .mk [.int .i64 0, .int .i64 0, .slice none 0 0, .slice none 0 0, .int .i64 0, .int .i64 0, .int .i64 0, .int .i64 0, .int .i64 0, .int .i64 0, .int .i64 0] [(0, 2, .l 1), (2, 1, .l 5), (3, 1, .l 9), (4, 1, .c (.lit (.int .i64 5))), (5, 1, .c (.lit (.int .i64 500000))), (6, 1, .c (.lit (.int .i64 98))), (7, 1, .c (.lit (.int .i64 640000))), (8, 1, .c (.lit (.int .i64 1440000))), (9, 1, .c (.lit (.int .i64 50))), (10, 1, .c (.lit (.int .i64 250000)))], none⟩,
  ⟨none, .st 11 (.g 0) (.l 10), none⟩])
.ret))
def K79m : List Nat := [0]
noncomputable def b79m : Code := match Try.f79.body with | some c => c | none => .skip
theorem t79m : trCode ⟨Try.prog, K79m, [5], 11, none⟩ b79m = some c79m := by kernel_rfl
theorem go79m {args : List AV} {H : AHeap} {Kk : AV → AHeap → Prop} (hn : args.length = 0) (h : AGo ⟨Try.prog, K79m, [5], 11, none⟩ H.length [.code c79m] (RetP [.cell (.g 0) (some 11)] H.length Kk) ⟨[], argsG 0 args⟩ H) : ACalls Try.prog 79 args H Kk :=
  ACalls_of Try.func79 (c := b79m) rfl (by kernel_rfl) t79m (rs := [.cell (.g 0) (some 11)]) (by kernel_rfl) (by rw [hn]; exact Nat.le_of_ble_eq_true rfl) (by rw [hn]; rfl) (h.weaken (fun _ _ => RetP.hands) (by simp))

end Go.Sas
