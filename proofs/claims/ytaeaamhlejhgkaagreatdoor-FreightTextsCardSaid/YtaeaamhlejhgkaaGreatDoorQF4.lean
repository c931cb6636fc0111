/-
The code of some functions with its types resolved, printed by a program; that it is the code is checked by the kernel.
Conditions: none.
-/
import Derived.Test.YtaeaamhlejhgkaaGreatDoorP4
import Derived.Test.YtaeaamhlejhgkaaGreatDoorProg
set_option linter.unusedVariables false
set_option linter.unusedSimpArgs false
namespace Go.Sas
open Go.Proofs
set_option maxRecDepth 100000
/-- slices.Min[[]int,int] -/
def c49 : ACode :=
  (.seq
(.reg [
  ⟨(some (true, 2)), .mv (.c (.lit (.int .i64 0))), none⟩])
(.seq
(.seq
(.reg [
  ⟨(some (false, 5)), .mv (.g 0), none⟩,
  ⟨(some (false, 6)), .len (.l 5), none⟩,
  ⟨(some (true, 7)), .bin .lss (.l 6) (.c (.lit (.int .i64 1))), none⟩])
(.cond (.g 7)
(.other .skip)
.skip))
(.seq
(.reg [
  ⟨(some (false, 9)), .mv (.g 0), none⟩,
  ⟨(some (false, 10)), .ia 1 (.l 9) (.c (.lit (.int .i64 0))), none⟩,
  ⟨(some (false, 11)), .ld none (.l 10), none⟩,
  ⟨(some (true, 3)), .mv (.l 11), none⟩])
(.seq
(.seq
(.reg [
  ⟨(some (true, 4)), .mv (.c (.lit (.int .i64 1))), none⟩])
(.block 0
(.loop
(.seq
(.seq
(.reg [
  ⟨(some (false, 12)), .mv (.g 4), none⟩,
  ⟨(some (false, 13)), .mv (.g 0), none⟩,
  ⟨(some (false, 14)), .len (.l 13), none⟩,
  ⟨(some (true, 15)), .bin .lss (.l 12) (.l 14), none⟩])
(.cond (.g 15)
.skip
(.exit 0)))
(.seq
(.block 1
(.reg [
  ⟨(some (false, 18)), .mv (.g 3), none⟩,
  ⟨(some (false, 19)), .mv (.g 0), none⟩,
  ⟨(some (false, 20)), .mv (.g 4), none⟩,
  ⟨(some (false, 21)), .ia 1 (.l 19) (.l 20), none⟩,
  ⟨(some (false, 22)), .ld none (.l 21), none⟩,
  ⟨(some (false, 23)), .mn [.l 18, .l 22], none⟩,
  ⟨(some (true, 3)), .mv (.l 23), none⟩]))
(.reg [
  ⟨(some (false, 16)), .mv (.g 4), none⟩,
  ⟨(some (false, 17)), .bin .add (.l 16) (.c (.lit (.int .i64 1))), none⟩,
  ⟨(some (true, 4)), .mv (.l 17), none⟩]))))))
(.seq
(.reg [
  ⟨(some (false, 24)), .mv (.g 3), none⟩,
  ⟨(some (true, 2)), .mv (.l 24), none⟩])
.ret)))))
def K49 : List Nat := [0, 7, 15, 2, 3, 4]
noncomputable def b49 : Code := match Tryz.f49.body with | some c => c | none => .skip
theorem t49 : trCode ⟨Tryz.prog, K49, [], 25, none⟩ b49 = some c49 := by kernel_rfl
theorem go49 {args : List AV} {H : AHeap} {Kk : AV → AHeap → Prop} (hn : args.length = 1) (h : AGo ⟨Tryz.prog, K49, [], 25, none⟩ H.length [.code c49] (RetP [.t (.g 2)] H.length Kk) ⟨[], argsG 0 args⟩ H) : ACalls Tryz.prog 49 args H Kk :=
  ACalls_of Tryz.func49 (c := b49) rfl (by kernel_rfl) t49 (rs := [.t (.g 2)]) (by kernel_rfl) (by rw [hn]; exact Nat.le_of_ble_eq_true rfl) (by rw [hn]; rfl) (h.weaken (fun _ _ => RetP.hands) (by simp))

end Go.Sas
