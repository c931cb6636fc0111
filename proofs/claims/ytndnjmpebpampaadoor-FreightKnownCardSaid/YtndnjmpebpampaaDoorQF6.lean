/-
The code of some functions with its types resolved, printed by a program; that it is the code is checked by the kernel.
Conditions: none.
-/
import Derived.Test.YtndnjmpebpampaaDoorP4f
import Derived.Test.YtndnjmpebpampaaDoorProg
set_option linter.unusedVariables false
set_option linter.unusedSimpArgs false
namespace Go.Sas
open Go.Proofs
set_option maxRecDepth 100000
/-- math/bits.Mul -/
def c69 : ACode :=
  (.seq
(.reg [
  ⟨(some (true, 4)), .mv (.c (.lit (.int .u64 0))), none⟩,
  ⟨(some (true, 5)), .mv (.c (.lit (.int .u64 0))), none⟩])
(.seq
(.cond (.c (.lit (.bool false)))
(.seq
(.reg [
  ⟨(some (false, 11)), .mv (.g 0), none⟩,
  ⟨(some (false, 12)), .cv .u32 (.l 11), none⟩,
  ⟨(some (false, 13)), .mv (.g 1), none⟩,
  ⟨(some (false, 14)), .cv .u32 (.l 13), none⟩,
  ⟨(some (false, 15)), .call (.c (.fn 75 [])) [.l 12, .l 14], none⟩,
  ⟨(some (false, 10)), .mv (.l 15), none⟩,
  ⟨(some (false, 16)), .ex (.l 10) 0, none⟩,
  ⟨(some (false, 17)), .ex (.l 10) 1, none⟩,
  ⟨(some (true, 6)), .mv (.l 16), none⟩,
  ⟨(some (true, 7)), .mv (.l 17), none⟩])
(.seq
(.reg [
  ⟨(some (false, 18)), .mv (.g 6), none⟩,
  ⟨(some (false, 19)), .cv .u64 (.l 18), none⟩,
  ⟨(some (false, 20)), .mv (.g 7), none⟩,
  ⟨(some (false, 21)), .cv .u64 (.l 20), none⟩,
  ⟨(some (true, 4)), .mv (.l 19), none⟩,
  ⟨(some (true, 5)), .mv (.l 21), none⟩])
.ret))
.skip)
(.seq
(.reg [
  ⟨(some (false, 23)), .mv (.g 0), none⟩,
  ⟨(some (false, 24)), .mv (.g 1), none⟩,
  ⟨(some (false, 25)), .call (.c (.fn 76 [])) [.l 23, .l 24], none⟩,
  ⟨(some (false, 22)), .mv (.l 25), none⟩,
  ⟨(some (false, 26)), .ex (.l 22) 0, none⟩,
  ⟨(some (false, 27)), .ex (.l 22) 1, none⟩,
  ⟨(some (true, 8)), .mv (.l 26), none⟩,
  ⟨(some (true, 9)), .mv (.l 27), none⟩])
(.seq
(.reg [
  ⟨(some (false, 28)), .mv (.g 8), none⟩,
  ⟨(some (false, 29)), .mv (.g 9), none⟩,
  ⟨(some (true, 4)), .mv (.l 28), none⟩,
  ⟨(some (true, 5)), .mv (.l 29), none⟩])
.ret))))
def K69 : List Nat := [0, 1, 4, 5, 6, 7, 8, 9]
noncomputable def b69 : Code := match Tryd.f69.body with | some c => c | none => .skip
theorem t69 : trCode ⟨Tryd.prog, K69, [], 30, none⟩ b69 = some c69 := by kernel_rfl
theorem go69 {args : List AV} {H : AHeap} {Kk : AV → AHeap → Prop} (hn : args.length = 2) (h : AGo ⟨Tryd.prog, K69, [], 30, none⟩ H.length [.code c69] (RetP [.t (.g 4), .t (.g 5)] H.length Kk) ⟨[], argsG 0 args⟩ H) : ACalls Tryd.prog 69 args H Kk :=
  ACalls_of Tryd.func69 (c := b69) rfl (by kernel_rfl) t69 (rs := [.t (.g 4), .t (.g 5)]) (by kernel_rfl) (by rw [hn]; exact Nat.le_of_ble_eq_true rfl) (by rw [hn]; rfl) (h.weaken (fun _ _ => RetP.hands) (by simp))

/-- math/bits.Mul64 -/
def c76 : ACode :=
  (.seq
(.reg [
  ⟨(some (true, 4)), .mv (.c (.lit (.int .u64 0))), none⟩,
  ⟨(some (true, 5)), .mv (.c (.lit (.int .u64 0))), none⟩])
(.seq
(.reg [
  ⟨(some (false, 14)), .mv (.g 0), none⟩,
  ⟨(some (false, 15)), .bin .and (.l 14) (.c (.lit (.int .u64 4294967295))), none⟩,
  ⟨(some (true, 6)), .mv (.l 15), none⟩])
(.seq
(.reg [
  ⟨(some (false, 16)), .mv (.g 0), none⟩,
  ⟨(some (false, 17)), .bin .shr (.l 16) (.c (.lit (.int .u64 32))), none⟩,
  ⟨(some (true, 7)), .mv (.l 17), none⟩])
(.seq
(.reg [
  ⟨(some (false, 18)), .mv (.g 1), none⟩,
  ⟨(some (false, 19)), .bin .and (.l 18) (.c (.lit (.int .u64 4294967295))), none⟩,
  ⟨(some (true, 8)), .mv (.l 19), none⟩])
(.seq
(.reg [
  ⟨(some (false, 20)), .mv (.g 1), none⟩,
  ⟨(some (false, 21)), .bin .shr (.l 20) (.c (.lit (.int .u64 32))), none⟩,
  ⟨(some (true, 9)), .mv (.l 21), none⟩])
(.seq
(.reg [
  ⟨(some (false, 22)), .mv (.g 6), none⟩,
  ⟨(some (false, 23)), .mv (.g 8), none⟩,
  ⟨(some (false, 24)), .bin .mul (.l 22) (.l 23), none⟩,
  ⟨(some (true, 10)), .mv (.l 24), none⟩])
(.seq
(.reg [
  ⟨(some (false, 25)), .mv (.g 7), none⟩,
  ⟨(some (false, 26)), .mv (.g 8), none⟩,
  ⟨(some (false, 27)), .bin .mul (.l 25) (.l 26), none⟩,
  ⟨(some (false, 28)), .mv (.g 10), none⟩,
  ⟨(some (false, 29)), .bin .shr (.l 28) (.c (.lit (.int .u64 32))), none⟩,
  ⟨(some (false, 30)), .bin .add (.l 27) (.l 29), none⟩,
  ⟨(some (true, 11)), .mv (.l 30), none⟩])
(.seq
(.reg [
  ⟨(some (false, 31)), .mv (.g 11), none⟩,
  ⟨(some (false, 32)), .bin .and (.l 31) (.c (.lit (.int .u64 4294967295))), none⟩,
  ⟨(some (true, 12)), .mv (.l 32), none⟩])
(.seq
(.reg [
  ⟨(some (false, 33)), .mv (.g 11), none⟩,
  ⟨(some (false, 34)), .bin .shr (.l 33) (.c (.lit (.int .u64 32))), none⟩,
  ⟨(some (true, 13)), .mv (.l 34), none⟩])
(.seq
(.reg [
  ⟨(some (false, 35)), .mv (.g 12), none⟩,
  ⟨(some (false, 36)), .mv (.g 6), none⟩,
  ⟨(some (false, 37)), .mv (.g 9), none⟩,
  ⟨(some (false, 38)), .bin .mul (.l 36) (.l 37), none⟩,
  ⟨(some (false, 39)), .bin .add (.l 35) (.l 38), none⟩,
  ⟨(some (true, 12)), .mv (.l 39), none⟩])
(.seq
(.reg [
  ⟨(some (false, 40)), .mv (.g 7), none⟩,
  ⟨(some (false, 41)), .mv (.g 9), none⟩,
  ⟨(some (false, 42)), .bin .mul (.l 40) (.l 41), none⟩,
  ⟨(some (false, 43)), .mv (.g 13), none⟩,
  ⟨(some (false, 44)), .bin .add (.l 42) (.l 43), none⟩,
  ⟨(some (false, 45)), .mv (.g 12), none⟩,
  ⟨(some (false, 46)), .bin .shr (.l 45) (.c (.lit (.int .u64 32))), none⟩,
  ⟨(some (false, 47)), .bin .add (.l 44) (.l 46), none⟩,
  ⟨(some (true, 4)), .mv (.l 47), none⟩])
(.seq
(.reg [
  ⟨(some (false, 48)), .mv (.g 0), none⟩,
  ⟨(some (false, 49)), .mv (.g 1), none⟩,
  ⟨(some (false, 50)), .bin .mul (.l 48) (.l 49), none⟩,
  ⟨(some (true, 5)), .mv (.l 50), none⟩])
.ret))))))))))))
def K76 : List Nat := [0, 1, 4, 5, 6, 7, 8, 9, 10, 11, 12, 13]
noncomputable def b76 : Code := match Tryd.f76.body with | some c => c | none => .skip
theorem t76 : trCode ⟨Tryd.prog, K76, [], 51, none⟩ b76 = some c76 := by kernel_rfl
theorem go76 {args : List AV} {H : AHeap} {Kk : AV → AHeap → Prop} (hn : args.length = 2) (h : AGo ⟨Tryd.prog, K76, [], 51, none⟩ H.length [.code c76] (RetP [.t (.g 4), .t (.g 5)] H.length Kk) ⟨[], argsG 0 args⟩ H) : ACalls Tryd.prog 76 args H Kk :=
  ACalls_of Tryd.func76 (c := b76) rfl (by kernel_rfl) t76 (rs := [.t (.g 4), .t (.g 5)]) (by kernel_rfl) (by rw [hn]; exact Nat.le_of_ble_eq_true rfl) (by rw [hn]; rfl) (h.weaken (fun _ _ => RetP.hands) (by simp))

end Go.Sas
