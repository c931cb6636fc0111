/-
The code of some functions with its types resolved, printed by a program; that it is the code is checked by the kernel.
Conditions: none.
-/
import Derived.Test.YtelmlpjkpebcgaaH4
import Derived.Test.YtelmlpjkpebcgaaProg
set_option linter.unusedVariables false
set_option linter.unusedSimpArgs false
namespace Go.Sas
open Go.Proofs
set_option maxRecDepth 100000
/-- (sastrugi/bear.waves).sure -/
def c100 : ACode :=
  (.seq
(.reg [
  ⟨(some (true, 2)), .box (.g 0), none⟩,
  ⟨(some (true, 3)), .box (.g 1), none⟩,
  ⟨(some (true, 4)), .mv (.c (.lit (.nilFunc))), none⟩])
(.seq
(.reg [
  ⟨(some (false, 5)), .mkf 138 [.g 2, .g 3], none⟩,
  ⟨(some (true, 4)), .mv (.l 5), none⟩])
.ret))
def K100 : List Nat := [0, 1, 4, 2, 3]
noncomputable def b100 : Code := match Try.f100.body with | some c => c | none => .skip
theorem t100 : trCode ⟨Try.prog, K100, [], 6, none⟩ b100 = some c100 := by kernel_rfl
theorem go100 {args : List AV} {H : AHeap} {Kk : AV → AHeap → Prop} (hn : args.length = 2) (h : AGo ⟨Try.prog, K100, [], 6, none⟩ H.length [.code c100] (RetP [.t (.g 4)] H.length Kk) ⟨[], argsG 0 args⟩ H) : ACalls Try.prog 100 args H Kk :=
  ACalls_of Try.func100 (c := b100) rfl (by kernel_rfl) t100 (rs := [.t (.g 4)]) (by kernel_rfl) (by rw [hn]; exact Nat.le_of_ble_eq_true rfl) (by rw [hn]; rfl) (h.weaken (fun _ _ => RetP.hands) (by simp))

/-- (sastrugi/bear.waves).sure$1 -/
def c138 : ACode :=
  (.seq
(.reg [
  ⟨(some (true, 5)), .mv (.c (.lit (.int .i64 0))), none⟩])
(.block 0
(.loop
(.seq
(.reg [
  ⟨(some (true, 6)), .bin .lss (.g 5) (.c (.lit (.int .i64 1001))), none⟩])
(.seq
(.cond (.g 6)
.skip
(.exit 0))
(.seq
(.block 1
(.seq
(.reg [
  ⟨(some (false, 7)), .mv (.g 5), none⟩,
  ⟨(some (true, 4)), .mv (.l 7), none⟩])
(.seq
(.reg [
  ⟨(some (false, 8)), .ld (some 3) (.g 1), none⟩,
  ⟨(some (false, 9)), .mv (.g 4), none⟩,
  ⟨(some (false, 10)), .ld (some 2) (.g 2), none⟩,
  ⟨(some (false, 11)), .call (.c (.fn 96 [])) [.l 8, .l 9, .l 10], none⟩,
  ⟨(some (false, 12)), .bin .eql (.l 11) (.c (.lit (.int .i64 1))), none⟩,
  ⟨(some (false, 13)), .mv (.l 12), none⟩,
  ⟨(some (false, 14)), .mv (.g 0), (some (.l 13, true))⟩,
  ⟨(some (false, 15)), .mv (.g 4), (some (.l 13, true))⟩,
  ⟨(some (false, 16)), .call (.l 14) [.l 15], (some (.l 13, true))⟩,
  ⟨(some (false, 17)), .un .not (.l 16), (some (.l 13, true))⟩,
  ⟨(some (true, 18)), .pick (.l 13) (.l 17) (.c (.lit (.bool false))), none⟩])
(.cond (.g 18)
.ret
.skip))))
(.reg [
  ⟨(some (false, 19)), .bin .add (.g 5) (.c (.lit (.int .i64 1))), none⟩,
  ⟨(some (true, 5)), .mv (.l 19), none⟩])))))))
def K138 : List Nat := [0, 1, 2, 6, 18, 5, 4]
noncomputable def b138 : Code := match Try.f138.body with | some c => c | none => .skip
theorem t138 : trCode ⟨Try.prog, K138, [], 20, none⟩ b138 = some c138 := by kernel_rfl
theorem go138 {args : List AV} {H : AHeap} {Kk : AV → AHeap → Prop} (hn : args.length = 3) (h : AGo ⟨Try.prog, K138, [], 20, none⟩ H.length [.code c138] (RetP [] H.length Kk) ⟨[], argsG 0 args⟩ H) : ACalls Try.prog 138 args H Kk :=
  ACalls_of Try.func138 (c := b138) rfl (by kernel_rfl) t138 (rs := []) (by kernel_rfl) (by rw [hn]; exact Nat.le_of_ble_eq_true rfl) (by rw [hn]; rfl) (h.weaken (fun _ _ => RetP.hands) (by simp))

/-- sastrugi/bear.Speeds -/
def c48 : ACode :=
  (.seq
(.reg [
  ⟨(some (true, 3)), .box (.g 0), none⟩,
  ⟨(some (true, 4)), .box (.g 1), none⟩,
  ⟨(some (true, 6)), .mv (.c (.lit (.slice none 0 0))), none⟩,
  ⟨(some (true, 7)), .mv (.c (.lit (.int .i64 0))), none⟩])
(.seq
(.seq
(.reg [
  ⟨(some (false, 12)), .ld (some 11) (.g 3), none⟩,
  ⟨(some (false, 13)), .ld (some 2) (.g 4), none⟩,
  ⟨(some (false, 14)), .mv (.g 2), none⟩,
  ⟨(some (false, 15)), .call (.c (.fn 93 [])) [.l 12, .l 13, .l 14], none⟩,
  ⟨(some (true, 8)), .mv (.l 15), none⟩])
(.seq
(.reg [
  ⟨(some (false, 16)), .mv (.g 8), none⟩,
  ⟨(some (true, 17)), .bin .neq (.l 16) (.c (.lit (.int .i64 0))), none⟩])
(.cond (.g 17)
(.seq
(.reg [
  ⟨(some (false, 18)), .mv (.g 8), none⟩,
  ⟨(some (true, 6)), .mv (.c (.lit (.slice none 0 0))), none⟩,
  ⟨(some (true, 7)), .mv (.l 18), none⟩])
.ret)
.skip)))
(.seq
(.reg [
  ⟨(some (true, 9)), .new [.slice none 0 0], none⟩])
(.seq
(.seq
(.draw [
  ⟨⟨(some (false, 19)), .ld (some 11) (.g 3), none⟩, 0, true, []⟩,
  ⟨⟨(some (false, 20)), .mv (.g 2), none⟩, 1, true, []⟩,
  ⟨⟨(some (false, 22)), .ld (some 2) (.g 4), none⟩, 3, true, []⟩,
  ⟨⟨(some (false, 21)), .call (.c (.fn 95 [])) [.l 19, .l 20], none⟩, 2, false, []⟩,
  ⟨⟨(some (true, 23)), .call (.c (.fn 100 [])) [.l 21, .l 22], none⟩, 4, true, []⟩])
(.block 0
(.rng (.g 23) [24]
(.reg [
  ⟨(some (true, 10)), .mv (.g 24), none⟩])
(.block 1
(.seq
(.reg [
  ⟨(some (false, 25)), .ld none (.g 9), none⟩,
  ⟨(some (false, 26)), .len (.l 25), none⟩,
  ⟨(some (false, 27)), .bin .sub (.l 26) (.c (.lit (.int .i64 1))), none⟩,
  ⟨(some (true, 11)), .mv (.l 27), none⟩])
(.seq
(.reg [
  ⟨(some (false, 28)), .mv (.g 11), none⟩,
  ⟨(some (false, 29)), .bin .geq (.l 28) (.c (.lit (.int .i64 0))), none⟩,
  ⟨(some (false, 30)), .mv (.l 29), none⟩,
  ⟨(some (false, 31)), .ld none (.g 9), (some (.l 30, true))⟩,
  ⟨(some (false, 32)), .mv (.g 11), (some (.l 30, true))⟩,
  ⟨(some (false, 33)), .ia 2 (.l 31) (.l 32), (some (.l 30, true))⟩,
  ⟨(some (false, 34)), .fa (.l 33) 1, (some (.l 30, true))⟩,
  ⟨(some (false, 35)), .ld none (.l 34), (some (.l 30, true))⟩,
  ⟨(some (false, 36)), .mv (.g 10), (some (.l 30, true))⟩,
  ⟨(some (false, 37)), .bin .sub (.l 36) (.c (.lit (.int .i64 1))), (some (.l 30, true))⟩,
  ⟨(some (false, 38)), .bin .eql (.l 35) (.l 37), (some (.l 30, true))⟩,
  ⟨(some (true, 39)), .pick (.l 30) (.l 38) (.c (.lit (.bool false))), none⟩])
(.cond (.g 39)
(.reg [
  ⟨(some (false, 40)), .ld none (.g 9), none⟩,
  ⟨(some (false, 41)), .mv (.g 11), none⟩,
  ⟨(some (false, 42)), .mv (.g 10), none⟩,
  ⟨(some (false, 43)), .ia 2 (.l 40) (.l 41), none⟩,
  ⟨(some (false, 44)), .fa (.l 43) 1, none⟩,
  ⟨none, .st 1 (.l 44) (.l 42), none⟩])
(.reg [
  ⟨(some (false, 45)), .ld none (.g 9), none⟩,
  ⟨(some (false, 46)), .mv (.g 10), none⟩,
  ⟨(some (false, 47)), .mv (.g 10), none⟩,
  ⟨(some (false, 48)), .mk [.int .i64 0, .int .i64 0] [(0, 1, .l 46), (1, 1, .l 47)], none⟩,
  ⟨(some (false, 49)), .mks false 2 [.l 48], none⟩,
  ⟨(some (false, 50)), .app 2 16 (.l 45) (.l 49), none⟩,
  ⟨none, .st 1 (.g 9) (.l 50), none⟩]))))))))
(.seq
(.reg [
  ⟨(some (false, 51)), .ld none (.g 9), none⟩,
  ⟨(some (true, 6)), .mv (.l 51), none⟩,
  ⟨(some (true, 7)), .mv (.c (.lit (.int .i64 0))), none⟩])
.ret)))))
def K48 : List Nat := [0, 1, 2, 17, 23, 24, 39, 6, 7, 3, 4, 8, 9, 10, 11]
noncomputable def b48 : Code := match Try.f48.body with | some c => c | none => .skip
theorem t48 : trCode ⟨Try.prog, K48, [], 52, none⟩ b48 = some c48 := by kernel_rfl
theorem go48 {args : List AV} {H : AHeap} {Kk : AV → AHeap → Prop} (hn : args.length = 3) (h : AGo ⟨Try.prog, K48, [], 52, none⟩ H.length [.code c48] (RetP [.t (.g 6), .t (.g 7)] H.length Kk) ⟨[], argsG 0 args⟩ H) : ACalls Try.prog 48 args H Kk :=
  ACalls_of Try.func48 (c := b48) rfl (by kernel_rfl) t48 (rs := [.t (.g 6), .t (.g 7)]) (by kernel_rfl) (by rw [hn]; exact Nat.le_of_ble_eq_true rfl) (by rw [hn]; rfl) (h.weaken (fun _ _ => RetP.hands) (by simp))

end Go.Sas
