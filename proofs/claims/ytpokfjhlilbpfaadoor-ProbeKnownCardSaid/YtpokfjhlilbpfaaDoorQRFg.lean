/-
The code of some functions with its types resolved, printed by a program; that it is the code is checked by the kernel.
Conditions: none.
-/
import Derived.Test.YtpokfjhlilbpfaaDoorP4d
import Derived.Test.YtpokfjhlilbpfaaDoorProg
set_option linter.unusedVariables false
set_option linter.unusedSimpArgs false
namespace Go.Sas
open Go.Proofs
set_option maxRecDepth 100000
/-- sastrugi/probe.Cover -/
def c18 : ACode :=
  (.seq
(.reg [
  ⟨(some (true, 3)), .box (.g 0), none⟩,
  ⟨(some (true, 6)), .mv (.c (.lit (.slice none 0 0))), none⟩,
  ⟨(some (true, 7)), .mv (.c (.lit (.int .i64 0))), none⟩])
(.seq
(.seq
(.reg [
  ⟨(some (false, 10)), .ld (some 4) (.g 3), none⟩,
  ⟨(some (false, 11)), .mv (.g 1), none⟩,
  ⟨(some (false, 12)), .call (.c (.fn 35 [])) [.l 10, .l 11], none⟩,
  ⟨(some (true, 8)), .mv (.l 12), none⟩])
(.seq
(.reg [
  ⟨(some (false, 13)), .mv (.g 8), none⟩,
  ⟨(some (true, 14)), .bin .neq (.l 13) (.c (.lit (.int .i64 0))), none⟩])
(.cond (.g 14)
(.seq
(.reg [
  ⟨(some (false, 15)), .mv (.g 8), none⟩,
  ⟨(some (true, 6)), .mv (.c (.lit (.slice none 0 0))), none⟩,
  ⟨(some (true, 7)), .mv (.l 15), none⟩])
.ret)
.skip)))
(.seq
(.seq
(.reg [
  ⟨(some (false, 16)), .mv (.g 2), none⟩,
  ⟨(some (false, 17)), .call (.c (.fn 16 [])) [.l 16, .c (.lit (.int .i64 0)), .c (.lit (.int .i64 10000))], none⟩,
  ⟨(some (true, 18)), .un .not (.l 17), none⟩])
(.cond (.g 18)
(.seq
(.reg [
  ⟨(some (true, 6)), .mv (.c (.lit (.slice none 0 0))), none⟩,
  ⟨(some (true, 7)), .mv (.c (.lit (.int .i64 2))), none⟩])
.ret)
.skip))
(.seq
(.reg [
  ⟨(some (true, 9)), .new [.slice none 0 0], none⟩])
(.seq
(.reg [
  ⟨(some (false, 19)), .mv (.g 1), none⟩,
  ⟨(some (false, 20)), .mv (.g 2), none⟩,
  ⟨(some (false, 21)), .ld (some 4) (.g 3), none⟩,
  ⟨(some (false, 22)), .call (.c (.fn 38 [])) [.l 21], none⟩,
  ⟨(some (false, 23)), .call (.c (.fn 37 [])) [.l 19, .l 20, .l 22], none⟩,
  ⟨(some (false, 24)), .mkf 39 [.g 9], none⟩,
  ⟨(some (false, 25)), .call (.c (.fn 36 [])) [.l 23, .l 24], none⟩])
(.seq
(.reg [
  ⟨(some (false, 26)), .ld none (.g 9), none⟩,
  ⟨(some (true, 6)), .mv (.l 26), none⟩,
  ⟨(some (true, 7)), .mv (.c (.lit (.int .i64 0))), none⟩])
.ret))))))
def K18 : List Nat := [0, 1, 2, 14, 18, 6, 7, 3, 8, 9]
noncomputable def b18 : Code := match Tryd.f18.body with | some c => c | none => .skip
theorem t18 : trCode ⟨Tryd.prog, K18, [], 27, none⟩ b18 = some c18 := by kernel_rfl
theorem go18 {args : List AV} {H : AHeap} {Kk : AV → AHeap → Prop} (hn : args.length = 3) (h : AGo ⟨Tryd.prog, K18, [], 27, none⟩ H.length [.code c18] (RetP [.t (.g 6), .t (.g 7)] H.length Kk) ⟨[], argsG 0 args⟩ H) : ACalls Tryd.prog 18 args H Kk :=
  ACalls_of Tryd.func18 (c := b18) rfl (by kernel_rfl) t18 (rs := [.t (.g 6), .t (.g 7)]) (by kernel_rfl) (by rw [hn]; exact Nat.le_of_ble_eq_true rfl) (by rw [hn]; rfl) (h.weaken (fun _ _ => RetP.hands) (by simp))

/-- sastrugi/probe.Cover$1 -/
def c39 : ACode :=
  (.reg [
  ⟨(some (false, 7)), .ld none (.g 3), none⟩,
  ⟨(some (false, 8)), .mv (.g 0), none⟩,
  ⟨(some (false, 9)), .mv (.g 1), none⟩,
  ⟨(some (false, 10)), .mv (.g 2), none⟩,
  ⟨(some (false, 11)), .mk [.int .i64 0, .int .i64 0, .int .i64 0] [(0, 1, .l 8), (1, 1, .l 9), (2, 1, .l 10)], none⟩,
  ⟨(some (false, 12)), .mks false 3 [.l 11], none⟩,
  ⟨(some (false, 13)), .app 3 24 (.l 7) (.l 12), none⟩,
  ⟨none, .st 1 (.g 3) (.l 13), none⟩])
def K39 : List Nat := [0, 1, 2, 3]
noncomputable def b39 : Code := match Tryd.f39.body with | some c => c | none => .skip
theorem t39 : trCode ⟨Tryd.prog, K39, [], 14, none⟩ b39 = some c39 := by kernel_rfl
theorem go39 {args : List AV} {H : AHeap} {Kk : AV → AHeap → Prop} (hn : args.length = 4) (h : AGo ⟨Tryd.prog, K39, [], 14, none⟩ H.length [.code c39] (RetP [] H.length Kk) ⟨[], argsG 0 args⟩ H) : ACalls Tryd.prog 39 args H Kk :=
  ACalls_of Tryd.func39 (c := b39) rfl (by kernel_rfl) t39 (rs := []) (by kernel_rfl) (by rw [hn]; exact Nat.le_of_ble_eq_true rfl) (by rw [hn]; rfl) (h.weaken (fun _ _ => RetP.hands) (by simp))

/-- sastrugi/sastrugikit.SamePatches -/
def c19 : ACode :=
  (.seq
(.reg [
  ⟨(some (true, 4)), .mv (.c (.lit (.bool false))), none⟩])
(.seq
(.seq
(.reg [
  ⟨(some (false, 6)), .mv (.g 0), none⟩,
  ⟨(some (false, 7)), .len (.l 6), none⟩,
  ⟨(some (false, 8)), .mv (.g 1), none⟩,
  ⟨(some (false, 9)), .len (.l 8), none⟩,
  ⟨(some (true, 10)), .bin .neq (.l 7) (.l 9), none⟩])
(.cond (.g 10)
(.seq
(.reg [
  ⟨(some (true, 4)), .mv (.c (.lit (.bool false))), none⟩])
.ret)
.skip))
(.seq
(.seq
(.reg [
  ⟨(some (true, 5)), .mv (.c (.lit (.int .i64 0))), none⟩])
(.block 0
(.loop
(.seq
(.seq
(.reg [
  ⟨(some (false, 11)), .mv (.g 5), none⟩,
  ⟨(some (false, 12)), .mv (.g 0), none⟩,
  ⟨(some (false, 13)), .len (.l 12), none⟩,
  ⟨(some (true, 14)), .bin .lss (.l 11) (.l 13), none⟩])
(.cond (.g 14)
.skip
(.exit 0)))
(.seq
(.block 1
(.seq
(.draw [
  ⟨⟨(some (false, 17)), .mv (.g 0), none⟩, 0, true, []⟩,
  ⟨⟨(some (false, 18)), .mv (.g 5), none⟩, 1, true, []⟩,
  ⟨⟨(some (false, 19)), .ia 3 (.l 17) (.l 18), none⟩, 2, true, []⟩,
  ⟨⟨(some (false, 20)), .ld (some 3) (.l 19), none⟩, 3, true, []⟩,
  ⟨⟨(some (false, 21)), .mv (.g 1), none⟩, 4, true, []⟩,
  ⟨⟨(some (false, 22)), .mv (.g 5), none⟩, 5, true, []⟩,
  ⟨⟨(some (false, 23)), .ia 3 (.l 21) (.l 22), none⟩, 6, true, []⟩,
  ⟨⟨(some (false, 24)), .ld (some 3) (.l 23), none⟩, 7, true, []⟩,
  ⟨⟨(some (true, 25)), .eqs true (.fld 0 none .i (.fld 1 none .i (.fld 2 none .i .nil))) (.l 20) (.l 24), none⟩, 8, true, []⟩])
(.cond (.g 25)
(.seq
(.reg [
  ⟨(some (true, 4)), .mv (.c (.lit (.bool false))), none⟩])
.ret)
.skip)))
(.reg [
  ⟨(some (false, 15)), .mv (.g 5), none⟩,
  ⟨(some (false, 16)), .bin .add (.l 15) (.c (.lit (.int .i64 1))), none⟩,
  ⟨(some (true, 5)), .mv (.l 16), none⟩]))))))
(.seq
(.reg [
  ⟨(some (true, 4)), .mv (.c (.lit (.bool true))), none⟩])
.ret))))
def K19 : List Nat := [0, 1, 10, 14, 25, 4, 5]
noncomputable def b19 : Code := match Tryd.f19.body with | some c => c | none => .skip
theorem t19 : trCode ⟨Tryd.prog, K19, [], 26, none⟩ b19 = some c19 := by kernel_rfl
theorem go19 {args : List AV} {H : AHeap} {Kk : AV → AHeap → Prop} (hn : args.length = 2) (h : AGo ⟨Tryd.prog, K19, [], 26, none⟩ H.length [.code c19] (RetP [.t (.g 4)] H.length Kk) ⟨[], argsG 0 args⟩ H) : ACalls Tryd.prog 19 args H Kk :=
  ACalls_of Tryd.func19 (c := b19) rfl (by kernel_rfl) t19 (rs := [.t (.g 4)]) (by kernel_rfl) (by rw [hn]; exact Nat.le_of_ble_eq_true rfl) (by rw [hn]; rfl) (h.weaken (fun _ _ => RetP.hands) (by simp))

end Go.Sas
