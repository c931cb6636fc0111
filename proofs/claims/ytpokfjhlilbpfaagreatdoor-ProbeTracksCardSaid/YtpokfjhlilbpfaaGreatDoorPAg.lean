/-
The code of some functions with its types resolved, printed by a program; that it is the code is checked by the kernel.
The code of some functions with its types resolved, printed by a program; that it is the code is checked by the kernel.
Conditions: none.
-/
import Derived.Test.YtpokfjhlilbpfaaGreatDoorP4g
import Derived.Test.YtpokfjhlilbpfaaGreatDoorProg
set_option linter.unusedVariables false
set_option linter.unusedSimpArgs false
namespace Go.Sas
open Go.Proofs
set_option maxRecDepth 100000
/-- sastrugi/sastrugikit.NewSeed -/
def c7 : ACode :=
  (.seq
(.reg [
  ⟨(some (true, 2)), .mv (.c (.lit (.pointer none))), none⟩])
(.seq
(.reg [
  ⟨(some (false, 5)), .mk [.int .u64 0] [(0, 1, .c (.lit (.int .u64 1)))], none⟩,
  ⟨(some (false, 6)), .box (.l 5), none⟩,
  ⟨(some (true, 3)), .mv (.l 6), none⟩])
(.seq
(.seq
(.reg [
  ⟨(some (true, 4)), .mv (.c (.lit (.int .i64 0))), none⟩])
(.block 0
(.loop
(.seq
(.seq
(.reg [
  ⟨(some (false, 7)), .mv (.g 4), none⟩,
  ⟨(some (false, 8)), .mv (.g 0), none⟩,
  ⟨(some (false, 9)), .len (.l 8), none⟩,
  ⟨(some (true, 10)), .bin .lss (.l 7) (.l 9), none⟩])
(.cond (.g 10)
.skip
(.exit 0)))
(.seq
(.block 1
(.seq
(.draw [
  ⟨⟨(some (false, 13)), .mv (.g 3), none⟩, 0, true, []⟩,
  ⟨⟨(some (false, 14)), .mv (.g 3), none⟩, 1, true, []⟩,
  ⟨⟨(some (false, 15)), .nilc (.l 14), none⟩, 2, true, []⟩,
  ⟨⟨(some (false, 16)), .fa (.l 15) 0, none⟩, 3, true, []⟩,
  ⟨⟨(some (false, 17)), .ld none (.l 16), none⟩, 4, true, []⟩,
  ⟨⟨(some (false, 18)), .bin .mul (.l 17) (.c (.lit (.int .u64 6364136223846793005))), none⟩, 5, true, []⟩,
  ⟨⟨(some (false, 19)), .mv (.g 0), none⟩, 6, true, []⟩,
  ⟨⟨(some (false, 20)), .mv (.g 4), none⟩, 7, true, []⟩,
  ⟨⟨(some (false, 21)), .ia 1 (.l 19) (.l 20), none⟩, 8, true, []⟩,
  ⟨⟨(some (false, 22)), .ld none (.l 21), none⟩, 9, true, []⟩,
  ⟨⟨(some (false, 23)), .cv .u64 (.l 22), none⟩, 10, true, []⟩,
  ⟨⟨(some (false, 24)), .bin .add (.l 18) (.l 23), none⟩, 11, true, []⟩,
  ⟨⟨(some (false, 25)), .bin .add (.l 24) (.c (.lit (.int .u64 1442695040888963407))), none⟩, 12, true, []⟩,
  ⟨⟨(some (false, 26)), .nilc (.l 13), none⟩, 13, true, []⟩,
  ⟨⟨(some (false, 27)), .fa (.l 26) 0, none⟩, 14, true, []⟩,
  ⟨⟨none, .st 1 (.l 27) (.l 25), none⟩, 15, true, []⟩])
(.reg [
  ⟨(some (false, 28)), .mv (.g 3), none⟩,
  ⟨(some (false, 29)), .call (.c (.fn 26 [])) [.l 28], none⟩])))
(.reg [
  ⟨(some (false, 11)), .mv (.g 4), none⟩,
  ⟨(some (false, 12)), .bin .add (.l 11) (.c (.lit (.int .i64 1))), none⟩,
  ⟨(some (true, 4)), .mv (.l 12), none⟩]))))))
(.seq
(.reg [
  ⟨(some (false, 30)), .mv (.g 3), none⟩,
  ⟨(some (true, 2)), .mv (.l 30), none⟩])
.ret))))
def K7 : List Nat := [0, 10, 2, 3, 4]
noncomputable def b7 : Code := match Tryz.f7.body with | some c => c | none => .skip
theorem t7 : trCode ⟨Tryz.prog, K7, [], 31, none⟩ b7 = some c7 := by kernel_rfl
theorem go7 {args : List AV} {H : AHeap} {Kk : AV → AHeap → Prop} (hn : args.length = 1) (h : AGo ⟨Tryz.prog, K7, [], 31, none⟩ H.length [.code c7] (RetP [.t (.g 2)] H.length Kk) ⟨[], argsG 0 args⟩ H) : ACalls Tryz.prog 7 args H Kk :=
  ACalls_of Tryz.func7 (c := b7) rfl (by kernel_rfl) t7 (rs := [.t (.g 2)]) (by kernel_rfl) (by rw [hn]; exact Nat.le_of_ble_eq_true rfl) (by rw [hn]; rfl) (h.weaken (fun _ _ => RetP.hands) (by simp))

/-- (*sastrugi/sastrugikit.Seed).From -/
def c48 : ACode :=
  (.seq
(.reg [
  ⟨(some (true, 6)), .mv (.c (.lit (.int .i64 0))), none⟩])
(.seq
(.reg [
  ⟨(some (false, 7)), .mv (.g 1), none⟩,
  ⟨(some (false, 8)), .mv (.g 0), none⟩,
  ⟨(some (false, 9)), .mv (.g 2), none⟩,
  ⟨(some (false, 10)), .mv (.g 1), none⟩,
  ⟨(some (false, 11)), .bin .sub (.l 9) (.l 10), none⟩,
  ⟨(some (false, 12)), .bin .add (.l 11) (.c (.lit (.int .i64 1))), none⟩,
  ⟨(some (false, 13)), .call (.c (.fn 24 [])) [.l 8, .l 12], none⟩,
  ⟨(some (false, 14)), .bin .add (.l 7) (.l 13), none⟩,
  ⟨(some (true, 6)), .mv (.l 14), none⟩])
.ret))
def K48 : List Nat := [0, 1, 2, 6]
noncomputable def b48 : Code := match Tryz.f48.body with | some c => c | none => .skip
theorem t48 : trCode ⟨Tryz.prog, K48, [], 15, none⟩ b48 = some c48 := by kernel_rfl
theorem go48 {args : List AV} {H : AHeap} {Kk : AV → AHeap → Prop} (hn : args.length = 3) (h : AGo ⟨Tryz.prog, K48, [], 15, none⟩ H.length [.code c48] (RetP [.t (.g 6)] H.length Kk) ⟨[], argsG 0 args⟩ H) : ACalls Tryz.prog 48 args H Kk :=
  ACalls_of Tryz.func48 (c := b48) rfl (by kernel_rfl) t48 (rs := [.t (.g 6)]) (by kernel_rfl) (by rw [hn]; exact Nat.le_of_ble_eq_true rfl) (by rw [hn]; rfl) (h.weaken (fun _ _ => RetP.hands) (by simp))

/-- (*sastrugi/sastrugikit.Seed).Below -/
def c24 : ACode :=
  (.seq
(.reg [
  ⟨(some (true, 4)), .mv (.c (.lit (.int .i64 0))), none⟩])
(.seq
(.seq
(.reg [
  ⟨(some (false, 5)), .mv (.g 1), none⟩,
  ⟨(some (true, 6)), .bin .lss (.l 5) (.c (.lit (.int .i64 2))), none⟩])
(.cond (.g 6)
(.seq
(.reg [
  ⟨(some (true, 4)), .mv (.c (.lit (.int .i64 0))), none⟩])
.ret)
.skip))
(.seq
(.reg [
  ⟨(some (false, 7)), .mv (.g 0), none⟩,
  ⟨(some (false, 8)), .call (.c (.fn 26 [])) [.l 7], none⟩,
  ⟨(some (false, 9)), .bin .shr (.l 8) (.c (.lit (.int .u64 1))), none⟩,
  ⟨(some (false, 10)), .mv (.g 1), none⟩,
  ⟨(some (false, 11)), .cv .u64 (.l 10), none⟩,
  ⟨(some (false, 12)), .bin .rem (.l 9) (.l 11), none⟩,
  ⟨(some (false, 13)), .cv .i64 (.l 12), none⟩,
  ⟨(some (true, 4)), .mv (.l 13), none⟩])
.ret)))
def K24 : List Nat := [0, 1, 6, 4]
noncomputable def b24 : Code := match Tryz.f24.body with | some c => c | none => .skip
theorem t24 : trCode ⟨Tryz.prog, K24, [], 14, none⟩ b24 = some c24 := by kernel_rfl
theorem go24 {args : List AV} {H : AHeap} {Kk : AV → AHeap → Prop} (hn : args.length = 2) (h : AGo ⟨Tryz.prog, K24, [], 14, none⟩ H.length [.code c24] (RetP [.t (.g 4)] H.length Kk) ⟨[], argsG 0 args⟩ H) : ACalls Tryz.prog 24 args H Kk :=
  ACalls_of Tryz.func24 (c := b24) rfl (by kernel_rfl) t24 (rs := [.t (.g 4)]) (by kernel_rfl) (by rw [hn]; exact Nat.le_of_ble_eq_true rfl) (by rw [hn]; rfl) (h.weaken (fun _ _ => RetP.hands) (by simp))

/-- (*sastrugi/sastrugikit.Seed).Of -/
def c25 : ACode :=
  (.seq
(.reg [
  ⟨(some (true, 4)), .mv (.c (.lit (.int .i64 0))), none⟩])
(.seq
(.seq
(.reg [
  ⟨(some (false, 5)), .mv (.g 1), none⟩,
  ⟨(some (false, 6)), .len (.l 5), none⟩,
  ⟨(some (true, 7)), .bin .eql (.l 6) (.c (.lit (.int .i64 0))), none⟩])
(.cond (.g 7)
(.seq
(.reg [
  ⟨(some (true, 4)), .mv (.c (.lit (.int .i64 0))), none⟩])
.ret)
.skip))
(.seq
(.reg [
  ⟨(some (false, 8)), .mv (.g 1), none⟩,
  ⟨(some (false, 9)), .mv (.g 0), none⟩,
  ⟨(some (false, 10)), .mv (.g 1), none⟩,
  ⟨(some (false, 11)), .len (.l 10), none⟩,
  ⟨(some (false, 12)), .call (.c (.fn 24 [])) [.l 9, .l 11], none⟩,
  ⟨(some (false, 13)), .ia 1 (.l 8) (.l 12), none⟩,
  ⟨(some (false, 14)), .ld none (.l 13), none⟩,
  ⟨(some (true, 4)), .mv (.l 14), none⟩])
.ret)))
def K25 : List Nat := [0, 1, 7, 4]
noncomputable def b25 : Code := match Tryz.f25.body with | some c => c | none => .skip
theorem t25 : trCode ⟨Tryz.prog, K25, [], 15, none⟩ b25 = some c25 := by kernel_rfl
theorem go25 {args : List AV} {H : AHeap} {Kk : AV → AHeap → Prop} (hn : args.length = 2) (h : AGo ⟨Tryz.prog, K25, [], 15, none⟩ H.length [.code c25] (RetP [.t (.g 4)] H.length Kk) ⟨[], argsG 0 args⟩ H) : ACalls Tryz.prog 25 args H Kk :=
  ACalls_of Tryz.func25 (c := b25) rfl (by kernel_rfl) t25 (rs := [.t (.g 4)]) (by kernel_rfl) (by rw [hn]; exact Nat.le_of_ble_eq_true rfl) (by rw [hn]; rfl) (h.weaken (fun _ _ => RetP.hands) (by simp))

/-- (*sastrugi/sastrugikit.Seed).next -/
def c26 : ACode :=
  (.seq
(.reg [
  ⟨(some (true, 2)), .mv (.c (.lit (.int .u64 0))), none⟩])
(.seq
(.reg [
  ⟨(some (false, 4)), .mv (.g 0), none⟩,
  ⟨(some (false, 5)), .mv (.g 0), none⟩,
  ⟨(some (false, 6)), .nilc (.l 5), none⟩,
  ⟨(some (false, 7)), .fa (.l 6) 0, none⟩,
  ⟨(some (false, 8)), .ld none (.l 7), none⟩,
  ⟨(some (false, 9)), .bin .add (.l 8) (.c (.lit (.int .u64 11400714819323198485))), none⟩,
  ⟨(some (false, 10)), .nilc (.l 4), none⟩,
  ⟨(some (false, 11)), .fa (.l 10) 0, none⟩,
  ⟨none, .st 1 (.l 11) (.l 9), none⟩])
(.seq
(.reg [
  ⟨(some (false, 12)), .mv (.g 0), none⟩,
  ⟨(some (false, 13)), .nilc (.l 12), none⟩,
  ⟨(some (false, 14)), .fa (.l 13) 0, none⟩,
  ⟨(some (false, 15)), .ld none (.l 14), none⟩,
  ⟨(some (true, 3)), .mv (.l 15), none⟩])
(.seq
(.reg [
  ⟨(some (false, 16)), .mv (.g 3), none⟩,
  ⟨(some (false, 17)), .mv (.g 3), none⟩,
  ⟨(some (false, 18)), .bin .shr (.l 17) (.c (.lit (.int .u64 30))), none⟩,
  ⟨(some (false, 19)), .bin .xor (.l 16) (.l 18), none⟩,
  ⟨(some (false, 20)), .bin .mul (.l 19) (.c (.lit (.int .u64 13787848793156543929))), none⟩,
  ⟨(some (true, 3)), .mv (.l 20), none⟩])
(.seq
(.reg [
  ⟨(some (false, 21)), .mv (.g 3), none⟩,
  ⟨(some (false, 22)), .mv (.g 3), none⟩,
  ⟨(some (false, 23)), .bin .shr (.l 22) (.c (.lit (.int .u64 27))), none⟩,
  ⟨(some (false, 24)), .bin .xor (.l 21) (.l 23), none⟩,
  ⟨(some (false, 25)), .bin .mul (.l 24) (.c (.lit (.int .u64 10723151780598845931))), none⟩,
  ⟨(some (true, 3)), .mv (.l 25), none⟩])
(.seq
(.reg [
  ⟨(some (false, 26)), .mv (.g 3), none⟩,
  ⟨(some (false, 27)), .mv (.g 3), none⟩,
  ⟨(some (false, 28)), .bin .shr (.l 27) (.c (.lit (.int .u64 31))), none⟩,
  ⟨(some (false, 29)), .bin .xor (.l 26) (.l 28), none⟩,
  ⟨(some (true, 2)), .mv (.l 29), none⟩])
.ret))))))
def K26 : List Nat := [0, 2, 3]
noncomputable def b26 : Code := match Tryz.f26.body with | some c => c | none => .skip
theorem t26 : trCode ⟨Tryz.prog, K26, [], 30, none⟩ b26 = some c26 := by kernel_rfl
theorem go26 {args : List AV} {H : AHeap} {Kk : AV → AHeap → Prop} (hn : args.length = 1) (h : AGo ⟨Tryz.prog, K26, [], 30, none⟩ H.length [.code c26] (RetP [.t (.g 2)] H.length Kk) ⟨[], argsG 0 args⟩ H) : ACalls Tryz.prog 26 args H Kk :=
  ACalls_of Tryz.func26 (c := b26) rfl (by kernel_rfl) t26 (rs := [.t (.g 2)]) (by kernel_rfl) (by rw [hn]; exact Nat.le_of_ble_eq_true rfl) (by rw [hn]; rfl) (h.weaken (fun _ _ => RetP.hands) (by simp))

/-- sastrugi/sastrugikit.SameLooks -/
def c14 : ACode :=
  (.seq
(.reg [
  ⟨(some (true, 4)), .mv (.c (.lit (.bool false))), none⟩])
(.seq
(.seq
(.reg [
  ⟨(some (false, 6)), .mv (.g 0), none⟩,
  ⟨(some (false, 7)), .len (.l 6), none⟩,
  ⟨(some (false, 8)), .mv (.g 1), none⟩,
  ⟨(some (false, 9)), .len (.l 8), none⟩,
  ⟨(some (true, 10)), .bin .neq (.l 7) (.l 9), none⟩])
(.cond (.g 10)
(.seq
(.reg [
  ⟨(some (true, 4)), .mv (.c (.lit (.bool false))), none⟩])
.ret)
.skip))
(.seq
(.seq
(.reg [
  ⟨(some (true, 5)), .mv (.c (.lit (.int .i64 0))), none⟩])
(.block 0
(.loop
(.seq
(.seq
(.reg [
  ⟨(some (false, 11)), .mv (.g 5), none⟩,
  ⟨(some (false, 12)), .mv (.g 0), none⟩,
  ⟨(some (false, 13)), .len (.l 12), none⟩,
  ⟨(some (true, 14)), .bin .lss (.l 11) (.l 13), none⟩])
(.cond (.g 14)
.skip
(.exit 0)))
(.seq
(.block 1
(.seq
(.draw [
  ⟨⟨(some (false, 17)), .mv (.g 0), none⟩, 0, true, []⟩,
  ⟨⟨(some (false, 18)), .mv (.g 5), none⟩, 1, true, []⟩,
  ⟨⟨(some (false, 19)), .ia 5 (.l 17) (.l 18), none⟩, 2, true, []⟩,
  ⟨⟨(some (false, 20)), .ld (some 5) (.l 19), none⟩, 3, true, []⟩,
  ⟨⟨(some (false, 21)), .mv (.g 1), none⟩, 4, true, []⟩,
  ⟨⟨(some (false, 22)), .mv (.g 5), none⟩, 5, true, []⟩,
  ⟨⟨(some (false, 23)), .ia 5 (.l 21) (.l 22), none⟩, 6, true, []⟩,
  ⟨⟨(some (false, 24)), .ld (some 5) (.l 23), none⟩, 7, true, []⟩,
  ⟨⟨(some (true, 25)), .eqs true (.fld 0 none .i (.fld 1 none .i (.fld 2 none .i (.fld 3 (some 2) (.fld 0 none .i (.fld 1 none .i .nil)) .nil)))) (.l 20) (.l 24), none⟩, 8, true, []⟩])
(.cond (.g 25)
(.seq
(.reg [
  ⟨(some (true, 4)), .mv (.c (.lit (.bool false))), none⟩])
.ret)
.skip)))
(.reg [
  ⟨(some (false, 15)), .mv (.g 5), none⟩,
  ⟨(some (false, 16)), .bin .add (.l 15) (.c (.lit (.int .i64 1))), none⟩,
  ⟨(some (true, 5)), .mv (.l 16), none⟩]))))))
(.seq
(.reg [
  ⟨(some (true, 4)), .mv (.c (.lit (.bool true))), none⟩])
.ret))))
def K14 : List Nat := [0, 1, 10, 14, 25, 4, 5]
noncomputable def b14 : Code := match Tryz.f14.body with | some c => c | none => .skip
theorem t14 : trCode ⟨Tryz.prog, K14, [], 26, none⟩ b14 = some c14 := by kernel_rfl
theorem go14 {args : List AV} {H : AHeap} {Kk : AV → AHeap → Prop} (hn : args.length = 2) (h : AGo ⟨Tryz.prog, K14, [], 26, none⟩ H.length [.code c14] (RetP [.t (.g 4)] H.length Kk) ⟨[], argsG 0 args⟩ H) : ACalls Tryz.prog 14 args H Kk :=
  ACalls_of Tryz.func14 (c := b14) rfl (by kernel_rfl) t14 (rs := [.t (.g 4)]) (by kernel_rfl) (by rw [hn]; exact Nat.le_of_ble_eq_true rfl) (by rw [hn]; rfl) (h.weaken (fun _ _ => RetP.hands) (by simp))

end Go.Sas
namespace Go.Sas
open Go.Proofs
set_option maxRecDepth 100000
/-- sastrugi/sastrugiref02.within -/
def c53 : ACode :=
  (.seq
(.reg [
  ⟨(some (true, 6)), .mv (.c (.lit (.bool false))), none⟩])
(.seq
(.reg [
  ⟨(some (false, 7)), .mv (.g 0), none⟩,
  ⟨(some (false, 8)), .mv (.g 1), none⟩,
  ⟨(some (false, 9)), .bin .geq (.l 7) (.l 8), none⟩,
  ⟨(some (false, 10)), .mv (.l 9), none⟩,
  ⟨(some (false, 11)), .mv (.g 0), (some (.l 10, true))⟩,
  ⟨(some (false, 12)), .mv (.g 2), (some (.l 10, true))⟩,
  ⟨(some (false, 13)), .bin .leq (.l 11) (.l 12), (some (.l 10, true))⟩,
  ⟨(some (false, 14)), .pick (.l 10) (.l 13) (.c (.lit (.bool false))), none⟩,
  ⟨(some (true, 6)), .mv (.l 14), none⟩])
.ret))
def K53 : List Nat := [0, 1, 2, 6]
noncomputable def b53 : Code := match Tryz.f53.body with | some c => c | none => .skip
theorem t53 : trCode ⟨Tryz.prog, K53, [], 15, none⟩ b53 = some c53 := by kernel_rfl
theorem go53 {args : List AV} {H : AHeap} {Kk : AV → AHeap → Prop} (hn : args.length = 3) (h : AGo ⟨Tryz.prog, K53, [], 15, none⟩ H.length [.code c53] (RetP [.t (.g 6)] H.length Kk) ⟨[], argsG 0 args⟩ H) : ACalls Tryz.prog 53 args H Kk :=
  ACalls_of Tryz.func53 (c := b53) rfl (by kernel_rfl) t53 (rs := [.t (.g 6)]) (by kernel_rfl) (by rw [hn]; exact Nat.le_of_ble_eq_true rfl) (by rw [hn]; rfl) (h.weaken (fun _ _ => RetP.hands) (by simp))

end Go.Sas
