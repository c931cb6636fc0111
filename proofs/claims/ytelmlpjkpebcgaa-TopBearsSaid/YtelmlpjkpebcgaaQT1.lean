/-
The code of some functions with its types resolved, printed by a program; that it is the code is checked by the kernel.
Conditions: none.
-/
import Derived.Test.YtelmlpjkpebcgaaH4
import Derived.Test.YtelmlpjkpebcgaaProg
set_option linter.unusedVariables false
set_option linter.unusedSimpArgs false
namespace Go.Sas
open Go.Proofs
set_option maxRecDepth 100000
/-- (*sastrugi/sastrugikit.Seed).next -/
def c83 : ACode :=
  (.seq
(.reg [
  ⟨(some (true, 2)), .mv (.c (.lit (.int .u64 0))), none⟩])
(.seq
(.reg [
  ⟨(some (false, 4)), .mv (.g 0), none⟩,
  ⟨(some (false, 5)), .mv (.g 0), none⟩,
  ⟨(some (false, 6)), .nilc (.l 5), none⟩,
  ⟨(some (false, 7)), .fa (.l 6) 0, none⟩,
  ⟨(some (false, 8)), .ld none (.l 7), none⟩,
  ⟨(some (false, 9)), .bin .add (.l 8) (.c (.lit (.int .u64 11400714819323198485))), none⟩,
  ⟨(some (false, 10)), .nilc (.l 4), none⟩,
  ⟨(some (false, 11)), .fa (.l 10) 0, none⟩,
  ⟨none, .st 1 (.l 11) (.l 9), none⟩])
(.seq
(.reg [
  ⟨(some (false, 12)), .mv (.g 0), none⟩,
  ⟨(some (false, 13)), .nilc (.l 12), none⟩,
  ⟨(some (false, 14)), .fa (.l 13) 0, none⟩,
  ⟨(some (false, 15)), .ld none (.l 14), none⟩,
  ⟨(some (true, 3)), .mv (.l 15), none⟩])
(.seq
(.reg [
  ⟨(some (false, 16)), .mv (.g 3), none⟩,
  ⟨(some (false, 17)), .mv (.g 3), none⟩,
  ⟨(some (false, 18)), .bin .shr (.l 17) (.c (.lit (.int .u64 30))), none⟩,
  ⟨(some (false, 19)), .bin .xor (.l 16) (.l 18), none⟩,
  ⟨(some (false, 20)), .bin .mul (.l 19) (.c (.lit (.int .u64 13787848793156543929))), none⟩,
  ⟨(some (true, 3)), .mv (.l 20), none⟩])
(.seq
(.reg [
  ⟨(some (false, 21)), .mv (.g 3), none⟩,
  ⟨(some (false, 22)), .mv (.g 3), none⟩,
  ⟨(some (false, 23)), .bin .shr (.l 22) (.c (.lit (.int .u64 27))), none⟩,
  ⟨(some (false, 24)), .bin .xor (.l 21) (.l 23), none⟩,
  ⟨(some (false, 25)), .bin .mul (.l 24) (.c (.lit (.int .u64 10723151780598845931))), none⟩,
  ⟨(some (true, 3)), .mv (.l 25), none⟩])
(.seq
(.reg [
  ⟨(some (false, 26)), .mv (.g 3), none⟩,
  ⟨(some (false, 27)), .mv (.g 3), none⟩,
  ⟨(some (false, 28)), .bin .shr (.l 27) (.c (.lit (.int .u64 31))), none⟩,
  ⟨(some (false, 29)), .bin .xor (.l 26) (.l 28), none⟩,
  ⟨(some (true, 2)), .mv (.l 29), none⟩])
.ret))))))
def K83 : List Nat := [0, 2, 3]
noncomputable def b83 : Code := match Try.f83.body with | some c => c | none => .skip
theorem t83 : trCode ⟨Try.prog, K83, [], 30, none⟩ b83 = some c83 := by kernel_rfl
theorem go83 {args : List AV} {H : AHeap} {Kk : AV → AHeap → Prop} (hn : args.length = 1) (h : AGo ⟨Try.prog, K83, [], 30, none⟩ H.length [.code c83] (RetP [.t (.g 2)] H.length Kk) ⟨[], argsG 0 args⟩ H) : ACalls Try.prog 83 args H Kk :=
  ACalls_of Try.func83 (c := b83) rfl (by kernel_rfl) t83 (rs := [.t (.g 2)]) (by kernel_rfl) (by rw [hn]; exact Nat.le_of_ble_eq_true rfl) (by rw [hn]; rfl) (h.weaken (fun _ _ => RetP.hands) (by simp))

/-- (*sastrugi/sastrugikit.Seed).Below -/
def c37 : ACode :=
  (.seq
(.reg [
  ⟨(some (true, 4)), .mv (.c (.lit (.int .i64 0))), none⟩])
(.seq
(.seq
(.reg [
  ⟨(some (false, 5)), .mv (.g 1), none⟩,
  ⟨(some (true, 6)), .bin .lss (.l 5) (.c (.lit (.int .i64 2))), none⟩])
(.cond (.g 6)
(.seq
(.reg [
  ⟨(some (true, 4)), .mv (.c (.lit (.int .i64 0))), none⟩])
.ret)
.skip))
(.seq
(.reg [
  ⟨(some (false, 7)), .mv (.g 0), none⟩,
  ⟨(some (false, 8)), .call (.c (.fn 83 [])) [.l 7], none⟩,
  ⟨(some (false, 9)), .bin .shr (.l 8) (.c (.lit (.int .u64 1))), none⟩,
  ⟨(some (false, 10)), .mv (.g 1), none⟩,
  ⟨(some (false, 11)), .cv .u64 (.l 10), none⟩,
  ⟨(some (false, 12)), .bin .rem (.l 9) (.l 11), none⟩,
  ⟨(some (false, 13)), .cv .i64 (.l 12), none⟩,
  ⟨(some (true, 4)), .mv (.l 13), none⟩])
.ret)))
def K37 : List Nat := [0, 1, 6, 4]
noncomputable def b37 : Code := match Try.f37.body with | some c => c | none => .skip
theorem t37 : trCode ⟨Try.prog, K37, [], 14, none⟩ b37 = some c37 := by kernel_rfl
theorem go37 {args : List AV} {H : AHeap} {Kk : AV → AHeap → Prop} (hn : args.length = 2) (h : AGo ⟨Try.prog, K37, [], 14, none⟩ H.length [.code c37] (RetP [.t (.g 4)] H.length Kk) ⟨[], argsG 0 args⟩ H) : ACalls Try.prog 37 args H Kk :=
  ACalls_of Try.func37 (c := b37) rfl (by kernel_rfl) t37 (rs := [.t (.g 4)]) (by kernel_rfl) (by rw [hn]; exact Nat.le_of_ble_eq_true rfl) (by rw [hn]; rfl) (h.weaken (fun _ _ => RetP.hands) (by simp))

/-- (*sastrugi/sastrugikit.Seed).From -/
def c45 : ACode :=
  (.seq
(.reg [
  ⟨(some (true, 6)), .mv (.c (.lit (.int .i64 0))), none⟩])
(.seq
(.reg [
  ⟨(some (false, 7)), .mv (.g 1), none⟩,
  ⟨(some (false, 8)), .mv (.g 0), none⟩,
  ⟨(some (false, 9)), .mv (.g 2), none⟩,
  ⟨(some (false, 10)), .mv (.g 1), none⟩,
  ⟨(some (false, 11)), .bin .sub (.l 9) (.l 10), none⟩,
  ⟨(some (false, 12)), .bin .add (.l 11) (.c (.lit (.int .i64 1))), none⟩,
  ⟨(some (false, 13)), .call (.c (.fn 37 [])) [.l 8, .l 12], none⟩,
  ⟨(some (false, 14)), .bin .add (.l 7) (.l 13), none⟩,
  ⟨(some (true, 6)), .mv (.l 14), none⟩])
.ret))
def K45 : List Nat := [0, 1, 2, 6]
noncomputable def b45 : Code := match Try.f45.body with | some c => c | none => .skip
theorem t45 : trCode ⟨Try.prog, K45, [], 15, none⟩ b45 = some c45 := by kernel_rfl
theorem go45 {args : List AV} {H : AHeap} {Kk : AV → AHeap → Prop} (hn : args.length = 3) (h : AGo ⟨Try.prog, K45, [], 15, none⟩ H.length [.code c45] (RetP [.t (.g 6)] H.length Kk) ⟨[], argsG 0 args⟩ H) : ACalls Try.prog 45 args H Kk :=
  ACalls_of Try.func45 (c := b45) rfl (by kernel_rfl) t45 (rs := [.t (.g 6)]) (by kernel_rfl) (by rw [hn]; exact Nat.le_of_ble_eq_true rfl) (by rw [hn]; rfl) (h.weaken (fun _ _ => RetP.hands) (by simp))

/-- (*sastrugi/sastrugikit.Seed).Of -/
def c41 : ACode :=
  (.seq
(.reg [
  ⟨(some (true, 4)), .mv (.c (.lit (.int .i64 0))), none⟩])
(.seq
(.seq
(.reg [
  ⟨(some (false, 5)), .mv (.g 1), none⟩,
  ⟨(some (false, 6)), .len (.l 5), none⟩,
  ⟨(some (true, 7)), .bin .eql (.l 6) (.c (.lit (.int .i64 0))), none⟩])
(.cond (.g 7)
(.seq
(.reg [
  ⟨(some (true, 4)), .mv (.c (.lit (.int .i64 0))), none⟩])
.ret)
.skip))
(.seq
(.reg [
  ⟨(some (false, 8)), .mv (.g 1), none⟩,
  ⟨(some (false, 9)), .mv (.g 0), none⟩,
  ⟨(some (false, 10)), .mv (.g 1), none⟩,
  ⟨(some (false, 11)), .len (.l 10), none⟩,
  ⟨(some (false, 12)), .call (.c (.fn 37 [])) [.l 9, .l 11], none⟩,
  ⟨(some (false, 13)), .ia 1 (.l 8) (.l 12), none⟩,
  ⟨(some (false, 14)), .ld none (.l 13), none⟩,
  ⟨(some (true, 4)), .mv (.l 14), none⟩])
.ret)))
def K41 : List Nat := [0, 1, 7, 4]
noncomputable def b41 : Code := match Try.f41.body with | some c => c | none => .skip
theorem t41 : trCode ⟨Try.prog, K41, [], 15, none⟩ b41 = some c41 := by kernel_rfl
theorem go41 {args : List AV} {H : AHeap} {Kk : AV → AHeap → Prop} (hn : args.length = 2) (h : AGo ⟨Try.prog, K41, [], 15, none⟩ H.length [.code c41] (RetP [.t (.g 4)] H.length Kk) ⟨[], argsG 0 args⟩ H) : ACalls Try.prog 41 args H Kk :=
  ACalls_of Try.func41 (c := b41) rfl (by kernel_rfl) t41 (rs := [.t (.g 4)]) (by kernel_rfl) (by rw [hn]; exact Nat.le_of_ble_eq_true rfl) (by rw [hn]; rfl) (h.weaken (fun _ _ => RetP.hands) (by simp))

/-- (*sastrugi/sastrugikit.Seed).Yes -/
def c68 : ACode :=
  (.seq
(.reg [
  ⟨(some (true, 4)), .mv (.c (.lit (.bool false))), none⟩])
(.seq
(.reg [
  ⟨(some (false, 5)), .mv (.g 0), none⟩,
  ⟨(some (false, 6)), .mv (.g 1), none⟩,
  ⟨(some (false, 7)), .call (.c (.fn 37 [])) [.l 5, .l 6], none⟩,
  ⟨(some (false, 8)), .bin .eql (.l 7) (.c (.lit (.int .i64 0))), none⟩,
  ⟨(some (true, 4)), .mv (.l 8), none⟩])
.ret))
def K68 : List Nat := [0, 1, 4]
noncomputable def b68 : Code := match Try.f68.body with | some c => c | none => .skip
theorem t68 : trCode ⟨Try.prog, K68, [], 9, none⟩ b68 = some c68 := by kernel_rfl
theorem go68 {args : List AV} {H : AHeap} {Kk : AV → AHeap → Prop} (hn : args.length = 2) (h : AGo ⟨Try.prog, K68, [], 9, none⟩ H.length [.code c68] (RetP [.t (.g 4)] H.length Kk) ⟨[], argsG 0 args⟩ H) : ACalls Try.prog 68 args H Kk :=
  ACalls_of Try.func68 (c := b68) rfl (by kernel_rfl) t68 (rs := [.t (.g 4)]) (by kernel_rfl) (by rw [hn]; exact Nat.le_of_ble_eq_true rfl) (by rw [hn]; rfl) (h.weaken (fun _ _ => RetP.hands) (by simp))

/-- (*sastrugi/sastrugikit.Seed).Span -/
def c38 : ACode :=
  (.seq
(.reg [
  ⟨(some (true, 6)), .new [.int .i64 0, .int .i64 0], none⟩])
(.seq
(.reg [
  ⟨(some (false, 8)), .mv (.g 0), none⟩,
  ⟨(some (false, 9)), .mv (.g 1), none⟩,
  ⟨(some (false, 10)), .mv (.g 2), none⟩,
  ⟨(some (false, 11)), .call (.c (.fn 45 [])) [.l 8, .l 9, .l 10], none⟩,
  ⟨(some (false, 12)), .mk [.int .i64 0, .int .i64 0] [(0, 1, .l 11)], none⟩,
  ⟨(some (true, 7)), .new [.int .i64 0, .int .i64 0], none⟩,
  ⟨none, .st 2 (.g 7) (.l 12), none⟩])
(.seq
(.reg [
  ⟨(some (false, 13)), .fa (.g 7) 0, none⟩,
  ⟨(some (false, 14)), .ld none (.l 13), none⟩,
  ⟨(some (false, 15)), .fa (.g 7) 1, none⟩,
  ⟨none, .st 1 (.l 15) (.l 14), none⟩])
(.seq
(.seq
(.reg [
  ⟨(some (false, 16)), .mv (.g 0), none⟩,
  ⟨(some (true, 17)), .call (.c (.fn 37 [])) [.l 16, .c (.lit (.int .i64 3))], none⟩])
(.block 0
(.seq
(.reg [
  ⟨(some (false, 19)), .bin .eql (.g 17) (.c (.lit (.int .i64 0))), none⟩,
  ⟨(some (true, 18)), .mv (.l 19), none⟩])
(.cond (.g 18)
(.reg [
  ⟨(some (false, 20)), .mv (.g 0), none⟩,
  ⟨(some (false, 21)), .fa (.g 7) 0, none⟩,
  ⟨(some (false, 22)), .ld none (.l 21), none⟩,
  ⟨(some (false, 23)), .mv (.g 2), none⟩,
  ⟨(some (false, 24)), .fa (.g 7) 0, none⟩,
  ⟨(some (false, 25)), .ld none (.l 24), none⟩,
  ⟨(some (false, 26)), .bin .add (.l 25) (.c (.lit (.int .i64 1))), none⟩,
  ⟨(some (false, 27)), .mv (.g 2), none⟩,
  ⟨(some (false, 28)), .mv (.g 1), none⟩,
  ⟨(some (false, 29)), .bin .sub (.l 27) (.l 28), none⟩,
  ⟨(some (false, 30)), .bin .quo (.l 29) (.c (.lit (.int .i64 10))), none⟩,
  ⟨(some (false, 31)), .bin .add (.l 26) (.l 30), none⟩,
  ⟨(some (false, 32)), .mn [.l 23, .l 31], none⟩,
  ⟨(some (false, 33)), .call (.c (.fn 45 [])) [.l 20, .l 22, .l 32], none⟩,
  ⟨(some (false, 34)), .fa (.g 7) 1, none⟩,
  ⟨none, .st 1 (.l 34) (.l 33), none⟩])
(.seq
(.reg [
  ⟨(some (false, 36)), .bin .eql (.g 17) (.c (.lit (.int .i64 1))), none⟩,
  ⟨(some (true, 35)), .mv (.l 36), none⟩])
(.cond (.g 35)
(.reg [
  ⟨(some (false, 37)), .mv (.g 0), none⟩,
  ⟨(some (false, 38)), .fa (.g 7) 0, none⟩,
  ⟨(some (false, 39)), .ld none (.l 38), none⟩,
  ⟨(some (false, 40)), .mv (.g 2), none⟩,
  ⟨(some (false, 41)), .call (.c (.fn 45 [])) [.l 37, .l 39, .l 40], none⟩,
  ⟨(some (false, 42)), .fa (.g 7) 1, none⟩,
  ⟨none, .st 1 (.l 42) (.l 41), none⟩])
.skip))))))
(.seq
(.reg [
  ⟨(some (false, 43)), .ld (some 2) (.g 7), none⟩,
  ⟨none, .st 2 (.g 6) (.l 43), none⟩])
.ret)))))
def K38 : List Nat := [0, 1, 2, 18, 35, 6, 7, 17]
noncomputable def b38 : Code := match Try.f38.body with | some c => c | none => .skip
theorem t38 : trCode ⟨Try.prog, K38, [], 44, none⟩ b38 = some c38 := by kernel_rfl
theorem go38 {args : List AV} {H : AHeap} {Kk : AV → AHeap → Prop} (hn : args.length = 3) (h : AGo ⟨Try.prog, K38, [], 44, none⟩ H.length [.code c38] (RetP [.cell (.g 6) (some 2)] H.length Kk) ⟨[], argsG 0 args⟩ H) : ACalls Try.prog 38 args H Kk :=
  ACalls_of Try.func38 (c := b38) rfl (by kernel_rfl) t38 (rs := [.cell (.g 6) (some 2)]) (by kernel_rfl) (by rw [hn]; exact Nat.le_of_ble_eq_true rfl) (by rw [hn]; rfl) (h.weaken (fun _ _ => RetP.hands) (by simp))

/-- (*sastrugi/sastrugikit.Seed).Inside -/
def c29 : ACode :=
  (.seq
(.reg [
  ⟨(some (true, 3)), .box (.g 1), none⟩,
  ⟨(some (true, 4)), .mv (.c (.lit (.int .i64 0))), none⟩])
(.seq
(.draw [
  ⟨⟨(some (false, 5)), .mv (.g 0), none⟩, 0, true, []⟩,
  ⟨⟨(some (false, 6)), .fa (.g 3) 0, none⟩, 1, true, []⟩,
  ⟨⟨(some (false, 7)), .ld none (.l 6), none⟩, 2, true, []⟩,
  ⟨⟨(some (false, 8)), .fa (.g 3) 1, none⟩, 3, true, []⟩,
  ⟨⟨(some (false, 9)), .ld none (.l 8), none⟩, 4, true, []⟩,
  ⟨⟨(some (false, 10)), .mv (.g 0), none⟩, 5, true, []⟩,
  ⟨⟨(some (false, 11)), .fa (.g 3) 0, none⟩, 6, true, []⟩,
  ⟨⟨(some (false, 12)), .ld none (.l 11), none⟩, 7, true, []⟩,
  ⟨⟨(some (false, 13)), .fa (.g 3) 1, none⟩, 8, true, []⟩,
  ⟨⟨(some (false, 14)), .ld none (.l 13), none⟩, 9, true, []⟩,
  ⟨⟨(some (false, 16)), .mv (.g 0), none⟩, 11, true, []⟩,
  ⟨⟨(some (false, 17)), .fa (.g 3) 0, none⟩, 12, true, []⟩,
  ⟨⟨(some (false, 18)), .ld none (.l 17), none⟩, 13, true, []⟩,
  ⟨⟨(some (false, 19)), .fa (.g 3) 1, none⟩, 14, true, []⟩,
  ⟨⟨(some (false, 20)), .ld none (.l 19), none⟩, 15, true, []⟩,
  ⟨⟨(some (false, 15)), .call (.c (.fn 45 [])) [.l 10, .l 12, .l 14], none⟩, 10, false, []⟩,
  ⟨⟨(some (false, 21)), .call (.c (.fn 45 [])) [.l 16, .l 18, .l 20], none⟩, 16, false, []⟩,
  ⟨⟨(some (false, 22)), .mks false 1 [.l 7, .l 9, .l 15, .l 21], none⟩, 17, true, []⟩,
  ⟨⟨(some (false, 23)), .call (.c (.fn 41 [])) [.l 5, .l 22], none⟩, 18, false, []⟩,
  ⟨⟨(some (true, 4)), .mv (.l 23), none⟩, 19, true, []⟩])
.ret))
def K29 : List Nat := [0, 1, 4, 3]
noncomputable def b29 : Code := match Try.f29.body with | some c => c | none => .skip
theorem t29 : trCode ⟨Try.prog, K29, [], 24, none⟩ b29 = some c29 := by kernel_rfl
theorem go29 {args : List AV} {H : AHeap} {Kk : AV → AHeap → Prop} (hn : args.length = 2) (h : AGo ⟨Try.prog, K29, [], 24, none⟩ H.length [.code c29] (RetP [.t (.g 4)] H.length Kk) ⟨[], argsG 0 args⟩ H) : ACalls Try.prog 29 args H Kk :=
  ACalls_of Try.func29 (c := b29) rfl (by kernel_rfl) t29 (rs := [.t (.g 4)]) (by kernel_rfl) (by rw [hn]; exact Nat.le_of_ble_eq_true rfl) (by rw [hn]; rfl) (h.weaken (fun _ _ => RetP.hands) (by simp))

/-- (*sastrugi/sastrugikit.Seed).Part -/
def c35 : ACode :=
  (.seq
(.reg [
  ⟨(some (true, 3)), .box (.g 1), none⟩,
  ⟨(some (true, 4)), .new [.int .i64 0, .int .i64 0], none⟩])
(.seq
(.draw [
  ⟨⟨(some (false, 7)), .mv (.g 0), none⟩, 0, true, []⟩,
  ⟨⟨(some (false, 8)), .ld (some 2) (.g 3), none⟩, 1, true, []⟩,
  ⟨⟨(some (false, 10)), .mv (.g 0), none⟩, 3, true, []⟩,
  ⟨⟨(some (false, 11)), .ld (some 2) (.g 3), none⟩, 4, true, []⟩,
  ⟨⟨(some (false, 9)), .call (.c (.fn 29 [])) [.l 7, .l 8], none⟩, 2, false, []⟩,
  ⟨⟨(some (false, 12)), .call (.c (.fn 29 [])) [.l 10, .l 11], none⟩, 5, false, []⟩,
  ⟨⟨(some (true, 5)), .mv (.l 9), none⟩, 6, true, []⟩,
  ⟨⟨(some (true, 6)), .mv (.l 12), none⟩, 7, true, []⟩])
(.seq
(.reg [
  ⟨(some (false, 13)), .mv (.g 5), none⟩,
  ⟨(some (false, 14)), .mv (.g 6), none⟩,
  ⟨(some (false, 15)), .mn [.l 13, .l 14], none⟩,
  ⟨(some (false, 16)), .mv (.g 5), none⟩,
  ⟨(some (false, 17)), .mv (.g 6), none⟩,
  ⟨(some (false, 18)), .mx [.l 16, .l 17], none⟩,
  ⟨(some (false, 19)), .mk [.int .i64 0, .int .i64 0] [(0, 1, .l 15), (1, 1, .l 18)], none⟩,
  ⟨none, .st 2 (.g 4) (.l 19), none⟩])
.ret)))
def K35 : List Nat := [0, 1, 4, 3, 5, 6]
noncomputable def b35 : Code := match Try.f35.body with | some c => c | none => .skip
theorem t35 : trCode ⟨Try.prog, K35, [], 20, none⟩ b35 = some c35 := by kernel_rfl
theorem go35 {args : List AV} {H : AHeap} {Kk : AV → AHeap → Prop} (hn : args.length = 2) (h : AGo ⟨Try.prog, K35, [], 20, none⟩ H.length [.code c35] (RetP [.cell (.g 4) (some 2)] H.length Kk) ⟨[], argsG 0 args⟩ H) : ACalls Try.prog 35 args H Kk :=
  ACalls_of Try.func35 (c := b35) rfl (by kernel_rfl) t35 (rs := [.cell (.g 4) (some 2)]) (by kernel_rfl) (by rw [hn]; exact Nat.le_of_ble_eq_true rfl) (by rw [hn]; rfl) (h.weaken (fun _ _ => RetP.hands) (by simp))

/-- sastrugi/sastrugikit.TableOf -/
def c84 : ACode :=
  (.seq
(.reg [
  ⟨(some (true, 4)), .mv (.c (.lit (.slice none 0 0))), none⟩])
(.seq
(.reg [
  ⟨(some (false, 9)), .mk [.int .i64 0, .int .i64 0] [(1, 1, .c (.lit (.int .i64 1000000)))], none⟩,
  ⟨(some (false, 10)), .mks true 2 [.l 9], none⟩,
  ⟨(some (true, 5)), .mv (.l 10), none⟩])
(.seq
(.reg [
  ⟨(some (true, 6)), .mv (.c (.lit (.int .i64 0))), none⟩,
  ⟨(some (true, 7)), .mv (.c (.lit (.int .i64 1000000))), none⟩])
(.seq
(.seq
(.reg [
  ⟨(some (false, 11)), .mv (.g 0), none⟩,
  ⟨(some (false, 12)), .call (.c (.fn 37 [])) [.l 11, .c (.lit (.int .i64 5))], none⟩,
  ⟨(some (true, 8)), .mv (.l 12), none⟩])
(.block 0
(.loop
(.seq
(.seq
(.reg [
  ⟨(some (false, 13)), .mv (.g 8), none⟩,
  ⟨(some (true, 14)), .bin .gtr (.l 13) (.c (.lit (.int .i64 0))), none⟩])
(.cond (.g 14)
.skip
(.exit 0)))
(.seq
(.block 1
(.seq
(.reg [
  ⟨(some (false, 17)), .mv (.g 6), none⟩,
  ⟨(some (false, 18)), .mv (.g 0), none⟩,
  ⟨(some (false, 19)), .mv (.g 1), none⟩,
  ⟨(some (false, 20)), .bin .quo (.l 19) (.c (.lit (.int .i64 4))), none⟩,
  ⟨(some (false, 21)), .call (.c (.fn 45 [])) [.l 18, .c (.lit (.int .i64 1)), .l 20], none⟩,
  ⟨(some (false, 22)), .bin .add (.l 17) (.l 21), none⟩,
  ⟨(some (false, 23)), .mv (.g 0), none⟩,
  ⟨(some (false, 24)), .mv (.g 7), none⟩,
  ⟨(some (false, 25)), .mv (.g 0), none⟩,
  ⟨(some (false, 26)), .mv (.g 7), none⟩,
  ⟨(some (false, 27)), .call (.c (.fn 45 [])) [.l 25, .c (.lit (.int .i64 0)), .l 26], none⟩,
  ⟨(some (false, 28)), .mv (.g 0), none⟩,
  ⟨(some (false, 29)), .mv (.g 7), none⟩,
  ⟨(some (false, 30)), .call (.c (.fn 45 [])) [.l 28, .c (.lit (.int .i64 0)), .l 29], none⟩,
  ⟨(some (false, 31)), .mks false 1 [.c (.lit (.int .i64 0)), .l 24, .l 27, .l 30], none⟩,
  ⟨(some (false, 32)), .call (.c (.fn 41 [])) [.l 23, .l 31], none⟩,
  ⟨(some (true, 6)), .mv (.l 22), none⟩,
  ⟨(some (true, 7)), .mv (.l 32), none⟩])
(.reg [
  ⟨(some (false, 33)), .mv (.g 5), none⟩,
  ⟨(some (false, 34)), .mv (.g 6), none⟩,
  ⟨(some (false, 35)), .mv (.g 7), none⟩,
  ⟨(some (false, 36)), .mk [.int .i64 0, .int .i64 0] [(0, 1, .l 34), (1, 1, .l 35)], none⟩,
  ⟨(some (false, 37)), .mks false 2 [.l 36], none⟩,
  ⟨(some (false, 38)), .app 2 16 (.l 33) (.l 37), none⟩,
  ⟨(some (true, 5)), .mv (.l 38), none⟩])))
(.reg [
  ⟨(some (false, 15)), .mv (.g 8), none⟩,
  ⟨(some (false, 16)), .bin .sub (.l 15) (.c (.lit (.int .i64 1))), none⟩,
  ⟨(some (true, 8)), .mv (.l 16), none⟩]))))))
(.seq
(.reg [
  ⟨(some (false, 39)), .mv (.g 5), none⟩,
  ⟨(some (true, 4)), .mv (.l 39), none⟩])
.ret)))))
def K84 : List Nat := [0, 1, 14, 4, 5, 6, 7, 8]
noncomputable def b84 : Code := match Try.f84.body with | some c => c | none => .skip
theorem t84 : trCode ⟨Try.prog, K84, [10], 40, none⟩ b84 = some c84 := by kernel_rfl
theorem go84 {args : List AV} {H : AHeap} {Kk : AV → AHeap → Prop} (hn : args.length = 2) (h : AGo ⟨Try.prog, K84, [10], 40, none⟩ H.length [.code c84] (RetP [.t (.g 4)] H.length Kk) ⟨[], argsG 0 args⟩ H) : ACalls Try.prog 84 args H Kk :=
  ACalls_of Try.func84 (c := b84) rfl (by kernel_rfl) t84 (rs := [.t (.g 4)]) (by kernel_rfl) (by rw [hn]; exact Nat.le_of_ble_eq_true rfl) (by rw [hn]; rfl) (h.weaken (fun _ _ => RetP.hands) (by simp))

/-- sastrugi/sastrugikit.PlateOf -/
def c21 : ACode :=
  (.seq
(.reg [
  ⟨(some (true, 2)), .new [.int .i64 0, .int .i64 0, .slice none 0 0, .slice none 0 0, .int .i64 0, .int .i64 0, .int .i64 0, .int .i64 0, .int .i64 0, .int .i64 0, .int .i64 0], none⟩])
(.seq
(.reg [
  ⟨(some (false, 4)), .mv (.g 0), none⟩,
  ⟨(some (false, 5)), .mv (.g 0), none⟩,
  ⟨(some (false, 6)), .mks false 1 [.c (.lit (.int .i64 1)), .c (.lit (.int .i64 30000))], none⟩,
  ⟨(some (false, 7)), .call (.c (.fn 41 [])) [.l 5, .l 6], none⟩,
  ⟨(some (false, 8)), .mv (.g 0), none⟩,
  ⟨(some (false, 9)), .mks false 1 [.c (.lit (.int .i64 60000)), .c (.lit (.int .i64 100000))], none⟩,
  ⟨(some (false, 10)), .call (.c (.fn 41 [])) [.l 8, .l 9], none⟩,
  ⟨(some (false, 11)), .call (.c (.fn 38 [])) [.l 4, .l 7, .l 10], none⟩,
  ⟨(some (false, 12)), .mv (.g 0), none⟩,
  ⟨(some (false, 13)), .call (.c (.fn 84 [])) [.l 12, .c (.lit (.int .i64 200))], none⟩,
  ⟨(some (false, 14)), .mv (.g 0), none⟩,
  ⟨(some (false, 15)), .call (.c (.fn 84 [])) [.l 14, .c (.lit (.int .i64 2000))], none⟩,
  ⟨(some (false, 16)), .mv (.g 0), none⟩,
  ⟨(some (false, 17)), .mks false 1 [.c (.lit (.int .i64 0)), .c (.lit (.int .i64 5)), .c (.lit (.int .i64 40))], none⟩,
  ⟨(some (false, 18)), .call (.c (.fn 41 [])) [.l 16, .l 17], none⟩,
  ⟨(some (false, 19)), .mv (.g 0), none⟩,
  ⟨(some (false, 20)), .call (.c (.fn 45 [])) [.l 19, .c (.lit (.int .i64 0)), .c (.lit (.int .i64 1000000))], none⟩,
  ⟨(some (false, 21)), .mv (.g 0), none⟩,
  ⟨(some (false, 22)), .mv (.g 0), none⟩,
  ⟨(some (false, 23)), .call (.c (.fn 45 [])) [.l 22, .c (.lit (.int .i64 1)), .c (.lit (.int .i64 1000))], none⟩,
  ⟨(some (false, 24)), .mks false 1 [.c (.lit (.int .i64 98)), .c (.lit (.int .i64 1)), .l 23], none⟩,
  ⟨(some (false, 25)), .call (.c (.fn 41 [])) [.l 21, .l 24], none⟩,
  ⟨(some (false, 26)), .mv (.g 0), none⟩,
  ⟨(some (false, 27)), .call (.c (.fn 45 [])) [.l 26, .c (.lit (.int .i64 1)), .c (.lit (.int .i64 1000000))], none⟩,
  ⟨(some (false, 28)), .mv (.g 0), none⟩,
  ⟨(some (false, 29)), .call (.c (.fn 37 [])) [.l 28, .c (.lit (.int .i64 400))], none⟩,
  ⟨(some (false, 30)), .mv (.g 0), none⟩,
  ⟨(some (false, 31)), .mv (.g 0), none⟩,
  ⟨(some (false, 32)), .call (.c (.fn 45 [])) [.l 31, .c (.lit (.int .i64 0)), .c (.lit (.int .i64 1000000))], none⟩,
  ⟨(some (false, 33)), .mks false 1 [.c (.lit (.int .i64 0)), .l 32, .c (.lit (.int .i64 1000000))], none⟩,
  ⟨(some (false, 34)), .call (.c (.fn 41 [])) [.l 30, .l 33], none⟩,
  ⟨(some (false, 35)), .mk [.int .i64 0, .int .i64 0, .slice none 0 0, .slice none 0 0, .int .i64 0, .int .i64 0, .int .i64 0, .int .i64 0, .int .i64 0, .int .i64 0, .int .i64 0] [(0, 2, .l 11), (2, 1, .l 13), (3, 1, .l 15), (4, 1, .l 18), (5, 1, .l 20), (6, 1, .l 25), (7, 1, .l 27), (9, 1, .l 29), (10, 1, .l 34)], none⟩,
  ⟨(some (true, 3)), .new [.int .i64 0, .int .i64 0, .slice none 0 0, .slice none 0 0, .int .i64 0, .int .i64 0, .int .i64 0, .int .i64 0, .int .i64 0, .int .i64 0, .int .i64 0], none⟩,
  ⟨none, .st 11 (.g 3) (.l 35), none⟩])
(.seq
(.draw [
  ⟨⟨(some (false, 36)), .mv (.g 0), none⟩, 0, true, []⟩,
  ⟨⟨(some (false, 37)), .fa (.g 3) 7, none⟩, 1, true, []⟩,
  ⟨⟨(some (false, 38)), .ld none (.l 37), none⟩, 2, true, []⟩,
  ⟨⟨(some (false, 39)), .mv (.g 0), none⟩, 3, true, []⟩,
  ⟨⟨(some (false, 40)), .fa (.g 3) 7, none⟩, 4, true, []⟩,
  ⟨⟨(some (false, 41)), .ld none (.l 40), none⟩, 5, true, []⟩,
  ⟨⟨(some (false, 42)), .call (.c (.fn 45 [])) [.l 39, .l 41, .c (.lit (.int .i64 2000000))], none⟩, 6, false, []⟩,
  ⟨⟨(some (false, 43)), .mks false 1 [.l 38, .l 42], none⟩, 7, true, []⟩,
  ⟨⟨(some (false, 44)), .call (.c (.fn 41 [])) [.l 36, .l 43], none⟩, 8, false, []⟩,
  ⟨⟨(some (false, 45)), .fa (.g 3) 8, none⟩, 9, true, []⟩,
  ⟨⟨none, .st 1 (.l 45) (.l 44), none⟩, 10, true, []⟩])
(.seq
(.reg [
  ⟨(some (false, 46)), .ld (some 11) (.g 3), none⟩,
  ⟨none, .st 11 (.g 2) (.l 46), none⟩])
.ret))))
def K21 : List Nat := [0, 2, 3]
noncomputable def b21 : Code := match Try.f21.body with | some c => c | none => .skip
theorem t21 : trCode ⟨Try.prog, K21, [], 47, none⟩ b21 = some c21 := by kernel_rfl
theorem go21 {args : List AV} {H : AHeap} {Kk : AV → AHeap → Prop} (hn : args.length = 1) (h : AGo ⟨Try.prog, K21, [], 47, none⟩ H.length [.code c21] (RetP [.cell (.g 2) (some 11)] H.length Kk) ⟨[], argsG 0 args⟩ H) : ACalls Try.prog 21 args H Kk :=
  ACalls_of Try.func21 (c := b21) rfl (by kernel_rfl) t21 (rs := [.cell (.g 2) (some 11)]) (by kernel_rfl) (by rw [hn]; exact Nat.le_of_ble_eq_true rfl) (by rw [hn]; rfl) (h.weaken (fun _ _ => RetP.hands) (by simp))

/-- sastrugi/sastrugikit.BedsOf -/
def c22 : ACode :=
  (.seq
(.reg [
  ⟨(some (true, 4)), .mv (.c (.lit (.slice none 0 0))), none⟩])
(.seq
(.reg [
  ⟨(some (true, 5)), .mv (.c (.lit (.slice none 0 0))), none⟩])
(.seq
(.seq
(.reg [
  ⟨(some (false, 7)), .mv (.g 0), none⟩,
  ⟨(some (false, 8)), .mv (.g 1), none⟩,
  ⟨(some (false, 9)), .call (.c (.fn 45 [])) [.l 7, .c (.lit (.int .i64 1)), .l 8], none⟩,
  ⟨(some (true, 6)), .mv (.l 9), none⟩])
(.block 0
(.loop
(.seq
(.seq
(.reg [
  ⟨(some (false, 10)), .mv (.g 6), none⟩,
  ⟨(some (true, 11)), .bin .gtr (.l 10) (.c (.lit (.int .i64 0))), none⟩])
(.cond (.g 11)
.skip
(.exit 0)))
(.seq
(.block 1
(.reg [
  ⟨(some (false, 14)), .mv (.g 5), none⟩,
  ⟨(some (false, 15)), .mv (.g 0), none⟩,
  ⟨(some (false, 16)), .mv (.g 0), none⟩,
  ⟨(some (false, 17)), .mks false 1 [.c (.lit (.int .i64 0)), .c (.lit (.int .i64 300)), .c (.lit (.int .i64 600))], none⟩,
  ⟨(some (false, 18)), .call (.c (.fn 41 [])) [.l 16, .l 17], none⟩,
  ⟨(some (false, 19)), .mv (.g 0), none⟩,
  ⟨(some (false, 20)), .mks false 1 [.c (.lit (.int .i64 700)), .c (.lit (.int .i64 1500))], none⟩,
  ⟨(some (false, 21)), .call (.c (.fn 41 [])) [.l 19, .l 20], none⟩,
  ⟨(some (false, 22)), .call (.c (.fn 38 [])) [.l 15, .l 18, .l 21], none⟩,
  ⟨(some (false, 23)), .mks false 2 [.l 22], none⟩,
  ⟨(some (false, 24)), .app 2 16 (.l 14) (.l 23), none⟩,
  ⟨(some (true, 5)), .mv (.l 24), none⟩]))
(.reg [
  ⟨(some (false, 12)), .mv (.g 6), none⟩,
  ⟨(some (false, 13)), .bin .sub (.l 12) (.c (.lit (.int .i64 1))), none⟩,
  ⟨(some (true, 6)), .mv (.l 13), none⟩]))))))
(.seq
(.reg [
  ⟨(some (false, 25)), .mv (.g 5), none⟩,
  ⟨(some (true, 4)), .mv (.l 25), none⟩])
.ret))))
def K22 : List Nat := [0, 1, 11, 4, 5, 6]
noncomputable def b22 : Code := match Try.f22.body with | some c => c | none => .skip
theorem t22 : trCode ⟨Try.prog, K22, [], 26, none⟩ b22 = some c22 := by kernel_rfl
theorem go22 {args : List AV} {H : AHeap} {Kk : AV → AHeap → Prop} (hn : args.length = 2) (h : AGo ⟨Try.prog, K22, [], 26, none⟩ H.length [.code c22] (RetP [.t (.g 4)] H.length Kk) ⟨[], argsG 0 args⟩ H) : ACalls Try.prog 22 args H Kk :=
  ACalls_of Try.func22 (c := b22) rfl (by kernel_rfl) t22 (rs := [.t (.g 4)]) (by kernel_rfl) (by rw [hn]; exact Nat.le_of_ble_eq_true rfl) (by rw [hn]; rfl) (h.weaken (fun _ _ => RetP.hands) (by simp))

/-- sastrugi/sastrugikit.CracksOf -/
def c23 : ACode :=
  (.seq
(.reg [
  ⟨(some (true, 6)), .mv (.c (.lit (.slice none 0 0))), none⟩])
(.seq
(.reg [
  ⟨(some (true, 7)), .mv (.c (.lit (.slice none 0 0))), none⟩])
(.seq
(.seq
(.reg [
  ⟨(some (false, 10)), .mv (.g 0), none⟩,
  ⟨(some (false, 11)), .mv (.g 2), none⟩,
  ⟨(some (false, 12)), .bin .add (.l 11) (.c (.lit (.int .i64 1))), none⟩,
  ⟨(some (false, 13)), .call (.c (.fn 37 [])) [.l 10, .l 12], none⟩,
  ⟨(some (true, 8)), .mv (.l 13), none⟩])
(.block 0
(.loop
(.seq
(.seq
(.reg [
  ⟨(some (false, 14)), .mv (.g 8), none⟩,
  ⟨(some (true, 15)), .bin .gtr (.l 14) (.c (.lit (.int .i64 0))), none⟩])
(.cond (.g 15)
.skip
(.exit 0)))
(.seq
(.block 1
(.seq
(.reg [
  ⟨(some (false, 18)), .mv (.g 0), none⟩,
  ⟨(some (false, 19)), .mv (.g 1), none⟩,
  ⟨(some (false, 20)), .bin .mul (.c (.lit (.int .i64 100))) (.l 19), none⟩,
  ⟨(some (false, 21)), .call (.c (.fn 37 [])) [.l 18, .l 20], none⟩,
  ⟨(some (true, 9)), .mv (.l 21), none⟩])
(.reg [
  ⟨(some (false, 22)), .mv (.g 7), none⟩,
  ⟨(some (false, 23)), .mv (.g 9), none⟩,
  ⟨(some (false, 24)), .mv (.g 9), none⟩,
  ⟨(some (false, 25)), .mv (.g 0), none⟩,
  ⟨(some (false, 26)), .mks false 1 [.c (.lit (.int .i64 0)), .c (.lit (.int .i64 3)), .c (.lit (.int .i64 30))], none⟩,
  ⟨(some (false, 27)), .call (.c (.fn 41 [])) [.l 25, .l 26], none⟩,
  ⟨(some (false, 28)), .bin .add (.l 24) (.l 27), none⟩,
  ⟨(some (false, 29)), .mk [.int .i64 0, .int .i64 0] [(0, 1, .l 23), (1, 1, .l 28)], none⟩,
  ⟨(some (false, 30)), .mks false 2 [.l 29], none⟩,
  ⟨(some (false, 31)), .app 2 16 (.l 22) (.l 30), none⟩,
  ⟨(some (true, 7)), .mv (.l 31), none⟩])))
(.reg [
  ⟨(some (false, 16)), .mv (.g 8), none⟩,
  ⟨(some (false, 17)), .bin .sub (.l 16) (.c (.lit (.int .i64 1))), none⟩,
  ⟨(some (true, 8)), .mv (.l 17), none⟩]))))))
(.seq
(.reg [
  ⟨(some (false, 32)), .mv (.g 7), none⟩,
  ⟨(some (true, 6)), .mv (.l 32), none⟩])
.ret))))
def K23 : List Nat := [0, 1, 2, 15, 6, 7, 8, 9]
noncomputable def b23 : Code := match Try.f23.body with | some c => c | none => .skip
theorem t23 : trCode ⟨Try.prog, K23, [], 33, none⟩ b23 = some c23 := by kernel_rfl
theorem go23 {args : List AV} {H : AHeap} {Kk : AV → AHeap → Prop} (hn : args.length = 3) (h : AGo ⟨Try.prog, K23, [], 33, none⟩ H.length [.code c23] (RetP [.t (.g 6)] H.length Kk) ⟨[], argsG 0 args⟩ H) : ACalls Try.prog 23 args H Kk :=
  ACalls_of Try.func23 (c := b23) rfl (by kernel_rfl) t23 (rs := [.t (.g 6)]) (by kernel_rfl) (by rw [hn]; exact Nat.le_of_ble_eq_true rfl) (by rw [hn]; rfl) (h.weaken (fun _ _ => RetP.hands) (by simp))

/-- sastrugi/sastrugikit.LoadsOf -/
def c24 : ACode :=
  (.seq
(.reg [
  ⟨(some (true, 6)), .mv (.c (.lit (.slice none 0 0))), none⟩])
(.seq
(.reg [
  ⟨(some (true, 7)), .mv (.c (.lit (.slice none 0 0))), none⟩])
(.seq
(.reg [
  ⟨(some (false, 10)), .mv (.g 0), none⟩,
  ⟨(some (false, 11)), .mv (.g 1), none⟩,
  ⟨(some (false, 12)), .bin .mul (.c (.lit (.int .i64 100))) (.l 11), none⟩,
  ⟨(some (false, 13)), .call (.c (.fn 37 [])) [.l 10, .l 12], none⟩,
  ⟨(some (true, 8)), .mv (.l 13), none⟩])
(.seq
(.seq
(.reg [
  ⟨(some (false, 14)), .mv (.g 0), none⟩,
  ⟨(some (false, 15)), .mv (.g 2), none⟩,
  ⟨(some (false, 16)), .bin .add (.l 15) (.c (.lit (.int .i64 1))), none⟩,
  ⟨(some (false, 17)), .call (.c (.fn 37 [])) [.l 14, .l 16], none⟩,
  ⟨(some (true, 9)), .mv (.l 17), none⟩])
(.block 0
(.loop
(.seq
(.seq
(.reg [
  ⟨(some (false, 18)), .mv (.g 9), none⟩,
  ⟨(some (true, 19)), .bin .gtr (.l 18) (.c (.lit (.int .i64 0))), none⟩])
(.cond (.g 19)
.skip
(.exit 0)))
(.seq
(.block 1
(.seq
(.reg [
  ⟨(some (false, 22)), .mv (.g 0), none⟩,
  ⟨(some (false, 23)), .mv (.g 8), none⟩,
  ⟨(some (false, 24)), .mv (.g 0), none⟩,
  ⟨(some (false, 25)), .mv (.g 1), none⟩,
  ⟨(some (false, 26)), .bin .mul (.c (.lit (.int .i64 100))) (.l 25), none⟩,
  ⟨(some (false, 27)), .call (.c (.fn 37 [])) [.l 24, .l 26], none⟩,
  ⟨(some (false, 28)), .mv (.g 1), none⟩,
  ⟨(some (false, 29)), .bin .mul (.c (.lit (.int .i64 100))) (.l 28), none⟩,
  ⟨(some (false, 30)), .bin .sub (.l 29) (.c (.lit (.int .i64 1))), none⟩,
  ⟨(some (false, 31)), .mv (.g 8), none⟩,
  ⟨(some (false, 32)), .mv (.g 0), none⟩,
  ⟨(some (false, 33)), .call (.c (.fn 37 [])) [.l 32, .c (.lit (.int .i64 40))], none⟩,
  ⟨(some (false, 34)), .bin .add (.l 31) (.l 33), none⟩,
  ⟨(some (false, 35)), .mn [.l 30, .l 34], none⟩,
  ⟨(some (false, 36)), .mks false 1 [.l 23, .l 27, .l 35], none⟩,
  ⟨(some (false, 37)), .call (.c (.fn 41 [])) [.l 22, .l 36], none⟩,
  ⟨(some (true, 8)), .mv (.l 37), none⟩])
(.reg [
  ⟨(some (false, 38)), .mv (.g 7), none⟩,
  ⟨(some (false, 39)), .mv (.g 8), none⟩,
  ⟨(some (false, 40)), .mv (.g 0), none⟩,
  ⟨(some (false, 41)), .mv (.g 0), none⟩,
  ⟨(some (false, 42)), .mks false 1 [.c (.lit (.int .i64 0)), .c (.lit (.int .i64 5000))], none⟩,
  ⟨(some (false, 43)), .call (.c (.fn 41 [])) [.l 41, .l 42], none⟩,
  ⟨(some (false, 44)), .mv (.g 0), none⟩,
  ⟨(some (false, 45)), .mks false 1 [.c (.lit (.int .i64 12000)), .c (.lit (.int .i64 40000))], none⟩,
  ⟨(some (false, 46)), .call (.c (.fn 41 [])) [.l 44, .l 45], none⟩,
  ⟨(some (false, 47)), .call (.c (.fn 38 [])) [.l 40, .l 43, .l 46], none⟩,
  ⟨(some (false, 48)), .mv (.g 0), none⟩,
  ⟨(some (false, 49)), .mv (.g 0), none⟩,
  ⟨(some (false, 50)), .call (.c (.fn 37 [])) [.l 49, .c (.lit (.int .i64 3000))], none⟩,
  ⟨(some (false, 51)), .mks false 1 [.c (.lit (.int .i64 0)), .c (.lit (.int .i64 0)), .l 50], none⟩,
  ⟨(some (false, 52)), .call (.c (.fn 41 [])) [.l 48, .l 51], none⟩,
  ⟨(some (false, 53)), .mk [.int .i64 0, .int .i64 0, .int .i64 0, .int .i64 0] [(0, 1, .l 39), (1, 2, .l 47), (3, 1, .l 52)], none⟩,
  ⟨(some (false, 54)), .mks false 4 [.l 53], none⟩,
  ⟨(some (false, 55)), .app 4 32 (.l 38) (.l 54), none⟩,
  ⟨(some (true, 7)), .mv (.l 55), none⟩])))
(.reg [
  ⟨(some (false, 20)), .mv (.g 9), none⟩,
  ⟨(some (false, 21)), .bin .sub (.l 20) (.c (.lit (.int .i64 1))), none⟩,
  ⟨(some (true, 9)), .mv (.l 21), none⟩]))))))
(.seq
(.reg [
  ⟨(some (false, 56)), .mv (.g 7), none⟩,
  ⟨(some (true, 6)), .mv (.l 56), none⟩])
.ret)))))
def K24 : List Nat := [0, 1, 2, 19, 6, 7, 8, 9]
noncomputable def b24 : Code := match Try.f24.body with | some c => c | none => .skip
theorem t24 : trCode ⟨Try.prog, K24, [], 57, none⟩ b24 = some c24 := by kernel_rfl
theorem go24 {args : List AV} {H : AHeap} {Kk : AV → AHeap → Prop} (hn : args.length = 3) (h : AGo ⟨Try.prog, K24, [], 57, none⟩ H.length [.code c24] (RetP [.t (.g 6)] H.length Kk) ⟨[], argsG 0 args⟩ H) : ACalls Try.prog 24 args H Kk :=
  ACalls_of Try.func24 (c := b24) rfl (by kernel_rfl) t24 (rs := [.t (.g 6)]) (by kernel_rfl) (by rw [hn]; exact Nat.le_of_ble_eq_true rfl) (by rw [hn]; rfl) (h.weaken (fun _ _ => RetP.hands) (by simp))

/-- sastrugi/sastrugikit.NewSeed -/
def c20 : ACode :=
  (.seq
(.reg [
  ⟨(some (true, 2)), .mv (.c (.lit (.pointer none))), none⟩])
(.seq
(.reg [
  ⟨(some (false, 5)), .mk [.int .u64 0] [(0, 1, .c (.lit (.int .u64 1)))], none⟩,
  ⟨(some (false, 6)), .box (.l 5), none⟩,
  ⟨(some (true, 3)), .mv (.l 6), none⟩])
(.seq
(.seq
(.reg [
  ⟨(some (true, 4)), .mv (.c (.lit (.int .i64 0))), none⟩])
(.block 0
(.loop
(.seq
(.seq
(.reg [
  ⟨(some (false, 7)), .mv (.g 4), none⟩,
  ⟨(some (false, 8)), .mv (.g 0), none⟩,
  ⟨(some (false, 9)), .len (.l 8), none⟩,
  ⟨(some (true, 10)), .bin .lss (.l 7) (.l 9), none⟩])
(.cond (.g 10)
.skip
(.exit 0)))
(.seq
(.block 1
(.seq
(.draw [
  ⟨⟨(some (false, 13)), .mv (.g 3), none⟩, 0, true, []⟩,
  ⟨⟨(some (false, 14)), .mv (.g 3), none⟩, 1, true, []⟩,
  ⟨⟨(some (false, 15)), .nilc (.l 14), none⟩, 2, true, []⟩,
  ⟨⟨(some (false, 16)), .fa (.l 15) 0, none⟩, 3, true, []⟩,
  ⟨⟨(some (false, 17)), .ld none (.l 16), none⟩, 4, true, []⟩,
  ⟨⟨(some (false, 18)), .bin .mul (.l 17) (.c (.lit (.int .u64 6364136223846793005))), none⟩, 5, true, []⟩,
  ⟨⟨(some (false, 19)), .mv (.g 0), none⟩, 6, true, []⟩,
  ⟨⟨(some (false, 20)), .mv (.g 4), none⟩, 7, true, []⟩,
  ⟨⟨(some (false, 21)), .ia 1 (.l 19) (.l 20), none⟩, 8, true, []⟩,
  ⟨⟨(some (false, 22)), .ld none (.l 21), none⟩, 9, true, []⟩,
  ⟨⟨(some (false, 23)), .cv .u64 (.l 22), none⟩, 10, true, []⟩,
  ⟨⟨(some (false, 24)), .bin .add (.l 18) (.l 23), none⟩, 11, true, []⟩,
  ⟨⟨(some (false, 25)), .bin .add (.l 24) (.c (.lit (.int .u64 1442695040888963407))), none⟩, 12, true, []⟩,
  ⟨⟨(some (false, 26)), .nilc (.l 13), none⟩, 13, true, []⟩,
  ⟨⟨(some (false, 27)), .fa (.l 26) 0, none⟩, 14, true, []⟩,
  ⟨⟨none, .st 1 (.l 27) (.l 25), none⟩, 15, true, []⟩])
(.reg [
  ⟨(some (false, 28)), .mv (.g 3), none⟩,
  ⟨(some (false, 29)), .call (.c (.fn 83 [])) [.l 28], none⟩])))
(.reg [
  ⟨(some (false, 11)), .mv (.g 4), none⟩,
  ⟨(some (false, 12)), .bin .add (.l 11) (.c (.lit (.int .i64 1))), none⟩,
  ⟨(some (true, 4)), .mv (.l 12), none⟩]))))))
(.seq
(.reg [
  ⟨(some (false, 30)), .mv (.g 3), none⟩,
  ⟨(some (true, 2)), .mv (.l 30), none⟩])
.ret))))
def K20 : List Nat := [0, 10, 2, 3, 4]
noncomputable def b20 : Code := match Try.f20.body with | some c => c | none => .skip
theorem t20 : trCode ⟨Try.prog, K20, [], 31, none⟩ b20 = some c20 := by kernel_rfl
theorem go20 {args : List AV} {H : AHeap} {Kk : AV → AHeap → Prop} (hn : args.length = 1) (h : AGo ⟨Try.prog, K20, [], 31, none⟩ H.length [.code c20] (RetP [.t (.g 2)] H.length Kk) ⟨[], argsG 0 args⟩ H) : ACalls Try.prog 20 args H Kk :=
  ACalls_of Try.func20 (c := b20) rfl (by kernel_rfl) t20 (rs := [.t (.g 2)]) (by kernel_rfl) (by rw [hn]; exact Nat.le_of_ble_eq_true rfl) (by rw [hn]; rfl) (h.weaken (fun _ _ => RetP.hands) (by simp))

/-- sastrugi/bear.fault -/
def c91 : ACode :=
  (.seq
(.reg [
  ⟨(some (true, 3)), .box (.g 0), none⟩,
  ⟨(some (true, 6)), .mv (.c (.lit (.int .i64 0))), none⟩])
(.seq
(.block 0
(.seq
(.reg [
  ⟨(some (false, 8)), .fa (.g 3) 0, none⟩,
  ⟨(some (false, 9)), .ld none (.l 8), none⟩,
  ⟨(some (false, 10)), .mv (.g 1), none⟩,
  ⟨(some (false, 11)), .bin .lss (.l 9) (.l 10), none⟩,
  ⟨(some (false, 12)), .mv (.l 11), none⟩,
  ⟨(some (false, 13)), .fa (.g 3) 0, (some (.l 12, false))⟩,
  ⟨(some (false, 14)), .ld none (.l 13), (some (.l 12, false))⟩,
  ⟨(some (false, 15)), .mv (.g 2), (some (.l 12, false))⟩,
  ⟨(some (false, 16)), .bin .gtr (.l 14) (.l 15), (some (.l 12, false))⟩,
  ⟨(some (false, 17)), .pick (.l 12) (.c (.lit (.bool true))) (.l 16), none⟩,
  ⟨(some (false, 18)), .mv (.l 17), none⟩,
  ⟨(some (false, 19)), .fa (.g 3) 1, (some (.l 18, false))⟩,
  ⟨(some (false, 20)), .ld none (.l 19), (some (.l 18, false))⟩,
  ⟨(some (false, 21)), .mv (.g 1), (some (.l 18, false))⟩,
  ⟨(some (false, 22)), .bin .lss (.l 20) (.l 21), (some (.l 18, false))⟩,
  ⟨(some (false, 23)), .pick (.l 18) (.c (.lit (.bool true))) (.l 22), none⟩,
  ⟨(some (false, 24)), .mv (.l 23), none⟩,
  ⟨(some (false, 25)), .fa (.g 3) 1, (some (.l 24, false))⟩,
  ⟨(some (false, 26)), .ld none (.l 25), (some (.l 24, false))⟩,
  ⟨(some (false, 27)), .mv (.g 2), (some (.l 24, false))⟩,
  ⟨(some (false, 28)), .bin .gtr (.l 26) (.l 27), (some (.l 24, false))⟩,
  ⟨(some (false, 29)), .pick (.l 24) (.c (.lit (.bool true))) (.l 28), none⟩,
  ⟨(some (true, 7)), .mv (.l 29), none⟩])
(.cond (.g 7)
(.seq
(.reg [
  ⟨(some (true, 6)), .mv (.c (.lit (.int .i64 2))), none⟩])
.ret)
(.seq
(.reg [
  ⟨(some (false, 31)), .fa (.g 3) 0, none⟩,
  ⟨(some (false, 32)), .ld none (.l 31), none⟩,
  ⟨(some (false, 33)), .fa (.g 3) 1, none⟩,
  ⟨(some (false, 34)), .ld none (.l 33), none⟩,
  ⟨(some (false, 35)), .bin .gtr (.l 32) (.l 34), none⟩,
  ⟨(some (true, 30)), .mv (.l 35), none⟩])
(.cond (.g 30)
(.seq
(.reg [
  ⟨(some (true, 6)), .mv (.c (.lit (.int .i64 11))), none⟩])
.ret)
.skip)))))
(.seq
(.reg [
  ⟨(some (true, 6)), .mv (.c (.lit (.int .i64 0))), none⟩])
.ret)))
def K91 : List Nat := [0, 1, 2, 7, 30, 6, 3]
noncomputable def b91 : Code := match Try.f91.body with | some c => c | none => .skip
theorem t91 : trCode ⟨Try.prog, K91, [], 36, none⟩ b91 = some c91 := by kernel_rfl
theorem go91 {args : List AV} {H : AHeap} {Kk : AV → AHeap → Prop} (hn : args.length = 3) (h : AGo ⟨Try.prog, K91, [], 36, none⟩ H.length [.code c91] (RetP [.t (.g 6)] H.length Kk) ⟨[], argsG 0 args⟩ H) : ACalls Try.prog 91 args H Kk :=
  ACalls_of Try.func91 (c := b91) rfl (by kernel_rfl) t91 (rs := [.t (.g 6)]) (by kernel_rfl) (by rw [hn]; exact Nat.le_of_ble_eq_true rfl) (by rw [hn]; rfl) (h.weaken (fun _ _ => RetP.hands) (by simp))

/-- sastrugi/sastrugiref03.checkSpan -/
def c92 : ACode :=
  (.seq
(.reg [
  ⟨(some (true, 3)), .box (.g 0), none⟩,
  ⟨(some (true, 6)), .mv (.c (.lit (.int .i64 0))), none⟩])
(.seq
(.seq
(.reg [
  ⟨(some (false, 7)), .fa (.g 3) 0, none⟩,
  ⟨(some (false, 8)), .ld none (.l 7), none⟩,
  ⟨(some (false, 9)), .mv (.g 1), none⟩,
  ⟨(some (false, 10)), .mv (.g 2), none⟩,
  ⟨(some (false, 11)), .call (.c (.fn 98 [])) [.l 8, .l 9, .l 10], none⟩,
  ⟨(some (false, 12)), .mv (.l 11), none⟩,
  ⟨(some (false, 13)), .fa (.g 3) 1, (some (.l 12, false))⟩,
  ⟨(some (false, 14)), .ld none (.l 13), (some (.l 12, false))⟩,
  ⟨(some (false, 15)), .mv (.g 1), (some (.l 12, false))⟩,
  ⟨(some (false, 16)), .mv (.g 2), (some (.l 12, false))⟩,
  ⟨(some (false, 17)), .call (.c (.fn 98 [])) [.l 14, .l 15, .l 16], (some (.l 12, false))⟩,
  ⟨(some (true, 18)), .pick (.l 12) (.c (.lit (.bool true))) (.l 17), none⟩])
(.cond (.g 18)
(.seq
(.reg [
  ⟨(some (true, 6)), .mv (.c (.lit (.int .i64 2))), none⟩])
.ret)
.skip))
(.seq
(.seq
(.reg [
  ⟨(some (false, 19)), .fa (.g 3) 0, none⟩,
  ⟨(some (false, 20)), .ld none (.l 19), none⟩,
  ⟨(some (false, 21)), .fa (.g 3) 1, none⟩,
  ⟨(some (false, 22)), .ld none (.l 21), none⟩,
  ⟨(some (true, 23)), .bin .gtr (.l 20) (.l 22), none⟩])
(.cond (.g 23)
(.seq
(.reg [
  ⟨(some (true, 6)), .mv (.c (.lit (.int .i64 11))), none⟩])
.ret)
.skip))
(.seq
(.reg [
  ⟨(some (true, 6)), .mv (.c (.lit (.int .i64 0))), none⟩])
.ret))))
def K92 : List Nat := [0, 1, 2, 18, 23, 6, 3]
noncomputable def b92 : Code := match Try.f92.body with | some c => c | none => .skip
theorem t92 : trCode ⟨Try.prog, K92, [], 24, none⟩ b92 = some c92 := by kernel_rfl
theorem go92 {args : List AV} {H : AHeap} {Kk : AV → AHeap → Prop} (hn : args.length = 3) (h : AGo ⟨Try.prog, K92, [], 24, none⟩ H.length [.code c92] (RetP [.t (.g 6)] H.length Kk) ⟨[], argsG 0 args⟩ H) : ACalls Try.prog 92 args H Kk :=
  ACalls_of Try.func92 (c := b92) rfl (by kernel_rfl) t92 (rs := [.t (.g 6)]) (by kernel_rfl) (by rw [hn]; exact Nat.le_of_ble_eq_true rfl) (by rw [hn]; rfl) (h.weaken (fun _ _ => RetP.hands) (by simp))

/-- sastrugi/bear.within -/
def c94 : ACode :=
  (.seq
(.reg [
  ⟨(some (true, 6)), .mv (.c (.lit (.bool false))), none⟩])
(.seq
(.reg [
  ⟨(some (false, 7)), .mv (.g 1), none⟩,
  ⟨(some (false, 8)), .mv (.g 0), none⟩,
  ⟨(some (false, 9)), .bin .leq (.l 7) (.l 8), none⟩,
  ⟨(some (false, 10)), .mv (.l 9), none⟩,
  ⟨(some (false, 11)), .mv (.g 0), (some (.l 10, true))⟩,
  ⟨(some (false, 12)), .mv (.g 2), (some (.l 10, true))⟩,
  ⟨(some (false, 13)), .bin .leq (.l 11) (.l 12), (some (.l 10, true))⟩,
  ⟨(some (false, 14)), .pick (.l 10) (.l 13) (.c (.lit (.bool false))), none⟩,
  ⟨(some (true, 6)), .mv (.l 14), none⟩])
.ret))
def K94 : List Nat := [0, 1, 2, 6]
noncomputable def b94 : Code := match Try.f94.body with | some c => c | none => .skip
theorem t94 : trCode ⟨Try.prog, K94, [], 15, none⟩ b94 = some c94 := by kernel_rfl
theorem go94 {args : List AV} {H : AHeap} {Kk : AV → AHeap → Prop} (hn : args.length = 3) (h : AGo ⟨Try.prog, K94, [], 15, none⟩ H.length [.code c94] (RetP [.t (.g 6)] H.length Kk) ⟨[], argsG 0 args⟩ H) : ACalls Try.prog 94 args H Kk :=
  ACalls_of Try.func94 (c := b94) rfl (by kernel_rfl) t94 (rs := [.t (.g 6)]) (by kernel_rfl) (by rw [hn]; exact Nat.le_of_ble_eq_true rfl) (by rw [hn]; rfl) (h.weaken (fun _ _ => RetP.hands) (by simp))

/-- sastrugi/sastrugiref03.outside -/
def c98 : ACode :=
  (.seq
(.reg [
  ⟨(some (true, 6)), .mv (.c (.lit (.bool false))), none⟩])
(.seq
(.reg [
  ⟨(some (false, 7)), .mv (.g 0), none⟩,
  ⟨(some (false, 8)), .mv (.g 1), none⟩,
  ⟨(some (false, 9)), .bin .lss (.l 7) (.l 8), none⟩,
  ⟨(some (false, 10)), .mv (.l 9), none⟩,
  ⟨(some (false, 11)), .mv (.g 0), (some (.l 10, false))⟩,
  ⟨(some (false, 12)), .mv (.g 2), (some (.l 10, false))⟩,
  ⟨(some (false, 13)), .bin .gtr (.l 11) (.l 12), (some (.l 10, false))⟩,
  ⟨(some (false, 14)), .pick (.l 10) (.c (.lit (.bool true))) (.l 13), none⟩,
  ⟨(some (true, 6)), .mv (.l 14), none⟩])
.ret))
def K98 : List Nat := [0, 1, 2, 6]
noncomputable def b98 : Code := match Try.f98.body with | some c => c | none => .skip
theorem t98 : trCode ⟨Try.prog, K98, [], 15, none⟩ b98 = some c98 := by kernel_rfl
theorem go98 {args : List AV} {H : AHeap} {Kk : AV → AHeap → Prop} (hn : args.length = 3) (h : AGo ⟨Try.prog, K98, [], 15, none⟩ H.length [.code c98] (RetP [.t (.g 6)] H.length Kk) ⟨[], argsG 0 args⟩ H) : ACalls Try.prog 98 args H Kk :=
  ACalls_of Try.func98 (c := b98) rfl (by kernel_rfl) t98 (rs := [.t (.g 6)]) (by kernel_rfl) (by rw [hn]; exact Nat.le_of_ble_eq_true rfl) (by rw [hn]; rfl) (h.weaken (fun _ _ => RetP.hands) (by simp))

/-- sastrugi/bear.table -/
def c106 : ACode :=
  (.seq
(.reg [
  ⟨(some (true, 2)), .mv (.c (.lit (.int .i64 0))), none⟩])
(.seq
(.block 0
(.seq
(.reg [
  ⟨(some (false, 6)), .mv (.g 0), none⟩,
  ⟨(some (false, 7)), .len (.l 6), none⟩,
  ⟨(some (false, 8)), .bin .eql (.l 7) (.c (.lit (.int .i64 0))), none⟩,
  ⟨(some (true, 5)), .mv (.l 8), none⟩])
(.cond (.g 5)
(.seq
(.reg [
  ⟨(some (true, 2)), .mv (.c (.lit (.int .i64 6))), none⟩])
.ret)
(.seq
(.reg [
  ⟨(some (false, 10)), .mv (.g 0), none⟩,
  ⟨(some (false, 11)), .len (.l 10), none⟩,
  ⟨(some (false, 12)), .bin .gtr (.l 11) (.c (.lit (.int .i64 20))), none⟩,
  ⟨(some (true, 9)), .mv (.l 12), none⟩])
(.cond (.g 9)
(.seq
(.reg [
  ⟨(some (true, 2)), .mv (.c (.lit (.int .i64 8))), none⟩])
.ret)
.skip)))))
(.seq
(.seq
(.reg [
  ⟨(some (true, 13)), .mv (.g 0), none⟩,
  ⟨(some (true, 14)), .len (.g 13), none⟩,
  ⟨(some (true, 15)), .mv (.c (.lit (.int .i64 0))), none⟩])
(.block 1
(.loop
(.seq
(.reg [
  ⟨(some (true, 16)), .bin .lss (.g 15) (.g 14), none⟩])
(.seq
(.cond (.g 16)
.skip
(.exit 1))
(.seq
(.block 2
(.seq
(.reg [
  ⟨(some (false, 17)), .mv (.g 15), none⟩,
  ⟨(some (false, 18)), .ia 2 (.g 13) (.g 15), none⟩,
  ⟨(some (false, 19)), .ld (some 2) (.l 18), none⟩,
  ⟨(some (true, 4)), .new [.int .i64 0, .int .i64 0], none⟩,
  ⟨(some (true, 3)), .mv (.l 17), none⟩,
  ⟨none, .st 2 (.g 4) (.l 19), none⟩])
(.block 3
(.seq
(.reg [
  ⟨(some (false, 21)), .fa (.g 4) 0, none⟩,
  ⟨(some (false, 22)), .ld none (.l 21), none⟩,
  ⟨(some (false, 23)), .bin .lss (.l 22) (.c (.lit (.int .i64 0))), none⟩,
  ⟨(some (false, 24)), .mv (.l 23), none⟩,
  ⟨(some (false, 25)), .fa (.g 4) 0, (some (.l 24, false))⟩,
  ⟨(some (false, 26)), .ld none (.l 25), (some (.l 24, false))⟩,
  ⟨(some (false, 27)), .bin .gtr (.l 26) (.c (.lit (.int .i64 10000))), (some (.l 24, false))⟩,
  ⟨(some (false, 28)), .pick (.l 24) (.c (.lit (.bool true))) (.l 27), none⟩,
  ⟨(some (true, 20)), .mv (.l 28), none⟩])
(.cond (.g 20)
(.seq
(.reg [
  ⟨(some (true, 2)), .mv (.c (.lit (.int .i64 2))), none⟩])
.ret)
(.seq
(.draw [
  ⟨⟨(some (false, 30)), .mv (.g 3), none⟩, 0, true, []⟩,
  ⟨⟨(some (false, 31)), .bin .eql (.l 30) (.c (.lit (.int .i64 0))), none⟩, 1, true, []⟩,
  ⟨⟨(some (false, 32)), .mv (.l 31), none⟩, 2, true, []⟩,
  ⟨⟨(some (false, 33)), .fa (.g 4) 0, (some (.l 32, true))⟩, 3, true, []⟩,
  ⟨⟨(some (false, 34)), .ld none (.l 33), (some (.l 32, true))⟩, 4, true, []⟩,
  ⟨⟨(some (false, 35)), .bin .neq (.l 34) (.c (.lit (.int .i64 0))), (some (.l 32, true))⟩, 5, true, []⟩,
  ⟨⟨(some (false, 36)), .pick (.l 32) (.l 35) (.c (.lit (.bool false))), none⟩, 6, true, []⟩,
  ⟨⟨(some (false, 37)), .mv (.l 36), none⟩, 7, true, []⟩,
  ⟨⟨(some (false, 38)), .mv (.g 3), (some (.l 37, false))⟩, 8, true, []⟩,
  ⟨⟨(some (false, 39)), .bin .gtr (.l 38) (.c (.lit (.int .i64 0))), (some (.l 37, false))⟩, 9, true, []⟩,
  ⟨⟨(some (false, 40)), .mv (.l 39), (some (.l 37, false))⟩, 10, true, []⟩,
  ⟨⟨(some (false, 41)), .fa (.g 4) 0, (some (.l 40, true))⟩, 11, true, []⟩,
  ⟨⟨(some (false, 42)), .ld none (.l 41), (some (.l 40, true))⟩, 12, true, []⟩,
  ⟨⟨(some (false, 43)), .mv (.g 0), (some (.l 40, true))⟩, 13, true, []⟩,
  ⟨⟨(some (false, 44)), .mv (.g 3), (some (.l 40, true))⟩, 14, true, []⟩,
  ⟨⟨(some (false, 45)), .bin .sub (.l 44) (.c (.lit (.int .i64 1))), (some (.l 40, true))⟩, 15, true, []⟩,
  ⟨⟨(some (false, 46)), .ia 2 (.l 43) (.l 45), (some (.l 40, true))⟩, 16, true, []⟩,
  ⟨⟨(some (false, 47)), .fa (.l 46) 0, (some (.l 40, true))⟩, 17, true, []⟩,
  ⟨⟨(some (false, 48)), .ld none (.l 47), (some (.l 40, true))⟩, 18, true, []⟩,
  ⟨⟨(some (false, 49)), .bin .leq (.l 42) (.l 48), (some (.l 40, true))⟩, 19, true, []⟩,
  ⟨⟨(some (false, 50)), .pick (.l 40) (.l 49) (.c (.lit (.bool false))), (some (.l 37, false))⟩, 20, true, []⟩,
  ⟨⟨(some (false, 51)), .pick (.l 37) (.c (.lit (.bool true))) (.l 50), none⟩, 21, true, []⟩,
  ⟨⟨(some (true, 29)), .mv (.l 51), none⟩, 22, true, []⟩])
(.cond (.g 29)
(.seq
(.reg [
  ⟨(some (true, 2)), .mv (.c (.lit (.int .i64 11))), none⟩])
.ret)
(.seq
(.reg [
  ⟨(some (false, 53)), .fa (.g 4) 1, none⟩,
  ⟨(some (false, 54)), .ld none (.l 53), none⟩,
  ⟨(some (false, 55)), .bin .lss (.l 54) (.c (.lit (.int .i64 0))), none⟩,
  ⟨(some (false, 56)), .mv (.l 55), none⟩,
  ⟨(some (false, 57)), .fa (.g 4) 1, (some (.l 56, false))⟩,
  ⟨(some (false, 58)), .ld none (.l 57), (some (.l 56, false))⟩,
  ⟨(some (false, 59)), .bin .gtr (.l 58) (.c (.lit (.int .i64 1000000))), (some (.l 56, false))⟩,
  ⟨(some (false, 60)), .pick (.l 56) (.c (.lit (.bool true))) (.l 59), none⟩,
  ⟨(some (true, 52)), .mv (.l 60), none⟩])
(.cond (.g 52)
(.seq
(.reg [
  ⟨(some (true, 2)), .mv (.c (.lit (.int .i64 2))), none⟩])
.ret)
(.seq
(.reg [
  ⟨(some (false, 62)), .mv (.g 3), none⟩,
  ⟨(some (false, 63)), .bin .eql (.l 62) (.c (.lit (.int .i64 0))), none⟩,
  ⟨(some (false, 64)), .mv (.l 63), none⟩,
  ⟨(some (false, 65)), .fa (.g 4) 1, (some (.l 64, true))⟩,
  ⟨(some (false, 66)), .ld none (.l 65), (some (.l 64, true))⟩,
  ⟨(some (false, 67)), .bin .neq (.l 66) (.c (.lit (.int .i64 1000000))), (some (.l 64, true))⟩,
  ⟨(some (false, 68)), .pick (.l 64) (.l 67) (.c (.lit (.bool false))), none⟩,
  ⟨(some (true, 61)), .mv (.l 68), none⟩])
(.cond (.g 61)
(.seq
(.reg [
  ⟨(some (true, 2)), .mv (.c (.lit (.int .i64 3))), none⟩])
.ret)
(.seq
(.draw [
  ⟨⟨(some (false, 70)), .mv (.g 3), none⟩, 0, true, []⟩,
  ⟨⟨(some (false, 71)), .bin .gtr (.l 70) (.c (.lit (.int .i64 0))), none⟩, 1, true, []⟩,
  ⟨⟨(some (false, 72)), .mv (.l 71), none⟩, 2, true, []⟩,
  ⟨⟨(some (false, 73)), .fa (.g 4) 1, (some (.l 72, true))⟩, 3, true, []⟩,
  ⟨⟨(some (false, 74)), .ld none (.l 73), (some (.l 72, true))⟩, 4, true, []⟩,
  ⟨⟨(some (false, 75)), .mv (.g 0), (some (.l 72, true))⟩, 5, true, []⟩,
  ⟨⟨(some (false, 76)), .mv (.g 3), (some (.l 72, true))⟩, 6, true, []⟩,
  ⟨⟨(some (false, 77)), .bin .sub (.l 76) (.c (.lit (.int .i64 1))), (some (.l 72, true))⟩, 7, true, []⟩,
  ⟨⟨(some (false, 78)), .ia 2 (.l 75) (.l 77), (some (.l 72, true))⟩, 8, true, []⟩,
  ⟨⟨(some (false, 79)), .fa (.l 78) 1, (some (.l 72, true))⟩, 9, true, []⟩,
  ⟨⟨(some (false, 80)), .ld none (.l 79), (some (.l 72, true))⟩, 10, true, []⟩,
  ⟨⟨(some (false, 81)), .bin .gtr (.l 74) (.l 80), (some (.l 72, true))⟩, 11, true, []⟩,
  ⟨⟨(some (false, 82)), .pick (.l 72) (.l 81) (.c (.lit (.bool false))), none⟩, 12, true, []⟩,
  ⟨⟨(some (true, 69)), .mv (.l 82), none⟩, 13, true, []⟩])
(.cond (.g 69)
(.seq
(.reg [
  ⟨(some (true, 2)), .mv (.c (.lit (.int .i64 11))), none⟩])
.ret)
.skip)))))))))))))
(.reg [
  ⟨(some (false, 83)), .bin .add (.g 15) (.c (.lit (.int .i64 1))), none⟩,
  ⟨(some (true, 15)), .mv (.l 83), none⟩])))))))
(.seq
(.reg [
  ⟨(some (true, 2)), .mv (.c (.lit (.int .i64 0))), none⟩])
.ret))))
def K106 : List Nat := [0, 5, 9, 16, 20, 29, 52, 61, 69, 2, 13, 14, 15, 4, 3]
noncomputable def b106 : Code := match Try.f106.body with | some c => c | none => .skip
theorem t106 : trCode ⟨Try.prog, K106, [], 84, none⟩ b106 = some c106 := by kernel_rfl
theorem go106 {args : List AV} {H : AHeap} {Kk : AV → AHeap → Prop} (hn : args.length = 1) (h : AGo ⟨Try.prog, K106, [], 84, none⟩ H.length [.code c106] (RetP [.t (.g 2)] H.length Kk) ⟨[], argsG 0 args⟩ H) : ACalls Try.prog 106 args H Kk :=
  ACalls_of Try.func106 (c := b106) rfl (by kernel_rfl) t106 (rs := [.t (.g 2)]) (by kernel_rfl) (by rw [hn]; exact Nat.le_of_ble_eq_true rfl) (by rw [hn]; rfl) (h.weaken (fun _ _ => RetP.hands) (by simp))

/-- sastrugi/sastrugiref03.checkTable -/
def c107 : ACode :=
  (.seq
(.reg [
  ⟨(some (true, 2)), .mv (.c (.lit (.int .i64 0))), none⟩])
(.seq
(.seq
(.reg [
  ⟨(some (false, 4)), .mv (.g 0), none⟩,
  ⟨(some (false, 5)), .len (.l 4), none⟩,
  ⟨(some (true, 6)), .bin .eql (.l 5) (.c (.lit (.int .i64 0))), none⟩])
(.cond (.g 6)
(.seq
(.reg [
  ⟨(some (true, 2)), .mv (.c (.lit (.int .i64 6))), none⟩])
.ret)
.skip))
(.seq
(.seq
(.reg [
  ⟨(some (false, 7)), .mv (.g 0), none⟩,
  ⟨(some (false, 8)), .len (.l 7), none⟩,
  ⟨(some (true, 9)), .bin .gtr (.l 8) (.c (.lit (.int .i64 20))), none⟩])
(.cond (.g 9)
(.seq
(.reg [
  ⟨(some (true, 2)), .mv (.c (.lit (.int .i64 8))), none⟩])
.ret)
.skip))
(.seq
(.seq
(.reg [
  ⟨(some (true, 3)), .mv (.c (.lit (.int .i64 0))), none⟩])
(.block 0
(.loop
(.seq
(.seq
(.reg [
  ⟨(some (false, 10)), .mv (.g 3), none⟩,
  ⟨(some (false, 11)), .mv (.g 0), none⟩,
  ⟨(some (false, 12)), .len (.l 11), none⟩,
  ⟨(some (true, 13)), .bin .lss (.l 10) (.l 12), none⟩])
(.cond (.g 13)
.skip
(.exit 0)))
(.seq
(.block 1
(.seq
(.seq
(.reg [
  ⟨(some (false, 16)), .mv (.g 0), none⟩,
  ⟨(some (false, 17)), .mv (.g 3), none⟩,
  ⟨(some (false, 18)), .ia 2 (.l 16) (.l 17), none⟩,
  ⟨(some (false, 19)), .fa (.l 18) 0, none⟩,
  ⟨(some (false, 20)), .ld none (.l 19), none⟩,
  ⟨(some (true, 21)), .call (.c (.fn 98 [])) [.l 20, .c (.lit (.int .i64 0)), .c (.lit (.int .i64 10000))], none⟩])
(.cond (.g 21)
(.seq
(.reg [
  ⟨(some (true, 2)), .mv (.c (.lit (.int .i64 2))), none⟩])
.ret)
.skip))
(.seq
(.seq
(.draw [
  ⟨⟨(some (false, 22)), .mv (.g 3), none⟩, 0, true, []⟩,
  ⟨⟨(some (false, 23)), .bin .eql (.l 22) (.c (.lit (.int .i64 0))), none⟩, 1, true, []⟩,
  ⟨⟨(some (false, 24)), .mv (.l 23), none⟩, 2, true, []⟩,
  ⟨⟨(some (false, 25)), .mv (.g 0), (some (.l 24, true))⟩, 3, true, []⟩,
  ⟨⟨(some (false, 26)), .mv (.g 3), (some (.l 24, true))⟩, 4, true, []⟩,
  ⟨⟨(some (false, 27)), .ia 2 (.l 25) (.l 26), (some (.l 24, true))⟩, 5, true, []⟩,
  ⟨⟨(some (false, 28)), .fa (.l 27) 0, (some (.l 24, true))⟩, 6, true, []⟩,
  ⟨⟨(some (false, 29)), .ld none (.l 28), (some (.l 24, true))⟩, 7, true, []⟩,
  ⟨⟨(some (false, 30)), .bin .neq (.l 29) (.c (.lit (.int .i64 0))), (some (.l 24, true))⟩, 8, true, []⟩,
  ⟨⟨(some (false, 31)), .pick (.l 24) (.l 30) (.c (.lit (.bool false))), none⟩, 9, true, []⟩,
  ⟨⟨(some (false, 32)), .mv (.l 31), none⟩, 10, true, []⟩,
  ⟨⟨(some (false, 33)), .mv (.g 3), (some (.l 32, false))⟩, 11, true, []⟩,
  ⟨⟨(some (false, 34)), .bin .gtr (.l 33) (.c (.lit (.int .i64 0))), (some (.l 32, false))⟩, 12, true, []⟩,
  ⟨⟨(some (false, 35)), .mv (.l 34), (some (.l 32, false))⟩, 13, true, []⟩,
  ⟨⟨(some (false, 36)), .mv (.g 0), (some (.l 35, true))⟩, 14, true, []⟩,
  ⟨⟨(some (false, 37)), .mv (.g 3), (some (.l 35, true))⟩, 15, true, []⟩,
  ⟨⟨(some (false, 38)), .ia 2 (.l 36) (.l 37), (some (.l 35, true))⟩, 16, true, []⟩,
  ⟨⟨(some (false, 39)), .fa (.l 38) 0, (some (.l 35, true))⟩, 17, true, []⟩,
  ⟨⟨(some (false, 40)), .ld none (.l 39), (some (.l 35, true))⟩, 18, true, []⟩,
  ⟨⟨(some (false, 41)), .mv (.g 0), (some (.l 35, true))⟩, 19, true, []⟩,
  ⟨⟨(some (false, 42)), .mv (.g 3), (some (.l 35, true))⟩, 20, true, []⟩,
  ⟨⟨(some (false, 43)), .bin .sub (.l 42) (.c (.lit (.int .i64 1))), (some (.l 35, true))⟩, 21, true, []⟩,
  ⟨⟨(some (false, 44)), .ia 2 (.l 41) (.l 43), (some (.l 35, true))⟩, 22, true, []⟩,
  ⟨⟨(some (false, 45)), .fa (.l 44) 0, (some (.l 35, true))⟩, 23, true, []⟩,
  ⟨⟨(some (false, 46)), .ld none (.l 45), (some (.l 35, true))⟩, 24, true, []⟩,
  ⟨⟨(some (false, 47)), .bin .leq (.l 40) (.l 46), (some (.l 35, true))⟩, 25, true, []⟩,
  ⟨⟨(some (false, 48)), .pick (.l 35) (.l 47) (.c (.lit (.bool false))), (some (.l 32, false))⟩, 26, true, []⟩,
  ⟨⟨(some (true, 49)), .pick (.l 32) (.c (.lit (.bool true))) (.l 48), none⟩, 27, true, []⟩])
(.cond (.g 49)
(.seq
(.reg [
  ⟨(some (true, 2)), .mv (.c (.lit (.int .i64 11))), none⟩])
.ret)
.skip))
(.seq
(.seq
(.reg [
  ⟨(some (false, 50)), .mv (.g 0), none⟩,
  ⟨(some (false, 51)), .mv (.g 3), none⟩,
  ⟨(some (false, 52)), .ia 2 (.l 50) (.l 51), none⟩,
  ⟨(some (false, 53)), .fa (.l 52) 1, none⟩,
  ⟨(some (false, 54)), .ld none (.l 53), none⟩,
  ⟨(some (true, 55)), .call (.c (.fn 98 [])) [.l 54, .c (.lit (.int .i64 0)), .c (.lit (.int .i64 1000000))], none⟩])
(.cond (.g 55)
(.seq
(.reg [
  ⟨(some (true, 2)), .mv (.c (.lit (.int .i64 2))), none⟩])
.ret)
.skip))
(.seq
(.seq
(.reg [
  ⟨(some (false, 56)), .mv (.g 3), none⟩,
  ⟨(some (false, 57)), .bin .eql (.l 56) (.c (.lit (.int .i64 0))), none⟩,
  ⟨(some (false, 58)), .mv (.l 57), none⟩,
  ⟨(some (false, 59)), .mv (.g 0), (some (.l 58, true))⟩,
  ⟨(some (false, 60)), .mv (.g 3), (some (.l 58, true))⟩,
  ⟨(some (false, 61)), .ia 2 (.l 59) (.l 60), (some (.l 58, true))⟩,
  ⟨(some (false, 62)), .fa (.l 61) 1, (some (.l 58, true))⟩,
  ⟨(some (false, 63)), .ld none (.l 62), (some (.l 58, true))⟩,
  ⟨(some (false, 64)), .bin .neq (.l 63) (.c (.lit (.int .i64 1000000))), (some (.l 58, true))⟩,
  ⟨(some (true, 65)), .pick (.l 58) (.l 64) (.c (.lit (.bool false))), none⟩])
(.cond (.g 65)
(.seq
(.reg [
  ⟨(some (true, 2)), .mv (.c (.lit (.int .i64 3))), none⟩])
.ret)
.skip))
(.seq
(.draw [
  ⟨⟨(some (false, 66)), .mv (.g 3), none⟩, 0, true, []⟩,
  ⟨⟨(some (false, 67)), .bin .gtr (.l 66) (.c (.lit (.int .i64 0))), none⟩, 1, true, []⟩,
  ⟨⟨(some (false, 68)), .mv (.l 67), none⟩, 2, true, []⟩,
  ⟨⟨(some (false, 69)), .mv (.g 0), (some (.l 68, true))⟩, 3, true, []⟩,
  ⟨⟨(some (false, 70)), .mv (.g 3), (some (.l 68, true))⟩, 4, true, []⟩,
  ⟨⟨(some (false, 71)), .ia 2 (.l 69) (.l 70), (some (.l 68, true))⟩, 5, true, []⟩,
  ⟨⟨(some (false, 72)), .fa (.l 71) 1, (some (.l 68, true))⟩, 6, true, []⟩,
  ⟨⟨(some (false, 73)), .ld none (.l 72), (some (.l 68, true))⟩, 7, true, []⟩,
  ⟨⟨(some (false, 74)), .mv (.g 0), (some (.l 68, true))⟩, 8, true, []⟩,
  ⟨⟨(some (false, 75)), .mv (.g 3), (some (.l 68, true))⟩, 9, true, []⟩,
  ⟨⟨(some (false, 76)), .bin .sub (.l 75) (.c (.lit (.int .i64 1))), (some (.l 68, true))⟩, 10, true, []⟩,
  ⟨⟨(some (false, 77)), .ia 2 (.l 74) (.l 76), (some (.l 68, true))⟩, 11, true, []⟩,
  ⟨⟨(some (false, 78)), .fa (.l 77) 1, (some (.l 68, true))⟩, 12, true, []⟩,
  ⟨⟨(some (false, 79)), .ld none (.l 78), (some (.l 68, true))⟩, 13, true, []⟩,
  ⟨⟨(some (false, 80)), .bin .gtr (.l 73) (.l 79), (some (.l 68, true))⟩, 14, true, []⟩,
  ⟨⟨(some (true, 81)), .pick (.l 68) (.l 80) (.c (.lit (.bool false))), none⟩, 15, true, []⟩])
(.cond (.g 81)
(.seq
(.reg [
  ⟨(some (true, 2)), .mv (.c (.lit (.int .i64 11))), none⟩])
.ret)
.skip)))))))
(.reg [
  ⟨(some (false, 14)), .mv (.g 3), none⟩,
  ⟨(some (false, 15)), .bin .add (.l 14) (.c (.lit (.int .i64 1))), none⟩,
  ⟨(some (true, 3)), .mv (.l 15), none⟩]))))))
(.seq
(.reg [
  ⟨(some (true, 2)), .mv (.c (.lit (.int .i64 0))), none⟩])
.ret)))))
def K107 : List Nat := [0, 6, 9, 13, 21, 49, 55, 65, 81, 2, 3]
noncomputable def b107 : Code := match Try.f107.body with | some c => c | none => .skip
theorem t107 : trCode ⟨Try.prog, K107, [], 82, none⟩ b107 = some c107 := by kernel_rfl
theorem go107 {args : List AV} {H : AHeap} {Kk : AV → AHeap → Prop} (hn : args.length = 1) (h : AGo ⟨Try.prog, K107, [], 82, none⟩ H.length [.code c107] (RetP [.t (.g 2)] H.length Kk) ⟨[], argsG 0 args⟩ H) : ACalls Try.prog 107 args H Kk :=
  ACalls_of Try.func107 (c := b107) rfl (by kernel_rfl) t107 (rs := [.t (.g 2)]) (by kernel_rfl) (by rw [hn]; exact Nat.le_of_ble_eq_true rfl) (by rw [hn]; rfl) (h.weaken (fun _ _ => RetP.hands) (by simp))

/-- sastrugi/bear.Check -/
def c59 : ACode :=
  (.seq
(.reg [
  ⟨(some (true, 1)), .box (.g 0), none⟩,
  ⟨(some (true, 2)), .mv (.c (.lit (.int .i64 0))), none⟩])
(.seq
(.seq
(.reg [
  ⟨(some (false, 6)), .fa (.g 1) 0, none⟩,
  ⟨(some (false, 7)), .ld (some 2) (.l 6), none⟩,
  ⟨(some (false, 8)), .call (.c (.fn 91 [])) [.l 7, .c (.lit (.int .i64 1)), .c (.lit (.int .i64 100000))], none⟩,
  ⟨(some (true, 3)), .mv (.l 8), none⟩])
(.seq
(.reg [
  ⟨(some (false, 9)), .mv (.g 3), none⟩,
  ⟨(some (true, 10)), .bin .neq (.l 9) (.c (.lit (.int .i64 0))), none⟩])
(.cond (.g 10)
(.seq
(.reg [
  ⟨(some (false, 11)), .mv (.g 3), none⟩,
  ⟨(some (true, 2)), .mv (.l 11), none⟩])
.ret)
.skip)))
(.seq
(.seq
(.reg [
  ⟨(some (false, 12)), .fa (.g 1) 2, none⟩,
  ⟨(some (false, 13)), .ld none (.l 12), none⟩,
  ⟨(some (false, 14)), .call (.c (.fn 106 [])) [.l 13], none⟩,
  ⟨(some (true, 4)), .mv (.l 14), none⟩])
(.seq
(.reg [
  ⟨(some (false, 15)), .mv (.g 4), none⟩,
  ⟨(some (true, 16)), .bin .neq (.l 15) (.c (.lit (.int .i64 0))), none⟩])
(.cond (.g 16)
(.seq
(.reg [
  ⟨(some (false, 17)), .mv (.g 4), none⟩,
  ⟨(some (true, 2)), .mv (.l 17), none⟩])
.ret)
.skip)))
(.seq
(.seq
(.reg [
  ⟨(some (false, 18)), .fa (.g 1) 3, none⟩,
  ⟨(some (false, 19)), .ld none (.l 18), none⟩,
  ⟨(some (false, 20)), .call (.c (.fn 106 [])) [.l 19], none⟩,
  ⟨(some (true, 5)), .mv (.l 20), none⟩])
(.seq
(.reg [
  ⟨(some (false, 21)), .mv (.g 5), none⟩,
  ⟨(some (true, 22)), .bin .neq (.l 21) (.c (.lit (.int .i64 0))), none⟩])
(.cond (.g 22)
(.seq
(.reg [
  ⟨(some (false, 23)), .mv (.g 5), none⟩,
  ⟨(some (true, 2)), .mv (.l 23), none⟩])
.ret)
.skip)))
(.seq
(.block 0
(.seq
(.seq
(.reg [
  ⟨(some (false, 25)), .fa (.g 1) 4, none⟩,
  ⟨(some (false, 26)), .ld none (.l 25), none⟩,
  ⟨(some (false, 27)), .call (.c (.fn 94 [])) [.l 26, .c (.lit (.int .i64 0)), .c (.lit (.int .i64 10000))], none⟩,
  ⟨(some (false, 28)), .un .not (.l 27), none⟩,
  ⟨(some (true, 24)), .mv (.l 28), none⟩])
(.cond (.g 24)
.skip
(.seq
(.reg [
  ⟨(some (false, 29)), .fa (.g 1) 5, none⟩,
  ⟨(some (false, 30)), .ld none (.l 29), none⟩,
  ⟨(some (false, 31)), .call (.c (.fn 94 [])) [.l 30, .c (.lit (.int .i64 0)), .c (.lit (.int .i64 1000000))], none⟩,
  ⟨(some (false, 32)), .un .not (.l 31), none⟩,
  ⟨(some (true, 24)), .mv (.l 32), none⟩])
(.cond (.g 24)
.skip
(.seq
(.reg [
  ⟨(some (false, 33)), .fa (.g 1) 6, none⟩,
  ⟨(some (false, 34)), .ld none (.l 33), none⟩,
  ⟨(some (false, 35)), .call (.c (.fn 94 [])) [.l 34, .c (.lit (.int .i64 1)), .c (.lit (.int .i64 1000))], none⟩,
  ⟨(some (false, 36)), .un .not (.l 35), none⟩,
  ⟨(some (true, 24)), .mv (.l 36), none⟩])
(.cond (.g 24)
.skip
(.seq
(.reg [
  ⟨(some (false, 37)), .fa (.g 1) 7, none⟩,
  ⟨(some (false, 38)), .ld none (.l 37), none⟩,
  ⟨(some (false, 39)), .call (.c (.fn 94 [])) [.l 38, .c (.lit (.int .i64 1)), .c (.lit (.int .i64 4000000))], none⟩,
  ⟨(some (false, 40)), .un .not (.l 39), none⟩,
  ⟨(some (true, 24)), .mv (.l 40), none⟩])
(.cond (.g 24)
.skip
(.reg [
  ⟨(some (false, 41)), .fa (.g 1) 8, none⟩,
  ⟨(some (false, 42)), .ld none (.l 41), none⟩,
  ⟨(some (false, 43)), .call (.c (.fn 94 [])) [.l 42, .c (.lit (.int .i64 1)), .c (.lit (.int .i64 4000000))], none⟩,
  ⟨(some (false, 44)), .un .not (.l 43), none⟩,
  ⟨(some (true, 24)), .mv (.l 44), none⟩])))))))))
(.cond (.g 24)
(.seq
(.reg [
  ⟨(some (true, 2)), .mv (.c (.lit (.int .i64 2))), none⟩])
.ret)
(.seq
(.reg [
  ⟨(some (false, 46)), .fa (.g 1) 7, none⟩,
  ⟨(some (false, 47)), .ld none (.l 46), none⟩,
  ⟨(some (false, 48)), .fa (.g 1) 8, none⟩,
  ⟨(some (false, 49)), .ld none (.l 48), none⟩,
  ⟨(some (false, 50)), .bin .gtr (.l 47) (.l 49), none⟩,
  ⟨(some (true, 45)), .mv (.l 50), none⟩])
(.cond (.g 45)
(.seq
(.reg [
  ⟨(some (true, 2)), .mv (.c (.lit (.int .i64 11))), none⟩])
.ret)
(.seq
(.seq
(.reg [
  ⟨(some (false, 52)), .fa (.g 1) 9, none⟩,
  ⟨(some (false, 53)), .ld none (.l 52), none⟩,
  ⟨(some (false, 54)), .call (.c (.fn 94 [])) [.l 53, .c (.lit (.int .i64 0)), .c (.lit (.int .i64 10000))], none⟩,
  ⟨(some (false, 55)), .un .not (.l 54), none⟩,
  ⟨(some (true, 51)), .mv (.l 55), none⟩])
(.cond (.g 51)
.skip
(.reg [
  ⟨(some (false, 56)), .fa (.g 1) 10, none⟩,
  ⟨(some (false, 57)), .ld none (.l 56), none⟩,
  ⟨(some (false, 58)), .call (.c (.fn 94 [])) [.l 57, .c (.lit (.int .i64 0)), .c (.lit (.int .i64 1000000))], none⟩,
  ⟨(some (false, 59)), .un .not (.l 58), none⟩,
  ⟨(some (true, 51)), .mv (.l 59), none⟩])))
(.cond (.g 51)
(.seq
(.reg [
  ⟨(some (true, 2)), .mv (.c (.lit (.int .i64 2))), none⟩])
.ret)
.skip)))))))
(.seq
(.reg [
  ⟨(some (true, 2)), .mv (.c (.lit (.int .i64 0))), none⟩])
.ret))))))
def K59 : List Nat := [0, 10, 16, 22, 24, 45, 51, 2, 1, 3, 4, 5]
noncomputable def b59 : Code := match Try.f59.body with | some c => c | none => .skip
theorem t59 : trCode ⟨Try.prog, K59, [], 60, none⟩ b59 = some c59 := by kernel_rfl
theorem go59 {args : List AV} {H : AHeap} {Kk : AV → AHeap → Prop} (hn : args.length = 1) (h : AGo ⟨Try.prog, K59, [], 60, none⟩ H.length [.code c59] (RetP [.t (.g 2)] H.length Kk) ⟨[], argsG 0 args⟩ H) : ACalls Try.prog 59 args H Kk :=
  ACalls_of Try.func59 (c := b59) rfl (by kernel_rfl) t59 (rs := [.t (.g 2)]) (by kernel_rfl) (by rw [hn]; exact Nat.le_of_ble_eq_true rfl) (by rw [hn]; rfl) (h.weaken (fun _ _ => RetP.hands) (by simp))

/-- sastrugi/sastrugiref03.Check -/
def c60 : ACode :=
  (.seq
(.reg [
  ⟨(some (true, 1)), .box (.g 0), none⟩,
  ⟨(some (true, 2)), .mv (.c (.lit (.int .i64 0))), none⟩])
(.seq
(.seq
(.reg [
  ⟨(some (false, 6)), .fa (.g 1) 0, none⟩,
  ⟨(some (false, 7)), .ld (some 2) (.l 6), none⟩,
  ⟨(some (false, 8)), .call (.c (.fn 92 [])) [.l 7, .c (.lit (.int .i64 1)), .c (.lit (.int .i64 100000))], none⟩,
  ⟨(some (true, 3)), .mv (.l 8), none⟩])
(.seq
(.reg [
  ⟨(some (false, 9)), .mv (.g 3), none⟩,
  ⟨(some (true, 10)), .bin .neq (.l 9) (.c (.lit (.int .i64 0))), none⟩])
(.cond (.g 10)
(.seq
(.reg [
  ⟨(some (false, 11)), .mv (.g 3), none⟩,
  ⟨(some (true, 2)), .mv (.l 11), none⟩])
.ret)
.skip)))
(.seq
(.seq
(.reg [
  ⟨(some (false, 12)), .fa (.g 1) 2, none⟩,
  ⟨(some (false, 13)), .ld none (.l 12), none⟩,
  ⟨(some (false, 14)), .call (.c (.fn 107 [])) [.l 13], none⟩,
  ⟨(some (true, 4)), .mv (.l 14), none⟩])
(.seq
(.reg [
  ⟨(some (false, 15)), .mv (.g 4), none⟩,
  ⟨(some (true, 16)), .bin .neq (.l 15) (.c (.lit (.int .i64 0))), none⟩])
(.cond (.g 16)
(.seq
(.reg [
  ⟨(some (false, 17)), .mv (.g 4), none⟩,
  ⟨(some (true, 2)), .mv (.l 17), none⟩])
.ret)
.skip)))
(.seq
(.seq
(.reg [
  ⟨(some (false, 18)), .fa (.g 1) 3, none⟩,
  ⟨(some (false, 19)), .ld none (.l 18), none⟩,
  ⟨(some (false, 20)), .call (.c (.fn 107 [])) [.l 19], none⟩,
  ⟨(some (true, 5)), .mv (.l 20), none⟩])
(.seq
(.reg [
  ⟨(some (false, 21)), .mv (.g 5), none⟩,
  ⟨(some (true, 22)), .bin .neq (.l 21) (.c (.lit (.int .i64 0))), none⟩])
(.cond (.g 22)
(.seq
(.reg [
  ⟨(some (false, 23)), .mv (.g 5), none⟩,
  ⟨(some (true, 2)), .mv (.l 23), none⟩])
.ret)
.skip)))
(.seq
(.seq
(.reg [
  ⟨(some (false, 24)), .fa (.g 1) 4, none⟩,
  ⟨(some (false, 25)), .ld none (.l 24), none⟩,
  ⟨(some (false, 26)), .call (.c (.fn 98 [])) [.l 25, .c (.lit (.int .i64 0)), .c (.lit (.int .i64 10000))], none⟩,
  ⟨(some (false, 27)), .mv (.l 26), none⟩,
  ⟨(some (false, 28)), .fa (.g 1) 5, (some (.l 27, false))⟩,
  ⟨(some (false, 29)), .ld none (.l 28), (some (.l 27, false))⟩,
  ⟨(some (false, 30)), .call (.c (.fn 98 [])) [.l 29, .c (.lit (.int .i64 0)), .c (.lit (.int .i64 1000000))], (some (.l 27, false))⟩,
  ⟨(some (false, 31)), .pick (.l 27) (.c (.lit (.bool true))) (.l 30), none⟩,
  ⟨(some (false, 32)), .mv (.l 31), none⟩,
  ⟨(some (false, 33)), .fa (.g 1) 6, (some (.l 32, false))⟩,
  ⟨(some (false, 34)), .ld none (.l 33), (some (.l 32, false))⟩,
  ⟨(some (false, 35)), .call (.c (.fn 98 [])) [.l 34, .c (.lit (.int .i64 1)), .c (.lit (.int .i64 1000))], (some (.l 32, false))⟩,
  ⟨(some (false, 36)), .pick (.l 32) (.c (.lit (.bool true))) (.l 35), none⟩,
  ⟨(some (false, 37)), .mv (.l 36), none⟩,
  ⟨(some (false, 38)), .fa (.g 1) 7, (some (.l 37, false))⟩,
  ⟨(some (false, 39)), .ld none (.l 38), (some (.l 37, false))⟩,
  ⟨(some (false, 40)), .call (.c (.fn 98 [])) [.l 39, .c (.lit (.int .i64 1)), .c (.lit (.int .i64 4000000))], (some (.l 37, false))⟩,
  ⟨(some (false, 41)), .pick (.l 37) (.c (.lit (.bool true))) (.l 40), none⟩,
  ⟨(some (false, 42)), .mv (.l 41), none⟩,
  ⟨(some (false, 43)), .fa (.g 1) 8, (some (.l 42, false))⟩,
  ⟨(some (false, 44)), .ld none (.l 43), (some (.l 42, false))⟩,
  ⟨(some (false, 45)), .call (.c (.fn 98 [])) [.l 44, .c (.lit (.int .i64 1)), .c (.lit (.int .i64 4000000))], (some (.l 42, false))⟩,
  ⟨(some (true, 46)), .pick (.l 42) (.c (.lit (.bool true))) (.l 45), none⟩])
(.cond (.g 46)
(.seq
(.reg [
  ⟨(some (true, 2)), .mv (.c (.lit (.int .i64 2))), none⟩])
.ret)
.skip))
(.seq
(.seq
(.reg [
  ⟨(some (false, 47)), .fa (.g 1) 7, none⟩,
  ⟨(some (false, 48)), .ld none (.l 47), none⟩,
  ⟨(some (false, 49)), .fa (.g 1) 8, none⟩,
  ⟨(some (false, 50)), .ld none (.l 49), none⟩,
  ⟨(some (true, 51)), .bin .gtr (.l 48) (.l 50), none⟩])
(.cond (.g 51)
(.seq
(.reg [
  ⟨(some (true, 2)), .mv (.c (.lit (.int .i64 11))), none⟩])
.ret)
.skip))
(.seq
(.seq
(.reg [
  ⟨(some (false, 52)), .fa (.g 1) 9, none⟩,
  ⟨(some (false, 53)), .ld none (.l 52), none⟩,
  ⟨(some (false, 54)), .call (.c (.fn 98 [])) [.l 53, .c (.lit (.int .i64 0)), .c (.lit (.int .i64 10000))], none⟩,
  ⟨(some (false, 55)), .mv (.l 54), none⟩,
  ⟨(some (false, 56)), .fa (.g 1) 10, (some (.l 55, false))⟩,
  ⟨(some (false, 57)), .ld none (.l 56), (some (.l 55, false))⟩,
  ⟨(some (false, 58)), .call (.c (.fn 98 [])) [.l 57, .c (.lit (.int .i64 0)), .c (.lit (.int .i64 1000000))], (some (.l 55, false))⟩,
  ⟨(some (true, 59)), .pick (.l 55) (.c (.lit (.bool true))) (.l 58), none⟩])
(.cond (.g 59)
(.seq
(.reg [
  ⟨(some (true, 2)), .mv (.c (.lit (.int .i64 2))), none⟩])
.ret)
.skip))
(.seq
(.reg [
  ⟨(some (true, 2)), .mv (.c (.lit (.int .i64 0))), none⟩])
.ret))))))))
def K60 : List Nat := [0, 10, 16, 22, 46, 51, 59, 2, 1, 3, 4, 5]
noncomputable def b60 : Code := match Try.f60.body with | some c => c | none => .skip
theorem t60 : trCode ⟨Try.prog, K60, [], 60, none⟩ b60 = some c60 := by kernel_rfl
theorem go60 {args : List AV} {H : AHeap} {Kk : AV → AHeap → Prop} (hn : args.length = 1) (h : AGo ⟨Try.prog, K60, [], 60, none⟩ H.length [.code c60] (RetP [.t (.g 2)] H.length Kk) ⟨[], argsG 0 args⟩ H) : ACalls Try.prog 60 args H Kk :=
  ACalls_of Try.func60 (c := b60) rfl (by kernel_rfl) t60 (rs := [.t (.g 2)]) (by kernel_rfl) (by rw [hn]; exact Nat.le_of_ble_eq_true rfl) (by rw [hn]; rfl) (h.weaken (fun _ _ => RetP.hands) (by simp))

/-- sastrugi/bear.faults -/
def c108 : ACode :=
  (.seq
(.reg [
  ⟨(some (true, 6)), .mv (.c (.lit (.int .i64 0))), none⟩])
(.seq
(.seq
(.reg [
  ⟨(some (false, 10)), .mv (.g 0), none⟩,
  ⟨(some (false, 11)), .len (.l 10), none⟩,
  ⟨(some (false, 12)), .mv (.g 1), none⟩,
  ⟨(some (true, 13)), .bin .gtr (.l 11) (.l 12), none⟩])
(.cond (.g 13)
(.seq
(.reg [
  ⟨(some (true, 6)), .mv (.c (.lit (.int .i64 8))), none⟩])
.ret)
.skip))
(.seq
(.seq
(.reg [
  ⟨(some (true, 14)), .mv (.g 0), none⟩,
  ⟨(some (true, 15)), .len (.g 14), none⟩,
  ⟨(some (true, 16)), .mv (.c (.lit (.int .i64 0))), none⟩])
(.block 0
(.loop
(.seq
(.reg [
  ⟨(some (true, 17)), .bin .lss (.g 16) (.g 15), none⟩])
(.seq
(.cond (.g 17)
.skip
(.exit 0))
(.seq
(.block 1
(.seq
(.reg [
  ⟨(some (false, 18)), .ia 2 (.g 14) (.g 16), none⟩,
  ⟨(some (false, 19)), .ld (some 2) (.l 18), none⟩,
  ⟨(some (true, 8)), .new [.int .i64 0, .int .i64 0], none⟩,
  ⟨none, .st 2 (.g 8) (.l 19), none⟩])
(.seq
(.reg [
  ⟨(some (false, 20)), .ld (some 2) (.g 8), none⟩,
  ⟨(some (false, 21)), .mv (.g 2), none⟩,
  ⟨(some (false, 22)), .call (.c (.fn 91 [])) [.l 20, .c (.lit (.int .i64 0)), .l 21], none⟩,
  ⟨(some (true, 9)), .mv (.l 22), none⟩])
(.seq
(.reg [
  ⟨(some (false, 23)), .mv (.g 9), none⟩,
  ⟨(some (true, 24)), .bin .neq (.l 23) (.c (.lit (.int .i64 0))), none⟩])
(.cond (.g 24)
(.seq
(.reg [
  ⟨(some (false, 25)), .mv (.g 9), none⟩,
  ⟨(some (true, 6)), .mv (.l 25), none⟩])
.ret)
.skip)))))
(.reg [
  ⟨(some (false, 26)), .bin .add (.g 16) (.c (.lit (.int .i64 1))), none⟩,
  ⟨(some (true, 16)), .mv (.l 26), none⟩])))))))
(.seq
(.reg [
  ⟨(some (true, 6)), .mv (.c (.lit (.int .i64 0))), none⟩])
.ret))))
def K108 : List Nat := [0, 1, 2, 13, 17, 24, 6, 14, 15, 16, 8, 9]
noncomputable def b108 : Code := match Try.f108.body with | some c => c | none => .skip
theorem t108 : trCode ⟨Try.prog, K108, [], 27, none⟩ b108 = some c108 := by kernel_rfl
theorem go108 {args : List AV} {H : AHeap} {Kk : AV → AHeap → Prop} (hn : args.length = 3) (h : AGo ⟨Try.prog, K108, [], 27, none⟩ H.length [.code c108] (RetP [.t (.g 6)] H.length Kk) ⟨[], argsG 0 args⟩ H) : ACalls Try.prog 108 args H Kk :=
  ACalls_of Try.func108 (c := b108) rfl (by kernel_rfl) t108 (rs := [.t (.g 6)]) (by kernel_rfl) (by rw [hn]; exact Nat.le_of_ble_eq_true rfl) (by rw [hn]; rfl) (h.weaken (fun _ _ => RetP.hands) (by simp))

/-- sastrugi/sastrugiref03.checkSpans -/
def c112 : ACode :=
  (.seq
(.reg [
  ⟨(some (true, 6)), .mv (.c (.lit (.int .i64 0))), none⟩])
(.seq
(.seq
(.reg [
  ⟨(some (false, 9)), .mv (.g 0), none⟩,
  ⟨(some (false, 10)), .len (.l 9), none⟩,
  ⟨(some (false, 11)), .mv (.g 1), none⟩,
  ⟨(some (true, 12)), .bin .gtr (.l 10) (.l 11), none⟩])
(.cond (.g 12)
(.seq
(.reg [
  ⟨(some (true, 6)), .mv (.c (.lit (.int .i64 8))), none⟩])
.ret)
.skip))
(.seq
(.seq
(.reg [
  ⟨(some (true, 7)), .mv (.c (.lit (.int .i64 0))), none⟩])
(.block 0
(.loop
(.seq
(.seq
(.reg [
  ⟨(some (false, 13)), .mv (.g 7), none⟩,
  ⟨(some (false, 14)), .mv (.g 0), none⟩,
  ⟨(some (false, 15)), .len (.l 14), none⟩,
  ⟨(some (true, 16)), .bin .lss (.l 13) (.l 15), none⟩])
(.cond (.g 16)
.skip
(.exit 0)))
(.seq
(.block 1
(.seq
(.reg [
  ⟨(some (false, 19)), .mv (.g 0), none⟩,
  ⟨(some (false, 20)), .mv (.g 7), none⟩,
  ⟨(some (false, 21)), .ia 2 (.l 19) (.l 20), none⟩,
  ⟨(some (false, 22)), .ld (some 2) (.l 21), none⟩,
  ⟨(some (false, 23)), .mv (.g 2), none⟩,
  ⟨(some (false, 24)), .call (.c (.fn 92 [])) [.l 22, .c (.lit (.int .i64 0)), .l 23], none⟩,
  ⟨(some (true, 8)), .mv (.l 24), none⟩])
(.seq
(.reg [
  ⟨(some (false, 25)), .mv (.g 8), none⟩,
  ⟨(some (true, 26)), .bin .neq (.l 25) (.c (.lit (.int .i64 0))), none⟩])
(.cond (.g 26)
(.seq
(.reg [
  ⟨(some (false, 27)), .mv (.g 8), none⟩,
  ⟨(some (true, 6)), .mv (.l 27), none⟩])
.ret)
.skip))))
(.reg [
  ⟨(some (false, 17)), .mv (.g 7), none⟩,
  ⟨(some (false, 18)), .bin .add (.l 17) (.c (.lit (.int .i64 1))), none⟩,
  ⟨(some (true, 7)), .mv (.l 18), none⟩]))))))
(.seq
(.reg [
  ⟨(some (true, 6)), .mv (.c (.lit (.int .i64 0))), none⟩])
.ret))))
def K112 : List Nat := [0, 1, 2, 12, 16, 26, 6, 7, 8]
noncomputable def b112 : Code := match Try.f112.body with | some c => c | none => .skip
theorem t112 : trCode ⟨Try.prog, K112, [], 28, none⟩ b112 = some c112 := by kernel_rfl
theorem go112 {args : List AV} {H : AHeap} {Kk : AV → AHeap → Prop} (hn : args.length = 3) (h : AGo ⟨Try.prog, K112, [], 28, none⟩ H.length [.code c112] (RetP [.t (.g 6)] H.length Kk) ⟨[], argsG 0 args⟩ H) : ACalls Try.prog 112 args H Kk :=
  ACalls_of Try.func112 (c := b112) rfl (by kernel_rfl) t112 (rs := [.t (.g 6)]) (by kernel_rfl) (by rw [hn]; exact Nat.le_of_ble_eq_true rfl) (by rw [hn]; rfl) (h.weaken (fun _ _ => RetP.hands) (by simp))

/-- sastrugi/bear.checkAll -/
def c85 : ACode :=
  (.seq
(.reg [
  ⟨(some (true, 3)), .box (.g 0), none⟩,
  ⟨(some (true, 6)), .mv (.c (.lit (.int .i64 0))), none⟩])
(.seq
(.seq
(.reg [
  ⟨(some (false, 9)), .ld (some 11) (.g 3), none⟩,
  ⟨(some (false, 10)), .call (.c (.fn 59 [])) [.l 9], none⟩,
  ⟨(some (true, 7)), .mv (.l 10), none⟩])
(.seq
(.reg [
  ⟨(some (false, 11)), .mv (.g 7), none⟩,
  ⟨(some (true, 12)), .bin .neq (.l 11) (.c (.lit (.int .i64 0))), none⟩])
(.cond (.g 12)
(.seq
(.reg [
  ⟨(some (false, 13)), .mv (.g 7), none⟩,
  ⟨(some (true, 6)), .mv (.l 13), none⟩])
.ret)
.skip)))
(.seq
(.seq
(.reg [
  ⟨(some (false, 14)), .mv (.g 1), none⟩,
  ⟨(some (false, 15)), .call (.c (.fn 108 [])) [.l 14, .c (.lit (.int .i64 1000)), .c (.lit (.int .i64 5000))], none⟩,
  ⟨(some (true, 8)), .mv (.l 15), none⟩])
(.seq
(.reg [
  ⟨(some (false, 16)), .mv (.g 8), none⟩,
  ⟨(some (true, 17)), .bin .neq (.l 16) (.c (.lit (.int .i64 0))), none⟩])
(.cond (.g 17)
(.seq
(.reg [
  ⟨(some (false, 18)), .mv (.g 8), none⟩,
  ⟨(some (true, 6)), .mv (.l 18), none⟩])
.ret)
.skip)))
(.seq
(.reg [
  ⟨(some (false, 19)), .mv (.g 2), none⟩,
  ⟨(some (false, 20)), .call (.c (.fn 108 [])) [.l 19, .c (.lit (.int .i64 50)), .c (.lit (.int .i64 100000))], none⟩,
  ⟨(some (true, 6)), .mv (.l 20), none⟩])
.ret))))
def K85 : List Nat := [0, 1, 2, 12, 17, 6, 3, 7, 8]
noncomputable def b85 : Code := match Try.f85.body with | some c => c | none => .skip
theorem t85 : trCode ⟨Try.prog, K85, [], 21, none⟩ b85 = some c85 := by kernel_rfl
theorem go85 {args : List AV} {H : AHeap} {Kk : AV → AHeap → Prop} (hn : args.length = 3) (h : AGo ⟨Try.prog, K85, [], 21, none⟩ H.length [.code c85] (RetP [.t (.g 6)] H.length Kk) ⟨[], argsG 0 args⟩ H) : ACalls Try.prog 85 args H Kk :=
  ACalls_of Try.func85 (c := b85) rfl (by kernel_rfl) t85 (rs := [.t (.g 6)]) (by kernel_rfl) (by rw [hn]; exact Nat.le_of_ble_eq_true rfl) (by rw [hn]; rfl) (h.weaken (fun _ _ => RetP.hands) (by simp))

/-- sastrugi/bear.loads -/
def c86 : ACode :=
  (.seq
(.reg [
  ⟨(some (true, 4)), .mv (.c (.lit (.int .i64 0))), none⟩])
(.seq
(.seq
(.reg [
  ⟨(some (false, 8)), .mv (.g 0), none⟩,
  ⟨(some (false, 9)), .len (.l 8), none⟩,
  ⟨(some (true, 10)), .bin .gtr (.l 9) (.c (.lit (.int .i64 30))), none⟩])
(.cond (.g 10)
(.seq
(.reg [
  ⟨(some (true, 4)), .mv (.c (.lit (.int .i64 8))), none⟩])
.ret)
.skip))
(.seq
(.seq
(.reg [
  ⟨(some (true, 11)), .mv (.g 0), none⟩,
  ⟨(some (true, 12)), .len (.g 11), none⟩,
  ⟨(some (true, 13)), .mv (.c (.lit (.int .i64 0))), none⟩])
(.block 0
(.loop
(.seq
(.reg [
  ⟨(some (true, 14)), .bin .lss (.g 13) (.g 12), none⟩])
(.seq
(.cond (.g 14)
.skip
(.exit 0))
(.seq
(.block 1
(.seq
(.reg [
  ⟨(some (false, 15)), .ia 4 (.g 11) (.g 13), none⟩,
  ⟨(some (false, 16)), .ld (some 4) (.l 15), none⟩,
  ⟨(some (true, 6)), .new [.int .i64 0, .int .i64 0, .int .i64 0, .int .i64 0], none⟩,
  ⟨none, .st 4 (.g 6) (.l 16), none⟩])
(.seq
(.seq
(.reg [
  ⟨(some (false, 17)), .fa (.g 6) 0, none⟩,
  ⟨(some (false, 18)), .ld none (.l 17), none⟩,
  ⟨(some (false, 19)), .mv (.g 1), none⟩,
  ⟨(some (false, 20)), .bin .mul (.c (.lit (.int .i64 100))) (.l 19), none⟩,
  ⟨(some (false, 21)), .bin .sub (.l 20) (.c (.lit (.int .i64 1))), none⟩,
  ⟨(some (false, 22)), .call (.c (.fn 94 [])) [.l 18, .c (.lit (.int .i64 0)), .l 21], none⟩,
  ⟨(some (true, 23)), .un .not (.l 22), none⟩])
(.cond (.g 23)
(.seq
(.reg [
  ⟨(some (true, 4)), .mv (.c (.lit (.int .i64 7))), none⟩])
.ret)
.skip))
(.seq
(.seq
(.reg [
  ⟨(some (false, 24)), .fa (.g 6) 1, none⟩,
  ⟨(some (false, 25)), .ld (some 2) (.l 24), none⟩,
  ⟨(some (false, 26)), .call (.c (.fn 91 [])) [.l 25, .c (.lit (.int .i64 0)), .c (.lit (.int .i64 200000))], none⟩,
  ⟨(some (true, 7)), .mv (.l 26), none⟩])
(.seq
(.reg [
  ⟨(some (false, 27)), .mv (.g 7), none⟩,
  ⟨(some (true, 28)), .bin .neq (.l 27) (.c (.lit (.int .i64 0))), none⟩])
(.cond (.g 28)
(.seq
(.reg [
  ⟨(some (false, 29)), .mv (.g 7), none⟩,
  ⟨(some (true, 4)), .mv (.l 29), none⟩])
.ret)
.skip)))
(.seq
(.reg [
  ⟨(some (false, 30)), .fa (.g 6) 3, none⟩,
  ⟨(some (false, 31)), .ld none (.l 30), none⟩,
  ⟨(some (false, 32)), .call (.c (.fn 94 [])) [.l 31, .c (.lit (.int .i64 0)), .c (.lit (.int .i64 10000))], none⟩,
  ⟨(some (true, 33)), .un .not (.l 32), none⟩])
(.cond (.g 33)
(.seq
(.reg [
  ⟨(some (true, 4)), .mv (.c (.lit (.int .i64 2))), none⟩])
.ret)
.skip))))))
(.reg [
  ⟨(some (false, 34)), .bin .add (.g 13) (.c (.lit (.int .i64 1))), none⟩,
  ⟨(some (true, 13)), .mv (.l 34), none⟩])))))))
(.seq
(.reg [
  ⟨(some (true, 4)), .mv (.c (.lit (.int .i64 0))), none⟩])
.ret))))
def K86 : List Nat := [0, 1, 10, 14, 23, 28, 33, 4, 11, 12, 13, 6, 7]
noncomputable def b86 : Code := match Try.f86.body with | some c => c | none => .skip
theorem t86 : trCode ⟨Try.prog, K86, [], 35, none⟩ b86 = some c86 := by kernel_rfl
theorem go86 {args : List AV} {H : AHeap} {Kk : AV → AHeap → Prop} (hn : args.length = 2) (h : AGo ⟨Try.prog, K86, [], 35, none⟩ H.length [.code c86] (RetP [.t (.g 4)] H.length Kk) ⟨[], argsG 0 args⟩ H) : ACalls Try.prog 86 args H Kk :=
  ACalls_of Try.func86 (c := b86) rfl (by kernel_rfl) t86 (rs := [.t (.g 4)]) (by kernel_rfl) (by rw [hn]; exact Nat.le_of_ble_eq_true rfl) (by rw [hn]; rfl) (h.weaken (fun _ _ => RetP.hands) (by simp))

/-- sastrugi/sastrugiref03.checkLoads -/
def c89 : ACode :=
  (.seq
(.reg [
  ⟨(some (true, 4)), .mv (.c (.lit (.int .i64 0))), none⟩])
(.seq
(.seq
(.reg [
  ⟨(some (false, 7)), .mv (.g 1), none⟩,
  ⟨(some (false, 8)), .len (.l 7), none⟩,
  ⟨(some (true, 9)), .bin .gtr (.l 8) (.c (.lit (.int .i64 30))), none⟩])
(.cond (.g 9)
(.seq
(.reg [
  ⟨(some (true, 4)), .mv (.c (.lit (.int .i64 8))), none⟩])
.ret)
.skip))
(.seq
(.seq
(.reg [
  ⟨(some (true, 5)), .mv (.c (.lit (.int .i64 0))), none⟩])
(.block 0
(.loop
(.seq
(.seq
(.reg [
  ⟨(some (false, 10)), .mv (.g 5), none⟩,
  ⟨(some (false, 11)), .mv (.g 1), none⟩,
  ⟨(some (false, 12)), .len (.l 11), none⟩,
  ⟨(some (true, 13)), .bin .lss (.l 10) (.l 12), none⟩])
(.cond (.g 13)
.skip
(.exit 0)))
(.seq
(.block 1
(.seq
(.seq
(.reg [
  ⟨(some (false, 16)), .mv (.g 1), none⟩,
  ⟨(some (false, 17)), .mv (.g 5), none⟩,
  ⟨(some (false, 18)), .ia 4 (.l 16) (.l 17), none⟩,
  ⟨(some (false, 19)), .fa (.l 18) 0, none⟩,
  ⟨(some (false, 20)), .ld none (.l 19), none⟩,
  ⟨(some (false, 21)), .mv (.g 0), none⟩,
  ⟨(some (false, 22)), .bin .mul (.c (.lit (.int .i64 100))) (.l 21), none⟩,
  ⟨(some (false, 23)), .bin .sub (.l 22) (.c (.lit (.int .i64 1))), none⟩,
  ⟨(some (true, 24)), .call (.c (.fn 98 [])) [.l 20, .c (.lit (.int .i64 0)), .l 23], none⟩])
(.cond (.g 24)
(.seq
(.reg [
  ⟨(some (true, 4)), .mv (.c (.lit (.int .i64 7))), none⟩])
.ret)
.skip))
(.seq
(.seq
(.reg [
  ⟨(some (false, 25)), .mv (.g 1), none⟩,
  ⟨(some (false, 26)), .mv (.g 5), none⟩,
  ⟨(some (false, 27)), .ia 4 (.l 25) (.l 26), none⟩,
  ⟨(some (false, 28)), .fa (.l 27) 1, none⟩,
  ⟨(some (false, 29)), .ld (some 2) (.l 28), none⟩,
  ⟨(some (false, 30)), .call (.c (.fn 92 [])) [.l 29, .c (.lit (.int .i64 0)), .c (.lit (.int .i64 200000))], none⟩,
  ⟨(some (true, 6)), .mv (.l 30), none⟩])
(.seq
(.reg [
  ⟨(some (false, 31)), .mv (.g 6), none⟩,
  ⟨(some (true, 32)), .bin .neq (.l 31) (.c (.lit (.int .i64 0))), none⟩])
(.cond (.g 32)
(.seq
(.reg [
  ⟨(some (false, 33)), .mv (.g 6), none⟩,
  ⟨(some (true, 4)), .mv (.l 33), none⟩])
.ret)
.skip)))
(.seq
(.reg [
  ⟨(some (false, 34)), .mv (.g 1), none⟩,
  ⟨(some (false, 35)), .mv (.g 5), none⟩,
  ⟨(some (false, 36)), .ia 4 (.l 34) (.l 35), none⟩,
  ⟨(some (false, 37)), .fa (.l 36) 3, none⟩,
  ⟨(some (false, 38)), .ld none (.l 37), none⟩,
  ⟨(some (true, 39)), .call (.c (.fn 98 [])) [.l 38, .c (.lit (.int .i64 0)), .c (.lit (.int .i64 10000))], none⟩])
(.cond (.g 39)
(.seq
(.reg [
  ⟨(some (true, 4)), .mv (.c (.lit (.int .i64 2))), none⟩])
.ret)
.skip)))))
(.reg [
  ⟨(some (false, 14)), .mv (.g 5), none⟩,
  ⟨(some (false, 15)), .bin .add (.l 14) (.c (.lit (.int .i64 1))), none⟩,
  ⟨(some (true, 5)), .mv (.l 15), none⟩]))))))
(.seq
(.reg [
  ⟨(some (true, 4)), .mv (.c (.lit (.int .i64 0))), none⟩])
.ret))))
def K89 : List Nat := [0, 1, 9, 13, 24, 32, 39, 4, 5, 6]
noncomputable def b89 : Code := match Try.f89.body with | some c => c | none => .skip
theorem t89 : trCode ⟨Try.prog, K89, [], 40, none⟩ b89 = some c89 := by kernel_rfl
theorem go89 {args : List AV} {H : AHeap} {Kk : AV → AHeap → Prop} (hn : args.length = 2) (h : AGo ⟨Try.prog, K89, [], 40, none⟩ H.length [.code c89] (RetP [.t (.g 4)] H.length Kk) ⟨[], argsG 0 args⟩ H) : ACalls Try.prog 89 args H Kk :=
  ACalls_of Try.func89 (c := b89) rfl (by kernel_rfl) t89 (rs := [.t (.g 4)]) (by kernel_rfl) (by rw [hn]; exact Nat.le_of_ble_eq_true rfl) (by rw [hn]; rfl) (h.weaken (fun _ _ => RetP.hands) (by simp))

/-- sastrugi/bear.last[sastrugi/api.Share] -/
def c139 : ACode :=
  (.seq
(.reg [
  ⟨(some (true, 6)), .new [.int .i64 0, .int .i64 0], none⟩])
(.seq
(.reg [
  ⟨(some (false, 10)), .mv (.g 0), none⟩,
  ⟨(some (false, 11)), .ia 2 (.l 10) (.c (.lit (.int .i64 0))), none⟩,
  ⟨(some (false, 12)), .ld (some 2) (.l 11), none⟩,
  ⟨(some (true, 7)), .new [.int .i64 0, .int .i64 0], none⟩,
  ⟨none, .st 2 (.g 7) (.l 12), none⟩])
(.seq
(.seq
(.reg [
  ⟨(some (true, 13)), .mv (.g 0), none⟩,
  ⟨(some (true, 14)), .len (.g 13), none⟩,
  ⟨(some (true, 15)), .mv (.c (.lit (.int .i64 0))), none⟩])
(.block 0
(.loop
(.seq
(.reg [
  ⟨(some (true, 16)), .bin .lss (.g 15) (.g 14), none⟩])
(.seq
(.cond (.g 16)
.skip
(.exit 0))
(.seq
(.block 1
(.seq
(.reg [
  ⟨(some (false, 17)), .ia 2 (.g 13) (.g 15), none⟩,
  ⟨(some (false, 18)), .ld (some 2) (.l 17), none⟩,
  ⟨(some (true, 9)), .new [.int .i64 0, .int .i64 0], none⟩,
  ⟨none, .st 2 (.g 9) (.l 18), none⟩])
(.seq
(.reg [
  ⟨(some (false, 19)), .mv (.g 2), none⟩,
  ⟨(some (false, 20)), .ld (some 2) (.g 9), none⟩,
  ⟨(some (false, 21)), .call (.l 19) [.l 20], none⟩,
  ⟨(some (false, 22)), .mv (.g 1), none⟩,
  ⟨(some (true, 23)), .bin .leq (.l 21) (.l 22), none⟩])
(.cond (.g 23)
(.reg [
  ⟨(some (false, 24)), .ld (some 2) (.g 9), none⟩,
  ⟨none, .st 2 (.g 7) (.l 24), none⟩])
.skip))))
(.reg [
  ⟨(some (false, 25)), .bin .add (.g 15) (.c (.lit (.int .i64 1))), none⟩,
  ⟨(some (true, 15)), .mv (.l 25), none⟩])))))))
(.seq
(.reg [
  ⟨(some (false, 26)), .ld (some 2) (.g 7), none⟩,
  ⟨none, .st 2 (.g 6) (.l 26), none⟩])
.ret))))
def K139 : List Nat := [0, 1, 2, 16, 23, 6, 7, 13, 14, 15, 9]
noncomputable def b139 : Code := match Try.f139.body with | some c => c | none => .skip
theorem t139 : trCode ⟨Try.prog, K139, [], 27, none⟩ b139 = some c139 := by kernel_rfl
theorem go139 {args : List AV} {H : AHeap} {Kk : AV → AHeap → Prop} (hn : args.length = 3) (h : AGo ⟨Try.prog, K139, [], 27, none⟩ H.length [.code c139] (RetP [.cell (.g 6) (some 2)] H.length Kk) ⟨[], argsG 0 args⟩ H) : ACalls Try.prog 139 args H Kk :=
  ACalls_of Try.func139 (c := b139) rfl (by kernel_rfl) t139 (rs := [.cell (.g 6) (some 2)]) (by kernel_rfl) (by rw [hn]; exact Nat.le_of_ble_eq_true rfl) (by rw [hn]; rfl) (h.weaken (fun _ _ => RetP.hands) (by simp))

/-- sastrugi/bear.part$1 -/
def c140 : ACode :=
  (.seq
(.reg [
  ⟨(some (true, 1)), .box (.g 0), none⟩,
  ⟨(some (true, 2)), .mv (.c (.lit (.int .i64 0))), none⟩])
(.seq
(.reg [
  ⟨(some (false, 3)), .fa (.g 1) 0, none⟩,
  ⟨(some (false, 4)), .ld none (.l 3), none⟩,
  ⟨(some (true, 2)), .mv (.l 4), none⟩])
.ret))
def K140 : List Nat := [0, 2, 1]
noncomputable def b140 : Code := match Try.f140.body with | some c => c | none => .skip
theorem t140 : trCode ⟨Try.prog, K140, [], 5, none⟩ b140 = some c140 := by kernel_rfl
theorem go140 {args : List AV} {H : AHeap} {Kk : AV → AHeap → Prop} (hn : args.length = 1) (h : AGo ⟨Try.prog, K140, [], 5, none⟩ H.length [.code c140] (RetP [.t (.g 2)] H.length Kk) ⟨[], argsG 0 args⟩ H) : ACalls Try.prog 140 args H Kk :=
  ACalls_of Try.func140 (c := b140) rfl (by kernel_rfl) t140 (rs := [.t (.g 2)]) (by kernel_rfl) (by rw [hn]; exact Nat.le_of_ble_eq_true rfl) (by rw [hn]; rfl) (h.weaken (fun _ _ => RetP.hands) (by simp))

/-- sastrugi/bear.part -/
def c110 : ACode :=
  (.seq
(.reg [
  ⟨(some (true, 4)), .mv (.c (.lit (.int .i64 0))), none⟩])
(.seq
(.reg [
  ⟨(some (false, 5)), .mv (.g 0), none⟩,
  ⟨(some (false, 6)), .mv (.g 1), none⟩,
  ⟨(some (false, 7)), .call (.c (.fn 139 [])) [.l 5, .l 6, .c (.fn 140 [])], none⟩,
  ⟨(some (false, 8)), .fd none (.l 7) 1, none⟩,
  ⟨(some (true, 4)), .mv (.l 8), none⟩])
.ret))
def K110 : List Nat := [0, 1, 4]
noncomputable def b110 : Code := match Try.f110.body with | some c => c | none => .skip
theorem t110 : trCode ⟨Try.prog, K110, [], 9, none⟩ b110 = some c110 := by kernel_rfl
theorem go110 {args : List AV} {H : AHeap} {Kk : AV → AHeap → Prop} (hn : args.length = 2) (h : AGo ⟨Try.prog, K110, [], 9, none⟩ H.length [.code c110] (RetP [.t (.g 4)] H.length Kk) ⟨[], argsG 0 args⟩ H) : ACalls Try.prog 110 args H Kk :=
  ACalls_of Try.func110 (c := b110) rfl (by kernel_rfl) t110 (rs := [.t (.g 4)]) (by kernel_rfl) (by rw [hn]; exact Nat.le_of_ble_eq_true rfl) (by rw [hn]; rfl) (h.weaken (fun _ _ => RetP.hands) (by simp))

/-- sastrugi/sastrugiref03.part -/
def c130 : ACode :=
  (.seq
(.reg [
  ⟨(some (true, 4)), .mv (.c (.lit (.int .i64 0))), none⟩])
(.seq
(.reg [
  ⟨(some (false, 7)), .mv (.g 0), none⟩,
  ⟨(some (false, 8)), .ia 2 (.l 7) (.c (.lit (.int .i64 0))), none⟩,
  ⟨(some (false, 9)), .fa (.l 8) 1, none⟩,
  ⟨(some (false, 10)), .ld none (.l 9), none⟩,
  ⟨(some (true, 5)), .mv (.l 10), none⟩])
(.seq
(.seq
(.reg [
  ⟨(some (true, 6)), .mv (.c (.lit (.int .i64 0))), none⟩])
(.block 0
(.loop
(.seq
(.seq
(.reg [
  ⟨(some (false, 11)), .mv (.g 6), none⟩,
  ⟨(some (false, 12)), .mv (.g 0), none⟩,
  ⟨(some (false, 13)), .len (.l 12), none⟩,
  ⟨(some (true, 14)), .bin .lss (.l 11) (.l 13), none⟩])
(.cond (.g 14)
.skip
(.exit 0)))
(.seq
(.block 1
(.seq
(.reg [
  ⟨(some (false, 17)), .mv (.g 0), none⟩,
  ⟨(some (false, 18)), .mv (.g 6), none⟩,
  ⟨(some (false, 19)), .ia 2 (.l 17) (.l 18), none⟩,
  ⟨(some (false, 20)), .fa (.l 19) 0, none⟩,
  ⟨(some (false, 21)), .ld none (.l 20), none⟩,
  ⟨(some (false, 22)), .mv (.g 1), none⟩,
  ⟨(some (true, 23)), .bin .leq (.l 21) (.l 22), none⟩])
(.cond (.g 23)
(.reg [
  ⟨(some (false, 24)), .mv (.g 0), none⟩,
  ⟨(some (false, 25)), .mv (.g 6), none⟩,
  ⟨(some (false, 26)), .ia 2 (.l 24) (.l 25), none⟩,
  ⟨(some (false, 27)), .fa (.l 26) 1, none⟩,
  ⟨(some (false, 28)), .ld none (.l 27), none⟩,
  ⟨(some (true, 5)), .mv (.l 28), none⟩])
.skip)))
(.reg [
  ⟨(some (false, 15)), .mv (.g 6), none⟩,
  ⟨(some (false, 16)), .bin .add (.l 15) (.c (.lit (.int .i64 1))), none⟩,
  ⟨(some (true, 6)), .mv (.l 16), none⟩]))))))
(.seq
(.reg [
  ⟨(some (false, 29)), .mv (.g 5), none⟩,
  ⟨(some (true, 4)), .mv (.l 29), none⟩])
.ret))))
def K130 : List Nat := [0, 1, 14, 23, 4, 5, 6]
noncomputable def b130 : Code := match Try.f130.body with | some c => c | none => .skip
theorem t130 : trCode ⟨Try.prog, K130, [], 30, none⟩ b130 = some c130 := by kernel_rfl
theorem go130 {args : List AV} {H : AHeap} {Kk : AV → AHeap → Prop} (hn : args.length = 2) (h : AGo ⟨Try.prog, K130, [], 30, none⟩ H.length [.code c130] (RetP [.t (.g 4)] H.length Kk) ⟨[], argsG 0 args⟩ H) : ACalls Try.prog 130 args H Kk :=
  ACalls_of Try.func130 (c := b130) rfl (by kernel_rfl) t130 (rs := [.t (.g 4)]) (by kernel_rfl) (by rw [hn]; exact Nat.le_of_ble_eq_true rfl) (by rw [hn]; rfl) (h.weaken (fun _ _ => RetP.hands) (by simp))

end Go.Sas
