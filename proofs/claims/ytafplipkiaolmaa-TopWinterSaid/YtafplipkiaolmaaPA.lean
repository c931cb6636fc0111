/-
The code of some functions with its types resolved, printed by a program; that it is the code is checked by the kernel.
The code of some functions with its types resolved, printed by a program; that it is the code is checked by the kernel.
Conditions: none.
-/
import Derived.Test.YtafplipkiaolmaaP4
import Derived.Test.YtafplipkiaolmaaProg
set_option linter.unusedVariables false
set_option linter.unusedSimpArgs false
namespace Go.Sas
open Go.Proofs
set_option maxRecDepth 100000
/-- sastrugi/sastrugikit.NewSeed -/
def c4 : ACode :=
  (.seq
(.reg [
  ⟨(some (true, 2)), .mv (.c (.lit (.pointer none))), none⟩])
(.seq
(.reg [
  ⟨(some (false, 5)), .mk [.int .u64 0] [(0, 1, .c (.lit (.int .u64 1)))], none⟩,
  ⟨(some (false, 6)), .box (.l 5), none⟩,
  ⟨(some (true, 3)), .mv (.l 6), none⟩])
(.seq
(.seq
(.reg [
  ⟨(some (true, 4)), .mv (.c (.lit (.int .i64 0))), none⟩])
(.block 0
(.loop
(.seq
(.seq
(.reg [
  ⟨(some (false, 7)), .mv (.g 4), none⟩,
  ⟨(some (false, 8)), .mv (.g 0), none⟩,
  ⟨(some (false, 9)), .len (.l 8), none⟩,
  ⟨(some (true, 10)), .bin .lss (.l 7) (.l 9), none⟩])
(.cond (.g 10)
.skip
(.exit 0)))
(.seq
(.block 1
(.seq
(.draw [
  ⟨⟨(some (false, 13)), .mv (.g 3), none⟩, 0, true, []⟩,
  ⟨⟨(some (false, 14)), .mv (.g 3), none⟩, 1, true, []⟩,
  ⟨⟨(some (false, 15)), .nilc (.l 14), none⟩, 2, true, []⟩,
  ⟨⟨(some (false, 16)), .fa (.l 15) 0, none⟩, 3, true, []⟩,
  ⟨⟨(some (false, 17)), .ld none (.l 16), none⟩, 4, true, []⟩,
  ⟨⟨(some (false, 18)), .bin .mul (.l 17) (.c (.lit (.int .u64 6364136223846793005))), none⟩, 5, true, []⟩,
  ⟨⟨(some (false, 19)), .mv (.g 0), none⟩, 6, true, []⟩,
  ⟨⟨(some (false, 20)), .mv (.g 4), none⟩, 7, true, []⟩,
  ⟨⟨(some (false, 21)), .ia 1 (.l 19) (.l 20), none⟩, 8, true, []⟩,
  ⟨⟨(some (false, 22)), .ld none (.l 21), none⟩, 9, true, []⟩,
  ⟨⟨(some (false, 23)), .cv .u64 (.l 22), none⟩, 10, true, []⟩,
  ⟨⟨(some (false, 24)), .bin .add (.l 18) (.l 23), none⟩, 11, true, []⟩,
  ⟨⟨(some (false, 25)), .bin .add (.l 24) (.c (.lit (.int .u64 1442695040888963407))), none⟩, 12, true, []⟩,
  ⟨⟨(some (false, 26)), .nilc (.l 13), none⟩, 13, true, []⟩,
  ⟨⟨(some (false, 27)), .fa (.l 26) 0, none⟩, 14, true, []⟩,
  ⟨⟨none, .st 1 (.l 27) (.l 25), none⟩, 15, true, []⟩])
(.reg [
  ⟨(some (false, 28)), .mv (.g 3), none⟩,
  ⟨(some (false, 29)), .call (.c (.fn 18 [])) [.l 28], none⟩])))
(.reg [
  ⟨(some (false, 11)), .mv (.g 4), none⟩,
  ⟨(some (false, 12)), .bin .add (.l 11) (.c (.lit (.int .i64 1))), none⟩,
  ⟨(some (true, 4)), .mv (.l 12), none⟩]))))))
(.seq
(.reg [
  ⟨(some (false, 30)), .mv (.g 3), none⟩,
  ⟨(some (true, 2)), .mv (.l 30), none⟩])
.ret))))
def K4 : List Nat := [0, 10, 2, 3, 4]
noncomputable def b4 : Code := match Try.f4.body with | some c => c | none => .skip
theorem t4 : trCode ⟨Try.prog, K4, [], 31, none⟩ b4 = some c4 := by kernel_rfl
theorem go4 {args : List AV} {H : AHeap} {Kk : AV → AHeap → Prop} (hn : args.length = 1) (h : AGo ⟨Try.prog, K4, [], 31, none⟩ H.length [.code c4] (RetP [.t (.g 2)] H.length Kk) ⟨[], argsG 0 args⟩ H) : ACalls Try.prog 4 args H Kk :=
  ACalls_of Try.func4 (c := b4) rfl (by kernel_rfl) t4 (rs := [.t (.g 2)]) (by kernel_rfl) (by rw [hn]; exact Nat.le_of_ble_eq_true rfl) (by rw [hn]; rfl) (h.weaken (fun _ _ => RetP.hands) (by simp))

/-- (*sastrugi/sastrugikit.Seed).From -/
def c10 : ACode :=
  (.seq
(.reg [
  ⟨(some (true, 6)), .mv (.c (.lit (.int .i64 0))), none⟩])
(.seq
(.reg [
  ⟨(some (false, 7)), .mv (.g 1), none⟩,
  ⟨(some (false, 8)), .mv (.g 0), none⟩,
  ⟨(some (false, 9)), .mv (.g 2), none⟩,
  ⟨(some (false, 10)), .mv (.g 1), none⟩,
  ⟨(some (false, 11)), .bin .sub (.l 9) (.l 10), none⟩,
  ⟨(some (false, 12)), .bin .add (.l 11) (.c (.lit (.int .i64 1))), none⟩,
  ⟨(some (false, 13)), .call (.c (.fn 11 [])) [.l 8, .l 12], none⟩,
  ⟨(some (false, 14)), .bin .add (.l 7) (.l 13), none⟩,
  ⟨(some (true, 6)), .mv (.l 14), none⟩])
.ret))
def K10 : List Nat := [0, 1, 2, 6]
noncomputable def b10 : Code := match Try.f10.body with | some c => c | none => .skip
theorem t10 : trCode ⟨Try.prog, K10, [], 15, none⟩ b10 = some c10 := by kernel_rfl
theorem go10 {args : List AV} {H : AHeap} {Kk : AV → AHeap → Prop} (hn : args.length = 3) (h : AGo ⟨Try.prog, K10, [], 15, none⟩ H.length [.code c10] (RetP [.t (.g 6)] H.length Kk) ⟨[], argsG 0 args⟩ H) : ACalls Try.prog 10 args H Kk :=
  ACalls_of Try.func10 (c := b10) rfl (by kernel_rfl) t10 (rs := [.t (.g 6)]) (by kernel_rfl) (by rw [hn]; exact Nat.le_of_ble_eq_true rfl) (by rw [hn]; rfl) (h.weaken (fun _ _ => RetP.hands) (by simp))

/-- (*sastrugi/sastrugikit.Seed).Below -/
def c11 : ACode :=
  (.seq
(.reg [
  ⟨(some (true, 4)), .mv (.c (.lit (.int .i64 0))), none⟩])
(.seq
(.seq
(.reg [
  ⟨(some (false, 5)), .mv (.g 1), none⟩,
  ⟨(some (true, 6)), .bin .lss (.l 5) (.c (.lit (.int .i64 2))), none⟩])
(.cond (.g 6)
(.seq
(.reg [
  ⟨(some (true, 4)), .mv (.c (.lit (.int .i64 0))), none⟩])
.ret)
.skip))
(.seq
(.reg [
  ⟨(some (false, 7)), .mv (.g 0), none⟩,
  ⟨(some (false, 8)), .call (.c (.fn 18 [])) [.l 7], none⟩,
  ⟨(some (false, 9)), .bin .shr (.l 8) (.c (.lit (.int .u64 1))), none⟩,
  ⟨(some (false, 10)), .mv (.g 1), none⟩,
  ⟨(some (false, 11)), .cv .u64 (.l 10), none⟩,
  ⟨(some (false, 12)), .bin .rem (.l 9) (.l 11), none⟩,
  ⟨(some (false, 13)), .cv .i64 (.l 12), none⟩,
  ⟨(some (true, 4)), .mv (.l 13), none⟩])
.ret)))
def K11 : List Nat := [0, 1, 6, 4]
noncomputable def b11 : Code := match Try.f11.body with | some c => c | none => .skip
theorem t11 : trCode ⟨Try.prog, K11, [], 14, none⟩ b11 = some c11 := by kernel_rfl
theorem go11 {args : List AV} {H : AHeap} {Kk : AV → AHeap → Prop} (hn : args.length = 2) (h : AGo ⟨Try.prog, K11, [], 14, none⟩ H.length [.code c11] (RetP [.t (.g 4)] H.length Kk) ⟨[], argsG 0 args⟩ H) : ACalls Try.prog 11 args H Kk :=
  ACalls_of Try.func11 (c := b11) rfl (by kernel_rfl) t11 (rs := [.t (.g 4)]) (by kernel_rfl) (by rw [hn]; exact Nat.le_of_ble_eq_true rfl) (by rw [hn]; rfl) (h.weaken (fun _ _ => RetP.hands) (by simp))

/-- (*sastrugi/sastrugikit.Seed).Of -/
def c19 : ACode :=
  (.seq
(.reg [
  ⟨(some (true, 4)), .mv (.c (.lit (.int .i64 0))), none⟩])
(.seq
(.seq
(.reg [
  ⟨(some (false, 5)), .mv (.g 1), none⟩,
  ⟨(some (false, 6)), .len (.l 5), none⟩,
  ⟨(some (true, 7)), .bin .eql (.l 6) (.c (.lit (.int .i64 0))), none⟩])
(.cond (.g 7)
(.seq
(.reg [
  ⟨(some (true, 4)), .mv (.c (.lit (.int .i64 0))), none⟩])
.ret)
.skip))
(.seq
(.reg [
  ⟨(some (false, 8)), .mv (.g 1), none⟩,
  ⟨(some (false, 9)), .mv (.g 0), none⟩,
  ⟨(some (false, 10)), .mv (.g 1), none⟩,
  ⟨(some (false, 11)), .len (.l 10), none⟩,
  ⟨(some (false, 12)), .call (.c (.fn 11 [])) [.l 9, .l 11], none⟩,
  ⟨(some (false, 13)), .ia 1 (.l 8) (.l 12), none⟩,
  ⟨(some (false, 14)), .ld none (.l 13), none⟩,
  ⟨(some (true, 4)), .mv (.l 14), none⟩])
.ret)))
def K19 : List Nat := [0, 1, 7, 4]
noncomputable def b19 : Code := match Try.f19.body with | some c => c | none => .skip
theorem t19 : trCode ⟨Try.prog, K19, [], 15, none⟩ b19 = some c19 := by kernel_rfl
theorem go19 {args : List AV} {H : AHeap} {Kk : AV → AHeap → Prop} (hn : args.length = 2) (h : AGo ⟨Try.prog, K19, [], 15, none⟩ H.length [.code c19] (RetP [.t (.g 4)] H.length Kk) ⟨[], argsG 0 args⟩ H) : ACalls Try.prog 19 args H Kk :=
  ACalls_of Try.func19 (c := b19) rfl (by kernel_rfl) t19 (rs := [.t (.g 4)]) (by kernel_rfl) (by rw [hn]; exact Nat.le_of_ble_eq_true rfl) (by rw [hn]; rfl) (h.weaken (fun _ _ => RetP.hands) (by simp))

/-- (*sastrugi/sastrugikit.Seed).Yes -/
def c23 : ACode :=
  (.seq
(.reg [
  ⟨(some (true, 4)), .mv (.c (.lit (.bool false))), none⟩])
(.seq
(.reg [
  ⟨(some (false, 5)), .mv (.g 0), none⟩,
  ⟨(some (false, 6)), .mv (.g 1), none⟩,
  ⟨(some (false, 7)), .call (.c (.fn 11 [])) [.l 5, .l 6], none⟩,
  ⟨(some (false, 8)), .bin .eql (.l 7) (.c (.lit (.int .i64 0))), none⟩,
  ⟨(some (true, 4)), .mv (.l 8), none⟩])
.ret))
def K23 : List Nat := [0, 1, 4]
noncomputable def b23 : Code := match Try.f23.body with | some c => c | none => .skip
theorem t23 : trCode ⟨Try.prog, K23, [], 9, none⟩ b23 = some c23 := by kernel_rfl
theorem go23 {args : List AV} {H : AHeap} {Kk : AV → AHeap → Prop} (hn : args.length = 2) (h : AGo ⟨Try.prog, K23, [], 9, none⟩ H.length [.code c23] (RetP [.t (.g 4)] H.length Kk) ⟨[], argsG 0 args⟩ H) : ACalls Try.prog 23 args H Kk :=
  ACalls_of Try.func23 (c := b23) rfl (by kernel_rfl) t23 (rs := [.t (.g 4)]) (by kernel_rfl) (by rw [hn]; exact Nat.le_of_ble_eq_true rfl) (by rw [hn]; rfl) (h.weaken (fun _ _ => RetP.hands) (by simp))

/-- (*sastrugi/sastrugikit.Seed).next -/
def c18 : ACode :=
  (.seq
(.reg [
  ⟨(some (true, 2)), .mv (.c (.lit (.int .u64 0))), none⟩])
(.seq
(.reg [
  ⟨(some (false, 4)), .mv (.g 0), none⟩,
  ⟨(some (false, 5)), .mv (.g 0), none⟩,
  ⟨(some (false, 6)), .nilc (.l 5), none⟩,
  ⟨(some (false, 7)), .fa (.l 6) 0, none⟩,
  ⟨(some (false, 8)), .ld none (.l 7), none⟩,
  ⟨(some (false, 9)), .bin .add (.l 8) (.c (.lit (.int .u64 11400714819323198485))), none⟩,
  ⟨(some (false, 10)), .nilc (.l 4), none⟩,
  ⟨(some (false, 11)), .fa (.l 10) 0, none⟩,
  ⟨none, .st 1 (.l 11) (.l 9), none⟩])
(.seq
(.reg [
  ⟨(some (false, 12)), .mv (.g 0), none⟩,
  ⟨(some (false, 13)), .nilc (.l 12), none⟩,
  ⟨(some (false, 14)), .fa (.l 13) 0, none⟩,
  ⟨(some (false, 15)), .ld none (.l 14), none⟩,
  ⟨(some (true, 3)), .mv (.l 15), none⟩])
(.seq
(.reg [
  ⟨(some (false, 16)), .mv (.g 3), none⟩,
  ⟨(some (false, 17)), .mv (.g 3), none⟩,
  ⟨(some (false, 18)), .bin .shr (.l 17) (.c (.lit (.int .u64 30))), none⟩,
  ⟨(some (false, 19)), .bin .xor (.l 16) (.l 18), none⟩,
  ⟨(some (false, 20)), .bin .mul (.l 19) (.c (.lit (.int .u64 13787848793156543929))), none⟩,
  ⟨(some (true, 3)), .mv (.l 20), none⟩])
(.seq
(.reg [
  ⟨(some (false, 21)), .mv (.g 3), none⟩,
  ⟨(some (false, 22)), .mv (.g 3), none⟩,
  ⟨(some (false, 23)), .bin .shr (.l 22) (.c (.lit (.int .u64 27))), none⟩,
  ⟨(some (false, 24)), .bin .xor (.l 21) (.l 23), none⟩,
  ⟨(some (false, 25)), .bin .mul (.l 24) (.c (.lit (.int .u64 10723151780598845931))), none⟩,
  ⟨(some (true, 3)), .mv (.l 25), none⟩])
(.seq
(.reg [
  ⟨(some (false, 26)), .mv (.g 3), none⟩,
  ⟨(some (false, 27)), .mv (.g 3), none⟩,
  ⟨(some (false, 28)), .bin .shr (.l 27) (.c (.lit (.int .u64 31))), none⟩,
  ⟨(some (false, 29)), .bin .xor (.l 26) (.l 28), none⟩,
  ⟨(some (true, 2)), .mv (.l 29), none⟩])
.ret))))))
def K18 : List Nat := [0, 2, 3]
noncomputable def b18 : Code := match Try.f18.body with | some c => c | none => .skip
theorem t18 : trCode ⟨Try.prog, K18, [], 30, none⟩ b18 = some c18 := by kernel_rfl
theorem go18 {args : List AV} {H : AHeap} {Kk : AV → AHeap → Prop} (hn : args.length = 1) (h : AGo ⟨Try.prog, K18, [], 30, none⟩ H.length [.code c18] (RetP [.t (.g 2)] H.length Kk) ⟨[], argsG 0 args⟩ H) : ACalls Try.prog 18 args H Kk :=
  ACalls_of Try.func18 (c := b18) rfl (by kernel_rfl) t18 (rs := [.t (.g 2)]) (by kernel_rfl) (by rw [hn]; exact Nat.le_of_ble_eq_true rfl) (by rw [hn]; rfl) (h.weaken (fun _ _ => RetP.hands) (by simp))

/-- sastrugi/sastrugikit.SurveyOf -/
def c5 : ACode :=
  (.seq
(.reg [
  ⟨(some (true, 4)), .new [.slice none 0 0, .int .i64 0, .int .i64 0, .int .i64 0], none⟩])
(.seq
(.reg [
  ⟨(some (false, 8)), .mv (.g 0), none⟩,
  ⟨(some (false, 9)), .call (.c (.fn 11 [])) [.l 8, .c (.lit (.int .i64 3))], none⟩,
  ⟨(some (false, 10)), .mv (.g 0), none⟩,
  ⟨(some (false, 11)), .call (.c (.fn 11 [])) [.l 10, .c (.lit (.int .i64 3))], none⟩,
  ⟨(some (false, 12)), .mv (.g 0), none⟩,
  ⟨(some (false, 13)), .call (.c (.fn 11 [])) [.l 12, .c (.lit (.int .i64 4))], none⟩,
  ⟨(some (false, 14)), .mk [.int .i64 0, .int .i64 0, .int .i64 0] [(0, 1, .l 9), (1, 1, .l 11), (2, 1, .l 13)], none⟩,
  ⟨(some (false, 15)), .mk [.slice none 0 0, .int .i64 0, .int .i64 0, .int .i64 0] [(1, 3, .l 14)], none⟩,
  ⟨(some (true, 5)), .new [.slice none 0 0, .int .i64 0, .int .i64 0, .int .i64 0], none⟩,
  ⟨none, .st 4 (.g 5) (.l 15), none⟩])
(.seq
(.seq
(.reg [
  ⟨(some (false, 16)), .mv (.g 0), none⟩,
  ⟨(some (false, 17)), .mv (.g 1), none⟩,
  ⟨(some (false, 18)), .call (.c (.fn 10 [])) [.l 16, .c (.lit (.int .i64 1)), .l 17], none⟩,
  ⟨(some (true, 6)), .mv (.l 18), none⟩])
(.block 0
(.loop
(.seq
(.seq
(.reg [
  ⟨(some (false, 19)), .mv (.g 6), none⟩,
  ⟨(some (true, 20)), .bin .gtr (.l 19) (.c (.lit (.int .i64 0))), none⟩])
(.cond (.g 20)
.skip
(.exit 0)))
(.block 1
(.seq
(.reg [
  ⟨(some (false, 21)), .mv (.g 0), none⟩,
  ⟨(some (false, 22)), .mv (.g 6), none⟩,
  ⟨(some (false, 23)), .call (.c (.fn 10 [])) [.l 21, .c (.lit (.int .i64 1)), .l 22], none⟩,
  ⟨(some (true, 7)), .mv (.l 23), none⟩])
(.seq
(.seq
(.reg [
  ⟨(some (false, 24)), .fa (.g 5) 0, none⟩,
  ⟨(some (false, 25)), .ld none (.l 24), none⟩,
  ⟨(some (false, 26)), .len (.l 25), none⟩,
  ⟨(some (true, 27)), .bin .eql (.l 26) (.c (.lit (.int .i64 4))), none⟩])
(.cond (.g 27)
(.reg [
  ⟨(some (false, 28)), .mv (.g 6), none⟩,
  ⟨(some (true, 7)), .mv (.l 28), none⟩])
.skip))
(.seq
(.draw [
  ⟨⟨(some (false, 29)), .fa (.g 5) 0, none⟩, 0, true, []⟩,
  ⟨⟨(some (false, 30)), .ld none (.l 29), none⟩, 1, true, []⟩,
  ⟨⟨(some (false, 31)), .mv (.g 7), none⟩, 2, true, []⟩,
  ⟨⟨(some (false, 32)), .mv (.g 0), none⟩, 3, true, []⟩,
  ⟨⟨(some (false, 33)), .mv (.g 0), none⟩, 4, true, []⟩,
  ⟨⟨(some (false, 35)), .mv (.g 0), none⟩, 6, true, []⟩,
  ⟨⟨(some (false, 39)), .mv (.g 0), none⟩, 10, true, []⟩,
  ⟨⟨(some (false, 40)), .mv (.g 0), none⟩, 11, true, []⟩,
  ⟨⟨(some (false, 44)), .mv (.g 0), none⟩, 15, true, []⟩,
  ⟨⟨(some (false, 45)), .mv (.g 0), none⟩, 16, true, []⟩,
  ⟨⟨(some (false, 49)), .mv (.g 0), none⟩, 20, true, []⟩,
  ⟨⟨(some (false, 34)), .call (.c (.fn 11 [])) [.l 33, .c (.lit (.int .i64 20))], none⟩, 5, false, []⟩,
  ⟨⟨(some (false, 36)), .call (.c (.fn 11 [])) [.l 35, .c (.lit (.int .i64 300))], none⟩, 7, false, []⟩,
  ⟨⟨(some (false, 37)), .mks false 1 [.c (.lit (.int .i64 0)), .l 34, .l 36], none⟩, 8, true, []⟩,
  ⟨⟨(some (false, 38)), .call (.c (.fn 19 [])) [.l 32, .l 37], none⟩, 9, false, []⟩,
  ⟨⟨(some (false, 41)), .call (.c (.fn 11 [])) [.l 40, .c (.lit (.int .i64 20))], none⟩, 12, false, []⟩,
  ⟨⟨(some (false, 42)), .mks false 1 [.c (.lit (.int .i64 0)), .c (.lit (.int .i64 1)), .l 41], none⟩, 13, true, []⟩,
  ⟨⟨(some (false, 43)), .call (.c (.fn 19 [])) [.l 39, .l 42], none⟩, 14, false, []⟩,
  ⟨⟨(some (false, 46)), .call (.c (.fn 11 [])) [.l 45, .c (.lit (.int .i64 10))], none⟩, 17, false, []⟩,
  ⟨⟨(some (false, 47)), .mks false 1 [.c (.lit (.int .i64 0)), .c (.lit (.int .i64 1)), .l 46], none⟩, 18, true, []⟩,
  ⟨⟨(some (false, 48)), .call (.c (.fn 19 [])) [.l 44, .l 47], none⟩, 19, false, []⟩,
  ⟨⟨(some (false, 50)), .call (.c (.fn 11 [])) [.l 49, .c (.lit (.int .i64 15))], none⟩, 21, false, []⟩,
  ⟨⟨(some (false, 51)), .mk [.int .i64 0, .int .i64 0, .int .i64 0, .int .i64 0, .int .i64 0] [(0, 1, .l 31), (1, 1, .l 38), (2, 1, .l 43), (3, 1, .l 48), (4, 1, .l 50)], none⟩, 22, true, []⟩,
  ⟨⟨(some (false, 52)), .mks false 5 [.l 51], none⟩, 23, true, []⟩,
  ⟨⟨(some (false, 53)), .app 5 40 (.l 30) (.l 52), none⟩, 24, false, []⟩,
  ⟨⟨(some (false, 54)), .fa (.g 5) 0, none⟩, 25, true, []⟩,
  ⟨⟨none, .st 1 (.l 54) (.l 53), none⟩, 26, true, []⟩])
(.reg [
  ⟨(some (false, 55)), .mv (.g 6), none⟩,
  ⟨(some (false, 56)), .mv (.g 7), none⟩,
  ⟨(some (false, 57)), .bin .sub (.l 55) (.l 56), none⟩,
  ⟨(some (true, 6)), .mv (.l 57), none⟩])))))))))
(.seq
(.reg [
  ⟨(some (false, 58)), .ld (some 4) (.g 5), none⟩,
  ⟨none, .st 4 (.g 4) (.l 58), none⟩])
.ret))))
def K5 : List Nat := [0, 1, 20, 27, 4, 5, 6, 7]
noncomputable def b5 : Code := match Try.f5.body with | some c => c | none => .skip
theorem t5 : trCode ⟨Try.prog, K5, [], 59, none⟩ b5 = some c5 := by kernel_rfl
theorem go5 {args : List AV} {H : AHeap} {Kk : AV → AHeap → Prop} (hn : args.length = 2) (h : AGo ⟨Try.prog, K5, [], 59, none⟩ H.length [.code c5] (RetP [.cell (.g 4) (some 4)] H.length Kk) ⟨[], argsG 0 args⟩ H) : ACalls Try.prog 5 args H Kk :=
  ACalls_of Try.func5 (c := b5) rfl (by kernel_rfl) t5 (rs := [.cell (.g 4) (some 4)]) (by kernel_rfl) (by rw [hn]; exact Nat.le_of_ble_eq_true rfl) (by rw [hn]; rfl) (h.weaken (fun _ _ => RetP.hands) (by simp))

/-- sastrugi/sastrugikit.CourseOf -/
def c6 : ACode :=
  (.seq
(.reg [
  ⟨(some (true, 5)), .box (.g 1), none⟩,
  ⟨(some (true, 8)), .mv (.c (.lit (.slice none 0 0))), none⟩])
(.seq
(.reg [
  ⟨(some (false, 18)), .ld (some 4) (.g 5), none⟩,
  ⟨(some (false, 19)), .call (.c (.fn 20 [])) [.l 18], none⟩,
  ⟨(some (true, 9)), .mv (.l 19), none⟩])
(.seq
(.reg [
  ⟨(some (true, 10)), .mv (.c (.lit (.slice none 0 0))), none⟩])
(.seq
(.seq
(.reg [
  ⟨(some (false, 20)), .mv (.g 0), none⟩,
  ⟨(some (false, 21)), .call (.c (.fn 10 [])) [.l 20, .c (.lit (.int .i64 1)), .c (.lit (.int .i64 4))], none⟩,
  ⟨(some (true, 11)), .mv (.l 21), none⟩])
(.block 0
(.loop
(.seq
(.seq
(.reg [
  ⟨(some (false, 22)), .mv (.g 11), none⟩,
  ⟨(some (true, 23)), .bin .gtr (.l 22) (.c (.lit (.int .i64 0))), none⟩])
(.cond (.g 23)
.skip
(.exit 0)))
(.seq
(.block 1
(.reg [
  ⟨(some (false, 26)), .mv (.g 10), none⟩,
  ⟨(some (false, 27)), .mv (.g 0), none⟩,
  ⟨(some (false, 28)), .mv (.g 9), none⟩,
  ⟨(some (false, 29)), .call (.c (.fn 11 [])) [.l 27, .l 28], none⟩,
  ⟨(some (false, 30)), .mv (.g 2), none⟩,
  ⟨(some (false, 31)), .mv (.g 0), none⟩,
  ⟨(some (false, 32)), .mv (.g 3), none⟩,
  ⟨(some (false, 33)), .call (.c (.fn 11 [])) [.l 31, .l 32], none⟩,
  ⟨(some (false, 34)), .bin .add (.l 30) (.l 33), none⟩,
  ⟨(some (false, 35)), .mv (.g 0), none⟩,
  ⟨(some (false, 36)), .mv (.g 0), none⟩,
  ⟨(some (false, 37)), .call (.c (.fn 11 [])) [.l 36, .c (.lit (.int .i64 2000))], none⟩,
  ⟨(some (false, 38)), .mks false 1 [.c (.lit (.int .i64 0)), .l 37, .c (.lit (.int .i64 3000))], none⟩,
  ⟨(some (false, 39)), .call (.c (.fn 19 [])) [.l 35, .l 38], none⟩,
  ⟨(some (false, 40)), .mk [.int .i64 0, .int .i64 0] [(0, 1, .l 39)], none⟩,
  ⟨(some (false, 41)), .mk [.int .i64 0, .int .i64 0, .int .i64 0, .int .i64 0, .int .i64 0] [(1, 1, .l 29), (2, 1, .l 34), (3, 2, .l 40)], none⟩,
  ⟨(some (false, 42)), .mks false 5 [.l 41], none⟩,
  ⟨(some (false, 43)), .app 5 40 (.l 26) (.l 42), none⟩,
  ⟨(some (true, 10)), .mv (.l 43), none⟩]))
(.reg [
  ⟨(some (false, 24)), .mv (.g 11), none⟩,
  ⟨(some (false, 25)), .bin .sub (.l 24) (.c (.lit (.int .i64 1))), none⟩,
  ⟨(some (true, 11)), .mv (.l 25), none⟩]))))))
(.seq
(.reg [
  ⟨(some (true, 12)), .mv (.c (.lit (.slice none 0 0))), none⟩])
(.seq
(.seq
(.reg [
  ⟨(some (false, 44)), .mv (.g 2), none⟩,
  ⟨(some (true, 13)), .mv (.l 44), none⟩])
(.block 2
(.loop
(.seq
(.seq
(.reg [
  ⟨(some (false, 45)), .mv (.g 13), none⟩,
  ⟨(some (false, 46)), .mv (.g 2), none⟩,
  ⟨(some (false, 47)), .mv (.g 3), none⟩,
  ⟨(some (false, 48)), .bin .add (.l 46) (.l 47), none⟩,
  ⟨(some (true, 49)), .bin .lss (.l 45) (.l 48), none⟩])
(.cond (.g 49)
.skip
(.exit 2)))
(.seq
(.block 3
(.seq
(.reg [
  ⟨(some (true, 14)), .mv (.c (.lit (.slice none 0 0))), none⟩])
(.seq
(.seq
(.reg [
  ⟨(some (true, 15)), .mv (.c (.lit (.int .i64 0))), none⟩])
(.block 4
(.loop
(.seq
(.seq
(.reg [
  ⟨(some (false, 52)), .mv (.g 15), none⟩,
  ⟨(some (false, 53)), .mv (.g 9), none⟩,
  ⟨(some (true, 54)), .bin .lss (.l 52) (.l 53), none⟩])
(.cond (.g 54)
.skip
(.exit 4)))
(.seq
(.block 5
(.seq
(.reg [
  ⟨(some (true, 16)), .mv (.c (.lit (.int .i64 3000))), none⟩])
(.seq
(.seq
(.reg [
  ⟨(some (true, 17)), .mv (.c (.lit (.int .i64 0))), none⟩])
(.block 6
(.loop
(.seq
(.seq
(.reg [
  ⟨(some (false, 57)), .mv (.g 17), none⟩,
  ⟨(some (false, 58)), .mv (.g 10), none⟩,
  ⟨(some (false, 59)), .len (.l 58), none⟩,
  ⟨(some (true, 60)), .bin .lss (.l 57) (.l 59), none⟩])
(.cond (.g 60)
.skip
(.exit 6)))
(.seq
(.block 7
(.draw [
  ⟨⟨(some (false, 63)), .mv (.g 16), none⟩, 0, true, []⟩,
  ⟨⟨(some (false, 64)), .mv (.g 10), none⟩, 1, true, []⟩,
  ⟨⟨(some (false, 65)), .mv (.g 17), none⟩, 2, true, []⟩,
  ⟨⟨(some (false, 66)), .ia 5 (.l 64) (.l 65), none⟩, 3, true, []⟩,
  ⟨⟨(some (false, 67)), .fa (.l 66) 3, none⟩, 4, true, []⟩,
  ⟨⟨(some (false, 68)), .fa (.l 67) 0, none⟩, 5, true, []⟩,
  ⟨⟨(some (false, 69)), .ld none (.l 68), none⟩, 6, true, []⟩,
  ⟨⟨(some (false, 70)), .ld (some 4) (.g 5), none⟩, 7, true, []⟩,
  ⟨⟨(some (false, 71)), .mv (.g 15), none⟩, 8, true, []⟩,
  ⟨⟨(some (false, 72)), .mv (.g 13), none⟩, 9, true, []⟩,
  ⟨⟨(some (false, 73)), .mv (.g 10), none⟩, 10, true, []⟩,
  ⟨⟨(some (false, 74)), .mv (.g 17), none⟩, 11, true, []⟩,
  ⟨⟨(some (false, 75)), .ia 5 (.l 73) (.l 74), none⟩, 12, true, []⟩,
  ⟨⟨(some (false, 76)), .fa (.l 75) 1, none⟩, 13, true, []⟩,
  ⟨⟨(some (false, 77)), .ld none (.l 76), none⟩, 14, true, []⟩,
  ⟨⟨(some (false, 78)), .mv (.g 10), none⟩, 15, true, []⟩,
  ⟨⟨(some (false, 79)), .mv (.g 17), none⟩, 16, true, []⟩,
  ⟨⟨(some (false, 80)), .ia 5 (.l 78) (.l 79), none⟩, 17, true, []⟩,
  ⟨⟨(some (false, 81)), .fa (.l 80) 2, none⟩, 18, true, []⟩,
  ⟨⟨(some (false, 82)), .ld none (.l 81), none⟩, 19, true, []⟩,
  ⟨⟨(some (false, 83)), .call (.c (.fn 21 [])) [.l 70, .l 71, .l 72, .l 77, .l 82], none⟩, 20, false, []⟩,
  ⟨⟨(some (false, 84)), .bin .add (.l 69) (.l 83), none⟩, 21, true, []⟩,
  ⟨⟨(some (false, 85)), .mn [.l 63, .l 84], none⟩, 22, true, []⟩,
  ⟨⟨(some (true, 16)), .mv (.l 85), none⟩, 23, true, []⟩]))
(.reg [
  ⟨(some (false, 61)), .mv (.g 17), none⟩,
  ⟨(some (false, 62)), .bin .add (.l 61) (.c (.lit (.int .i64 1))), none⟩,
  ⟨(some (true, 17)), .mv (.l 62), none⟩]))))))
(.reg [
  ⟨(some (false, 86)), .mv (.g 14), none⟩,
  ⟨(some (false, 87)), .mv (.g 16), none⟩,
  ⟨(some (false, 88)), .mks false 1 [.l 87], none⟩,
  ⟨(some (false, 89)), .app 1 8 (.l 86) (.l 88), none⟩,
  ⟨(some (true, 14)), .mv (.l 89), none⟩]))))
(.reg [
  ⟨(some (false, 55)), .mv (.g 15), none⟩,
  ⟨(some (false, 56)), .bin .add (.l 55) (.c (.lit (.int .i64 1))), none⟩,
  ⟨(some (true, 15)), .mv (.l 56), none⟩]))))))
(.reg [
  ⟨(some (false, 90)), .mv (.g 12), none⟩,
  ⟨(some (false, 91)), .mv (.g 14), none⟩,
  ⟨(some (false, 92)), .mks false 1 [.l 91], none⟩,
  ⟨(some (false, 93)), .app 1 24 (.l 90) (.l 92), none⟩,
  ⟨(some (true, 12)), .mv (.l 93), none⟩]))))
(.reg [
  ⟨(some (false, 50)), .mv (.g 13), none⟩,
  ⟨(some (false, 51)), .bin .add (.l 50) (.c (.lit (.int .i64 1))), none⟩,
  ⟨(some (true, 13)), .mv (.l 51), none⟩]))))))
(.seq
(.reg [
  ⟨(some (false, 94)), .mv (.g 12), none⟩,
  ⟨(some (true, 8)), .mv (.l 94), none⟩])
.ret)))))))
def K6 : List Nat := [0, 1, 2, 3, 23, 49, 54, 60, 8, 5, 9, 10, 11, 12, 13, 14, 15, 16, 17]
noncomputable def b6 : Code := match Try.f6.body with | some c => c | none => .skip
theorem t6 : trCode ⟨Try.prog, K6, [], 95, none⟩ b6 = some c6 := by kernel_rfl
theorem go6 {args : List AV} {H : AHeap} {Kk : AV → AHeap → Prop} (hn : args.length = 4) (h : AGo ⟨Try.prog, K6, [], 95, none⟩ H.length [.code c6] (RetP [.t (.g 8)] H.length Kk) ⟨[], argsG 0 args⟩ H) : ACalls Try.prog 6 args H Kk :=
  ACalls_of Try.func6 (c := b6) rfl (by kernel_rfl) t6 (rs := [.t (.g 8)]) (by kernel_rfl) (by rw [hn]; exact Nat.le_of_ble_eq_true rfl) (by rw [hn]; rfl) (h.weaken (fun _ _ => RetP.hands) (by simp))

/-- sastrugi/sastrugikit.MarksOf -/
def c8 : ACode :=
  (.seq
(.reg [
  ⟨(some (true, 5)), .box (.g 1), none⟩,
  ⟨(some (true, 8)), .mv (.c (.lit (.slice none 0 0))), none⟩])
(.seq
(.reg [
  ⟨(some (false, 13)), .ld (some 4) (.g 5), none⟩,
  ⟨(some (false, 14)), .call (.c (.fn 20 [])) [.l 13], none⟩,
  ⟨(some (true, 9)), .mv (.l 14), none⟩])
(.seq
(.reg [
  ⟨(some (true, 10)), .mv (.c (.lit (.slice none 0 0))), none⟩])
(.seq
(.seq
(.reg [
  ⟨(some (false, 15)), .mv (.g 0), none⟩,
  ⟨(some (false, 16)), .mv (.g 2), none⟩,
  ⟨(some (false, 17)), .bin .add (.l 16) (.c (.lit (.int .i64 1))), none⟩,
  ⟨(some (false, 18)), .call (.c (.fn 11 [])) [.l 15, .l 17], none⟩,
  ⟨(some (true, 11)), .mv (.l 18), none⟩])
(.block 0
(.loop
(.seq
(.seq
(.reg [
  ⟨(some (false, 19)), .mv (.g 11), none⟩,
  ⟨(some (true, 20)), .bin .gtr (.l 19) (.c (.lit (.int .i64 0))), none⟩])
(.cond (.g 20)
.skip
(.exit 0)))
(.seq
(.block 1
(.seq
(.reg [
  ⟨(some (false, 23)), .mv (.g 0), none⟩,
  ⟨(some (false, 24)), .call (.c (.fn 10 [])) [.l 23, .c (.lit (.int .i64 1)), .c (.lit (.int .i64 4))], none⟩,
  ⟨(some (false, 25)), .mv (.g 0), none⟩,
  ⟨(some (false, 26)), .mv (.g 9), none⟩,
  ⟨(some (false, 27)), .call (.c (.fn 11 [])) [.l 25, .l 26], none⟩,
  ⟨(some (false, 28)), .mv (.g 0), none⟩,
  ⟨(some (false, 29)), .mv (.g 3), none⟩,
  ⟨(some (false, 30)), .call (.c (.fn 11 [])) [.l 28, .l 29], none⟩,
  ⟨(some (false, 31)), .mv (.g 0), none⟩,
  ⟨(some (false, 32)), .mv (.g 0), none⟩,
  ⟨(some (false, 33)), .call (.c (.fn 11 [])) [.l 32, .c (.lit (.int .i64 4))], none⟩,
  ⟨(some (false, 34)), .mks false 1 [.c (.lit (.int .i64 0)), .c (.lit (.int .i64 0)), .c (.lit (.int .i64 1)), .l 33], none⟩,
  ⟨(some (false, 35)), .call (.c (.fn 19 [])) [.l 31, .l 34], none⟩,
  ⟨(some (false, 36)), .mk [.int .i64 0, .int .i64 0, .int .i64 0, .int .i64 0, .int .i64 0] [(0, 1, .l 24), (1, 1, .l 27), (3, 1, .l 30), (4, 1, .l 35)], none⟩,
  ⟨(some (true, 12)), .new [.int .i64 0, .int .i64 0, .int .i64 0, .int .i64 0, .int .i64 0], none⟩,
  ⟨none, .st 5 (.g 12) (.l 36), none⟩])
(.seq
(.draw [
  ⟨⟨(some (false, 37)), .mv (.g 9), none⟩, 0, true, []⟩,
  ⟨⟨(some (false, 38)), .bin .sub (.l 37) (.c (.lit (.int .i64 1))), none⟩, 1, true, []⟩,
  ⟨⟨(some (false, 39)), .fa (.g 12) 1, none⟩, 2, true, []⟩,
  ⟨⟨(some (false, 40)), .ld none (.l 39), none⟩, 3, true, []⟩,
  ⟨⟨(some (false, 41)), .mv (.g 0), none⟩, 4, true, []⟩,
  ⟨⟨(some (false, 42)), .mv (.g 0), none⟩, 5, true, []⟩,
  ⟨⟨(some (false, 44)), .mv (.g 0), none⟩, 7, true, []⟩,
  ⟨⟨(some (false, 45)), .mv (.g 9), none⟩, 8, true, []⟩,
  ⟨⟨(some (false, 43)), .call (.c (.fn 11 [])) [.l 42, .c (.lit (.int .i64 4))], none⟩, 6, false, []⟩,
  ⟨⟨(some (false, 46)), .call (.c (.fn 11 [])) [.l 44, .l 45], none⟩, 9, false, []⟩,
  ⟨⟨(some (false, 47)), .mks false 1 [.c (.lit (.int .i64 0)), .l 43, .l 46], none⟩, 10, true, []⟩,
  ⟨⟨(some (false, 48)), .call (.c (.fn 19 [])) [.l 41, .l 47], none⟩, 11, false, []⟩,
  ⟨⟨(some (false, 49)), .bin .add (.l 40) (.l 48), none⟩, 12, true, []⟩,
  ⟨⟨(some (false, 50)), .mn [.l 38, .l 49], none⟩, 13, true, []⟩,
  ⟨⟨(some (false, 51)), .fa (.g 12) 2, none⟩, 14, true, []⟩,
  ⟨⟨none, .st 1 (.l 51) (.l 50), none⟩, 15, true, []⟩])
(.reg [
  ⟨(some (false, 52)), .mv (.g 10), none⟩,
  ⟨(some (false, 53)), .ld (some 5) (.g 12), none⟩,
  ⟨(some (false, 54)), .mks false 5 [.l 53], none⟩,
  ⟨(some (false, 55)), .app 5 40 (.l 52) (.l 54), none⟩,
  ⟨(some (true, 10)), .mv (.l 55), none⟩]))))
(.reg [
  ⟨(some (false, 21)), .mv (.g 11), none⟩,
  ⟨(some (false, 22)), .bin .sub (.l 21) (.c (.lit (.int .i64 1))), none⟩,
  ⟨(some (true, 11)), .mv (.l 22), none⟩]))))))
(.seq
(.reg [
  ⟨(some (false, 56)), .mv (.g 10), none⟩,
  ⟨(some (true, 8)), .mv (.l 56), none⟩])
.ret)))))
def K8 : List Nat := [0, 1, 2, 3, 20, 8, 5, 9, 10, 11, 12]
noncomputable def b8 : Code := match Try.f8.body with | some c => c | none => .skip
theorem t8 : trCode ⟨Try.prog, K8, [], 57, none⟩ b8 = some c8 := by kernel_rfl
theorem go8 {args : List AV} {H : AHeap} {Kk : AV → AHeap → Prop} (hn : args.length = 4) (h : AGo ⟨Try.prog, K8, [], 57, none⟩ H.length [.code c8] (RetP [.t (.g 8)] H.length Kk) ⟨[], argsG 0 args⟩ H) : ACalls Try.prog 8 args H Kk :=
  ACalls_of Try.func8 (c := b8) rfl (by kernel_rfl) t8 (rs := [.t (.g 8)]) (by kernel_rfl) (by rw [hn]; exact Nat.le_of_ble_eq_true rfl) (by rw [hn]; rfl) (h.weaken (fun _ _ => RetP.hands) (by simp))

/-- sastrugi/sastrugikit.LooksOf -/
def c7 : ACode :=
  (.seq
(.reg [
  ⟨(some (true, 8)), .mv (.c (.lit (.slice none 0 0))), none⟩])
(.seq
(.reg [
  ⟨(some (true, 9)), .mv (.c (.lit (.slice none 0 0))), none⟩])
(.seq
(.seq
(.reg [
  ⟨(some (false, 15)), .mv (.g 0), none⟩,
  ⟨(some (false, 16)), .mv (.g 3), none⟩,
  ⟨(some (false, 17)), .bin .add (.l 16) (.c (.lit (.int .i64 1))), none⟩,
  ⟨(some (false, 18)), .call (.c (.fn 11 [])) [.l 15, .l 17], none⟩,
  ⟨(some (true, 10)), .mv (.l 18), none⟩])
(.block 0
(.loop
(.seq
(.seq
(.reg [
  ⟨(some (false, 19)), .mv (.g 10), none⟩,
  ⟨(some (true, 20)), .bin .gtr (.l 19) (.c (.lit (.int .i64 0))), none⟩])
(.cond (.g 20)
.skip
(.exit 0)))
(.seq
(.block 1
(.seq
(.reg [
  ⟨(some (false, 23)), .mv (.g 0), none⟩,
  ⟨(some (false, 24)), .mv (.g 2), none⟩,
  ⟨(some (false, 25)), .len (.l 24), none⟩,
  ⟨(some (false, 26)), .call (.c (.fn 11 [])) [.l 23, .l 25], none⟩,
  ⟨(some (true, 11)), .mv (.l 26), none⟩])
(.seq
(.reg [
  ⟨(some (false, 27)), .mv (.g 0), none⟩,
  ⟨(some (false, 28)), .mv (.g 2), none⟩,
  ⟨(some (false, 29)), .mv (.g 11), none⟩,
  ⟨(some (false, 30)), .ia 1 (.l 28) (.l 29), none⟩,
  ⟨(some (false, 31)), .ld none (.l 30), none⟩,
  ⟨(some (false, 32)), .len (.l 31), none⟩,
  ⟨(some (false, 33)), .call (.c (.fn 11 [])) [.l 27, .l 32], none⟩,
  ⟨(some (true, 12)), .mv (.l 33), none⟩])
(.seq
(.reg [
  ⟨(some (false, 34)), .mv (.g 2), none⟩,
  ⟨(some (false, 35)), .mv (.g 11), none⟩,
  ⟨(some (false, 36)), .ia 1 (.l 34) (.l 35), none⟩,
  ⟨(some (false, 37)), .ld none (.l 36), none⟩,
  ⟨(some (false, 38)), .mv (.g 12), none⟩,
  ⟨(some (false, 39)), .ia 1 (.l 37) (.l 38), none⟩,
  ⟨(some (false, 40)), .ld none (.l 39), none⟩,
  ⟨(some (true, 13)), .mv (.l 40), none⟩])
(.seq
(.reg [
  ⟨(some (false, 41)), .mv (.g 13), none⟩,
  ⟨(some (false, 42)), .mv (.g 0), none⟩,
  ⟨(some (false, 43)), .mv (.g 0), none⟩,
  ⟨(some (false, 44)), .call (.c (.fn 11 [])) [.l 43, .c (.lit (.int .i64 9))], none⟩,
  ⟨(some (false, 45)), .mv (.g 0), none⟩,
  ⟨(some (false, 46)), .call (.c (.fn 11 [])) [.l 45, .c (.lit (.int .i64 200))], none⟩,
  ⟨(some (false, 47)), .mks false 1 [.c (.lit (.int .i64 0)), .l 44, .l 46], none⟩,
  ⟨(some (false, 48)), .call (.c (.fn 19 [])) [.l 42, .l 47], none⟩,
  ⟨(some (false, 49)), .bin .sub (.l 41) (.l 48), none⟩,
  ⟨(some (false, 50)), .mx [.c (.lit (.int .i64 0)), .l 49], none⟩,
  ⟨(some (false, 51)), .mv (.g 13), none⟩,
  ⟨(some (false, 52)), .mv (.g 0), none⟩,
  ⟨(some (false, 53)), .mv (.g 0), none⟩,
  ⟨(some (false, 54)), .call (.c (.fn 11 [])) [.l 53, .c (.lit (.int .i64 9))], none⟩,
  ⟨(some (false, 55)), .mv (.g 0), none⟩,
  ⟨(some (false, 56)), .call (.c (.fn 11 [])) [.l 55, .c (.lit (.int .i64 200))], none⟩,
  ⟨(some (false, 57)), .mks false 1 [.c (.lit (.int .i64 0)), .l 54, .l 56], none⟩,
  ⟨(some (false, 58)), .call (.c (.fn 19 [])) [.l 52, .l 57], none⟩,
  ⟨(some (false, 59)), .bin .add (.l 51) (.l 58), none⟩,
  ⟨(some (false, 60)), .mn [.c (.lit (.int .i64 3000)), .l 59], none⟩,
  ⟨(some (false, 61)), .mk [.int .i64 0, .int .i64 0] [(0, 1, .l 50), (1, 1, .l 60)], none⟩,
  ⟨(some (true, 14)), .new [.int .i64 0, .int .i64 0], none⟩,
  ⟨none, .st 2 (.g 14) (.l 61), none⟩])
(.draw [
  ⟨⟨(some (false, 62)), .mv (.g 9), none⟩, 0, true, []⟩,
  ⟨⟨(some (false, 63)), .mv (.g 0), none⟩, 1, true, []⟩,
  ⟨⟨(some (false, 65)), .mv (.g 12), none⟩, 3, true, []⟩,
  ⟨⟨(some (false, 66)), .mv (.g 1), none⟩, 4, true, []⟩,
  ⟨⟨(some (false, 67)), .mv (.g 11), none⟩, 5, true, []⟩,
  ⟨⟨(some (false, 68)), .bin .add (.l 66) (.l 67), none⟩, 6, true, []⟩,
  ⟨⟨(some (false, 69)), .ld (some 2) (.g 14), none⟩, 7, true, []⟩,
  ⟨⟨(some (false, 64)), .call (.c (.fn 10 [])) [.l 63, .c (.lit (.int .i64 1)), .c (.lit (.int .i64 3))], none⟩, 2, false, []⟩,
  ⟨⟨(some (false, 70)), .mk [.int .i64 0, .int .i64 0, .int .i64 0, .int .i64 0, .int .i64 0] [(0, 1, .l 64), (1, 1, .l 65), (2, 1, .l 68), (3, 2, .l 69)], none⟩, 8, true, []⟩,
  ⟨⟨(some (false, 71)), .mks false 5 [.l 70], none⟩, 9, true, []⟩,
  ⟨⟨(some (false, 72)), .app 5 40 (.l 62) (.l 71), none⟩, 10, false, []⟩,
  ⟨⟨(some (true, 9)), .mv (.l 72), none⟩, 11, true, []⟩]))))))
(.reg [
  ⟨(some (false, 21)), .mv (.g 10), none⟩,
  ⟨(some (false, 22)), .bin .sub (.l 21) (.c (.lit (.int .i64 1))), none⟩,
  ⟨(some (true, 10)), .mv (.l 22), none⟩]))))))
(.seq
(.reg [
  ⟨(some (false, 73)), .mv (.g 9), none⟩,
  ⟨(some (true, 8)), .mv (.l 73), none⟩])
.ret))))
def K7 : List Nat := [0, 1, 2, 3, 20, 8, 9, 10, 11, 12, 13, 14]
noncomputable def b7 : Code := match Try.f7.body with | some c => c | none => .skip
theorem t7 : trCode ⟨Try.prog, K7, [], 74, none⟩ b7 = some c7 := by kernel_rfl
theorem go7 {args : List AV} {H : AHeap} {Kk : AV → AHeap → Prop} (hn : args.length = 4) (h : AGo ⟨Try.prog, K7, [], 74, none⟩ H.length [.code c7] (RetP [.t (.g 8)] H.length Kk) ⟨[], argsG 0 args⟩ H) : ACalls Try.prog 7 args H Kk :=
  ACalls_of Try.func7 (c := b7) rfl (by kernel_rfl) t7 (rs := [.t (.g 8)]) (by kernel_rfl) (by rw [hn]; exact Nat.le_of_ble_eq_true rfl) (by rw [hn]; rfl) (h.weaken (fun _ _ => RetP.hands) (by simp))

/-- sastrugi/sastrugikit.Same -/
def c33 : ACode :=
  (.seq
(.reg [
  ⟨(some (true, 4)), .mv (.c (.lit (.bool false))), none⟩])
(.seq
(.seq
(.reg [
  ⟨(some (false, 6)), .mv (.g 0), none⟩,
  ⟨(some (false, 7)), .len (.l 6), none⟩,
  ⟨(some (false, 8)), .mv (.g 1), none⟩,
  ⟨(some (false, 9)), .len (.l 8), none⟩,
  ⟨(some (true, 10)), .bin .neq (.l 7) (.l 9), none⟩])
(.cond (.g 10)
(.seq
(.reg [
  ⟨(some (true, 4)), .mv (.c (.lit (.bool false))), none⟩])
.ret)
.skip))
(.seq
(.seq
(.reg [
  ⟨(some (true, 5)), .mv (.c (.lit (.int .i64 0))), none⟩])
(.block 0
(.loop
(.seq
(.seq
(.reg [
  ⟨(some (false, 11)), .mv (.g 5), none⟩,
  ⟨(some (false, 12)), .mv (.g 0), none⟩,
  ⟨(some (false, 13)), .len (.l 12), none⟩,
  ⟨(some (true, 14)), .bin .lss (.l 11) (.l 13), none⟩])
(.cond (.g 14)
.skip
(.exit 0)))
(.seq
(.block 1
(.seq
(.draw [
  ⟨⟨(some (false, 17)), .mv (.g 0), none⟩, 0, true, []⟩,
  ⟨⟨(some (false, 18)), .mv (.g 5), none⟩, 1, true, []⟩,
  ⟨⟨(some (false, 19)), .ia 1 (.l 17) (.l 18), none⟩, 2, true, []⟩,
  ⟨⟨(some (false, 20)), .ld none (.l 19), none⟩, 3, true, []⟩,
  ⟨⟨(some (false, 21)), .mv (.g 1), none⟩, 4, true, []⟩,
  ⟨⟨(some (false, 22)), .mv (.g 5), none⟩, 5, true, []⟩,
  ⟨⟨(some (false, 23)), .ia 1 (.l 21) (.l 22), none⟩, 6, true, []⟩,
  ⟨⟨(some (false, 24)), .ld none (.l 23), none⟩, 7, true, []⟩,
  ⟨⟨(some (true, 25)), .bin .neq (.l 20) (.l 24), none⟩, 8, true, []⟩])
(.cond (.g 25)
(.seq
(.reg [
  ⟨(some (true, 4)), .mv (.c (.lit (.bool false))), none⟩])
.ret)
.skip)))
(.reg [
  ⟨(some (false, 15)), .mv (.g 5), none⟩,
  ⟨(some (false, 16)), .bin .add (.l 15) (.c (.lit (.int .i64 1))), none⟩,
  ⟨(some (true, 5)), .mv (.l 16), none⟩]))))))
(.seq
(.reg [
  ⟨(some (true, 4)), .mv (.c (.lit (.bool true))), none⟩])
.ret))))
def K33 : List Nat := [0, 1, 10, 14, 25, 4, 5]
noncomputable def b33 : Code := match Try.f33.body with | some c => c | none => .skip
theorem t33 : trCode ⟨Try.prog, K33, [], 26, none⟩ b33 = some c33 := by kernel_rfl
theorem go33 {args : List AV} {H : AHeap} {Kk : AV → AHeap → Prop} (hn : args.length = 2) (h : AGo ⟨Try.prog, K33, [], 26, none⟩ H.length [.code c33] (RetP [.t (.g 4)] H.length Kk) ⟨[], argsG 0 args⟩ H) : ACalls Try.prog 33 args H Kk :=
  ACalls_of Try.func33 (c := b33) rfl (by kernel_rfl) t33 (rs := [.t (.g 4)]) (by kernel_rfl) (by rw [hn]; exact Nat.le_of_ble_eq_true rfl) (by rw [hn]; rfl) (h.weaken (fun _ _ => RetP.hands) (by simp))

/-- sastrugi/sastrugiref02.Places -/
def c20 : ACode :=
  (.seq
(.reg [
  ⟨(some (true, 1)), .box (.g 0), none⟩,
  ⟨(some (true, 2)), .mv (.c (.lit (.int .i64 0))), none⟩])
(.seq
(.reg [
  ⟨(some (true, 3)), .mv (.c (.lit (.int .i64 0))), none⟩])
(.seq
(.seq
(.reg [
  ⟨(some (true, 4)), .mv (.c (.lit (.int .i64 0))), none⟩])
(.block 0
(.loop
(.seq
(.seq
(.reg [
  ⟨(some (false, 5)), .mv (.g 4), none⟩,
  ⟨(some (false, 6)), .fa (.g 1) 0, none⟩,
  ⟨(some (false, 7)), .ld none (.l 6), none⟩,
  ⟨(some (false, 8)), .len (.l 7), none⟩,
  ⟨(some (true, 9)), .bin .lss (.l 5) (.l 8), none⟩])
(.cond (.g 9)
.skip
(.exit 0)))
(.seq
(.block 1
(.reg [
  ⟨(some (false, 12)), .mv (.g 3), none⟩,
  ⟨(some (false, 13)), .fa (.g 1) 0, none⟩,
  ⟨(some (false, 14)), .ld none (.l 13), none⟩,
  ⟨(some (false, 15)), .mv (.g 4), none⟩,
  ⟨(some (false, 16)), .ia 5 (.l 14) (.l 15), none⟩,
  ⟨(some (false, 17)), .fa (.l 16) 0, none⟩,
  ⟨(some (false, 18)), .ld none (.l 17), none⟩,
  ⟨(some (false, 19)), .bin .add (.l 12) (.l 18), none⟩,
  ⟨(some (true, 3)), .mv (.l 19), none⟩]))
(.reg [
  ⟨(some (false, 10)), .mv (.g 4), none⟩,
  ⟨(some (false, 11)), .bin .add (.l 10) (.c (.lit (.int .i64 1))), none⟩,
  ⟨(some (true, 4)), .mv (.l 11), none⟩]))))))
(.seq
(.reg [
  ⟨(some (false, 20)), .mv (.g 3), none⟩,
  ⟨(some (true, 2)), .mv (.l 20), none⟩])
.ret))))
def K20 : List Nat := [0, 9, 2, 1, 3, 4]
noncomputable def b20 : Code := match Try.f20.body with | some c => c | none => .skip
theorem t20 : trCode ⟨Try.prog, K20, [], 21, none⟩ b20 = some c20 := by kernel_rfl
theorem go20 {args : List AV} {H : AHeap} {Kk : AV → AHeap → Prop} (hn : args.length = 1) (h : AGo ⟨Try.prog, K20, [], 21, none⟩ H.length [.code c20] (RetP [.t (.g 2)] H.length Kk) ⟨[], argsG 0 args⟩ H) : ACalls Try.prog 20 args H Kk :=
  ACalls_of Try.func20 (c := b20) rfl (by kernel_rfl) t20 (rs := [.t (.g 2)]) (by kernel_rfl) (by rw [hn]; exact Nat.le_of_ble_eq_true rfl) (by rw [hn]; rfl) (h.weaken (fun _ _ => RetP.hands) (by simp))

end Go.Sas
namespace Go.Sas
open Go.Proofs
set_option maxRecDepth 100000
/-- sastrugi/sastrugiref02.Rise -/
def c21 : ACode :=
  (.seq
(.reg [
  ⟨(some (true, 5)), .box (.g 0), none⟩,
  ⟨(some (true, 10)), .mv (.c (.lit (.int .i64 0))), none⟩])
(.seq
(.reg [
  ⟨(some (false, 11)), .ld (some 4) (.g 5), none⟩,
  ⟨(some (false, 12)), .mv (.g 1), none⟩,
  ⟨(some (false, 13)), .mv (.g 2), none⟩,
  ⟨(some (false, 14)), .mv (.g 3), none⟩,
  ⟨(some (false, 15)), .mv (.g 4), none⟩,
  ⟨(some (false, 16)), .call (.c (.fn 34 [])) [.l 11, .l 12, .l 13, .l 14, .l 15], none⟩,
  ⟨(some (true, 10)), .mv (.l 16), none⟩])
.ret))
def K21 : List Nat := [0, 1, 2, 3, 4, 10, 5]
noncomputable def b21 : Code := match Try.f21.body with | some c => c | none => .skip
theorem t21 : trCode ⟨Try.prog, K21, [], 17, none⟩ b21 = some c21 := by kernel_rfl
theorem go21 {args : List AV} {H : AHeap} {Kk : AV → AHeap → Prop} (hn : args.length = 5) (h : AGo ⟨Try.prog, K21, [], 17, none⟩ H.length [.code c21] (RetP [.t (.g 10)] H.length Kk) ⟨[], argsG 0 args⟩ H) : ACalls Try.prog 21 args H Kk :=
  ACalls_of Try.func21 (c := b21) rfl (by kernel_rfl) t21 (rs := [.t (.g 10)]) (by kernel_rfl) (by rw [hn]; exact Nat.le_of_ble_eq_true rfl) (by rw [hn]; rfl) (h.weaken (fun _ _ => RetP.hands) (by simp))

/-- sastrugi/sastrugiref02.rise -/
def c34 : ACode :=
  (.seq
(.reg [
  ⟨(some (true, 5)), .box (.g 0), none⟩,
  ⟨(some (true, 10)), .mv (.c (.lit (.int .i64 0))), none⟩])
(.seq
(.reg [
  ⟨(some (true, 11)), .mv (.c (.lit (.int .i64 (-1)))), none⟩])
(.seq
(.reg [
  ⟨(some (false, 17)), .ld (some 4) (.g 5), none⟩,
  ⟨(some (false, 18)), .call (.c (.fn 20 [])) [.l 17], none⟩,
  ⟨(some (true, 12)), .mv (.l 18), none⟩])
(.seq
(.seq
(.reg [
  ⟨(some (true, 13)), .mv (.c (.lit (.int .i64 0))), none⟩])
(.block 0
(.loop
(.seq
(.seq
(.reg [
  ⟨(some (false, 19)), .mv (.g 13), none⟩,
  ⟨(some (false, 20)), .mv (.g 12), none⟩,
  ⟨(some (true, 21)), .bin .lss (.l 19) (.l 20), none⟩])
(.cond (.g 21)
.skip
(.exit 0)))
(.seq
(.block 1
(.seq
(.reg [
  ⟨(some (false, 24)), .ld (some 4) (.g 5), none⟩,
  ⟨(some (false, 25)), .mv (.g 13), none⟩,
  ⟨(some (false, 26)), .call (.c (.fn 51 [])) [.l 24, .l 25], none⟩,
  ⟨(some (true, 14)), .new [.int .i64 0, .int .i64 0, .int .i64 0, .int .i64 0, .int .i64 0], none⟩,
  ⟨none, .st 5 (.g 14) (.l 26), none⟩])
(.seq
(.reg [
  ⟨(some (false, 27)), .mv (.g 2), none⟩,
  ⟨(some (false, 28)), .mv (.g 4), none⟩,
  ⟨(some (false, 29)), .bin .sub (.l 27) (.l 28), none⟩,
  ⟨(some (false, 30)), .fa (.g 14) 3, none⟩,
  ⟨(some (false, 31)), .ld none (.l 30), none⟩,
  ⟨(some (false, 32)), .bin .mul (.l 29) (.l 31), none⟩,
  ⟨(some (true, 15)), .mv (.l 32), none⟩])
(.seq
(.seq
(.reg [
  ⟨(some (false, 33)), .mv (.g 2), none⟩,
  ⟨(some (false, 34)), .mv (.g 4), none⟩,
  ⟨(some (true, 35)), .bin .lss (.l 33) (.l 34), none⟩])
(.cond (.g 35)
(.reg [
  ⟨(some (false, 36)), .mv (.g 4), none⟩,
  ⟨(some (false, 37)), .mv (.g 2), none⟩,
  ⟨(some (false, 38)), .bin .sub (.l 36) (.l 37), none⟩,
  ⟨(some (false, 39)), .fa (.g 14) 2, none⟩,
  ⟨(some (false, 40)), .ld none (.l 39), none⟩,
  ⟨(some (false, 41)), .bin .mul (.l 38) (.l 40), none⟩,
  ⟨(some (true, 15)), .mv (.l 41), none⟩])
.skip))
(.seq
(.draw [
  ⟨⟨(some (false, 42)), .ld (some 4) (.g 5), none⟩, 0, true, []⟩,
  ⟨⟨(some (false, 43)), .mv (.g 3), none⟩, 1, true, []⟩,
  ⟨⟨(some (false, 44)), .mv (.g 13), none⟩, 2, true, []⟩,
  ⟨⟨(some (false, 46)), .mv (.g 15), none⟩, 4, true, []⟩,
  ⟨⟨(some (false, 48)), .ld (some 4) (.g 5), none⟩, 6, true, []⟩,
  ⟨⟨(some (false, 49)), .mv (.g 13), none⟩, 7, true, []⟩,
  ⟨⟨(some (false, 50)), .mv (.g 1), none⟩, 8, true, []⟩,
  ⟨⟨(some (false, 45)), .call (.c (.fn 52 [])) [.l 42, .l 43, .l 44], none⟩, 3, false, []⟩,
  ⟨⟨(some (false, 47)), .bin .add (.l 45) (.l 46), none⟩, 5, true, []⟩,
  ⟨⟨(some (false, 51)), .call (.c (.fn 52 [])) [.l 48, .l 49, .l 50], none⟩, 9, false, []⟩,
  ⟨⟨(some (false, 52)), .bin .add (.l 47) (.l 51), none⟩, 10, true, []⟩,
  ⟨⟨(some (true, 16)), .mv (.l 52), none⟩, 11, true, []⟩])
(.seq
(.reg [
  ⟨(some (false, 53)), .mv (.g 11), none⟩,
  ⟨(some (false, 54)), .bin .lss (.l 53) (.c (.lit (.int .i64 0))), none⟩,
  ⟨(some (false, 55)), .mv (.l 54), none⟩,
  ⟨(some (false, 56)), .mv (.g 16), (some (.l 55, false))⟩,
  ⟨(some (false, 57)), .mv (.g 11), (some (.l 55, false))⟩,
  ⟨(some (false, 58)), .bin .lss (.l 56) (.l 57), (some (.l 55, false))⟩,
  ⟨(some (true, 59)), .pick (.l 55) (.c (.lit (.bool true))) (.l 58), none⟩])
(.cond (.g 59)
(.reg [
  ⟨(some (false, 60)), .mv (.g 16), none⟩,
  ⟨(some (true, 11)), .mv (.l 60), none⟩])
.skip)))))))
(.reg [
  ⟨(some (false, 22)), .mv (.g 13), none⟩,
  ⟨(some (false, 23)), .bin .add (.l 22) (.c (.lit (.int .i64 1))), none⟩,
  ⟨(some (true, 13)), .mv (.l 23), none⟩]))))))
(.seq
(.reg [
  ⟨(some (false, 61)), .mv (.g 11), none⟩,
  ⟨(some (true, 10)), .mv (.l 61), none⟩])
.ret)))))
def K34 : List Nat := [0, 1, 2, 3, 4, 21, 35, 59, 10, 5, 11, 12, 13, 14, 15, 16]
noncomputable def b34 : Code := match Try.f34.body with | some c => c | none => .skip
theorem t34 : trCode ⟨Try.prog, K34, [], 62, none⟩ b34 = some c34 := by kernel_rfl
theorem go34 {args : List AV} {H : AHeap} {Kk : AV → AHeap → Prop} (hn : args.length = 5) (h : AGo ⟨Try.prog, K34, [], 62, none⟩ H.length [.code c34] (RetP [.t (.g 10)] H.length Kk) ⟨[], argsG 0 args⟩ H) : ACalls Try.prog 34 args H Kk :=
  ACalls_of Try.func34 (c := b34) rfl (by kernel_rfl) t34 (rs := [.t (.g 10)]) (by kernel_rfl) (by rw [hn]; exact Nat.le_of_ble_eq_true rfl) (by rw [hn]; rfl) (h.weaken (fun _ _ => RetP.hands) (by simp))

/-- sastrugi/sastrugiref02.reach -/
def c51 : ACode :=
  (.seq
(.reg [
  ⟨(some (true, 2)), .box (.g 0), none⟩,
  ⟨(some (true, 4)), .new [.int .i64 0, .int .i64 0, .int .i64 0, .int .i64 0, .int .i64 0], none⟩])
(.seq
(.seq
(.reg [
  ⟨(some (true, 5)), .mv (.c (.lit (.int .i64 0))), none⟩])
(.block 0
(.loop
(.seq
(.seq
(.reg [
  ⟨(some (false, 6)), .mv (.g 5), none⟩,
  ⟨(some (false, 7)), .fa (.g 2) 0, none⟩,
  ⟨(some (false, 8)), .ld none (.l 7), none⟩,
  ⟨(some (false, 9)), .len (.l 8), none⟩,
  ⟨(some (true, 10)), .bin .lss (.l 6) (.l 9), none⟩])
(.cond (.g 10)
.skip
(.exit 0)))
(.seq
(.block 1
(.seq
(.seq
(.reg [
  ⟨(some (false, 13)), .mv (.g 1), none⟩,
  ⟨(some (false, 14)), .fa (.g 2) 0, none⟩,
  ⟨(some (false, 15)), .ld none (.l 14), none⟩,
  ⟨(some (false, 16)), .mv (.g 5), none⟩,
  ⟨(some (false, 17)), .ia 5 (.l 15) (.l 16), none⟩,
  ⟨(some (false, 18)), .fa (.l 17) 0, none⟩,
  ⟨(some (false, 19)), .ld none (.l 18), none⟩,
  ⟨(some (true, 20)), .bin .lss (.l 13) (.l 19), none⟩])
(.cond (.g 20)
(.seq
(.reg [
  ⟨(some (false, 21)), .fa (.g 2) 0, none⟩,
  ⟨(some (false, 22)), .ld none (.l 21), none⟩,
  ⟨(some (false, 23)), .mv (.g 5), none⟩,
  ⟨(some (false, 24)), .ia 5 (.l 22) (.l 23), none⟩,
  ⟨(some (false, 25)), .ld (some 5) (.l 24), none⟩,
  ⟨none, .st 5 (.g 4) (.l 25), none⟩])
.ret)
.skip))
(.reg [
  ⟨(some (false, 26)), .mv (.g 1), none⟩,
  ⟨(some (false, 27)), .fa (.g 2) 0, none⟩,
  ⟨(some (false, 28)), .ld none (.l 27), none⟩,
  ⟨(some (false, 29)), .mv (.g 5), none⟩,
  ⟨(some (false, 30)), .ia 5 (.l 28) (.l 29), none⟩,
  ⟨(some (false, 31)), .fa (.l 30) 0, none⟩,
  ⟨(some (false, 32)), .ld none (.l 31), none⟩,
  ⟨(some (false, 33)), .bin .sub (.l 26) (.l 32), none⟩,
  ⟨(some (true, 1)), .mv (.l 33), none⟩])))
(.reg [
  ⟨(some (false, 11)), .mv (.g 5), none⟩,
  ⟨(some (false, 12)), .bin .add (.l 11) (.c (.lit (.int .i64 1))), none⟩,
  ⟨(some (true, 5)), .mv (.l 12), none⟩]))))))
(.seq
(.reg [
  ⟨(some (false, 34)), .mk [.int .i64 0, .int .i64 0, .int .i64 0, .int .i64 0, .int .i64 0] [], none⟩,
  ⟨none, .st 5 (.g 4) (.l 34), none⟩])
.ret)))
def K51 : List Nat := [0, 1, 10, 20, 4, 2, 5]
noncomputable def b51 : Code := match Try.f51.body with | some c => c | none => .skip
theorem t51 : trCode ⟨Try.prog, K51, [], 35, none⟩ b51 = some c51 := by kernel_rfl
theorem go51 {args : List AV} {H : AHeap} {Kk : AV → AHeap → Prop} (hn : args.length = 2) (h : AGo ⟨Try.prog, K51, [], 35, none⟩ H.length [.code c51] (RetP [.cell (.g 4) (some 5)] H.length Kk) ⟨[], argsG 0 args⟩ H) : ACalls Try.prog 51 args H Kk :=
  ACalls_of Try.func51 (c := b51) rfl (by kernel_rfl) t51 (rs := [.cell (.g 4) (some 5)]) (by kernel_rfl) (by rw [hn]; exact Nat.le_of_ble_eq_true rfl) (by rw [hn]; rfl) (h.weaken (fun _ _ => RetP.hands) (by simp))

/-- sastrugi/sastrugiref02.far -/
def c52 : ACode :=
  (.seq
(.reg [
  ⟨(some (true, 3)), .box (.g 0), none⟩,
  ⟨(some (true, 6)), .mv (.c (.lit (.int .i64 0))), none⟩])
(.seq
(.reg [
  ⟨(some (true, 7)), .mv (.c (.lit (.int .i64 0))), none⟩])
(.seq
(.seq
(.reg [
  ⟨(some (false, 9)), .mv (.g 1), none⟩,
  ⟨(some (false, 10)), .mv (.g 2), none⟩,
  ⟨(some (false, 11)), .mn [.l 9, .l 10], none⟩,
  ⟨(some (true, 8)), .mv (.l 11), none⟩])
(.block 0
(.loop
(.seq
(.seq
(.reg [
  ⟨(some (false, 12)), .mv (.g 8), none⟩,
  ⟨(some (false, 13)), .mv (.g 1), none⟩,
  ⟨(some (false, 14)), .mv (.g 2), none⟩,
  ⟨(some (false, 15)), .mx [.l 13, .l 14], none⟩,
  ⟨(some (true, 16)), .bin .lss (.l 12) (.l 15), none⟩])
(.cond (.g 16)
.skip
(.exit 0)))
(.seq
(.block 1
(.reg [
  ⟨(some (false, 19)), .mv (.g 7), none⟩,
  ⟨(some (false, 20)), .ld (some 4) (.g 3), none⟩,
  ⟨(some (false, 21)), .mv (.g 8), none⟩,
  ⟨(some (false, 22)), .call (.c (.fn 51 [])) [.l 20, .l 21], none⟩,
  ⟨(some (false, 23)), .fd none (.l 22) 1, none⟩,
  ⟨(some (false, 24)), .bin .add (.l 19) (.l 23), none⟩,
  ⟨(some (true, 7)), .mv (.l 24), none⟩]))
(.reg [
  ⟨(some (false, 17)), .mv (.g 8), none⟩,
  ⟨(some (false, 18)), .bin .add (.l 17) (.c (.lit (.int .i64 1))), none⟩,
  ⟨(some (true, 8)), .mv (.l 18), none⟩]))))))
(.seq
(.reg [
  ⟨(some (false, 25)), .mv (.g 7), none⟩,
  ⟨(some (true, 6)), .mv (.l 25), none⟩])
.ret))))
def K52 : List Nat := [0, 1, 2, 16, 6, 3, 7, 8]
noncomputable def b52 : Code := match Try.f52.body with | some c => c | none => .skip
theorem t52 : trCode ⟨Try.prog, K52, [], 26, none⟩ b52 = some c52 := by kernel_rfl
theorem go52 {args : List AV} {H : AHeap} {Kk : AV → AHeap → Prop} (hn : args.length = 3) (h : AGo ⟨Try.prog, K52, [], 26, none⟩ H.length [.code c52] (RetP [.t (.g 6)] H.length Kk) ⟨[], argsG 0 args⟩ H) : ACalls Try.prog 52 args H Kk :=
  ACalls_of Try.func52 (c := b52) rfl (by kernel_rfl) t52 (rs := [.t (.g 6)]) (by kernel_rfl) (by rw [hn]; exact Nat.le_of_ble_eq_true rfl) (by rw [hn]; rfl) (h.weaken (fun _ _ => RetP.hands) (by simp))

end Go.Sas
