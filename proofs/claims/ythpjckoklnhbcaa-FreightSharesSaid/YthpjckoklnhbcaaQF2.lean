/-
The code of some functions with its types resolved, printed by a program; that it is the code is checked by the kernel.
Conditions: none.
-/
import Derived.Test.YthpjckoklnhbcaaH4
import Derived.Test.YthpjckoklnhbcaaProg
set_option linter.unusedVariables false
set_option linter.unusedSimpArgs false
namespace Go.Sas
open Go.Proofs
set_option maxRecDepth 100000
/-- sastrugi/sastrugikit.NewSeed -/
def c22 : ACode :=
  (.seq
(.reg [
  ⟨(some (true, 2)), .mv (.c (.lit (.pointer none))), none⟩])
(.seq
(.reg [
  ⟨(some (false, 5)), .mk [.int .u64 0] [(0, 1, .c (.lit (.int .u64 1)))], none⟩,
  ⟨(some (false, 6)), .box (.l 5), none⟩,
  ⟨(some (true, 3)), .mv (.l 6), none⟩])
(.seq
(.seq
(.reg [
  ⟨(some (true, 4)), .mv (.c (.lit (.int .i64 0))), none⟩])
(.block 0
(.loop
(.seq
(.seq
(.reg [
  ⟨(some (false, 7)), .mv (.g 4), none⟩,
  ⟨(some (false, 8)), .mv (.g 0), none⟩,
  ⟨(some (false, 9)), .len (.l 8), none⟩,
  ⟨(some (true, 10)), .bin .lss (.l 7) (.l 9), none⟩])
(.cond (.g 10)
.skip
(.exit 0)))
(.seq
(.block 1
(.seq
(.draw [
  ⟨⟨(some (false, 13)), .mv (.g 3), none⟩, 0, true, []⟩,
  ⟨⟨(some (false, 14)), .mv (.g 3), none⟩, 1, true, []⟩,
  ⟨⟨(some (false, 15)), .nilc (.l 14), none⟩, 2, true, []⟩,
  ⟨⟨(some (false, 16)), .fa (.l 15) 0, none⟩, 3, true, []⟩,
  ⟨⟨(some (false, 17)), .ld none (.l 16), none⟩, 4, true, []⟩,
  ⟨⟨(some (false, 18)), .bin .mul (.l 17) (.c (.lit (.int .u64 6364136223846793005))), none⟩, 5, true, []⟩,
  ⟨⟨(some (false, 19)), .mv (.g 0), none⟩, 6, true, []⟩,
  ⟨⟨(some (false, 20)), .mv (.g 4), none⟩, 7, true, []⟩,
  ⟨⟨(some (false, 21)), .ia 1 (.l 19) (.l 20), none⟩, 8, true, []⟩,
  ⟨⟨(some (false, 22)), .ld none (.l 21), none⟩, 9, true, []⟩,
  ⟨⟨(some (false, 23)), .cv .u64 (.l 22), none⟩, 10, true, []⟩,
  ⟨⟨(some (false, 24)), .bin .add (.l 18) (.l 23), none⟩, 11, true, []⟩,
  ⟨⟨(some (false, 25)), .bin .add (.l 24) (.c (.lit (.int .u64 1442695040888963407))), none⟩, 12, true, []⟩,
  ⟨⟨(some (false, 26)), .nilc (.l 13), none⟩, 13, true, []⟩,
  ⟨⟨(some (false, 27)), .fa (.l 26) 0, none⟩, 14, true, []⟩,
  ⟨⟨none, .st 1 (.l 27) (.l 25), none⟩, 15, true, []⟩])
(.reg [
  ⟨(some (false, 28)), .mv (.g 3), none⟩,
  ⟨(some (false, 29)), .call (.c (.fn 69 [])) [.l 28], none⟩])))
(.reg [
  ⟨(some (false, 11)), .mv (.g 4), none⟩,
  ⟨(some (false, 12)), .bin .add (.l 11) (.c (.lit (.int .i64 1))), none⟩,
  ⟨(some (true, 4)), .mv (.l 12), none⟩]))))))
(.seq
(.reg [
  ⟨(some (false, 30)), .mv (.g 3), none⟩,
  ⟨(some (true, 2)), .mv (.l 30), none⟩])
.ret))))
def K22 : List Nat := [0, 10, 2, 3, 4]
noncomputable def b22 : Code := match Try.f22.body with | some c => c | none => .skip
theorem t22 : trCode ⟨Try.prog, K22, [], 31, none⟩ b22 = some c22 := by kernel_rfl
theorem go22 {args : List AV} {H : AHeap} {Kk : AV → AHeap → Prop} (hn : args.length = 1) (h : AGo ⟨Try.prog, K22, [], 31, none⟩ H.length [.code c22] (RetP [.t (.g 2)] H.length Kk) ⟨[], argsG 0 args⟩ H) : ACalls Try.prog 22 args H Kk :=
  ACalls_of Try.func22 (c := b22) rfl (by kernel_rfl) t22 (rs := [.t (.g 2)]) (by kernel_rfl) (by rw [hn]; exact Nat.le_of_ble_eq_true rfl) (by rw [hn]; rfl) (h.weaken (fun _ _ => RetP.hands) (by simp))

/-- sastrugi/sastrugikit.Same -/
def c28 : ACode :=
  (.seq
(.reg [
  ⟨(some (true, 4)), .mv (.c (.lit (.bool false))), none⟩])
(.seq
(.seq
(.reg [
  ⟨(some (false, 6)), .mv (.g 0), none⟩,
  ⟨(some (false, 7)), .len (.l 6), none⟩,
  ⟨(some (false, 8)), .mv (.g 1), none⟩,
  ⟨(some (false, 9)), .len (.l 8), none⟩,
  ⟨(some (true, 10)), .bin .neq (.l 7) (.l 9), none⟩])
(.cond (.g 10)
(.seq
(.reg [
  ⟨(some (true, 4)), .mv (.c (.lit (.bool false))), none⟩])
.ret)
.skip))
(.seq
(.seq
(.reg [
  ⟨(some (true, 5)), .mv (.c (.lit (.int .i64 0))), none⟩])
(.block 0
(.loop
(.seq
(.seq
(.reg [
  ⟨(some (false, 11)), .mv (.g 5), none⟩,
  ⟨(some (false, 12)), .mv (.g 0), none⟩,
  ⟨(some (false, 13)), .len (.l 12), none⟩,
  ⟨(some (true, 14)), .bin .lss (.l 11) (.l 13), none⟩])
(.cond (.g 14)
.skip
(.exit 0)))
(.seq
(.block 1
(.seq
(.draw [
  ⟨⟨(some (false, 17)), .mv (.g 0), none⟩, 0, true, []⟩,
  ⟨⟨(some (false, 18)), .mv (.g 5), none⟩, 1, true, []⟩,
  ⟨⟨(some (false, 19)), .ia 1 (.l 17) (.l 18), none⟩, 2, true, []⟩,
  ⟨⟨(some (false, 20)), .ld none (.l 19), none⟩, 3, true, []⟩,
  ⟨⟨(some (false, 21)), .mv (.g 1), none⟩, 4, true, []⟩,
  ⟨⟨(some (false, 22)), .mv (.g 5), none⟩, 5, true, []⟩,
  ⟨⟨(some (false, 23)), .ia 1 (.l 21) (.l 22), none⟩, 6, true, []⟩,
  ⟨⟨(some (false, 24)), .ld none (.l 23), none⟩, 7, true, []⟩,
  ⟨⟨(some (true, 25)), .bin .neq (.l 20) (.l 24), none⟩, 8, true, []⟩])
(.cond (.g 25)
(.seq
(.reg [
  ⟨(some (true, 4)), .mv (.c (.lit (.bool false))), none⟩])
.ret)
.skip)))
(.reg [
  ⟨(some (false, 15)), .mv (.g 5), none⟩,
  ⟨(some (false, 16)), .bin .add (.l 15) (.c (.lit (.int .i64 1))), none⟩,
  ⟨(some (true, 5)), .mv (.l 16), none⟩]))))))
(.seq
(.reg [
  ⟨(some (true, 4)), .mv (.c (.lit (.bool true))), none⟩])
.ret))))
def K28 : List Nat := [0, 1, 10, 14, 25, 4, 5]
noncomputable def b28 : Code := match Try.f28.body with | some c => c | none => .skip
theorem t28 : trCode ⟨Try.prog, K28, [], 26, none⟩ b28 = some c28 := by kernel_rfl
theorem go28 {args : List AV} {H : AHeap} {Kk : AV → AHeap → Prop} (hn : args.length = 2) (h : AGo ⟨Try.prog, K28, [], 26, none⟩ H.length [.code c28] (RetP [.t (.g 4)] H.length Kk) ⟨[], argsG 0 args⟩ H) : ACalls Try.prog 28 args H Kk :=
  ACalls_of Try.func28 (c := b28) rfl (by kernel_rfl) t28 (rs := [.t (.g 4)]) (by kernel_rfl) (by rw [hn]; exact Nat.le_of_ble_eq_true rfl) (by rw [hn]; rfl) (h.weaken (fun _ _ => RetP.hands) (by simp))

/-- sastrugi/sastrugikit.Own -/
def c37 : ACode :=
  (.seq
(.reg [
  ⟨(some (true, 2)), .mv (.c (.lit (.slice none 0 0))), none⟩])
(.seq
(.reg [
  ⟨(some (false, 3)), .mks false 1 [], none⟩,
  ⟨(some (false, 4)), .mv (.g 0), none⟩,
  ⟨(some (false, 5)), .app 1 8 (.l 3) (.l 4), none⟩,
  ⟨(some (true, 2)), .mv (.l 5), none⟩])
.ret))
def K37 : List Nat := [0, 2]
noncomputable def b37 : Code := match Try.f37.body with | some c => c | none => .skip
theorem t37 : trCode ⟨Try.prog, K37, [], 6, none⟩ b37 = some c37 := by kernel_rfl
theorem go37 {args : List AV} {H : AHeap} {Kk : AV → AHeap → Prop} (hn : args.length = 1) (h : AGo ⟨Try.prog, K37, [], 6, none⟩ H.length [.code c37] (RetP [.t (.g 2)] H.length Kk) ⟨[], argsG 0 args⟩ H) : ACalls Try.prog 37 args H Kk :=
  ACalls_of Try.func37 (c := b37) rfl (by kernel_rfl) t37 (rs := [.t (.g 2)]) (by kernel_rfl) (by rw [hn]; exact Nat.le_of_ble_eq_true rfl) (by rw [hn]; rfl) (h.weaken (fun _ _ => RetP.hands) (by simp))

/-- (*sastrugi/sastrugikit.Seed).From -/
def c45 : ACode :=
  (.seq
(.reg [
  ⟨(some (true, 6)), .mv (.c (.lit (.int .i64 0))), none⟩])
(.seq
(.reg [
  ⟨(some (false, 7)), .mv (.g 1), none⟩,
  ⟨(some (false, 8)), .mv (.g 0), none⟩,
  ⟨(some (false, 9)), .mv (.g 2), none⟩,
  ⟨(some (false, 10)), .mv (.g 1), none⟩,
  ⟨(some (false, 11)), .bin .sub (.l 9) (.l 10), none⟩,
  ⟨(some (false, 12)), .bin .add (.l 11) (.c (.lit (.int .i64 1))), none⟩,
  ⟨(some (false, 13)), .call (.c (.fn 47 [])) [.l 8, .l 12], none⟩,
  ⟨(some (false, 14)), .bin .add (.l 7) (.l 13), none⟩,
  ⟨(some (true, 6)), .mv (.l 14), none⟩])
.ret))
def K45 : List Nat := [0, 1, 2, 6]
noncomputable def b45 : Code := match Try.f45.body with | some c => c | none => .skip
theorem t45 : trCode ⟨Try.prog, K45, [], 15, none⟩ b45 = some c45 := by kernel_rfl
theorem go45 {args : List AV} {H : AHeap} {Kk : AV → AHeap → Prop} (hn : args.length = 3) (h : AGo ⟨Try.prog, K45, [], 15, none⟩ H.length [.code c45] (RetP [.t (.g 6)] H.length Kk) ⟨[], argsG 0 args⟩ H) : ACalls Try.prog 45 args H Kk :=
  ACalls_of Try.func45 (c := b45) rfl (by kernel_rfl) t45 (rs := [.t (.g 6)]) (by kernel_rfl) (by rw [hn]; exact Nat.le_of_ble_eq_true rfl) (by rw [hn]; rfl) (h.weaken (fun _ _ => RetP.hands) (by simp))

/-- (*sastrugi/sastrugikit.Seed).Of -/
def c46 : ACode :=
  (.seq
(.reg [
  ⟨(some (true, 4)), .mv (.c (.lit (.int .i64 0))), none⟩])
(.seq
(.seq
(.reg [
  ⟨(some (false, 5)), .mv (.g 1), none⟩,
  ⟨(some (false, 6)), .len (.l 5), none⟩,
  ⟨(some (true, 7)), .bin .eql (.l 6) (.c (.lit (.int .i64 0))), none⟩])
(.cond (.g 7)
(.seq
(.reg [
  ⟨(some (true, 4)), .mv (.c (.lit (.int .i64 0))), none⟩])
.ret)
.skip))
(.seq
(.reg [
  ⟨(some (false, 8)), .mv (.g 1), none⟩,
  ⟨(some (false, 9)), .mv (.g 0), none⟩,
  ⟨(some (false, 10)), .mv (.g 1), none⟩,
  ⟨(some (false, 11)), .len (.l 10), none⟩,
  ⟨(some (false, 12)), .call (.c (.fn 47 [])) [.l 9, .l 11], none⟩,
  ⟨(some (false, 13)), .ia 1 (.l 8) (.l 12), none⟩,
  ⟨(some (false, 14)), .ld none (.l 13), none⟩,
  ⟨(some (true, 4)), .mv (.l 14), none⟩])
.ret)))
def K46 : List Nat := [0, 1, 7, 4]
noncomputable def b46 : Code := match Try.f46.body with | some c => c | none => .skip
theorem t46 : trCode ⟨Try.prog, K46, [], 15, none⟩ b46 = some c46 := by kernel_rfl
theorem go46 {args : List AV} {H : AHeap} {Kk : AV → AHeap → Prop} (hn : args.length = 2) (h : AGo ⟨Try.prog, K46, [], 15, none⟩ H.length [.code c46] (RetP [.t (.g 4)] H.length Kk) ⟨[], argsG 0 args⟩ H) : ACalls Try.prog 46 args H Kk :=
  ACalls_of Try.func46 (c := b46) rfl (by kernel_rfl) t46 (rs := [.t (.g 4)]) (by kernel_rfl) (by rw [hn]; exact Nat.le_of_ble_eq_true rfl) (by rw [hn]; rfl) (h.weaken (fun _ _ => RetP.hands) (by simp))

/-- (*sastrugi/sastrugikit.Seed).Below -/
def c47 : ACode :=
  (.seq
(.reg [
  ⟨(some (true, 4)), .mv (.c (.lit (.int .i64 0))), none⟩])
(.seq
(.seq
(.reg [
  ⟨(some (false, 5)), .mv (.g 1), none⟩,
  ⟨(some (true, 6)), .bin .lss (.l 5) (.c (.lit (.int .i64 2))), none⟩])
(.cond (.g 6)
(.seq
(.reg [
  ⟨(some (true, 4)), .mv (.c (.lit (.int .i64 0))), none⟩])
.ret)
.skip))
(.seq
(.reg [
  ⟨(some (false, 7)), .mv (.g 0), none⟩,
  ⟨(some (false, 8)), .call (.c (.fn 69 [])) [.l 7], none⟩,
  ⟨(some (false, 9)), .bin .shr (.l 8) (.c (.lit (.int .u64 1))), none⟩,
  ⟨(some (false, 10)), .mv (.g 1), none⟩,
  ⟨(some (false, 11)), .cv .u64 (.l 10), none⟩,
  ⟨(some (false, 12)), .bin .rem (.l 9) (.l 11), none⟩,
  ⟨(some (false, 13)), .cv .i64 (.l 12), none⟩,
  ⟨(some (true, 4)), .mv (.l 13), none⟩])
.ret)))
def K47 : List Nat := [0, 1, 6, 4]
noncomputable def b47 : Code := match Try.f47.body with | some c => c | none => .skip
theorem t47 : trCode ⟨Try.prog, K47, [], 14, none⟩ b47 = some c47 := by kernel_rfl
theorem go47 {args : List AV} {H : AHeap} {Kk : AV → AHeap → Prop} (hn : args.length = 2) (h : AGo ⟨Try.prog, K47, [], 14, none⟩ H.length [.code c47] (RetP [.t (.g 4)] H.length Kk) ⟨[], argsG 0 args⟩ H) : ACalls Try.prog 47 args H Kk :=
  ACalls_of Try.func47 (c := b47) rfl (by kernel_rfl) t47 (rs := [.t (.g 4)]) (by kernel_rfl) (by rw [hn]; exact Nat.le_of_ble_eq_true rfl) (by rw [hn]; rfl) (h.weaken (fun _ _ => RetP.hands) (by simp))

/-- sastrugi/sastrugilaw08.span -/
def c53 : ACode :=
  (.seq
(.reg [
  ⟨(some (true, 4)), .new [.int .i64 0, .int .i64 0], none⟩])
(.seq
(.reg [
  ⟨(some (false, 5)), .mv (.g 0), none⟩,
  ⟨(some (false, 6)), .mv (.g 1), none⟩,
  ⟨(some (false, 7)), .mk [.int .i64 0, .int .i64 0] [(0, 1, .l 5), (1, 1, .l 6)], none⟩,
  ⟨none, .st 2 (.g 4) (.l 7), none⟩])
.ret))
def K53 : List Nat := [0, 1, 4]
noncomputable def b53 : Code := match Try.f53.body with | some c => c | none => .skip
theorem t53 : trCode ⟨Try.prog, K53, [], 8, none⟩ b53 = some c53 := by kernel_rfl
theorem go53 {args : List AV} {H : AHeap} {Kk : AV → AHeap → Prop} (hn : args.length = 2) (h : AGo ⟨Try.prog, K53, [], 8, none⟩ H.length [.code c53] (RetP [.cell (.g 4) (some 2)] H.length Kk) ⟨[], argsG 0 args⟩ H) : ACalls Try.prog 53 args H Kk :=
  ACalls_of Try.func53 (c := b53) rfl (by kernel_rfl) t53 (rs := [.cell (.g 4) (some 2)]) (by kernel_rfl) (by rw [hn]; exact Nat.le_of_ble_eq_true rfl) (by rw [hn]; rfl) (h.weaken (fun _ _ => RetP.hands) (by simp))

/-- (*sastrugi/sastrugikit.Seed).Yes -/
def c56 : ACode :=
  (.seq
(.reg [
  ⟨(some (true, 4)), .mv (.c (.lit (.bool false))), none⟩])
(.seq
(.reg [
  ⟨(some (false, 5)), .mv (.g 0), none⟩,
  ⟨(some (false, 6)), .mv (.g 1), none⟩,
  ⟨(some (false, 7)), .call (.c (.fn 47 [])) [.l 5, .l 6], none⟩,
  ⟨(some (false, 8)), .bin .eql (.l 7) (.c (.lit (.int .i64 0))), none⟩,
  ⟨(some (true, 4)), .mv (.l 8), none⟩])
.ret))
def K56 : List Nat := [0, 1, 4]
noncomputable def b56 : Code := match Try.f56.body with | some c => c | none => .skip
theorem t56 : trCode ⟨Try.prog, K56, [], 9, none⟩ b56 = some c56 := by kernel_rfl
theorem go56 {args : List AV} {H : AHeap} {Kk : AV → AHeap → Prop} (hn : args.length = 2) (h : AGo ⟨Try.prog, K56, [], 9, none⟩ H.length [.code c56] (RetP [.t (.g 4)] H.length Kk) ⟨[], argsG 0 args⟩ H) : ACalls Try.prog 56 args H Kk :=
  ACalls_of Try.func56 (c := b56) rfl (by kernel_rfl) t56 (rs := [.t (.g 4)]) (by kernel_rfl) (by rw [hn]; exact Nat.le_of_ble_eq_true rfl) (by rw [hn]; rfl) (h.weaken (fun _ _ => RetP.hands) (by simp))

/-- (*sastrugi/sastrugikit.Seed).next -/
def c69 : ACode :=
  (.seq
(.reg [
  ⟨(some (true, 2)), .mv (.c (.lit (.int .u64 0))), none⟩])
(.seq
(.reg [
  ⟨(some (false, 4)), .mv (.g 0), none⟩,
  ⟨(some (false, 5)), .mv (.g 0), none⟩,
  ⟨(some (false, 6)), .nilc (.l 5), none⟩,
  ⟨(some (false, 7)), .fa (.l 6) 0, none⟩,
  ⟨(some (false, 8)), .ld none (.l 7), none⟩,
  ⟨(some (false, 9)), .bin .add (.l 8) (.c (.lit (.int .u64 11400714819323198485))), none⟩,
  ⟨(some (false, 10)), .nilc (.l 4), none⟩,
  ⟨(some (false, 11)), .fa (.l 10) 0, none⟩,
  ⟨none, .st 1 (.l 11) (.l 9), none⟩])
(.seq
(.reg [
  ⟨(some (false, 12)), .mv (.g 0), none⟩,
  ⟨(some (false, 13)), .nilc (.l 12), none⟩,
  ⟨(some (false, 14)), .fa (.l 13) 0, none⟩,
  ⟨(some (false, 15)), .ld none (.l 14), none⟩,
  ⟨(some (true, 3)), .mv (.l 15), none⟩])
(.seq
(.reg [
  ⟨(some (false, 16)), .mv (.g 3), none⟩,
  ⟨(some (false, 17)), .mv (.g 3), none⟩,
  ⟨(some (false, 18)), .bin .shr (.l 17) (.c (.lit (.int .u64 30))), none⟩,
  ⟨(some (false, 19)), .bin .xor (.l 16) (.l 18), none⟩,
  ⟨(some (false, 20)), .bin .mul (.l 19) (.c (.lit (.int .u64 13787848793156543929))), none⟩,
  ⟨(some (true, 3)), .mv (.l 20), none⟩])
(.seq
(.reg [
  ⟨(some (false, 21)), .mv (.g 3), none⟩,
  ⟨(some (false, 22)), .mv (.g 3), none⟩,
  ⟨(some (false, 23)), .bin .shr (.l 22) (.c (.lit (.int .u64 27))), none⟩,
  ⟨(some (false, 24)), .bin .xor (.l 21) (.l 23), none⟩,
  ⟨(some (false, 25)), .bin .mul (.l 24) (.c (.lit (.int .u64 10723151780598845931))), none⟩,
  ⟨(some (true, 3)), .mv (.l 25), none⟩])
(.seq
(.reg [
  ⟨(some (false, 26)), .mv (.g 3), none⟩,
  ⟨(some (false, 27)), .mv (.g 3), none⟩,
  ⟨(some (false, 28)), .bin .shr (.l 27) (.c (.lit (.int .u64 31))), none⟩,
  ⟨(some (false, 29)), .bin .xor (.l 26) (.l 28), none⟩,
  ⟨(some (true, 2)), .mv (.l 29), none⟩])
.ret))))))
def K69 : List Nat := [0, 2, 3]
noncomputable def b69 : Code := match Try.f69.body with | some c => c | none => .skip
theorem t69 : trCode ⟨Try.prog, K69, [], 30, none⟩ b69 = some c69 := by kernel_rfl
theorem go69 {args : List AV} {H : AHeap} {Kk : AV → AHeap → Prop} (hn : args.length = 1) (h : AGo ⟨Try.prog, K69, [], 30, none⟩ H.length [.code c69] (RetP [.t (.g 2)] H.length Kk) ⟨[], argsG 0 args⟩ H) : ACalls Try.prog 69 args H Kk :=
  ACalls_of Try.func69 (c := b69) rfl (by kernel_rfl) t69 (rs := [.t (.g 2)]) (by kernel_rfl) (by rw [hn]; exact Nat.le_of_ble_eq_true rfl) (by rw [hn]; rfl) (h.weaken (fun _ _ => RetP.hands) (by simp))

end Go.Sas
