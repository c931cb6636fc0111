/-
The code of some functions with its types resolved, printed by a program; that it is the code is checked by the kernel.
The code of some functions with its types resolved, printed by a program; that it is the code is checked by the kernel.
Conditions: none.
-/
import Derived.Test.YtelmlpjkpebcgaaM4
import Derived.Test.YtelmlpjkpebcgaaProg
set_option linter.unusedVariables false
set_option linter.unusedSimpArgs false
namespace Go.Sas
open Go.Proofs
set_option maxRecDepth 100000
/-- (sastrugi/bear.side).strong -/
def c141 : ACode :=
  (.seq
(.reg [
  ⟨(some (true, 2)), .box (.g 0), none⟩,
  ⟨(some (true, 3)), .box (.g 1), none⟩,
  ⟨(some (true, 4)), .mv (.c (.lit (.int .i64 0))), none⟩])
(.seq
(.seq
(.reg [
  ⟨(some (false, 5)), .fa (.g 2) 0, none⟩,
  ⟨(some (true, 6)), .ld none (.l 5), none⟩])
(.cond (.g 6)
(.seq
(.reg [
  ⟨(some (false, 7)), .fa (.g 3) 0, none⟩,
  ⟨(some (false, 8)), .ld none (.l 7), none⟩,
  ⟨(some (true, 4)), .mv (.l 8), none⟩])
.ret)
.skip))
(.seq
(.reg [
  ⟨(some (false, 9)), .fa (.g 3) 1, none⟩,
  ⟨(some (false, 10)), .ld none (.l 9), none⟩,
  ⟨(some (true, 4)), .mv (.l 10), none⟩])
.ret)))
def K141 : List Nat := [0, 1, 6, 4, 2, 3]
noncomputable def b141 : Code := match Try.f141.body with | some c => c | none => .skip
theorem t141 : trCode ⟨Try.prog, K141, [], 11, none⟩ b141 = some c141 := by kernel_rfl
theorem go141 {args : List AV} {H : AHeap} {Kk : AV → AHeap → Prop} (hn : args.length = 2) (h : AGo ⟨Try.prog, K141, [], 11, none⟩ H.length [.code c141] (RetP [.t (.g 4)] H.length Kk) ⟨[], argsG 0 args⟩ H) : ACalls Try.prog 141 args H Kk :=
  ACalls_of Try.func141 (c := b141) rfl (by kernel_rfl) t141 (rs := [.t (.g 4)]) (by kernel_rfl) (by rw [hn]; exact Nat.le_of_ble_eq_true rfl) (by rw [hn]; rfl) (h.weaken (fun _ _ => RetP.hands) (by simp))

/-- (sastrugi/bear.side).heavy -/
def c155 : ACode :=
  (.seq
(.reg [
  ⟨(some (true, 2)), .box (.g 0), none⟩,
  ⟨(some (true, 3)), .box (.g 1), none⟩,
  ⟨(some (true, 4)), .mv (.c (.lit (.int .i64 0))), none⟩])
(.seq
(.seq
(.reg [
  ⟨(some (false, 5)), .fa (.g 2) 0, none⟩,
  ⟨(some (true, 6)), .ld none (.l 5), none⟩])
(.cond (.g 6)
(.seq
(.reg [
  ⟨(some (false, 7)), .fa (.g 3) 1, none⟩,
  ⟨(some (false, 8)), .ld none (.l 7), none⟩,
  ⟨(some (true, 4)), .mv (.l 8), none⟩])
.ret)
.skip))
(.seq
(.reg [
  ⟨(some (false, 9)), .fa (.g 3) 0, none⟩,
  ⟨(some (false, 10)), .ld none (.l 9), none⟩,
  ⟨(some (true, 4)), .mv (.l 10), none⟩])
.ret)))
def K155 : List Nat := [0, 1, 6, 4, 2, 3]
noncomputable def b155 : Code := match Try.f155.body with | some c => c | none => .skip
theorem t155 : trCode ⟨Try.prog, K155, [], 11, none⟩ b155 = some c155 := by kernel_rfl
theorem go155 {args : List AV} {H : AHeap} {Kk : AV → AHeap → Prop} (hn : args.length = 2) (h : AGo ⟨Try.prog, K155, [], 11, none⟩ H.length [.code c155] (RetP [.t (.g 4)] H.length Kk) ⟨[], argsG 0 args⟩ H) : ACalls Try.prog 155 args H Kk :=
  ACalls_of Try.func155 (c := b155) rfl (by kernel_rfl) t155 (rs := [.t (.g 4)]) (by kernel_rfl) (by rw [hn]; exact Nat.le_of_ble_eq_true rfl) (by rw [hn]; rfl) (h.weaken (fun _ _ => RetP.hands) (by simp))

/-- (sastrugi/bear.side).near -/
def c164 : ACode :=
  (.seq
(.reg [
  ⟨(some (true, 4)), .box (.g 0), none⟩,
  ⟨(some (true, 5)), .box (.g 1), none⟩,
  ⟨(some (true, 8)), .mv (.c (.lit (.bool false))), none⟩])
(.seq
(.seq
(.reg [
  ⟨(some (false, 9)), .fa (.g 4) 0, none⟩,
  ⟨(some (true, 10)), .ld none (.l 9), none⟩])
(.cond (.g 10)
(.seq
(.reg [
  ⟨(some (false, 11)), .fa (.g 5) 0, none⟩,
  ⟨(some (false, 12)), .ld none (.l 11), none⟩,
  ⟨(some (false, 13)), .mv (.g 3), none⟩,
  ⟨(some (false, 14)), .bin .sub (.l 12) (.l 13), none⟩,
  ⟨(some (false, 15)), .mv (.g 2), none⟩,
  ⟨(some (false, 16)), .bin .leq (.l 14) (.l 15), none⟩,
  ⟨(some (false, 17)), .mv (.l 16), none⟩,
  ⟨(some (false, 18)), .mv (.g 2), (some (.l 17, true))⟩,
  ⟨(some (false, 19)), .fa (.g 5) 1, (some (.l 17, true))⟩,
  ⟨(some (false, 20)), .ld none (.l 19), (some (.l 17, true))⟩,
  ⟨(some (false, 21)), .mv (.g 3), (some (.l 17, true))⟩,
  ⟨(some (false, 22)), .bin .add (.l 20) (.l 21), (some (.l 17, true))⟩,
  ⟨(some (false, 23)), .bin .leq (.l 18) (.l 22), (some (.l 17, true))⟩,
  ⟨(some (false, 24)), .pick (.l 17) (.l 23) (.c (.lit (.bool false))), none⟩,
  ⟨(some (true, 8)), .mv (.l 24), none⟩])
.ret)
.skip))
(.seq
(.reg [
  ⟨(some (false, 25)), .mv (.g 2), none⟩,
  ⟨(some (false, 26)), .fa (.g 5) 0, none⟩,
  ⟨(some (false, 27)), .ld none (.l 26), none⟩,
  ⟨(some (false, 28)), .bin .sub (.l 25) (.l 27), none⟩,
  ⟨(some (false, 29)), .mv (.g 3), none⟩,
  ⟨(some (false, 30)), .bin .leq (.l 28) (.l 29), none⟩,
  ⟨(some (false, 31)), .mv (.l 30), none⟩,
  ⟨(some (false, 32)), .fa (.g 5) 1, (some (.l 31, true))⟩,
  ⟨(some (false, 33)), .ld none (.l 32), (some (.l 31, true))⟩,
  ⟨(some (false, 34)), .mv (.g 2), (some (.l 31, true))⟩,
  ⟨(some (false, 35)), .bin .sub (.l 33) (.l 34), (some (.l 31, true))⟩,
  ⟨(some (false, 36)), .mv (.g 3), (some (.l 31, true))⟩,
  ⟨(some (false, 37)), .bin .leq (.l 35) (.l 36), (some (.l 31, true))⟩,
  ⟨(some (false, 38)), .pick (.l 31) (.l 37) (.c (.lit (.bool false))), none⟩,
  ⟨(some (true, 8)), .mv (.l 38), none⟩])
.ret)))
def K164 : List Nat := [0, 1, 2, 3, 10, 8, 4, 5]
noncomputable def b164 : Code := match Try.f164.body with | some c => c | none => .skip
theorem t164 : trCode ⟨Try.prog, K164, [], 39, none⟩ b164 = some c164 := by kernel_rfl
theorem go164 {args : List AV} {H : AHeap} {Kk : AV → AHeap → Prop} (hn : args.length = 4) (h : AGo ⟨Try.prog, K164, [], 39, none⟩ H.length [.code c164] (RetP [.t (.g 8)] H.length Kk) ⟨[], argsG 0 args⟩ H) : ACalls Try.prog 164 args H Kk :=
  ACalls_of Try.func164 (c := b164) rfl (by kernel_rfl) t164 (rs := [.t (.g 8)]) (by kernel_rfl) (by rw [hn]; exact Nat.le_of_ble_eq_true rfl) (by rw [hn]; rfl) (h.weaken (fun _ _ => RetP.hands) (by simp))

/-- (sastrugi/bear.scene).thickness -/
def c156 : ACode :=
  (.seq
(.reg [
  ⟨(some (true, 2)), .box (.g 0), none⟩,
  ⟨(some (true, 4)), .mv (.c (.lit (.int .i64 0))), none⟩])
(.seq
(.draw [
  ⟨⟨(some (false, 8)), .fa (.g 2) 0, none⟩, 0, false, []⟩,
  ⟨⟨(some (false, 9)), .ld (some 1) (.l 8), none⟩, 1, false, []⟩,
  ⟨⟨(some (false, 10)), .fa (.g 2) 12, none⟩, 2, false, []⟩,
  ⟨⟨(some (false, 11)), .ld none (.l 10), none⟩, 3, false, []⟩,
  ⟨⟨(some (false, 12)), .mv (.g 1), none⟩, 4, false, []⟩,
  ⟨⟨(some (false, 13)), .bin .quo (.l 12) (.c (.lit (.int .i64 100))), none⟩, 5, false, []⟩,
  ⟨⟨(some (false, 14)), .ia 2 (.l 11) (.l 13), none⟩, 6, false, []⟩,
  ⟨⟨(some (false, 15)), .ld (some 2) (.l 14), none⟩, 7, false, []⟩,
  ⟨⟨(some (false, 16)), .call (.c (.fn 141 [])) [.l 9, .l 15], none⟩, 8, false, []⟩,
  ⟨⟨(some (true, 5)), .mv (.l 16), none⟩, 9, false, []⟩])
(.seq
(.seq
(.reg [
  ⟨(some (false, 17)), .fa (.g 2) 13, none⟩,
  ⟨(some (true, 18)), .ld none (.l 17), none⟩,
  ⟨(some (true, 19)), .len (.g 18), none⟩,
  ⟨(some (true, 20)), .mv (.c (.lit (.int .i64 0))), none⟩])
(.block 0
(.loop
(.seq
(.reg [
  ⟨(some (true, 21)), .bin .lss (.g 20) (.g 19), none⟩])
(.seq
(.cond (.g 21)
.skip
(.exit 0))
(.seq
(.block 1
(.seq
(.reg [
  ⟨(some (false, 22)), .ia 2 (.g 18) (.g 20), none⟩,
  ⟨(some (false, 23)), .ld (some 2) (.l 22), none⟩,
  ⟨(some (true, 7)), .new [.int .i64 0, .int .i64 0], none⟩,
  ⟨none, .st 2 (.g 7) (.l 23), none⟩])
(.seq
(.reg [
  ⟨(some (false, 24)), .fa (.g 2) 0, none⟩,
  ⟨(some (false, 25)), .ld (some 1) (.l 24), none⟩,
  ⟨(some (false, 26)), .ld (some 2) (.g 7), none⟩,
  ⟨(some (false, 27)), .mv (.g 1), none⟩,
  ⟨(some (false, 28)), .fa (.g 2) 1, none⟩,
  ⟨(some (false, 29)), .fa (.l 28) 4, none⟩,
  ⟨(some (false, 30)), .ld none (.l 29), none⟩,
  ⟨(some (true, 31)), .call (.c (.fn 164 [])) [.l 25, .l 26, .l 27, .l 30], none⟩])
(.cond (.g 31)
(.seq
(.reg [
  ⟨(some (false, 32)), .mv (.g 5), none⟩,
  ⟨(some (false, 33)), .fa (.g 2) 1, none⟩,
  ⟨(some (false, 34)), .fa (.l 33) 5, none⟩,
  ⟨(some (false, 35)), .ld none (.l 34), none⟩,
  ⟨(some (false, 36)), .bin .mul (.l 32) (.l 35), none⟩,
  ⟨(some (false, 37)), .bin .quo (.l 36) (.c (.lit (.int .i64 1000000))), none⟩,
  ⟨(some (true, 4)), .mv (.l 37), none⟩])
.ret)
.skip))))
(.reg [
  ⟨(some (false, 38)), .bin .add (.g 20) (.c (.lit (.int .i64 1))), none⟩,
  ⟨(some (true, 20)), .mv (.l 38), none⟩])))))))
(.seq
(.reg [
  ⟨(some (false, 39)), .mv (.g 5), none⟩,
  ⟨(some (true, 4)), .mv (.l 39), none⟩])
.ret))))
def K156 : List Nat := [0, 1, 21, 31, 4, 2, 5, 18, 19, 20, 7]
noncomputable def b156 : Code := match Try.f156.body with | some c => c | none => .skip
theorem t156 : trCode ⟨Try.prog, K156, [], 40, none⟩ b156 = some c156 := by kernel_rfl
theorem go156 {args : List AV} {H : AHeap} {Kk : AV → AHeap → Prop} (hn : args.length = 2) (h : AGo ⟨Try.prog, K156, [], 40, none⟩ H.length [.code c156] (RetP [.t (.g 4)] H.length Kk) ⟨[], argsG 0 args⟩ H) : ACalls Try.prog 156 args H Kk :=
  ACalls_of Try.func156 (c := b156) rfl (by kernel_rfl) t156 (rs := [.t (.g 4)]) (by kernel_rfl) (by rw [hn]; exact Nat.le_of_ble_eq_true rfl) (by rw [hn]; rfl) (h.weaken (fun _ _ => RetP.hands) (by simp))

/-- (sastrugi/bear.scene).enough -/
def c111 : ACode :=
  (.seq
(.reg [
  ⟨(some (true, 4)), .box (.g 0), none⟩,
  ⟨(some (true, 8)), .mv (.c (.lit (.bool false))), none⟩])
(.seq
(.draw [
  ⟨⟨(some (false, 9)), .mv (.g 1), none⟩, 0, false, []⟩,
  ⟨⟨(some (false, 10)), .bin .mul (.l 9) (.c (.lit (.int .i64 1000000))), none⟩, 1, false, []⟩,
  ⟨⟨(some (false, 11)), .fa (.g 4) 0, none⟩, 2, false, []⟩,
  ⟨⟨(some (false, 12)), .ld (some 1) (.l 11), none⟩, 3, false, []⟩,
  ⟨⟨(some (false, 13)), .fa (.g 4) 1, none⟩, 4, false, []⟩,
  ⟨⟨(some (false, 14)), .fa (.l 13) 0, none⟩, 5, false, []⟩,
  ⟨⟨(some (false, 15)), .ld (some 2) (.l 14), none⟩, 6, false, []⟩,
  ⟨⟨(some (false, 17)), .mv (.g 2), none⟩, 8, false, []⟩,
  ⟨⟨(some (false, 19)), .mv (.g 2), none⟩, 10, false, []⟩,
  ⟨⟨(some (false, 21)), .fa (.g 4) 1, none⟩, 12, false, []⟩,
  ⟨⟨(some (false, 22)), .fa (.l 21) 3, none⟩, 13, false, []⟩,
  ⟨⟨(some (false, 23)), .ld none (.l 22), none⟩, 14, false, []⟩,
  ⟨⟨(some (false, 24)), .mv (.g 3), none⟩, 15, false, []⟩,
  ⟨⟨(some (false, 16)), .call (.c (.fn 141 [])) [.l 12, .l 15], none⟩, 7, false, []⟩,
  ⟨⟨(some (false, 18)), .bin .mul (.l 16) (.l 17), none⟩, 9, false, []⟩,
  ⟨⟨(some (false, 20)), .bin .mul (.l 18) (.l 19), none⟩, 11, false, []⟩,
  ⟨⟨(some (false, 25)), .call (.c (.fn 110 [])) [.l 23, .l 24], none⟩, 16, false, []⟩,
  ⟨⟨(some (false, 26)), .bin .mul (.l 20) (.l 25), none⟩, 17, false, []⟩,
  ⟨⟨(some (false, 27)), .bin .leq (.l 10) (.l 26), none⟩, 18, false, []⟩,
  ⟨⟨(some (true, 8)), .mv (.l 27), none⟩, 19, false, []⟩])
.ret))
def K111 : List Nat := [0, 1, 2, 3, 8, 4]
noncomputable def b111 : Code := match Try.f111.body with | some c => c | none => .skip
theorem t111 : trCode ⟨Try.prog, K111, [], 28, none⟩ b111 = some c111 := by kernel_rfl
theorem go111 {args : List AV} {H : AHeap} {Kk : AV → AHeap → Prop} (hn : args.length = 4) (h : AGo ⟨Try.prog, K111, [], 28, none⟩ H.length [.code c111] (RetP [.t (.g 8)] H.length Kk) ⟨[], argsG 0 args⟩ H) : ACalls Try.prog 111 args H Kk :=
  ACalls_of Try.func111 (c := b111) rfl (by kernel_rfl) t111 (rs := [.t (.g 8)]) (by kernel_rfl) (by rw [hn]; exact Nat.le_of_ble_eq_true rfl) (by rw [hn]; rfl) (h.weaken (fun _ _ => RetP.hands) (by simp))

/-- (sastrugi/bear.scene).bears -/
def c129 : ACode :=
  (.seq
(.reg [
  ⟨(some (true, 3)), .box (.g 0), none⟩,
  ⟨(some (true, 6)), .mv (.c (.lit (.bool false))), none⟩])
(.seq
(.reg [
  ⟨(some (true, 7)), .mv (.c (.lit (.int .i64 0))), none⟩])
(.seq
(.seq
(.reg [
  ⟨(some (true, 10)), .mv (.g 1), none⟩,
  ⟨(some (true, 11)), .len (.g 10), none⟩,
  ⟨(some (true, 12)), .mv (.c (.lit (.int .i64 0))), none⟩])
(.block 0
(.loop
(.seq
(.reg [
  ⟨(some (true, 13)), .bin .lss (.g 12) (.g 11), none⟩])
(.seq
(.cond (.g 13)
.skip
(.exit 0))
(.seq
(.block 1
(.seq
(.reg [
  ⟨(some (false, 14)), .ia 4 (.g 10) (.g 12), none⟩,
  ⟨(some (false, 15)), .ld (some 4) (.l 14), none⟩,
  ⟨(some (true, 9)), .new [.int .i64 0, .int .i64 0, .int .i64 0, .int .i64 0], none⟩,
  ⟨none, .st 4 (.g 9) (.l 15), none⟩])
(.draw [
  ⟨⟨(some (false, 16)), .mv (.g 7), none⟩, 0, false, []⟩,
  ⟨⟨(some (false, 17)), .fa (.g 3) 0, none⟩, 1, false, []⟩,
  ⟨⟨(some (false, 18)), .ld (some 1) (.l 17), none⟩, 2, false, []⟩,
  ⟨⟨(some (false, 19)), .fa (.g 9) 1, none⟩, 3, false, []⟩,
  ⟨⟨(some (false, 20)), .ld (some 2) (.l 19), none⟩, 4, false, []⟩,
  ⟨⟨(some (false, 22)), .fa (.g 3) 1, none⟩, 6, false, []⟩,
  ⟨⟨(some (false, 23)), .fa (.l 22) 2, none⟩, 7, false, []⟩,
  ⟨⟨(some (false, 24)), .ld none (.l 23), none⟩, 8, false, []⟩,
  ⟨⟨(some (false, 25)), .mv (.g 1), none⟩, 9, false, []⟩,
  ⟨⟨(some (false, 26)), .mv (.g 2), none⟩, 10, false, []⟩,
  ⟨⟨(some (false, 27)), .ia 4 (.l 25) (.l 26), none⟩, 11, false, []⟩,
  ⟨⟨(some (false, 28)), .fa (.l 27) 0, none⟩, 12, false, []⟩,
  ⟨⟨(some (false, 29)), .ld none (.l 28), none⟩, 13, false, []⟩,
  ⟨⟨(some (false, 30)), .fa (.g 9) 0, none⟩, 14, false, []⟩,
  ⟨⟨(some (false, 31)), .ld none (.l 30), none⟩, 15, false, []⟩,
  ⟨⟨(some (false, 32)), .bin .sub (.l 29) (.l 31), none⟩, 16, false, []⟩,
  ⟨⟨(some (false, 33)), .fa (.g 9) 0, none⟩, 17, false, []⟩,
  ⟨⟨(some (false, 34)), .ld none (.l 33), none⟩, 18, false, []⟩,
  ⟨⟨(some (false, 35)), .mv (.g 1), none⟩, 19, false, []⟩,
  ⟨⟨(some (false, 36)), .mv (.g 2), none⟩, 20, false, []⟩,
  ⟨⟨(some (false, 37)), .ia 4 (.l 35) (.l 36), none⟩, 21, false, []⟩,
  ⟨⟨(some (false, 38)), .fa (.l 37) 0, none⟩, 22, false, []⟩,
  ⟨⟨(some (false, 39)), .ld none (.l 38), none⟩, 23, false, []⟩,
  ⟨⟨(some (false, 40)), .bin .sub (.l 34) (.l 39), none⟩, 24, false, []⟩,
  ⟨⟨(some (false, 41)), .mx [.l 32, .l 40], none⟩, 25, false, []⟩,
  ⟨⟨(some (false, 21)), .call (.c (.fn 155 [])) [.l 18, .l 20], none⟩, 5, false, []⟩,
  ⟨⟨(some (false, 42)), .call (.c (.fn 110 [])) [.l 24, .l 41], none⟩, 26, false, []⟩,
  ⟨⟨(some (false, 43)), .bin .mul (.l 21) (.l 42), none⟩, 27, false, []⟩,
  ⟨⟨(some (false, 44)), .bin .add (.l 16) (.l 43), none⟩, 28, false, []⟩,
  ⟨⟨(some (true, 7)), .mv (.l 44), none⟩, 29, false, []⟩])))
(.reg [
  ⟨(some (false, 45)), .bin .add (.g 12) (.c (.lit (.int .i64 1))), none⟩,
  ⟨(some (true, 12)), .mv (.l 45), none⟩])))))))
(.seq
(.draw [
  ⟨⟨(some (false, 46)), .ld (some 14) (.g 3), none⟩, 0, false, []⟩,
  ⟨⟨(some (false, 47)), .mv (.g 7), none⟩, 1, false, []⟩,
  ⟨⟨(some (false, 48)), .ld (some 14) (.g 3), none⟩, 2, false, []⟩,
  ⟨⟨(some (false, 49)), .mv (.g 1), none⟩, 3, false, []⟩,
  ⟨⟨(some (false, 50)), .mv (.g 2), none⟩, 4, false, []⟩,
  ⟨⟨(some (false, 51)), .ia 4 (.l 49) (.l 50), none⟩, 5, false, []⟩,
  ⟨⟨(some (false, 52)), .fa (.l 51) 0, none⟩, 6, false, []⟩,
  ⟨⟨(some (false, 53)), .ld none (.l 52), none⟩, 7, false, []⟩,
  ⟨⟨(some (false, 55)), .mv (.g 1), none⟩, 9, false, []⟩,
  ⟨⟨(some (false, 56)), .mv (.g 2), none⟩, 10, false, []⟩,
  ⟨⟨(some (false, 57)), .ia 4 (.l 55) (.l 56), none⟩, 11, false, []⟩,
  ⟨⟨(some (false, 58)), .fa (.l 57) 3, none⟩, 12, false, []⟩,
  ⟨⟨(some (false, 59)), .ld none (.l 58), none⟩, 13, false, []⟩,
  ⟨⟨(some (false, 54)), .call (.c (.fn 156 [])) [.l 48, .l 53], none⟩, 8, false, []⟩,
  ⟨⟨(some (false, 60)), .call (.c (.fn 111 [])) [.l 46, .l 47, .l 54, .l 59], none⟩, 14, false, []⟩,
  ⟨⟨(some (true, 6)), .mv (.l 60), none⟩, 15, false, []⟩])
.ret))))
def K129 : List Nat := [0, 1, 2, 13, 6, 3, 7, 10, 11, 12, 9]
noncomputable def b129 : Code := match Try.f129.body with | some c => c | none => .skip
theorem t129 : trCode ⟨Try.prog, K129, [], 61, none⟩ b129 = some c129 := by kernel_rfl
theorem go129 {args : List AV} {H : AHeap} {Kk : AV → AHeap → Prop} (hn : args.length = 3) (h : AGo ⟨Try.prog, K129, [], 61, none⟩ H.length [.code c129] (RetP [.t (.g 6)] H.length Kk) ⟨[], argsG 0 args⟩ H) : ACalls Try.prog 129 args H Kk :=
  ACalls_of Try.func129 (c := b129) rfl (by kernel_rfl) t129 (rs := [.t (.g 6)]) (by kernel_rfl) (by rw [hn]; exact Nat.le_of_ble_eq_true rfl) (by rw [hn]; rfl) (h.weaken (fun _ _ => RetP.hands) (by simp))

/-- sastrugi/bear.verdict -/
def c87 : ACode :=
  (.seq
(.reg [
  ⟨(some (true, 5)), .box (.g 0), none⟩,
  ⟨(some (true, 10)), .mv (.c (.lit (.int .i64 0))), none⟩])
(.seq
(.block 0
(.seq
(.reg [
  ⟨(some (false, 12)), .mk [.bool false] [(0, 1, .c (.lit (.bool true)))], none⟩,
  ⟨(some (false, 13)), .ld (some 11) (.g 5), none⟩,
  ⟨(some (false, 14)), .mv (.g 1), none⟩,
  ⟨(some (false, 15)), .mv (.g 2), none⟩,
  ⟨(some (false, 16)), .mk [.bool false, .int .i64 0, .int .i64 0, .slice none 0 0, .slice none 0 0, .int .i64 0, .int .i64 0, .int .i64 0, .int .i64 0, .int .i64 0, .int .i64 0, .int .i64 0, .slice none 0 0, .slice none 0 0] [(0, 1, .l 12), (1, 11, .l 13), (12, 1, .l 14), (13, 1, .l 15)], none⟩,
  ⟨(some (false, 17)), .mv (.g 3), none⟩,
  ⟨(some (false, 18)), .mv (.g 4), none⟩,
  ⟨(some (false, 19)), .call (.c (.fn 129 [])) [.l 16, .l 17, .l 18], none⟩,
  ⟨(some (true, 11)), .mv (.l 19), none⟩])
(.cond (.g 11)
(.seq
(.reg [
  ⟨(some (true, 10)), .mv (.c (.lit (.int .i64 1))), none⟩])
.ret)
(.seq
(.reg [
  ⟨(some (false, 21)), .mk [.bool false] [(0, 1, .c (.lit (.bool false)))], none⟩,
  ⟨(some (false, 22)), .ld (some 11) (.g 5), none⟩,
  ⟨(some (false, 23)), .mv (.g 1), none⟩,
  ⟨(some (false, 24)), .mv (.g 2), none⟩,
  ⟨(some (false, 25)), .mk [.bool false, .int .i64 0, .int .i64 0, .slice none 0 0, .slice none 0 0, .int .i64 0, .int .i64 0, .int .i64 0, .int .i64 0, .int .i64 0, .int .i64 0, .int .i64 0, .slice none 0 0, .slice none 0 0] [(0, 1, .l 21), (1, 11, .l 22), (12, 1, .l 23), (13, 1, .l 24)], none⟩,
  ⟨(some (false, 26)), .mv (.g 3), none⟩,
  ⟨(some (false, 27)), .mv (.g 4), none⟩,
  ⟨(some (false, 28)), .call (.c (.fn 129 [])) [.l 25, .l 26, .l 27], none⟩,
  ⟨(some (false, 29)), .un .not (.l 28), none⟩,
  ⟨(some (true, 20)), .mv (.l 29), none⟩])
(.cond (.g 20)
(.seq
(.reg [
  ⟨(some (true, 10)), .mv (.c (.lit (.int .i64 2))), none⟩])
.ret)
.skip)))))
(.seq
(.reg [
  ⟨(some (true, 10)), .mv (.c (.lit (.int .i64 3))), none⟩])
.ret)))
def K87 : List Nat := [0, 1, 2, 3, 4, 11, 20, 10, 5]
noncomputable def b87 : Code := match Try.f87.body with | some c => c | none => .skip
theorem t87 : trCode ⟨Try.prog, K87, [], 30, none⟩ b87 = some c87 := by kernel_rfl
theorem go87 {args : List AV} {H : AHeap} {Kk : AV → AHeap → Prop} (hn : args.length = 5) (h : AGo ⟨Try.prog, K87, [], 30, none⟩ H.length [.code c87] (RetP [.t (.g 10)] H.length Kk) ⟨[], argsG 0 args⟩ H) : ACalls Try.prog 87 args H Kk :=
  ACalls_of Try.func87 (c := b87) rfl (by kernel_rfl) t87 (rs := [.t (.g 10)]) (by kernel_rfl) (by rw [hn]; exact Nat.le_of_ble_eq_true rfl) (by rw [hn]; rfl) (h.weaken (fun _ _ => RetP.hands) (by simp))

/-- sastrugi/bear.Holds -/
def c25 : ACode :=
  (.seq
(.reg [
  ⟨(some (true, 4)), .box (.g 0), none⟩,
  ⟨(some (true, 8)), .mv (.c (.lit (.slice none 0 0))), none⟩,
  ⟨(some (true, 9)), .mv (.c (.lit (.int .i64 0))), none⟩])
(.seq
(.seq
(.reg [
  ⟨(some (false, 14)), .ld (some 11) (.g 4), none⟩,
  ⟨(some (false, 15)), .mv (.g 1), none⟩,
  ⟨(some (false, 16)), .mv (.g 2), none⟩,
  ⟨(some (false, 17)), .call (.c (.fn 85 [])) [.l 14, .l 15, .l 16], none⟩,
  ⟨(some (true, 10)), .mv (.l 17), none⟩])
(.seq
(.reg [
  ⟨(some (false, 18)), .mv (.g 10), none⟩,
  ⟨(some (true, 19)), .bin .neq (.l 18) (.c (.lit (.int .i64 0))), none⟩])
(.cond (.g 19)
(.seq
(.reg [
  ⟨(some (false, 20)), .mv (.g 10), none⟩,
  ⟨(some (true, 8)), .mv (.c (.lit (.slice none 0 0))), none⟩,
  ⟨(some (true, 9)), .mv (.l 20), none⟩])
.ret)
.skip)))
(.seq
(.seq
(.reg [
  ⟨(some (false, 21)), .mv (.g 3), none⟩,
  ⟨(some (false, 22)), .mv (.g 1), none⟩,
  ⟨(some (false, 23)), .len (.l 22), none⟩,
  ⟨(some (false, 24)), .call (.c (.fn 86 [])) [.l 21, .l 23], none⟩,
  ⟨(some (true, 11)), .mv (.l 24), none⟩])
(.seq
(.reg [
  ⟨(some (false, 25)), .mv (.g 11), none⟩,
  ⟨(some (true, 26)), .bin .neq (.l 25) (.c (.lit (.int .i64 0))), none⟩])
(.cond (.g 26)
(.seq
(.reg [
  ⟨(some (false, 27)), .mv (.g 11), none⟩,
  ⟨(some (true, 8)), .mv (.c (.lit (.slice none 0 0))), none⟩,
  ⟨(some (true, 9)), .mv (.l 27), none⟩])
.ret)
.skip)))
(.seq
(.reg [
  ⟨(some (true, 12)), .mv (.c (.lit (.slice none 0 0))), none⟩])
(.seq
(.seq
(.reg [
  ⟨(some (false, 28)), .mv (.g 3), none⟩,
  ⟨(some (true, 29)), .len (.l 28), none⟩,
  ⟨(some (true, 30)), .mv (.c (.lit (.int .i64 0))), none⟩])
(.block 0
(.loop
(.seq
(.reg [
  ⟨(some (true, 31)), .bin .lss (.g 30) (.g 29), none⟩])
(.seq
(.cond (.g 31)
.skip
(.exit 0))
(.seq
(.block 1
(.seq
(.reg [
  ⟨(some (false, 32)), .mv (.g 30), none⟩,
  ⟨(some (true, 13)), .mv (.l 32), none⟩])
(.reg [
  ⟨(some (false, 33)), .mv (.g 12), none⟩,
  ⟨(some (false, 34)), .ld (some 11) (.g 4), none⟩,
  ⟨(some (false, 35)), .mv (.g 1), none⟩,
  ⟨(some (false, 36)), .mv (.g 2), none⟩,
  ⟨(some (false, 37)), .mv (.g 3), none⟩,
  ⟨(some (false, 38)), .mv (.g 13), none⟩,
  ⟨(some (false, 39)), .call (.c (.fn 87 [])) [.l 34, .l 35, .l 36, .l 37, .l 38], none⟩,
  ⟨(some (false, 40)), .mks false 1 [.l 39], none⟩,
  ⟨(some (false, 41)), .app 1 8 (.l 33) (.l 40), none⟩,
  ⟨(some (true, 12)), .mv (.l 41), none⟩])))
(.reg [
  ⟨(some (false, 42)), .bin .add (.g 30) (.c (.lit (.int .i64 1))), none⟩,
  ⟨(some (true, 30)), .mv (.l 42), none⟩])))))))
(.seq
(.reg [
  ⟨(some (false, 43)), .mv (.g 12), none⟩,
  ⟨(some (true, 8)), .mv (.l 43), none⟩,
  ⟨(some (true, 9)), .mv (.c (.lit (.int .i64 0))), none⟩])
.ret))))))
def K25 : List Nat := [0, 1, 2, 3, 19, 26, 31, 8, 9, 4, 10, 11, 12, 29, 30, 13]
noncomputable def b25 : Code := match Try.f25.body with | some c => c | none => .skip
theorem t25 : trCode ⟨Try.prog, K25, [], 44, none⟩ b25 = some c25 := by kernel_rfl
theorem go25 {args : List AV} {H : AHeap} {Kk : AV → AHeap → Prop} (hn : args.length = 4) (h : AGo ⟨Try.prog, K25, [], 44, none⟩ H.length [.code c25] (RetP [.t (.g 8), .t (.g 9)] H.length Kk) ⟨[], argsG 0 args⟩ H) : ACalls Try.prog 25 args H Kk :=
  ACalls_of Try.func25 (c := b25) rfl (by kernel_rfl) t25 (rs := [.t (.g 8), .t (.g 9)]) (by kernel_rfl) (by rw [hn]; exact Nat.le_of_ble_eq_true rfl) (by rw [hn]; rfl) (h.weaken (fun _ _ => RetP.hands) (by simp))

/-- sastrugi/bear.Lane -/
def c42 : ACode :=
  (.seq
(.reg [
  ⟨(some (true, 4)), .box (.g 0), none⟩,
  ⟨(some (true, 7)), .box (.g 3), none⟩,
  ⟨(some (true, 8)), .mv (.c (.lit (.slice none 0 0))), none⟩,
  ⟨(some (true, 9)), .mv (.c (.lit (.int .i64 0))), none⟩])
(.seq
(.seq
(.reg [
  ⟨(some (false, 17)), .ld (some 11) (.g 4), none⟩,
  ⟨(some (false, 18)), .mv (.g 1), none⟩,
  ⟨(some (false, 19)), .mv (.g 2), none⟩,
  ⟨(some (false, 20)), .call (.c (.fn 85 [])) [.l 17, .l 18, .l 19], none⟩,
  ⟨(some (true, 10)), .mv (.l 20), none⟩])
(.seq
(.reg [
  ⟨(some (false, 21)), .mv (.g 10), none⟩,
  ⟨(some (true, 22)), .bin .neq (.l 21) (.c (.lit (.int .i64 0))), none⟩])
(.cond (.g 22)
(.seq
(.reg [
  ⟨(some (false, 23)), .mv (.g 10), none⟩,
  ⟨(some (true, 8)), .mv (.c (.lit (.slice none 0 0))), none⟩,
  ⟨(some (true, 9)), .mv (.l 23), none⟩])
.ret)
.skip)))
(.seq
(.seq
(.reg [
  ⟨(some (false, 24)), .ld (some 2) (.g 7), none⟩,
  ⟨(some (false, 25)), .call (.c (.fn 91 [])) [.l 24, .c (.lit (.int .i64 0)), .c (.lit (.int .i64 200000))], none⟩,
  ⟨(some (true, 11)), .mv (.l 25), none⟩])
(.seq
(.reg [
  ⟨(some (false, 26)), .mv (.g 11), none⟩,
  ⟨(some (true, 27)), .bin .neq (.l 26) (.c (.lit (.int .i64 0))), none⟩])
(.cond (.g 27)
(.seq
(.reg [
  ⟨(some (false, 28)), .mv (.g 11), none⟩,
  ⟨(some (true, 8)), .mv (.c (.lit (.slice none 0 0))), none⟩,
  ⟨(some (true, 9)), .mv (.l 28), none⟩])
.ret)
.skip)))
(.seq
(.reg [
  ⟨(some (true, 12)), .mv (.c (.lit (.slice none 0 0))), none⟩])
(.seq
(.seq
(.reg [
  ⟨(some (false, 29)), .mv (.g 1), none⟩,
  ⟨(some (true, 30)), .len (.l 29), none⟩,
  ⟨(some (true, 31)), .mv (.c (.lit (.int .i64 0))), none⟩])
(.block 0
(.loop
(.seq
(.reg [
  ⟨(some (true, 32)), .bin .lss (.g 31) (.g 30), none⟩])
(.seq
(.cond (.g 32)
.skip
(.exit 0))
(.seq
(.block 1
(.seq
(.reg [
  ⟨(some (false, 33)), .mv (.g 31), none⟩,
  ⟨(some (true, 13)), .mv (.l 33), none⟩])
(.seq
(.reg [
  ⟨(some (false, 34)), .ld (some 11) (.g 4), none⟩,
  ⟨(some (false, 35)), .mv (.g 1), none⟩,
  ⟨(some (false, 36)), .mv (.g 2), none⟩,
  ⟨(some (false, 37)), .mv (.g 13), none⟩,
  ⟨(some (false, 38)), .bin .mul (.c (.lit (.int .i64 100))) (.l 37), none⟩,
  ⟨(some (false, 39)), .ld (some 2) (.g 7), none⟩,
  ⟨(some (false, 40)), .mk [.int .i64 0, .int .i64 0, .int .i64 0, .int .i64 0] [(0, 1, .l 38), (1, 2, .l 39)], none⟩,
  ⟨(some (false, 41)), .mks false 4 [.l 40], none⟩,
  ⟨(some (false, 42)), .call (.c (.fn 87 [])) [.l 34, .l 35, .l 36, .l 41, .c (.lit (.int .i64 0))], none⟩,
  ⟨(some (true, 14)), .mv (.l 42), none⟩])
(.seq
(.seq
(.reg [
  ⟨(some (true, 15)), .mv (.c (.lit (.int .i64 1))), none⟩])
(.block 2
(.loop
(.seq
(.seq
(.reg [
  ⟨(some (false, 43)), .mv (.g 15), none⟩,
  ⟨(some (false, 44)), .bin .lss (.l 43) (.c (.lit (.int .i64 100))), none⟩,
  ⟨(some (false, 45)), .mv (.l 44), none⟩,
  ⟨(some (false, 46)), .mv (.g 14), (some (.l 45, true))⟩,
  ⟨(some (false, 47)), .bin .neq (.l 46) (.c (.lit (.int .i64 3))), (some (.l 45, true))⟩,
  ⟨(some (true, 48)), .pick (.l 45) (.l 47) (.c (.lit (.bool false))), none⟩])
(.cond (.g 48)
.skip
(.exit 2)))
(.seq
(.block 3
(.seq
(.reg [
  ⟨(some (false, 51)), .ld (some 11) (.g 4), none⟩,
  ⟨(some (false, 52)), .mv (.g 1), none⟩,
  ⟨(some (false, 53)), .mv (.g 2), none⟩,
  ⟨(some (false, 54)), .mv (.g 13), none⟩,
  ⟨(some (false, 55)), .bin .mul (.c (.lit (.int .i64 100))) (.l 54), none⟩,
  ⟨(some (false, 56)), .mv (.g 15), none⟩,
  ⟨(some (false, 57)), .bin .add (.l 55) (.l 56), none⟩,
  ⟨(some (false, 58)), .ld (some 2) (.g 7), none⟩,
  ⟨(some (false, 59)), .mk [.int .i64 0, .int .i64 0, .int .i64 0, .int .i64 0] [(0, 1, .l 57), (1, 2, .l 58)], none⟩,
  ⟨(some (false, 60)), .mks false 4 [.l 59], none⟩,
  ⟨(some (false, 61)), .call (.c (.fn 87 [])) [.l 51, .l 52, .l 53, .l 60, .c (.lit (.int .i64 0))], none⟩,
  ⟨(some (true, 16)), .mv (.l 61), none⟩])
(.seq
(.reg [
  ⟨(some (false, 62)), .mv (.g 16), none⟩,
  ⟨(some (false, 63)), .mv (.g 14), none⟩,
  ⟨(some (true, 64)), .bin .neq (.l 62) (.l 63), none⟩])
(.cond (.g 64)
(.reg [
  ⟨(some (true, 14)), .mv (.c (.lit (.int .i64 3))), none⟩])
.skip))))
(.reg [
  ⟨(some (false, 49)), .mv (.g 15), none⟩,
  ⟨(some (false, 50)), .bin .add (.l 49) (.c (.lit (.int .i64 1))), none⟩,
  ⟨(some (true, 15)), .mv (.l 50), none⟩]))))))
(.reg [
  ⟨(some (false, 65)), .mv (.g 12), none⟩,
  ⟨(some (false, 66)), .mv (.g 14), none⟩,
  ⟨(some (false, 67)), .mks false 1 [.l 66], none⟩,
  ⟨(some (false, 68)), .app 1 8 (.l 65) (.l 67), none⟩,
  ⟨(some (true, 12)), .mv (.l 68), none⟩])))))
(.reg [
  ⟨(some (false, 69)), .bin .add (.g 31) (.c (.lit (.int .i64 1))), none⟩,
  ⟨(some (true, 31)), .mv (.l 69), none⟩])))))))
(.seq
(.reg [
  ⟨(some (false, 70)), .mv (.g 12), none⟩,
  ⟨(some (true, 8)), .mv (.l 70), none⟩,
  ⟨(some (true, 9)), .mv (.c (.lit (.int .i64 0))), none⟩])
.ret))))))
def K42 : List Nat := [0, 1, 2, 3, 22, 27, 32, 48, 64, 8, 9, 4, 7, 10, 11, 12, 30, 31, 13, 14, 15, 16]
noncomputable def b42 : Code := match Try.f42.body with | some c => c | none => .skip
theorem t42 : trCode ⟨Try.prog, K42, [], 71, none⟩ b42 = some c42 := by kernel_rfl
theorem go42 {args : List AV} {H : AHeap} {Kk : AV → AHeap → Prop} (hn : args.length = 4) (h : AGo ⟨Try.prog, K42, [], 71, none⟩ H.length [.code c42] (RetP [.t (.g 8), .t (.g 9)] H.length Kk) ⟨[], argsG 0 args⟩ H) : ACalls Try.prog 42 args H Kk :=
  ACalls_of Try.func42 (c := b42) rfl (by kernel_rfl) t42 (rs := [.t (.g 8), .t (.g 9)]) (by kernel_rfl) (by rw [hn]; exact Nat.le_of_ble_eq_true rfl) (by rw [hn]; rfl) (h.weaken (fun _ _ => RetP.hands) (by simp))

/-- sastrugi/bear.alone -/
def c102 : ACode :=
  (.seq
(.reg [
  ⟨(some (true, 3)), .box (.g 0), none⟩,
  ⟨(some (true, 6)), .mv (.c (.lit (.int .i64 0))), none⟩])
(.seq
(.draw [
  ⟨⟨(some (false, 7)), .fa (.g 3) 0, none⟩, 0, false, []⟩,
  ⟨⟨(some (false, 8)), .fa (.l 7) 0, none⟩, 1, false, []⟩,
  ⟨⟨(some (false, 9)), .ld none (.l 8), none⟩, 2, false, []⟩,
  ⟨⟨(some (false, 10)), .mv (.g 1), none⟩, 3, false, []⟩,
  ⟨⟨(some (false, 11)), .bin .mul (.l 9) (.l 10), none⟩, 4, false, []⟩,
  ⟨⟨(some (false, 12)), .mv (.g 1), none⟩, 5, false, []⟩,
  ⟨⟨(some (false, 13)), .bin .mul (.l 11) (.l 12), none⟩, 6, false, []⟩,
  ⟨⟨(some (false, 14)), .fa (.g 3) 3, none⟩, 7, false, []⟩,
  ⟨⟨(some (false, 15)), .ld none (.l 14), none⟩, 8, false, []⟩,
  ⟨⟨(some (false, 16)), .mv (.g 2), none⟩, 9, false, []⟩,
  ⟨⟨(some (false, 17)), .call (.c (.fn 110 [])) [.l 15, .l 16], none⟩, 10, false, []⟩,
  ⟨⟨(some (false, 18)), .bin .mul (.l 13) (.l 17), none⟩, 11, false, []⟩,
  ⟨⟨(some (false, 19)), .bin .quo (.l 18) (.c (.lit (.int .i64 1000000000000))), none⟩, 12, false, []⟩,
  ⟨⟨(some (true, 6)), .mv (.l 19), none⟩, 13, false, []⟩])
.ret))
def K102 : List Nat := [0, 1, 2, 6, 3]
noncomputable def b102 : Code := match Try.f102.body with | some c => c | none => .skip
theorem t102 : trCode ⟨Try.prog, K102, [], 20, none⟩ b102 = some c102 := by kernel_rfl
theorem go102 {args : List AV} {H : AHeap} {Kk : AV → AHeap → Prop} (hn : args.length = 3) (h : AGo ⟨Try.prog, K102, [], 20, none⟩ H.length [.code c102] (RetP [.t (.g 6)] H.length Kk) ⟨[], argsG 0 args⟩ H) : ACalls Try.prog 102 args H Kk :=
  ACalls_of Try.func102 (c := b102) rfl (by kernel_rfl) t102 (rs := [.t (.g 6)]) (by kernel_rfl) (by rw [hn]; exact Nat.le_of_ble_eq_true rfl) (by rw [hn]; rfl) (h.weaken (fun _ _ => RetP.hands) (by simp))

/-- sastrugi/bear.Bears -/
def c54 : ACode :=
  (.seq
(.reg [
  ⟨(some (true, 3)), .box (.g 0), none⟩,
  ⟨(some (true, 6)), .mv (.c (.lit (.int .i64 0))), none⟩,
  ⟨(some (true, 7)), .mv (.c (.lit (.int .i64 0))), none⟩])
(.seq
(.seq
(.reg [
  ⟨(some (false, 9)), .ld (some 11) (.g 3), none⟩,
  ⟨(some (false, 10)), .call (.c (.fn 59 [])) [.l 9], none⟩,
  ⟨(some (true, 8)), .mv (.l 10), none⟩])
(.seq
(.reg [
  ⟨(some (false, 11)), .mv (.g 8), none⟩,
  ⟨(some (true, 12)), .bin .neq (.l 11) (.c (.lit (.int .i64 0))), none⟩])
(.cond (.g 12)
(.seq
(.reg [
  ⟨(some (false, 13)), .mv (.g 8), none⟩,
  ⟨(some (true, 6)), .mv (.c (.lit (.int .i64 0))), none⟩,
  ⟨(some (true, 7)), .mv (.l 13), none⟩])
.ret)
.skip)))
(.seq
(.seq
(.reg [
  ⟨(some (false, 14)), .mv (.g 1), none⟩,
  ⟨(some (false, 15)), .call (.c (.fn 94 [])) [.l 14, .c (.lit (.int .i64 0)), .c (.lit (.int .i64 5000))], none⟩,
  ⟨(some (false, 16)), .un .not (.l 15), none⟩,
  ⟨(some (false, 17)), .mv (.l 16), none⟩,
  ⟨(some (false, 18)), .mv (.g 2), (some (.l 17, false))⟩,
  ⟨(some (false, 19)), .call (.c (.fn 94 [])) [.l 18, .c (.lit (.int .i64 0)), .c (.lit (.int .i64 10000))], (some (.l 17, false))⟩,
  ⟨(some (false, 20)), .un .not (.l 19), (some (.l 17, false))⟩,
  ⟨(some (true, 21)), .pick (.l 17) (.c (.lit (.bool true))) (.l 20), none⟩])
(.cond (.g 21)
(.seq
(.reg [
  ⟨(some (true, 6)), .mv (.c (.lit (.int .i64 0))), none⟩,
  ⟨(some (true, 7)), .mv (.c (.lit (.int .i64 2))), none⟩])
.ret)
.skip))
(.seq
(.reg [
  ⟨(some (false, 22)), .ld (some 11) (.g 3), none⟩,
  ⟨(some (false, 23)), .mv (.g 1), none⟩,
  ⟨(some (false, 24)), .mv (.g 2), none⟩,
  ⟨(some (false, 25)), .call (.c (.fn 102 [])) [.l 22, .l 23, .l 24], none⟩,
  ⟨(some (true, 6)), .mv (.l 25), none⟩,
  ⟨(some (true, 7)), .mv (.c (.lit (.int .i64 0))), none⟩])
.ret))))
def K54 : List Nat := [0, 1, 2, 12, 21, 6, 7, 3, 8]
noncomputable def b54 : Code := match Try.f54.body with | some c => c | none => .skip
theorem t54 : trCode ⟨Try.prog, K54, [], 26, none⟩ b54 = some c54 := by kernel_rfl
theorem go54 {args : List AV} {H : AHeap} {Kk : AV → AHeap → Prop} (hn : args.length = 3) (h : AGo ⟨Try.prog, K54, [], 26, none⟩ H.length [.code c54] (RetP [.t (.g 6), .t (.g 7)] H.length Kk) ⟨[], argsG 0 args⟩ H) : ACalls Try.prog 54 args H Kk :=
  ACalls_of Try.func54 (c := b54) rfl (by kernel_rfl) t54 (rs := [.t (.g 6), .t (.g 7)]) (by kernel_rfl) (by rw [hn]; exact Nat.le_of_ble_eq_true rfl) (by rw [hn]; rfl) (h.weaken (fun _ _ => RetP.hands) (by simp))

/-- sastrugi/bear.Need -/
def c55 : ACode :=
  (.seq
(.reg [
  ⟨(some (true, 3)), .box (.g 0), none⟩,
  ⟨(some (true, 4)), .box (.g 1), none⟩,
  ⟨(some (true, 5)), .box (.g 2), none⟩,
  ⟨(some (true, 6)), .mv (.c (.lit (.int .i64 0))), none⟩,
  ⟨(some (true, 7)), .mv (.c (.lit (.int .i64 0))), none⟩])
(.seq
(.seq
(.reg [
  ⟨(some (false, 10)), .ld (some 11) (.g 3), none⟩,
  ⟨(some (false, 11)), .call (.c (.fn 59 [])) [.l 10], none⟩,
  ⟨(some (true, 8)), .mv (.l 11), none⟩])
(.seq
(.reg [
  ⟨(some (false, 12)), .mv (.g 8), none⟩,
  ⟨(some (true, 13)), .bin .neq (.l 12) (.c (.lit (.int .i64 0))), none⟩])
(.cond (.g 13)
(.seq
(.reg [
  ⟨(some (false, 14)), .mv (.g 8), none⟩,
  ⟨(some (true, 6)), .mv (.c (.lit (.int .i64 0))), none⟩,
  ⟨(some (true, 7)), .mv (.l 14), none⟩])
.ret)
.skip)))
(.seq
(.seq
(.reg [
  ⟨(some (false, 15)), .ld none (.g 4), none⟩,
  ⟨(some (false, 16)), .call (.c (.fn 94 [])) [.l 15, .c (.lit (.int .i64 0)), .c (.lit (.int .i64 200000))], none⟩,
  ⟨(some (false, 17)), .un .not (.l 16), none⟩,
  ⟨(some (false, 18)), .mv (.l 17), none⟩,
  ⟨(some (false, 19)), .ld none (.g 5), (some (.l 18, false))⟩,
  ⟨(some (false, 20)), .call (.c (.fn 94 [])) [.l 19, .c (.lit (.int .i64 0)), .c (.lit (.int .i64 10000))], (some (.l 18, false))⟩,
  ⟨(some (false, 21)), .un .not (.l 20), (some (.l 18, false))⟩,
  ⟨(some (true, 22)), .pick (.l 18) (.c (.lit (.bool true))) (.l 21), none⟩])
(.cond (.g 22)
(.seq
(.reg [
  ⟨(some (true, 6)), .mv (.c (.lit (.int .i64 0))), none⟩,
  ⟨(some (true, 7)), .mv (.c (.lit (.int .i64 2))), none⟩])
.ret)
.skip))
(.seq
(.reg [
  ⟨(some (false, 23)), .mkf 104 [.g 3, .g 5, .g 4], none⟩,
  ⟨(some (false, 24)), .call (.c (.fn 103 [])) [.c (.lit (.int .i64 5001)), .l 23], none⟩,
  ⟨(some (true, 9)), .mv (.l 24), none⟩])
(.seq
(.seq
(.reg [
  ⟨(some (false, 25)), .mv (.g 9), none⟩,
  ⟨(some (true, 26)), .bin .gtr (.l 25) (.c (.lit (.int .i64 5000))), none⟩])
(.cond (.g 26)
(.seq
(.reg [
  ⟨(some (true, 6)), .mv (.c (.lit (.int .i64 0))), none⟩,
  ⟨(some (true, 7)), .mv (.c (.lit (.int .i64 14))), none⟩])
.ret)
.skip))
(.seq
(.reg [
  ⟨(some (false, 27)), .mv (.g 9), none⟩,
  ⟨(some (true, 6)), .mv (.l 27), none⟩,
  ⟨(some (true, 7)), .mv (.c (.lit (.int .i64 0))), none⟩])
.ret))))))
def K55 : List Nat := [0, 1, 2, 13, 22, 26, 6, 7, 3, 4, 5, 8, 9]
noncomputable def b55 : Code := match Try.f55.body with | some c => c | none => .skip
theorem t55 : trCode ⟨Try.prog, K55, [], 28, none⟩ b55 = some c55 := by kernel_rfl
theorem go55 {args : List AV} {H : AHeap} {Kk : AV → AHeap → Prop} (hn : args.length = 3) (h : AGo ⟨Try.prog, K55, [], 28, none⟩ H.length [.code c55] (RetP [.t (.g 6), .t (.g 7)] H.length Kk) ⟨[], argsG 0 args⟩ H) : ACalls Try.prog 55 args H Kk :=
  ACalls_of Try.func55 (c := b55) rfl (by kernel_rfl) t55 (rs := [.t (.g 6), .t (.g 7)]) (by kernel_rfl) (by rw [hn]; exact Nat.le_of_ble_eq_true rfl) (by rw [hn]; rfl) (h.weaken (fun _ _ => RetP.hands) (by simp))

/-- sastrugi/bear.Need$1 -/
def c104 : ACode :=
  (.seq
(.reg [
  ⟨(some (true, 5)), .mv (.c (.lit (.bool false))), none⟩])
(.seq
(.draw [
  ⟨⟨(some (false, 6)), .ld (some 11) (.g 1), none⟩, 0, false, []⟩,
  ⟨⟨(some (false, 7)), .mv (.g 0), none⟩, 1, false, []⟩,
  ⟨⟨(some (false, 8)), .ld none (.g 2), none⟩, 2, false, []⟩,
  ⟨⟨(some (false, 10)), .ld none (.g 3), none⟩, 4, false, []⟩,
  ⟨⟨(some (false, 9)), .call (.c (.fn 102 [])) [.l 6, .l 7, .l 8], none⟩, 3, false, []⟩,
  ⟨⟨(some (false, 11)), .bin .geq (.l 9) (.l 10), none⟩, 5, false, []⟩,
  ⟨⟨(some (true, 5)), .mv (.l 11), none⟩, 6, false, []⟩])
.ret))
def K104 : List Nat := [0, 1, 2, 3, 5]
noncomputable def b104 : Code := match Try.f104.body with | some c => c | none => .skip
theorem t104 : trCode ⟨Try.prog, K104, [], 12, none⟩ b104 = some c104 := by kernel_rfl
theorem go104 {args : List AV} {H : AHeap} {Kk : AV → AHeap → Prop} (hn : args.length = 4) (h : AGo ⟨Try.prog, K104, [], 12, none⟩ H.length [.code c104] (RetP [.t (.g 5)] H.length Kk) ⟨[], argsG 0 args⟩ H) : ACalls Try.prog 104 args H Kk :=
  ACalls_of Try.func104 (c := b104) rfl (by kernel_rfl) t104 (rs := [.t (.g 5)]) (by kernel_rfl) (by rw [hn]; exact Nat.le_of_ble_eq_true rfl) (by rw [hn]; rfl) (h.weaken (fun _ _ => RetP.hands) (by simp))

/-- sastrugi/bear.Stands -/
def c57 : ACode :=
  (.seq
(.reg [
  ⟨(some (true, 3)), .box (.g 0), none⟩,
  ⟨(some (true, 4)), .box (.g 1), none⟩,
  ⟨(some (true, 5)), .box (.g 2), none⟩,
  ⟨(some (true, 6)), .mv (.c (.lit (.int .i64 0))), none⟩,
  ⟨(some (true, 7)), .mv (.c (.lit (.int .i64 0))), none⟩])
(.seq
(.seq
(.reg [
  ⟨(some (false, 9)), .ld (some 11) (.g 3), none⟩,
  ⟨(some (false, 10)), .call (.c (.fn 59 [])) [.l 9], none⟩,
  ⟨(some (true, 8)), .mv (.l 10), none⟩])
(.seq
(.reg [
  ⟨(some (false, 11)), .mv (.g 8), none⟩,
  ⟨(some (true, 12)), .bin .neq (.l 11) (.c (.lit (.int .i64 0))), none⟩])
(.cond (.g 12)
(.seq
(.reg [
  ⟨(some (false, 13)), .mv (.g 8), none⟩,
  ⟨(some (true, 6)), .mv (.c (.lit (.int .i64 0))), none⟩,
  ⟨(some (true, 7)), .mv (.l 13), none⟩])
.ret)
.skip)))
(.seq
(.seq
(.reg [
  ⟨(some (false, 14)), .ld none (.g 4), none⟩,
  ⟨(some (false, 15)), .call (.c (.fn 94 [])) [.l 14, .c (.lit (.int .i64 0)), .c (.lit (.int .i64 5000))], none⟩,
  ⟨(some (false, 16)), .un .not (.l 15), none⟩,
  ⟨(some (false, 17)), .mv (.l 16), none⟩,
  ⟨(some (false, 18)), .ld none (.g 5), (some (.l 17, false))⟩,
  ⟨(some (false, 19)), .call (.c (.fn 94 [])) [.l 18, .c (.lit (.int .i64 0)), .c (.lit (.int .i64 200000))], (some (.l 17, false))⟩,
  ⟨(some (false, 20)), .un .not (.l 19), (some (.l 17, false))⟩,
  ⟨(some (true, 21)), .pick (.l 17) (.c (.lit (.bool true))) (.l 20), none⟩])
(.cond (.g 21)
(.seq
(.reg [
  ⟨(some (true, 6)), .mv (.c (.lit (.int .i64 0))), none⟩,
  ⟨(some (true, 7)), .mv (.c (.lit (.int .i64 2))), none⟩])
.ret)
.skip))
(.seq
(.reg [
  ⟨(some (false, 22)), .mkf 105 [.g 3, .g 4, .g 5], none⟩,
  ⟨(some (false, 23)), .call (.c (.fn 103 [])) [.c (.lit (.int .i64 10001)), .l 22], none⟩,
  ⟨(some (false, 24)), .bin .sub (.l 23) (.c (.lit (.int .i64 1))), none⟩,
  ⟨(some (true, 6)), .mv (.l 24), none⟩,
  ⟨(some (true, 7)), .mv (.c (.lit (.int .i64 0))), none⟩])
.ret))))
def K57 : List Nat := [0, 1, 2, 12, 21, 6, 7, 3, 4, 5, 8]
noncomputable def b57 : Code := match Try.f57.body with | some c => c | none => .skip
theorem t57 : trCode ⟨Try.prog, K57, [], 25, none⟩ b57 = some c57 := by kernel_rfl
theorem go57 {args : List AV} {H : AHeap} {Kk : AV → AHeap → Prop} (hn : args.length = 3) (h : AGo ⟨Try.prog, K57, [], 25, none⟩ H.length [.code c57] (RetP [.t (.g 6), .t (.g 7)] H.length Kk) ⟨[], argsG 0 args⟩ H) : ACalls Try.prog 57 args H Kk :=
  ACalls_of Try.func57 (c := b57) rfl (by kernel_rfl) t57 (rs := [.t (.g 6), .t (.g 7)]) (by kernel_rfl) (by rw [hn]; exact Nat.le_of_ble_eq_true rfl) (by rw [hn]; rfl) (h.weaken (fun _ _ => RetP.hands) (by simp))

/-- sastrugi/bear.Stands$1 -/
def c105 : ACode :=
  (.seq
(.reg [
  ⟨(some (true, 5)), .mv (.c (.lit (.bool false))), none⟩])
(.seq
(.draw [
  ⟨⟨(some (false, 6)), .ld (some 11) (.g 1), none⟩, 0, false, []⟩,
  ⟨⟨(some (false, 7)), .ld none (.g 2), none⟩, 1, false, []⟩,
  ⟨⟨(some (false, 8)), .mv (.g 0), none⟩, 2, false, []⟩,
  ⟨⟨(some (false, 10)), .ld none (.g 3), none⟩, 4, false, []⟩,
  ⟨⟨(some (false, 9)), .call (.c (.fn 102 [])) [.l 6, .l 7, .l 8], none⟩, 3, false, []⟩,
  ⟨⟨(some (false, 11)), .bin .lss (.l 9) (.l 10), none⟩, 5, false, []⟩,
  ⟨⟨(some (true, 5)), .mv (.l 11), none⟩, 6, false, []⟩])
.ret))
def K105 : List Nat := [0, 1, 2, 3, 5]
noncomputable def b105 : Code := match Try.f105.body with | some c => c | none => .skip
theorem t105 : trCode ⟨Try.prog, K105, [], 12, none⟩ b105 = some c105 := by kernel_rfl
theorem go105 {args : List AV} {H : AHeap} {Kk : AV → AHeap → Prop} (hn : args.length = 4) (h : AGo ⟨Try.prog, K105, [], 12, none⟩ H.length [.code c105] (RetP [.t (.g 5)] H.length Kk) ⟨[], argsG 0 args⟩ H) : ACalls Try.prog 105 args H Kk :=
  ACalls_of Try.func105 (c := b105) rfl (by kernel_rfl) t105 (rs := [.t (.g 5)]) (by kernel_rfl) (by rw [hn]; exact Nat.le_of_ble_eq_true rfl) (by rw [hn]; rfl) (h.weaken (fun _ _ => RetP.hands) (by simp))

/-- sastrugi/bear.Gap -/
def c63 : ACode :=
  (.seq
(.reg [
  ⟨(some (true, 3)), .box (.g 0), none⟩,
  ⟨(some (true, 4)), .box (.g 1), none⟩,
  ⟨(some (true, 5)), .box (.g 2), none⟩,
  ⟨(some (true, 6)), .mv (.c (.lit (.int .i64 0))), none⟩,
  ⟨(some (true, 7)), .mv (.c (.lit (.int .i64 0))), none⟩])
(.seq
(.seq
(.reg [
  ⟨(some (false, 12)), .ld (some 11) (.g 3), none⟩,
  ⟨(some (false, 13)), .call (.c (.fn 59 [])) [.l 12], none⟩,
  ⟨(some (true, 8)), .mv (.l 13), none⟩])
(.seq
(.reg [
  ⟨(some (false, 14)), .mv (.g 8), none⟩,
  ⟨(some (true, 15)), .bin .neq (.l 14) (.c (.lit (.int .i64 0))), none⟩])
(.cond (.g 15)
(.seq
(.reg [
  ⟨(some (false, 16)), .mv (.g 8), none⟩,
  ⟨(some (true, 6)), .mv (.c (.lit (.int .i64 0))), none⟩,
  ⟨(some (true, 7)), .mv (.l 16), none⟩])
.ret)
.skip)))
(.seq
(.seq
(.reg [
  ⟨(some (false, 17)), .ld none (.g 4), none⟩,
  ⟨(some (false, 18)), .call (.c (.fn 94 [])) [.l 17, .c (.lit (.int .i64 0)), .c (.lit (.int .i64 5000))], none⟩,
  ⟨(some (true, 19)), .un .not (.l 18), none⟩])
(.cond (.g 19)
(.seq
(.reg [
  ⟨(some (true, 6)), .mv (.c (.lit (.int .i64 0))), none⟩,
  ⟨(some (true, 7)), .mv (.c (.lit (.int .i64 2))), none⟩])
.ret)
.skip))
(.seq
(.seq
(.reg [
  ⟨(some (false, 20)), .ld none (.g 5), none⟩,
  ⟨(some (false, 21)), .call (.c (.fn 108 [])) [.l 20, .c (.lit (.int .i64 30)), .c (.lit (.int .i64 200000))], none⟩,
  ⟨(some (true, 9)), .mv (.l 21), none⟩])
(.seq
(.reg [
  ⟨(some (false, 22)), .mv (.g 9), none⟩,
  ⟨(some (true, 23)), .bin .neq (.l 22) (.c (.lit (.int .i64 0))), none⟩])
(.cond (.g 23)
(.seq
(.reg [
  ⟨(some (false, 24)), .mv (.g 9), none⟩,
  ⟨(some (true, 6)), .mv (.c (.lit (.int .i64 0))), none⟩,
  ⟨(some (true, 7)), .mv (.l 24), none⟩])
.ret)
.skip)))
(.seq
(.reg [
  ⟨(some (false, 25)), .mk [.bool false] [(0, 1, .c (.lit (.bool true)))], none⟩,
  ⟨(some (false, 26)), .ld (some 11) (.g 3), none⟩,
  ⟨(some (false, 27)), .mk [.bool false, .int .i64 0, .int .i64 0, .slice none 0 0, .slice none 0 0, .int .i64 0, .int .i64 0, .int .i64 0, .int .i64 0, .int .i64 0, .int .i64 0, .int .i64 0, .slice none 0 0, .slice none 0 0] [(0, 1, .l 25), (1, 11, .l 26)], none⟩,
  ⟨(some (true, 10)), .new [.bool false, .int .i64 0, .int .i64 0, .slice none 0 0, .slice none 0 0, .int .i64 0, .int .i64 0, .int .i64 0, .int .i64 0, .int .i64 0, .int .i64 0, .int .i64 0, .slice none 0 0, .slice none 0 0], none⟩,
  ⟨none, .st 14 (.g 10) (.l 27), none⟩])
(.seq
(.reg [
  ⟨(some (false, 28)), .mkf 109 [.g 5, .g 3, .g 10, .g 4], none⟩,
  ⟨(some (false, 29)), .call (.c (.fn 103 [])) [.c (.lit (.int .i64 10001)), .l 28], none⟩,
  ⟨(some (true, 11)), .mv (.l 29), none⟩])
(.seq
(.seq
(.reg [
  ⟨(some (false, 30)), .mv (.g 11), none⟩,
  ⟨(some (true, 31)), .bin .gtr (.l 30) (.c (.lit (.int .i64 10000))), none⟩])
(.cond (.g 31)
(.seq
(.reg [
  ⟨(some (true, 6)), .mv (.c (.lit (.int .i64 (-1)))), none⟩,
  ⟨(some (true, 7)), .mv (.c (.lit (.int .i64 0))), none⟩])
.ret)
.skip))
(.seq
(.reg [
  ⟨(some (false, 32)), .mv (.g 11), none⟩,
  ⟨(some (true, 6)), .mv (.l 32), none⟩,
  ⟨(some (true, 7)), .mv (.c (.lit (.int .i64 0))), none⟩])
.ret))))))))
def K63 : List Nat := [0, 1, 2, 15, 19, 23, 31, 6, 7, 3, 4, 5, 8, 9, 10, 11]
noncomputable def b63 : Code := match Try.f63.body with | some c => c | none => .skip
theorem t63 : trCode ⟨Try.prog, K63, [], 33, none⟩ b63 = some c63 := by kernel_rfl
theorem go63 {args : List AV} {H : AHeap} {Kk : AV → AHeap → Prop} (hn : args.length = 3) (h : AGo ⟨Try.prog, K63, [], 33, none⟩ H.length [.code c63] (RetP [.t (.g 6), .t (.g 7)] H.length Kk) ⟨[], argsG 0 args⟩ H) : ACalls Try.prog 63 args H Kk :=
  ACalls_of Try.func63 (c := b63) rfl (by kernel_rfl) t63 (rs := [.t (.g 6), .t (.g 7)]) (by kernel_rfl) (by rw [hn]; exact Nat.le_of_ble_eq_true rfl) (by rw [hn]; rfl) (h.weaken (fun _ _ => RetP.hands) (by simp))

/-- sastrugi/bear.Gap$1 -/
def c109 : ACode :=
  (.seq
(.reg [
  ⟨(some (true, 6)), .mv (.c (.lit (.bool false))), none⟩])
(.seq
(.seq
(.reg [
  ⟨(some (false, 11)), .ld none (.g 1), none⟩,
  ⟨(some (true, 12)), .len (.l 11), none⟩,
  ⟨(some (true, 13)), .mv (.c (.lit (.int .i64 0))), none⟩])
(.block 0
(.loop
(.seq
(.reg [
  ⟨(some (true, 14)), .bin .lss (.g 13) (.g 12), none⟩])
(.seq
(.cond (.g 14)
.skip
(.exit 0))
(.seq
(.block 1
(.seq
(.reg [
  ⟨(some (false, 15)), .mv (.g 13), none⟩,
  ⟨(some (true, 7)), .mv (.l 15), none⟩])
(.seq
(.reg [
  ⟨(some (true, 8)), .mv (.c (.lit (.int .i64 0))), none⟩])
(.seq
(.seq
(.reg [
  ⟨(some (true, 16)), .ld none (.g 1), none⟩,
  ⟨(some (true, 17)), .len (.g 16), none⟩,
  ⟨(some (true, 18)), .mv (.c (.lit (.int .i64 0))), none⟩])
(.block 2
(.loop
(.seq
(.reg [
  ⟨(some (true, 19)), .bin .lss (.g 18) (.g 17), none⟩])
(.seq
(.cond (.g 19)
.skip
(.exit 2))
(.seq
(.block 3
(.seq
(.reg [
  ⟨(some (false, 20)), .mv (.g 18), none⟩,
  ⟨(some (false, 21)), .ia 2 (.g 16) (.g 18), none⟩,
  ⟨(some (false, 22)), .ld (some 2) (.l 21), none⟩,
  ⟨(some (true, 10)), .new [.int .i64 0, .int .i64 0], none⟩,
  ⟨(some (true, 9)), .mv (.l 20), none⟩,
  ⟨none, .st 2 (.g 10) (.l 22), none⟩])
(.draw [
  ⟨⟨(some (false, 23)), .mv (.g 8), none⟩, 0, false, []⟩,
  ⟨⟨(some (false, 24)), .fa (.g 10) 1, none⟩, 1, false, []⟩,
  ⟨⟨(some (false, 25)), .ld none (.l 24), none⟩, 2, false, []⟩,
  ⟨⟨(some (false, 26)), .fa (.g 2) 2, none⟩, 3, false, []⟩,
  ⟨⟨(some (false, 27)), .ld none (.l 26), none⟩, 4, false, []⟩,
  ⟨⟨(some (false, 28)), .mv (.g 0), none⟩, 5, false, []⟩,
  ⟨⟨(some (false, 29)), .mv (.g 7), none⟩, 6, false, []⟩,
  ⟨⟨(some (false, 30)), .mv (.g 9), none⟩, 7, false, []⟩,
  ⟨⟨(some (false, 31)), .bin .sub (.l 29) (.l 30), none⟩, 8, false, []⟩,
  ⟨⟨(some (false, 32)), .mv (.g 9), none⟩, 9, false, []⟩,
  ⟨⟨(some (false, 33)), .mv (.g 7), none⟩, 10, false, []⟩,
  ⟨⟨(some (false, 34)), .bin .sub (.l 32) (.l 33), none⟩, 11, false, []⟩,
  ⟨⟨(some (false, 35)), .mx [.l 31, .l 34], none⟩, 12, false, []⟩,
  ⟨⟨(some (false, 36)), .bin .mul (.l 28) (.l 35), none⟩, 13, false, []⟩,
  ⟨⟨(some (false, 37)), .call (.c (.fn 110 [])) [.l 27, .l 36], none⟩, 14, false, []⟩,
  ⟨⟨(some (false, 38)), .bin .mul (.l 25) (.l 37), none⟩, 15, false, []⟩,
  ⟨⟨(some (false, 39)), .bin .add (.l 23) (.l 38), none⟩, 16, false, []⟩,
  ⟨⟨(some (true, 8)), .mv (.l 39), none⟩, 17, false, []⟩])))
(.reg [
  ⟨(some (false, 40)), .bin .add (.g 18) (.c (.lit (.int .i64 1))), none⟩,
  ⟨(some (true, 18)), .mv (.l 40), none⟩])))))))
(.seq
(.reg [
  ⟨(some (false, 41)), .ld (some 14) (.g 3), none⟩,
  ⟨(some (false, 42)), .mv (.g 8), none⟩,
  ⟨(some (false, 43)), .ld none (.g 4), none⟩,
  ⟨(some (false, 44)), .call (.c (.fn 111 [])) [.l 41, .l 42, .l 43, .c (.lit (.int .i64 0))], none⟩,
  ⟨(some (true, 45)), .un .not (.l 44), none⟩])
(.cond (.g 45)
(.seq
(.reg [
  ⟨(some (true, 6)), .mv (.c (.lit (.bool false))), none⟩])
.ret)
.skip))))))
(.reg [
  ⟨(some (false, 46)), .bin .add (.g 13) (.c (.lit (.int .i64 1))), none⟩,
  ⟨(some (true, 13)), .mv (.l 46), none⟩])))))))
(.seq
(.reg [
  ⟨(some (true, 6)), .mv (.c (.lit (.bool true))), none⟩])
.ret)))
def K109 : List Nat := [0, 1, 2, 3, 4, 14, 19, 45, 6, 12, 13, 7, 8, 16, 17, 18, 10, 9]
noncomputable def b109 : Code := match Try.f109.body with | some c => c | none => .skip
theorem t109 : trCode ⟨Try.prog, K109, [], 47, none⟩ b109 = some c109 := by kernel_rfl
theorem go109 {args : List AV} {H : AHeap} {Kk : AV → AHeap → Prop} (hn : args.length = 5) (h : AGo ⟨Try.prog, K109, [], 47, none⟩ H.length [.code c109] (RetP [.t (.g 6)] H.length Kk) ⟨[], argsG 0 args⟩ H) : ACalls Try.prog 109 args H Kk :=
  ACalls_of Try.func109 (c := b109) rfl (by kernel_rfl) t109 (rs := [.t (.g 6)]) (by kernel_rfl) (by rw [hn]; exact Nat.le_of_ble_eq_true rfl) (by rw [hn]; rfl) (h.weaken (fun _ _ => RetP.hands) (by simp))

/-- sastrugi/bear.wavesOf -/
def c95 : ACode :=
  (.seq
(.reg [
  ⟨(some (true, 2)), .box (.g 0), none⟩,
  ⟨(some (true, 4)), .new [.int .i64 0, .int .i64 0, .int .i64 0], none⟩])
(.seq
(.reg [
  ⟨(some (false, 6)), .fa (.g 2) 6, none⟩,
  ⟨(some (false, 7)), .ld none (.l 6), none⟩,
  ⟨(some (false, 8)), .fa (.g 2) 7, none⟩,
  ⟨(some (false, 9)), .ld none (.l 8), none⟩,
  ⟨(some (false, 10)), .fa (.g 2) 8, none⟩,
  ⟨(some (false, 11)), .ld none (.l 10), none⟩,
  ⟨(some (false, 12)), .mk [.int .i64 0, .int .i64 0, .int .i64 0] [(0, 1, .l 7), (1, 1, .l 9), (2, 1, .l 11)], none⟩,
  ⟨(some (true, 5)), .new [.int .i64 0, .int .i64 0, .int .i64 0], none⟩,
  ⟨none, .st 3 (.g 5) (.l 12), none⟩])
(.seq
(.seq
(.reg [
  ⟨(some (false, 13)), .mv (.g 1), none⟩,
  ⟨(some (false, 14)), .fa (.g 2) 9, none⟩,
  ⟨(some (false, 15)), .ld none (.l 14), none⟩,
  ⟨(some (true, 16)), .bin .lss (.l 13) (.l 15), none⟩])
(.cond (.g 16)
(.draw [
  ⟨⟨(some (false, 17)), .fa (.g 2) 7, none⟩, 0, false, []⟩,
  ⟨⟨(some (false, 18)), .ld none (.l 17), none⟩, 1, false, []⟩,
  ⟨⟨(some (false, 19)), .fa (.g 2) 10, none⟩, 2, false, []⟩,
  ⟨⟨(some (false, 20)), .ld none (.l 19), none⟩, 3, false, []⟩,
  ⟨⟨(some (false, 21)), .bin .sub (.c (.lit (.int .i64 1000000))) (.l 20), none⟩, 4, false, []⟩,
  ⟨⟨(some (false, 22)), .bin .mul (.l 18) (.l 21), none⟩, 5, false, []⟩,
  ⟨⟨(some (false, 23)), .bin .quo (.l 22) (.c (.lit (.int .i64 1000000))), none⟩, 6, false, []⟩,
  ⟨⟨(some (false, 24)), .fa (.g 2) 8, none⟩, 7, false, []⟩,
  ⟨⟨(some (false, 25)), .ld none (.l 24), none⟩, 8, false, []⟩,
  ⟨⟨(some (false, 26)), .fa (.g 2) 10, none⟩, 9, false, []⟩,
  ⟨⟨(some (false, 27)), .ld none (.l 26), none⟩, 10, false, []⟩,
  ⟨⟨(some (false, 28)), .bin .add (.c (.lit (.int .i64 1000000))) (.l 27), none⟩, 11, false, []⟩,
  ⟨⟨(some (false, 29)), .bin .mul (.l 25) (.l 28), none⟩, 12, false, []⟩,
  ⟨⟨(some (false, 30)), .bin .add (.l 29) (.c (.lit (.int .i64 1000000))), none⟩, 13, false, []⟩,
  ⟨⟨(some (false, 31)), .bin .sub (.l 30) (.c (.lit (.int .i64 1))), none⟩, 14, false, []⟩,
  ⟨⟨(some (false, 32)), .bin .quo (.l 31) (.c (.lit (.int .i64 1000000))), none⟩, 15, false, []⟩,
  ⟨⟨(some (false, 33)), .fa (.g 5) 1, none⟩, 16, false, []⟩,
  ⟨⟨none, .st 1 (.l 33) (.l 23), none⟩, 17, false, []⟩,
  ⟨⟨(some (false, 34)), .fa (.g 5) 2, none⟩, 18, false, []⟩,
  ⟨⟨none, .st 1 (.l 34) (.l 32), none⟩, 19, true, []⟩])
.skip))
(.seq
(.reg [
  ⟨(some (false, 35)), .ld (some 3) (.g 5), none⟩,
  ⟨none, .st 3 (.g 4) (.l 35), none⟩])
.ret))))
def K95 : List Nat := [0, 1, 16, 4, 2, 5]
noncomputable def b95 : Code := match Try.f95.body with | some c => c | none => .skip
theorem t95 : trCode ⟨Try.prog, K95, [], 36, none⟩ b95 = some c95 := by kernel_rfl
theorem go95 {args : List AV} {H : AHeap} {Kk : AV → AHeap → Prop} (hn : args.length = 2) (h : AGo ⟨Try.prog, K95, [], 36, none⟩ H.length [.code c95] (RetP [.cell (.g 4) (some 3)] H.length Kk) ⟨[], argsG 0 args⟩ H) : ACalls Try.prog 95 args H Kk :=
  ACalls_of Try.func95 (c := b95) rfl (by kernel_rfl) t95 (rs := [.cell (.g 4) (some 3)]) (by kernel_rfl) (by rw [hn]; exact Nat.le_of_ble_eq_true rfl) (by rw [hn]; rfl) (h.weaken (fun _ _ => RetP.hands) (by simp))

/-- (sastrugi/bear.waves).critical -/
def c136 : ACode :=
  (.seq
(.reg [
  ⟨(some (true, 3)), .box (.g 0), none⟩,
  ⟨(some (true, 6)), .mv (.c (.lit (.bool false))), none⟩])
(.seq
(.draw [
  ⟨⟨(some (false, 9)), .mv (.g 1), none⟩, 0, false, []⟩,
  ⟨⟨(some (false, 10)), .mv (.g 1), none⟩, 1, false, []⟩,
  ⟨⟨(some (false, 11)), .bin .mul (.l 9) (.l 10), none⟩, 2, false, []⟩,
  ⟨⟨(some (false, 12)), .bin .mul (.l 11) (.c (.lit (.int .i64 1000000))), none⟩, 3, false, []⟩,
  ⟨⟨(some (false, 13)), .fa (.g 3) 0, none⟩, 4, false, []⟩,
  ⟨⟨(some (false, 14)), .ld none (.l 13), none⟩, 5, false, []⟩,
  ⟨⟨(some (false, 15)), .mv (.g 2), none⟩, 6, false, []⟩,
  ⟨⟨(some (false, 16)), .bin .mul (.l 14) (.l 15), none⟩, 7, false, []⟩,
  ⟨⟨(some (true, 7)), .mv (.l 12), none⟩, 8, false, []⟩,
  ⟨⟨(some (true, 8)), .mv (.l 16), none⟩, 9, false, []⟩])
(.seq
(.reg [
  ⟨(some (false, 17)), .fa (.g 3) 1, none⟩,
  ⟨(some (false, 18)), .ld none (.l 17), none⟩,
  ⟨(some (false, 19)), .mv (.g 8), none⟩,
  ⟨(some (false, 20)), .bin .mul (.l 18) (.l 19), none⟩,
  ⟨(some (false, 21)), .mv (.g 7), none⟩,
  ⟨(some (false, 22)), .bin .leq (.l 20) (.l 21), none⟩,
  ⟨(some (false, 23)), .mv (.l 22), none⟩,
  ⟨(some (false, 24)), .mv (.g 7), (some (.l 23, true))⟩,
  ⟨(some (false, 25)), .fa (.g 3) 2, (some (.l 23, true))⟩,
  ⟨(some (false, 26)), .ld none (.l 25), (some (.l 23, true))⟩,
  ⟨(some (false, 27)), .mv (.g 8), (some (.l 23, true))⟩,
  ⟨(some (false, 28)), .bin .mul (.l 26) (.l 27), (some (.l 23, true))⟩,
  ⟨(some (false, 29)), .bin .leq (.l 24) (.l 28), (some (.l 23, true))⟩,
  ⟨(some (false, 30)), .pick (.l 23) (.l 29) (.c (.lit (.bool false))), none⟩,
  ⟨(some (true, 6)), .mv (.l 30), none⟩])
.ret)))
def K136 : List Nat := [0, 1, 2, 6, 3, 7, 8]
noncomputable def b136 : Code := match Try.f136.body with | some c => c | none => .skip
theorem t136 : trCode ⟨Try.prog, K136, [], 31, none⟩ b136 = some c136 := by kernel_rfl
theorem go136 {args : List AV} {H : AHeap} {Kk : AV → AHeap → Prop} (hn : args.length = 3) (h : AGo ⟨Try.prog, K136, [], 31, none⟩ H.length [.code c136] (RetP [.t (.g 6)] H.length Kk) ⟨[], argsG 0 args⟩ H) : ACalls Try.prog 136 args H Kk :=
  ACalls_of Try.func136 (c := b136) rfl (by kernel_rfl) t136 (rs := [.t (.g 6)]) (by kernel_rfl) (by rw [hn]; exact Nat.le_of_ble_eq_true rfl) (by rw [hn]; rfl) (h.weaken (fun _ _ => RetP.hands) (by simp))

/-- (sastrugi/bear.waves).verdict -/
def c96 : ACode :=
  (.seq
(.reg [
  ⟨(some (true, 3)), .box (.g 0), none⟩,
  ⟨(some (true, 5)), .box (.g 2), none⟩,
  ⟨(some (true, 6)), .mv (.c (.lit (.int .i64 0))), none⟩])
(.seq
(.reg [
  ⟨(some (true, 7)), .mv (.c (.lit (.int .i64 0))), none⟩])
(.seq
(.seq
(.reg [
  ⟨(some (false, 9)), .fa (.g 5) 0, none⟩,
  ⟨(some (false, 10)), .ld none (.l 9), none⟩,
  ⟨(some (true, 8)), .mv (.l 10), none⟩])
(.block 0
(.loop
(.seq
(.seq
(.reg [
  ⟨(some (false, 11)), .mv (.g 8), none⟩,
  ⟨(some (false, 12)), .fa (.g 5) 1, none⟩,
  ⟨(some (false, 13)), .ld none (.l 12), none⟩,
  ⟨(some (true, 14)), .bin .leq (.l 11) (.l 13), none⟩])
(.cond (.g 14)
.skip
(.exit 0)))
(.seq
(.block 1
(.seq
(.reg [
  ⟨(some (false, 17)), .ld (some 3) (.g 3), none⟩,
  ⟨(some (false, 18)), .mv (.g 1), none⟩,
  ⟨(some (false, 19)), .mv (.g 8), none⟩,
  ⟨(some (true, 20)), .call (.c (.fn 136 [])) [.l 17, .l 18, .l 19], none⟩])
(.cond (.g 20)
(.reg [
  ⟨(some (false, 21)), .mv (.g 7), none⟩,
  ⟨(some (false, 22)), .bin .add (.l 21) (.c (.lit (.int .i64 1))), none⟩,
  ⟨(some (true, 7)), .mv (.l 22), none⟩])
.skip)))
(.reg [
  ⟨(some (false, 15)), .mv (.g 8), none⟩,
  ⟨(some (false, 16)), .bin .add (.l 15) (.c (.lit (.int .i64 1))), none⟩,
  ⟨(some (true, 8)), .mv (.l 16), none⟩]))))))
(.seq
(.seq
(.reg [
  ⟨(some (true, 23)), .mv (.g 7), none⟩])
(.block 2
(.seq
(.reg [
  ⟨(some (false, 25)), .bin .eql (.g 23) (.c (.lit (.int .i64 0))), none⟩,
  ⟨(some (true, 24)), .mv (.l 25), none⟩])
(.cond (.g 24)
(.seq
(.reg [
  ⟨(some (true, 6)), .mv (.c (.lit (.int .i64 1))), none⟩])
.ret)
(.seq
(.reg [
  ⟨(some (false, 27)), .fa (.g 5) 1, none⟩,
  ⟨(some (false, 28)), .ld none (.l 27), none⟩,
  ⟨(some (false, 29)), .fa (.g 5) 0, none⟩,
  ⟨(some (false, 30)), .ld none (.l 29), none⟩,
  ⟨(some (false, 31)), .bin .sub (.l 28) (.l 30), none⟩,
  ⟨(some (false, 32)), .bin .add (.l 31) (.c (.lit (.int .i64 1))), none⟩,
  ⟨(some (false, 33)), .bin .eql (.g 23) (.l 32), none⟩,
  ⟨(some (true, 26)), .mv (.l 33), none⟩])
(.cond (.g 26)
(.seq
(.reg [
  ⟨(some (true, 6)), .mv (.c (.lit (.int .i64 2))), none⟩])
.ret)
.skip))))))
(.seq
(.reg [
  ⟨(some (true, 6)), .mv (.c (.lit (.int .i64 3))), none⟩])
.ret)))))
def K96 : List Nat := [0, 1, 2, 14, 20, 24, 26, 6, 3, 5, 7, 8, 23]
noncomputable def b96 : Code := match Try.f96.body with | some c => c | none => .skip
theorem t96 : trCode ⟨Try.prog, K96, [], 34, none⟩ b96 = some c96 := by kernel_rfl
theorem go96 {args : List AV} {H : AHeap} {Kk : AV → AHeap → Prop} (hn : args.length = 3) (h : AGo ⟨Try.prog, K96, [], 34, none⟩ H.length [.code c96] (RetP [.t (.g 6)] H.length Kk) ⟨[], argsG 0 args⟩ H) : ACalls Try.prog 96 args H Kk :=
  ACalls_of Try.func96 (c := b96) rfl (by kernel_rfl) t96 (rs := [.t (.g 6)]) (by kernel_rfl) (by rw [hn]; exact Nat.le_of_ble_eq_true rfl) (by rw [hn]; rfl) (h.weaken (fun _ _ => RetP.hands) (by simp))

/-- sastrugi/bear.checkDepth -/
def c93 : ACode :=
  (.seq
(.reg [
  ⟨(some (true, 3)), .box (.g 0), none⟩,
  ⟨(some (true, 4)), .box (.g 1), none⟩,
  ⟨(some (true, 6)), .mv (.c (.lit (.int .i64 0))), none⟩])
(.seq
(.seq
(.reg [
  ⟨(some (false, 9)), .ld (some 11) (.g 3), none⟩,
  ⟨(some (false, 10)), .call (.c (.fn 59 [])) [.l 9], none⟩,
  ⟨(some (true, 7)), .mv (.l 10), none⟩])
(.seq
(.reg [
  ⟨(some (false, 11)), .mv (.g 7), none⟩,
  ⟨(some (true, 12)), .bin .neq (.l 11) (.c (.lit (.int .i64 0))), none⟩])
(.cond (.g 12)
(.seq
(.reg [
  ⟨(some (false, 13)), .mv (.g 7), none⟩,
  ⟨(some (true, 6)), .mv (.l 13), none⟩])
.ret)
.skip)))
(.seq
(.seq
(.reg [
  ⟨(some (false, 14)), .ld (some 2) (.g 4), none⟩,
  ⟨(some (false, 15)), .call (.c (.fn 91 [])) [.l 14, .c (.lit (.int .i64 0)), .c (.lit (.int .i64 10000))], none⟩,
  ⟨(some (true, 8)), .mv (.l 15), none⟩])
(.seq
(.reg [
  ⟨(some (false, 16)), .mv (.g 8), none⟩,
  ⟨(some (true, 17)), .bin .neq (.l 16) (.c (.lit (.int .i64 0))), none⟩])
(.cond (.g 17)
(.seq
(.reg [
  ⟨(some (false, 18)), .mv (.g 8), none⟩,
  ⟨(some (true, 6)), .mv (.l 18), none⟩])
.ret)
.skip)))
(.seq
(.seq
(.reg [
  ⟨(some (false, 19)), .mv (.g 2), none⟩,
  ⟨(some (false, 20)), .call (.c (.fn 94 [])) [.l 19, .c (.lit (.int .i64 0)), .c (.lit (.int .i64 100000))], none⟩,
  ⟨(some (true, 21)), .un .not (.l 20), none⟩])
(.cond (.g 21)
(.seq
(.reg [
  ⟨(some (true, 6)), .mv (.c (.lit (.int .i64 2))), none⟩])
.ret)
.skip))
(.seq
(.reg [
  ⟨(some (true, 6)), .mv (.c (.lit (.int .i64 0))), none⟩])
.ret)))))
def K93 : List Nat := [0, 1, 2, 12, 17, 21, 6, 3, 4, 7, 8]
noncomputable def b93 : Code := match Try.f93.body with | some c => c | none => .skip
theorem t93 : trCode ⟨Try.prog, K93, [], 22, none⟩ b93 = some c93 := by kernel_rfl
theorem go93 {args : List AV} {H : AHeap} {Kk : AV → AHeap → Prop} (hn : args.length = 3) (h : AGo ⟨Try.prog, K93, [], 22, none⟩ H.length [.code c93] (RetP [.t (.g 6)] H.length Kk) ⟨[], argsG 0 args⟩ H) : ACalls Try.prog 93 args H Kk :=
  ACalls_of Try.func93 (c := b93) rfl (by kernel_rfl) t93 (rs := [.t (.g 6)]) (by kernel_rfl) (by rw [hn]; exact Nat.le_of_ble_eq_true rfl) (by rw [hn]; rfl) (h.weaken (fun _ _ => RetP.hands) (by simp))

/-- sastrugi/bear.Speed -/
def c46 : ACode :=
  (.seq
(.reg [
  ⟨(some (true, 4)), .box (.g 0), none⟩,
  ⟨(some (true, 5)), .box (.g 1), none⟩,
  ⟨(some (true, 8)), .mv (.c (.lit (.int .i64 0))), none⟩,
  ⟨(some (true, 9)), .mv (.c (.lit (.int .i64 0))), none⟩])
(.seq
(.seq
(.reg [
  ⟨(some (false, 11)), .ld (some 11) (.g 4), none⟩,
  ⟨(some (false, 12)), .ld (some 2) (.g 5), none⟩,
  ⟨(some (false, 13)), .mv (.g 2), none⟩,
  ⟨(some (false, 14)), .call (.c (.fn 93 [])) [.l 11, .l 12, .l 13], none⟩,
  ⟨(some (true, 10)), .mv (.l 14), none⟩])
(.seq
(.reg [
  ⟨(some (false, 15)), .mv (.g 10), none⟩,
  ⟨(some (true, 16)), .bin .neq (.l 15) (.c (.lit (.int .i64 0))), none⟩])
(.cond (.g 16)
(.seq
(.reg [
  ⟨(some (false, 17)), .mv (.g 10), none⟩,
  ⟨(some (true, 8)), .mv (.c (.lit (.int .i64 0))), none⟩,
  ⟨(some (true, 9)), .mv (.l 17), none⟩])
.ret)
.skip)))
(.seq
(.seq
(.reg [
  ⟨(some (false, 18)), .mv (.g 3), none⟩,
  ⟨(some (false, 19)), .call (.c (.fn 94 [])) [.l 18, .c (.lit (.int .i64 0)), .c (.lit (.int .i64 1000))], none⟩,
  ⟨(some (true, 20)), .un .not (.l 19), none⟩])
(.cond (.g 20)
(.seq
(.reg [
  ⟨(some (true, 8)), .mv (.c (.lit (.int .i64 0))), none⟩,
  ⟨(some (true, 9)), .mv (.c (.lit (.int .i64 2))), none⟩])
.ret)
.skip))
(.seq
(.draw [
  ⟨⟨(some (false, 21)), .ld (some 11) (.g 4), none⟩, 0, false, []⟩,
  ⟨⟨(some (false, 22)), .mv (.g 2), none⟩, 1, false, []⟩,
  ⟨⟨(some (false, 24)), .mv (.g 3), none⟩, 3, false, []⟩,
  ⟨⟨(some (false, 25)), .ld (some 2) (.g 5), none⟩, 4, false, []⟩,
  ⟨⟨(some (false, 23)), .call (.c (.fn 95 [])) [.l 21, .l 22], none⟩, 2, false, []⟩,
  ⟨⟨(some (false, 26)), .call (.c (.fn 96 [])) [.l 23, .l 24, .l 25], none⟩, 5, false, []⟩,
  ⟨⟨(some (true, 8)), .mv (.l 26), none⟩, 6, false, []⟩,
  ⟨⟨(some (true, 9)), .mv (.c (.lit (.int .i64 0))), none⟩, 7, false, []⟩])
.ret))))
def K46 : List Nat := [0, 1, 2, 3, 16, 20, 8, 9, 4, 5, 10]
noncomputable def b46 : Code := match Try.f46.body with | some c => c | none => .skip
theorem t46 : trCode ⟨Try.prog, K46, [], 27, none⟩ b46 = some c46 := by kernel_rfl
theorem go46 {args : List AV} {H : AHeap} {Kk : AV → AHeap → Prop} (hn : args.length = 4) (h : AGo ⟨Try.prog, K46, [], 27, none⟩ H.length [.code c46] (RetP [.t (.g 8), .t (.g 9)] H.length Kk) ⟨[], argsG 0 args⟩ H) : ACalls Try.prog 46 args H Kk :=
  ACalls_of Try.func46 (c := b46) rfl (by kernel_rfl) t46 (rs := [.t (.g 8), .t (.g 9)]) (by kernel_rfl) (by rw [hn]; exact Nat.le_of_ble_eq_true rfl) (by rw [hn]; rfl) (h.weaken (fun _ _ => RetP.hands) (by simp))

/-- sastrugi/sastrugiref03.far -/
def c142 : ACode :=
  (.seq
(.reg [
  ⟨(some (true, 4)), .mv (.c (.lit (.int .i64 0))), none⟩])
(.seq
(.reg [
  ⟨(some (false, 5)), .mv (.g 0), none⟩,
  ⟨(some (false, 6)), .mv (.g 1), none⟩,
  ⟨(some (false, 7)), .bin .sub (.l 5) (.l 6), none⟩,
  ⟨(some (false, 8)), .mv (.g 1), none⟩,
  ⟨(some (false, 9)), .mv (.g 0), none⟩,
  ⟨(some (false, 10)), .bin .sub (.l 8) (.l 9), none⟩,
  ⟨(some (false, 11)), .mx [.l 7, .l 10], none⟩,
  ⟨(some (true, 4)), .mv (.l 11), none⟩])
.ret))
def K142 : List Nat := [0, 1, 4]
noncomputable def b142 : Code := match Try.f142.body with | some c => c | none => .skip
theorem t142 : trCode ⟨Try.prog, K142, [], 12, none⟩ b142 = some c142 := by kernel_rfl
theorem go142 {args : List AV} {H : AHeap} {Kk : AV → AHeap → Prop} (hn : args.length = 2) (h : AGo ⟨Try.prog, K142, [], 12, none⟩ H.length [.code c142] (RetP [.t (.g 4)] H.length Kk) ⟨[], argsG 0 args⟩ H) : ACalls Try.prog 142 args H Kk :=
  ACalls_of Try.func142 (c := b142) rfl (by kernel_rfl) t142 (rs := [.t (.g 4)]) (by kernel_rfl) (by rw [hn]; exact Nat.le_of_ble_eq_true rfl) (by rw [hn]; rfl) (h.weaken (fun _ _ => RetP.hands) (by simp))

/-- sastrugi/sastrugiref03.may -/
def c134 : ACode :=
  (.seq
(.reg [
  ⟨(some (true, 3)), .box (.g 0), none⟩,
  ⟨(some (true, 6)), .mv (.c (.lit (.bool false))), none⟩])
(.seq
(.seq
(.reg [
  ⟨(some (true, 7)), .mv (.c (.lit (.int .i64 0))), none⟩])
(.block 0
(.loop
(.seq
(.seq
(.reg [
  ⟨(some (false, 8)), .mv (.g 7), none⟩,
  ⟨(some (false, 9)), .mv (.g 1), none⟩,
  ⟨(some (false, 10)), .len (.l 9), none⟩,
  ⟨(some (true, 11)), .bin .lss (.l 8) (.l 10), none⟩])
(.cond (.g 11)
.skip
(.exit 0)))
(.seq
(.block 1
(.seq
(.draw [
  ⟨⟨(some (false, 14)), .mv (.g 2), none⟩, 0, false, []⟩,
  ⟨⟨(some (false, 15)), .fa (.g 3) 4, none⟩, 1, false, []⟩,
  ⟨⟨(some (false, 16)), .ld none (.l 15), none⟩, 2, false, []⟩,
  ⟨⟨(some (false, 17)), .bin .add (.l 14) (.l 16), none⟩, 3, false, []⟩,
  ⟨⟨(some (false, 18)), .mv (.g 1), none⟩, 4, false, []⟩,
  ⟨⟨(some (false, 19)), .mv (.g 7), none⟩, 5, false, []⟩,
  ⟨⟨(some (false, 20)), .ia 2 (.l 18) (.l 19), none⟩, 6, false, []⟩,
  ⟨⟨(some (false, 21)), .fa (.l 20) 0, none⟩, 7, false, []⟩,
  ⟨⟨(some (false, 22)), .ld none (.l 21), none⟩, 8, false, []⟩,
  ⟨⟨(some (false, 23)), .bin .geq (.l 17) (.l 22), none⟩, 9, false, []⟩,
  ⟨⟨(some (false, 24)), .mv (.l 23), none⟩, 10, false, []⟩,
  ⟨⟨(some (false, 25)), .mv (.g 2), (some (.l 24, true))⟩, 11, false, []⟩,
  ⟨⟨(some (false, 26)), .fa (.g 3) 4, (some (.l 24, true))⟩, 12, false, []⟩,
  ⟨⟨(some (false, 27)), .ld none (.l 26), (some (.l 24, true))⟩, 13, false, []⟩,
  ⟨⟨(some (false, 28)), .bin .sub (.l 25) (.l 27), (some (.l 24, true))⟩, 14, false, []⟩,
  ⟨⟨(some (false, 29)), .mv (.g 1), (some (.l 24, true))⟩, 15, false, []⟩,
  ⟨⟨(some (false, 30)), .mv (.g 7), (some (.l 24, true))⟩, 16, false, []⟩,
  ⟨⟨(some (false, 31)), .ia 2 (.l 29) (.l 30), (some (.l 24, true))⟩, 17, false, []⟩,
  ⟨⟨(some (false, 32)), .fa (.l 31) 1, (some (.l 24, true))⟩, 18, false, []⟩,
  ⟨⟨(some (false, 33)), .ld none (.l 32), (some (.l 24, true))⟩, 19, false, []⟩,
  ⟨⟨(some (false, 34)), .bin .leq (.l 28) (.l 33), (some (.l 24, true))⟩, 20, false, []⟩,
  ⟨⟨(some (true, 35)), .pick (.l 24) (.l 34) (.c (.lit (.bool false))), none⟩, 21, false, []⟩])
(.cond (.g 35)
(.seq
(.reg [
  ⟨(some (true, 6)), .mv (.c (.lit (.bool true))), none⟩])
.ret)
.skip)))
(.reg [
  ⟨(some (false, 12)), .mv (.g 7), none⟩,
  ⟨(some (false, 13)), .bin .add (.l 12) (.c (.lit (.int .i64 1))), none⟩,
  ⟨(some (true, 7)), .mv (.l 13), none⟩]))))))
(.seq
(.reg [
  ⟨(some (true, 6)), .mv (.c (.lit (.bool false))), none⟩])
.ret)))
def K134 : List Nat := [0, 1, 2, 11, 35, 6, 3, 7]
noncomputable def b134 : Code := match Try.f134.body with | some c => c | none => .skip
theorem t134 : trCode ⟨Try.prog, K134, [], 36, none⟩ b134 = some c134 := by kernel_rfl
theorem go134 {args : List AV} {H : AHeap} {Kk : AV → AHeap → Prop} (hn : args.length = 3) (h : AGo ⟨Try.prog, K134, [], 36, none⟩ H.length [.code c134] (RetP [.t (.g 6)] H.length Kk) ⟨[], argsG 0 args⟩ H) : ACalls Try.prog 134 args H Kk :=
  ACalls_of Try.func134 (c := b134) rfl (by kernel_rfl) t134 (rs := [.t (.g 6)]) (by kernel_rfl) (by rw [hn]; exact Nat.le_of_ble_eq_true rfl) (by rw [hn]; rfl) (h.weaken (fun _ _ => RetP.hands) (by simp))

/-- sastrugi/sastrugiref03.must -/
def c135 : ACode :=
  (.seq
(.reg [
  ⟨(some (true, 3)), .box (.g 0), none⟩,
  ⟨(some (true, 6)), .mv (.c (.lit (.bool false))), none⟩])
(.seq
(.seq
(.reg [
  ⟨(some (true, 7)), .mv (.c (.lit (.int .i64 0))), none⟩])
(.block 0
(.loop
(.seq
(.seq
(.reg [
  ⟨(some (false, 8)), .mv (.g 7), none⟩,
  ⟨(some (false, 9)), .mv (.g 1), none⟩,
  ⟨(some (false, 10)), .len (.l 9), none⟩,
  ⟨(some (true, 11)), .bin .lss (.l 8) (.l 10), none⟩])
(.cond (.g 11)
.skip
(.exit 0)))
(.seq
(.block 1
(.seq
(.draw [
  ⟨⟨(some (false, 14)), .mv (.g 2), none⟩, 0, false, []⟩,
  ⟨⟨(some (false, 15)), .mv (.g 1), none⟩, 1, false, []⟩,
  ⟨⟨(some (false, 16)), .mv (.g 7), none⟩, 2, false, []⟩,
  ⟨⟨(some (false, 17)), .ia 2 (.l 15) (.l 16), none⟩, 3, false, []⟩,
  ⟨⟨(some (false, 18)), .fa (.l 17) 0, none⟩, 4, false, []⟩,
  ⟨⟨(some (false, 19)), .ld none (.l 18), none⟩, 5, false, []⟩,
  ⟨⟨(some (false, 21)), .fa (.g 3) 4, none⟩, 7, false, []⟩,
  ⟨⟨(some (false, 22)), .ld none (.l 21), none⟩, 8, false, []⟩,
  ⟨⟨(some (false, 20)), .call (.c (.fn 142 [])) [.l 14, .l 19], none⟩, 6, false, []⟩,
  ⟨⟨(some (false, 23)), .bin .leq (.l 20) (.l 22), none⟩, 9, false, []⟩,
  ⟨⟨(some (false, 24)), .mv (.l 23), none⟩, 10, false, []⟩,
  ⟨⟨(some (false, 25)), .mv (.g 2), (some (.l 24, true))⟩, 11, false, []⟩,
  ⟨⟨(some (false, 26)), .mv (.g 1), (some (.l 24, true))⟩, 12, false, []⟩,
  ⟨⟨(some (false, 27)), .mv (.g 7), (some (.l 24, true))⟩, 13, false, []⟩,
  ⟨⟨(some (false, 28)), .ia 2 (.l 26) (.l 27), (some (.l 24, true))⟩, 14, false, []⟩,
  ⟨⟨(some (false, 29)), .fa (.l 28) 1, (some (.l 24, true))⟩, 15, false, []⟩,
  ⟨⟨(some (false, 30)), .ld none (.l 29), (some (.l 24, true))⟩, 16, false, []⟩,
  ⟨⟨(some (false, 32)), .fa (.g 3) 4, (some (.l 24, true))⟩, 18, false, []⟩,
  ⟨⟨(some (false, 33)), .ld none (.l 32), (some (.l 24, true))⟩, 19, false, []⟩,
  ⟨⟨(some (false, 31)), .call (.c (.fn 142 [])) [.l 25, .l 30], (some (.l 24, true))⟩, 17, false, []⟩,
  ⟨⟨(some (false, 34)), .bin .leq (.l 31) (.l 33), (some (.l 24, true))⟩, 20, false, []⟩,
  ⟨⟨(some (true, 35)), .pick (.l 24) (.l 34) (.c (.lit (.bool false))), none⟩, 21, false, []⟩])
(.cond (.g 35)
(.seq
(.reg [
  ⟨(some (true, 6)), .mv (.c (.lit (.bool true))), none⟩])
.ret)
.skip)))
(.reg [
  ⟨(some (false, 12)), .mv (.g 7), none⟩,
  ⟨(some (false, 13)), .bin .add (.l 12) (.c (.lit (.int .i64 1))), none⟩,
  ⟨(some (true, 7)), .mv (.l 13), none⟩]))))))
(.seq
(.reg [
  ⟨(some (true, 6)), .mv (.c (.lit (.bool false))), none⟩])
.ret)))
def K135 : List Nat := [0, 1, 2, 11, 35, 6, 3, 7]
noncomputable def b135 : Code := match Try.f135.body with | some c => c | none => .skip
theorem t135 : trCode ⟨Try.prog, K135, [], 36, none⟩ b135 = some c135 := by kernel_rfl
theorem go135 {args : List AV} {H : AHeap} {Kk : AV → AHeap → Prop} (hn : args.length = 3) (h : AGo ⟨Try.prog, K135, [], 36, none⟩ H.length [.code c135] (RetP [.t (.g 6)] H.length Kk) ⟨[], argsG 0 args⟩ H) : ACalls Try.prog 135 args H Kk :=
  ACalls_of Try.func135 (c := b135) rfl (by kernel_rfl) t135 (rs := [.t (.g 6)]) (by kernel_rfl) (by rw [hn]; exact Nat.le_of_ble_eq_true rfl) (by rw [hn]; rfl) (h.weaken (fun _ _ => RetP.hands) (by simp))

/-- sastrugi/sastrugiref03.thickness -/
def c133 : ACode :=
  (.seq
(.reg [
  ⟨(some (true, 3)), .box (.g 0), none⟩,
  ⟨(some (true, 6)), .mv (.c (.lit (.int .i64 0))), none⟩])
(.seq
(.seq
(.reg [
  ⟨(some (true, 7)), .mv (.g 2), none⟩])
(.cond (.g 7)
(.seq
(.reg [
  ⟨(some (false, 8)), .mv (.g 1), none⟩,
  ⟨(some (false, 9)), .fa (.g 3) 5, none⟩,
  ⟨(some (false, 10)), .ld none (.l 9), none⟩,
  ⟨(some (false, 11)), .bin .mul (.l 8) (.l 10), none⟩,
  ⟨(some (false, 12)), .bin .quo (.l 11) (.c (.lit (.int .i64 1000000))), none⟩,
  ⟨(some (true, 6)), .mv (.l 12), none⟩])
.ret)
.skip))
(.seq
(.reg [
  ⟨(some (false, 13)), .mv (.g 1), none⟩,
  ⟨(some (true, 6)), .mv (.l 13), none⟩])
.ret)))
def K133 : List Nat := [0, 1, 2, 7, 6, 3]
noncomputable def b133 : Code := match Try.f133.body with | some c => c | none => .skip
theorem t133 : trCode ⟨Try.prog, K133, [], 14, none⟩ b133 = some c133 := by kernel_rfl
theorem go133 {args : List AV} {H : AHeap} {Kk : AV → AHeap → Prop} (hn : args.length = 3) (h : AGo ⟨Try.prog, K133, [], 14, none⟩ H.length [.code c133] (RetP [.t (.g 6)] H.length Kk) ⟨[], argsG 0 args⟩ H) : ACalls Try.prog 133 args H Kk :=
  ACalls_of Try.func133 (c := b133) rfl (by kernel_rfl) t133 (rs := [.t (.g 6)]) (by kernel_rfl) (by rw [hn]; exact Nat.le_of_ble_eq_true rfl) (by rw [hn]; rfl) (h.weaken (fun _ _ => RetP.hands) (by simp))

/-- sastrugi/sastrugiref03.Borne -/
def c132 : ACode :=
  (.seq
(.reg [
  ⟨(some (true, 8)), .mv (.c (.lit (.bool false))), none⟩])
(.seq
(.reg [
  ⟨(some (false, 9)), .mv (.g 0), none⟩,
  ⟨(some (false, 10)), .bin .mul (.l 9) (.c (.lit (.int .i64 1000000))), none⟩,
  ⟨(some (false, 11)), .mv (.g 1), none⟩,
  ⟨(some (false, 12)), .mv (.g 2), none⟩,
  ⟨(some (false, 13)), .bin .mul (.l 11) (.l 12), none⟩,
  ⟨(some (false, 14)), .mv (.g 2), none⟩,
  ⟨(some (false, 15)), .bin .mul (.l 13) (.l 14), none⟩,
  ⟨(some (false, 16)), .mv (.g 3), none⟩,
  ⟨(some (false, 17)), .bin .mul (.l 15) (.l 16), none⟩,
  ⟨(some (false, 18)), .bin .leq (.l 10) (.l 17), none⟩,
  ⟨(some (true, 8)), .mv (.l 18), none⟩])
.ret))
def K132 : List Nat := [0, 1, 2, 3, 8]
noncomputable def b132 : Code := match Try.f132.body with | some c => c | none => .skip
theorem t132 : trCode ⟨Try.prog, K132, [], 19, none⟩ b132 = some c132 := by kernel_rfl
theorem go132 {args : List AV} {H : AHeap} {Kk : AV → AHeap → Prop} (hn : args.length = 4) (h : AGo ⟨Try.prog, K132, [], 19, none⟩ H.length [.code c132] (RetP [.t (.g 8)] H.length Kk) ⟨[], argsG 0 args⟩ H) : ACalls Try.prog 132 args H Kk :=
  ACalls_of Try.func132 (c := b132) rfl (by kernel_rfl) t132 (rs := [.t (.g 8)]) (by kernel_rfl) (by rw [hn]; exact Nat.le_of_ble_eq_true rfl) (by rw [hn]; rfl) (h.weaken (fun _ _ => RetP.hands) (by simp))

/-- sastrugi/sastrugiref03.burdens -/
def c131 : ACode :=
  (.seq
(.reg [
  ⟨(some (true, 3)), .box (.g 0), none⟩,
  ⟨(some (true, 6)), .new [.int .i64 0, .int .i64 0], none⟩])
(.seq
(.reg [
  ⟨(some (true, 7)), .new [.int .i64 0, .int .i64 0], none⟩])
(.seq
(.seq
(.reg [
  ⟨(some (true, 8)), .mv (.c (.lit (.int .i64 0))), none⟩])
(.block 0
(.loop
(.seq
(.seq
(.reg [
  ⟨(some (false, 10)), .mv (.g 8), none⟩,
  ⟨(some (false, 11)), .mv (.g 1), none⟩,
  ⟨(some (false, 12)), .len (.l 11), none⟩,
  ⟨(some (true, 13)), .bin .lss (.l 10) (.l 12), none⟩])
(.cond (.g 13)
.skip
(.exit 0)))
(.seq
(.block 1
(.seq
(.draw [
  ⟨⟨(some (false, 16)), .fa (.g 3) 2, none⟩, 0, false, []⟩,
  ⟨⟨(some (false, 17)), .ld none (.l 16), none⟩, 1, false, []⟩,
  ⟨⟨(some (false, 18)), .mv (.g 1), none⟩, 2, false, []⟩,
  ⟨⟨(some (false, 19)), .mv (.g 8), none⟩, 3, false, []⟩,
  ⟨⟨(some (false, 20)), .ia 4 (.l 18) (.l 19), none⟩, 4, false, []⟩,
  ⟨⟨(some (false, 21)), .fa (.l 20) 0, none⟩, 5, false, []⟩,
  ⟨⟨(some (false, 22)), .ld none (.l 21), none⟩, 6, false, []⟩,
  ⟨⟨(some (false, 23)), .mv (.g 1), none⟩, 7, false, []⟩,
  ⟨⟨(some (false, 24)), .mv (.g 2), none⟩, 8, false, []⟩,
  ⟨⟨(some (false, 25)), .ia 4 (.l 23) (.l 24), none⟩, 9, false, []⟩,
  ⟨⟨(some (false, 26)), .fa (.l 25) 0, none⟩, 10, false, []⟩,
  ⟨⟨(some (false, 27)), .ld none (.l 26), none⟩, 11, false, []⟩,
  ⟨⟨(some (false, 28)), .call (.c (.fn 142 [])) [.l 22, .l 27], none⟩, 12, false, []⟩,
  ⟨⟨(some (false, 29)), .call (.c (.fn 130 [])) [.l 17, .l 28], none⟩, 13, false, []⟩,
  ⟨⟨(some (true, 9)), .mv (.l 29), none⟩, 14, false, []⟩])
(.draw [
  ⟨⟨(some (false, 30)), .fa (.g 7) 0, none⟩, 0, false, []⟩,
  ⟨⟨(some (false, 31)), .ld none (.l 30), none⟩, 1, false, []⟩,
  ⟨⟨(some (false, 32)), .mv (.g 1), none⟩, 2, false, []⟩,
  ⟨⟨(some (false, 33)), .mv (.g 8), none⟩, 3, false, []⟩,
  ⟨⟨(some (false, 34)), .ia 4 (.l 32) (.l 33), none⟩, 4, false, []⟩,
  ⟨⟨(some (false, 35)), .fa (.l 34) 1, none⟩, 5, false, []⟩,
  ⟨⟨(some (false, 36)), .fa (.l 35) 0, none⟩, 6, false, []⟩,
  ⟨⟨(some (false, 37)), .ld none (.l 36), none⟩, 7, false, []⟩,
  ⟨⟨(some (false, 38)), .mv (.g 9), none⟩, 8, false, []⟩,
  ⟨⟨(some (false, 39)), .bin .mul (.l 37) (.l 38), none⟩, 9, false, []⟩,
  ⟨⟨(some (false, 40)), .bin .add (.l 31) (.l 39), none⟩, 10, false, []⟩,
  ⟨⟨(some (false, 41)), .fa (.g 7) 1, none⟩, 11, false, []⟩,
  ⟨⟨(some (false, 42)), .ld none (.l 41), none⟩, 12, false, []⟩,
  ⟨⟨(some (false, 43)), .mv (.g 1), none⟩, 13, false, []⟩,
  ⟨⟨(some (false, 44)), .mv (.g 8), none⟩, 14, false, []⟩,
  ⟨⟨(some (false, 45)), .ia 4 (.l 43) (.l 44), none⟩, 15, false, []⟩,
  ⟨⟨(some (false, 46)), .fa (.l 45) 1, none⟩, 16, false, []⟩,
  ⟨⟨(some (false, 47)), .fa (.l 46) 1, none⟩, 17, false, []⟩,
  ⟨⟨(some (false, 48)), .ld none (.l 47), none⟩, 18, false, []⟩,
  ⟨⟨(some (false, 49)), .mv (.g 9), none⟩, 19, false, []⟩,
  ⟨⟨(some (false, 50)), .bin .mul (.l 48) (.l 49), none⟩, 20, false, []⟩,
  ⟨⟨(some (false, 51)), .bin .add (.l 42) (.l 50), none⟩, 21, false, []⟩,
  ⟨⟨(some (false, 52)), .mk [.int .i64 0, .int .i64 0] [(0, 1, .l 40), (1, 1, .l 51)], none⟩, 22, false, []⟩,
  ⟨⟨none, .st 2 (.g 7) (.l 52), none⟩, 23, true, []⟩])))
(.reg [
  ⟨(some (false, 14)), .mv (.g 8), none⟩,
  ⟨(some (false, 15)), .bin .add (.l 14) (.c (.lit (.int .i64 1))), none⟩,
  ⟨(some (true, 8)), .mv (.l 15), none⟩]))))))
(.seq
(.reg [
  ⟨(some (false, 53)), .ld (some 2) (.g 7), none⟩,
  ⟨none, .st 2 (.g 6) (.l 53), none⟩])
.ret))))
def K131 : List Nat := [0, 1, 2, 13, 6, 3, 7, 8, 9]
noncomputable def b131 : Code := match Try.f131.body with | some c => c | none => .skip
theorem t131 : trCode ⟨Try.prog, K131, [], 54, none⟩ b131 = some c131 := by kernel_rfl
theorem go131 {args : List AV} {H : AHeap} {Kk : AV → AHeap → Prop} (hn : args.length = 3) (h : AGo ⟨Try.prog, K131, [], 54, none⟩ H.length [.code c131] (RetP [.cell (.g 6) (some 2)] H.length Kk) ⟨[], argsG 0 args⟩ H) : ACalls Try.prog 131 args H Kk :=
  ACalls_of Try.func131 (c := b131) rfl (by kernel_rfl) t131 (rs := [.cell (.g 6) (some 2)]) (by kernel_rfl) (by rw [hn]; exact Nat.le_of_ble_eq_true rfl) (by rw [hn]; rfl) (h.weaken (fun _ _ => RetP.hands) (by simp))

/-- sastrugi/sastrugiref03.verdict -/
def c90 : ACode :=
  (.seq
(.reg [
  ⟨(some (true, 5)), .box (.g 0), none⟩,
  ⟨(some (true, 10)), .mv (.c (.lit (.int .i64 0))), none⟩])
(.seq
(.reg [
  ⟨(some (false, 15)), .mv (.g 3), none⟩,
  ⟨(some (false, 16)), .mv (.g 4), none⟩,
  ⟨(some (false, 17)), .ia 4 (.l 15) (.l 16), none⟩,
  ⟨(some (false, 18)), .ld (some 4) (.l 17), none⟩,
  ⟨(some (true, 11)), .new [.int .i64 0, .int .i64 0, .int .i64 0, .int .i64 0], none⟩,
  ⟨none, .st 4 (.g 11) (.l 18), none⟩])
(.seq
(.draw [
  ⟨⟨(some (false, 19)), .mv (.g 1), none⟩, 0, false, []⟩,
  ⟨⟨(some (false, 20)), .fa (.g 11) 0, none⟩, 1, false, []⟩,
  ⟨⟨(some (false, 21)), .ld none (.l 20), none⟩, 2, false, []⟩,
  ⟨⟨(some (false, 22)), .bin .quo (.l 21) (.c (.lit (.int .i64 100))), none⟩, 3, false, []⟩,
  ⟨⟨(some (false, 23)), .ia 2 (.l 19) (.l 22), none⟩, 4, false, []⟩,
  ⟨⟨(some (false, 24)), .ld (some 2) (.l 23), none⟩, 5, false, []⟩,
  ⟨⟨(some (false, 25)), .fa (.g 5) 3, none⟩, 6, false, []⟩,
  ⟨⟨(some (false, 26)), .ld none (.l 25), none⟩, 7, false, []⟩,
  ⟨⟨(some (false, 27)), .fa (.g 11) 3, none⟩, 8, false, []⟩,
  ⟨⟨(some (false, 28)), .ld none (.l 27), none⟩, 9, false, []⟩,
  ⟨⟨(some (false, 30)), .ld (some 11) (.g 5), none⟩, 11, false, []⟩,
  ⟨⟨(some (false, 31)), .mv (.g 3), none⟩, 12, false, []⟩,
  ⟨⟨(some (false, 32)), .mv (.g 4), none⟩, 13, false, []⟩,
  ⟨⟨(some (true, 12)), .new [.int .i64 0, .int .i64 0], none⟩, 15, false, []⟩,
  ⟨⟨(some (true, 14)), .new [.int .i64 0, .int .i64 0], none⟩, 16, false, []⟩,
  ⟨⟨(some (false, 29)), .call (.c (.fn 130 [])) [.l 26, .l 28], none⟩, 10, false, []⟩,
  ⟨⟨(some (false, 33)), .call (.c (.fn 131 [])) [.l 30, .l 31, .l 32], none⟩, 14, false, []⟩,
  ⟨⟨none, .st 2 (.g 12) (.l 24), none⟩, 17, false, [15, 16]⟩,
  ⟨⟨(some (true, 13)), .mv (.l 29), none⟩, 18, false, [15, 16]⟩,
  ⟨⟨none, .st 2 (.g 14) (.l 33), none⟩, 19, true, [15, 16]⟩])
(.seq
(.seq
(.draw [
  ⟨⟨(some (false, 34)), .fa (.g 14) 1, none⟩, 0, false, []⟩,
  ⟨⟨(some (false, 35)), .ld none (.l 34), none⟩, 1, false, []⟩,
  ⟨⟨(some (false, 36)), .fa (.g 5) 0, none⟩, 2, false, []⟩,
  ⟨⟨(some (false, 37)), .fa (.l 36) 0, none⟩, 3, false, []⟩,
  ⟨⟨(some (false, 38)), .ld none (.l 37), none⟩, 4, false, []⟩,
  ⟨⟨(some (false, 39)), .ld (some 11) (.g 5), none⟩, 5, false, []⟩,
  ⟨⟨(some (false, 40)), .fa (.g 12) 0, none⟩, 6, false, []⟩,
  ⟨⟨(some (false, 41)), .ld none (.l 40), none⟩, 7, false, []⟩,
  ⟨⟨(some (false, 42)), .ld (some 11) (.g 5), none⟩, 8, false, []⟩,
  ⟨⟨(some (false, 43)), .mv (.g 2), none⟩, 9, false, []⟩,
  ⟨⟨(some (false, 44)), .fa (.g 11) 0, none⟩, 10, false, []⟩,
  ⟨⟨(some (false, 45)), .ld none (.l 44), none⟩, 11, false, []⟩,
  ⟨⟨(some (false, 48)), .mv (.g 13), none⟩, 14, false, []⟩,
  ⟨⟨(some (false, 46)), .call (.c (.fn 134 [])) [.l 42, .l 43, .l 45], none⟩, 12, false, []⟩,
  ⟨⟨(some (false, 47)), .call (.c (.fn 133 [])) [.l 39, .l 41, .l 46], none⟩, 13, false, []⟩,
  ⟨⟨(some (true, 49)), .call (.c (.fn 132 [])) [.l 35, .l 38, .l 47, .l 48], none⟩, 15, false, []⟩])
(.cond (.g 49)
(.seq
(.reg [
  ⟨(some (true, 10)), .mv (.c (.lit (.int .i64 1))), none⟩])
.ret)
.skip))
(.seq
(.seq
(.draw [
  ⟨⟨(some (false, 50)), .fa (.g 14) 0, none⟩, 0, false, []⟩,
  ⟨⟨(some (false, 51)), .ld none (.l 50), none⟩, 1, false, []⟩,
  ⟨⟨(some (false, 52)), .fa (.g 5) 0, none⟩, 2, false, []⟩,
  ⟨⟨(some (false, 53)), .fa (.l 52) 1, none⟩, 3, false, []⟩,
  ⟨⟨(some (false, 54)), .ld none (.l 53), none⟩, 4, false, []⟩,
  ⟨⟨(some (false, 55)), .ld (some 11) (.g 5), none⟩, 5, false, []⟩,
  ⟨⟨(some (false, 56)), .fa (.g 12) 1, none⟩, 6, false, []⟩,
  ⟨⟨(some (false, 57)), .ld none (.l 56), none⟩, 7, false, []⟩,
  ⟨⟨(some (false, 58)), .ld (some 11) (.g 5), none⟩, 8, false, []⟩,
  ⟨⟨(some (false, 59)), .mv (.g 2), none⟩, 9, false, []⟩,
  ⟨⟨(some (false, 60)), .fa (.g 11) 0, none⟩, 10, false, []⟩,
  ⟨⟨(some (false, 61)), .ld none (.l 60), none⟩, 11, false, []⟩,
  ⟨⟨(some (false, 64)), .mv (.g 13), none⟩, 14, false, []⟩,
  ⟨⟨(some (false, 62)), .call (.c (.fn 135 [])) [.l 58, .l 59, .l 61], none⟩, 12, false, []⟩,
  ⟨⟨(some (false, 63)), .call (.c (.fn 133 [])) [.l 55, .l 57, .l 62], none⟩, 13, false, []⟩,
  ⟨⟨(some (false, 65)), .call (.c (.fn 132 [])) [.l 51, .l 54, .l 63, .l 64], none⟩, 15, false, []⟩,
  ⟨⟨(some (true, 66)), .un .not (.l 65), none⟩, 16, false, []⟩])
(.cond (.g 66)
(.seq
(.reg [
  ⟨(some (true, 10)), .mv (.c (.lit (.int .i64 2))), none⟩])
.ret)
.skip))
(.seq
(.reg [
  ⟨(some (true, 10)), .mv (.c (.lit (.int .i64 3))), none⟩])
.ret))))))
def K90 : List Nat := [0, 1, 2, 3, 4, 49, 66, 10, 5, 11, 12, 14, 13]
noncomputable def b90 : Code := match Try.f90.body with | some c => c | none => .skip
theorem t90 : trCode ⟨Try.prog, K90, [], 67, none⟩ b90 = some c90 := by kernel_rfl
theorem go90 {args : List AV} {H : AHeap} {Kk : AV → AHeap → Prop} (hn : args.length = 5) (h : AGo ⟨Try.prog, K90, [], 67, none⟩ H.length [.code c90] (RetP [.t (.g 10)] H.length Kk) ⟨[], argsG 0 args⟩ H) : ACalls Try.prog 90 args H Kk :=
  ACalls_of Try.func90 (c := b90) rfl (by kernel_rfl) t90 (rs := [.t (.g 10)]) (by kernel_rfl) (by rw [hn]; exact Nat.le_of_ble_eq_true rfl) (by rw [hn]; rfl) (h.weaken (fun _ _ => RetP.hands) (by simp))

/-- sastrugi/sastrugiref03.Holds -/
def c26 : ACode :=
  (.seq
(.reg [
  ⟨(some (true, 4)), .box (.g 0), none⟩,
  ⟨(some (true, 8)), .mv (.c (.lit (.slice none 0 0))), none⟩,
  ⟨(some (true, 9)), .mv (.c (.lit (.int .i64 0))), none⟩])
(.seq
(.seq
(.reg [
  ⟨(some (false, 14)), .ld (some 11) (.g 4), none⟩,
  ⟨(some (false, 15)), .mv (.g 1), none⟩,
  ⟨(some (false, 16)), .mv (.g 2), none⟩,
  ⟨(some (false, 17)), .call (.c (.fn 88 [])) [.l 14, .l 15, .l 16], none⟩,
  ⟨(some (true, 10)), .mv (.l 17), none⟩])
(.seq
(.reg [
  ⟨(some (false, 18)), .mv (.g 10), none⟩,
  ⟨(some (true, 19)), .bin .neq (.l 18) (.c (.lit (.int .i64 0))), none⟩])
(.cond (.g 19)
(.seq
(.reg [
  ⟨(some (false, 20)), .mv (.g 10), none⟩,
  ⟨(some (true, 8)), .mv (.c (.lit (.slice none 0 0))), none⟩,
  ⟨(some (true, 9)), .mv (.l 20), none⟩])
.ret)
.skip)))
(.seq
(.seq
(.reg [
  ⟨(some (false, 21)), .mv (.g 1), none⟩,
  ⟨(some (false, 22)), .len (.l 21), none⟩,
  ⟨(some (false, 23)), .mv (.g 3), none⟩,
  ⟨(some (false, 24)), .call (.c (.fn 89 [])) [.l 22, .l 23], none⟩,
  ⟨(some (true, 11)), .mv (.l 24), none⟩])
(.seq
(.reg [
  ⟨(some (false, 25)), .mv (.g 11), none⟩,
  ⟨(some (true, 26)), .bin .neq (.l 25) (.c (.lit (.int .i64 0))), none⟩])
(.cond (.g 26)
(.seq
(.reg [
  ⟨(some (false, 27)), .mv (.g 11), none⟩,
  ⟨(some (true, 8)), .mv (.c (.lit (.slice none 0 0))), none⟩,
  ⟨(some (true, 9)), .mv (.l 27), none⟩])
.ret)
.skip)))
(.seq
(.reg [
  ⟨(some (true, 12)), .mv (.c (.lit (.slice none 0 0))), none⟩])
(.seq
(.seq
(.reg [
  ⟨(some (true, 13)), .mv (.c (.lit (.int .i64 0))), none⟩])
(.block 0
(.loop
(.seq
(.seq
(.reg [
  ⟨(some (false, 28)), .mv (.g 13), none⟩,
  ⟨(some (false, 29)), .mv (.g 3), none⟩,
  ⟨(some (false, 30)), .len (.l 29), none⟩,
  ⟨(some (true, 31)), .bin .lss (.l 28) (.l 30), none⟩])
(.cond (.g 31)
.skip
(.exit 0)))
(.seq
(.block 1
(.reg [
  ⟨(some (false, 34)), .mv (.g 12), none⟩,
  ⟨(some (false, 35)), .ld (some 11) (.g 4), none⟩,
  ⟨(some (false, 36)), .mv (.g 1), none⟩,
  ⟨(some (false, 37)), .mv (.g 2), none⟩,
  ⟨(some (false, 38)), .mv (.g 3), none⟩,
  ⟨(some (false, 39)), .mv (.g 13), none⟩,
  ⟨(some (false, 40)), .call (.c (.fn 90 [])) [.l 35, .l 36, .l 37, .l 38, .l 39], none⟩,
  ⟨(some (false, 41)), .mks false 1 [.l 40], none⟩,
  ⟨(some (false, 42)), .app 1 8 (.l 34) (.l 41), none⟩,
  ⟨(some (true, 12)), .mv (.l 42), none⟩]))
(.reg [
  ⟨(some (false, 32)), .mv (.g 13), none⟩,
  ⟨(some (false, 33)), .bin .add (.l 32) (.c (.lit (.int .i64 1))), none⟩,
  ⟨(some (true, 13)), .mv (.l 33), none⟩]))))))
(.seq
(.reg [
  ⟨(some (false, 43)), .mv (.g 12), none⟩,
  ⟨(some (true, 8)), .mv (.l 43), none⟩,
  ⟨(some (true, 9)), .mv (.c (.lit (.int .i64 0))), none⟩])
.ret))))))
def K26 : List Nat := [0, 1, 2, 3, 19, 26, 31, 8, 9, 4, 10, 11, 12, 13]
noncomputable def b26 : Code := match Try.f26.body with | some c => c | none => .skip
theorem t26 : trCode ⟨Try.prog, K26, [], 44, none⟩ b26 = some c26 := by kernel_rfl
theorem go26 {args : List AV} {H : AHeap} {Kk : AV → AHeap → Prop} (hn : args.length = 4) (h : AGo ⟨Try.prog, K26, [], 44, none⟩ H.length [.code c26] (RetP [.t (.g 8), .t (.g 9)] H.length Kk) ⟨[], argsG 0 args⟩ H) : ACalls Try.prog 26 args H Kk :=
  ACalls_of Try.func26 (c := b26) rfl (by kernel_rfl) t26 (rs := [.t (.g 8), .t (.g 9)]) (by kernel_rfl) (by rw [hn]; exact Nat.le_of_ble_eq_true rfl) (by rw [hn]; rfl) (h.weaken (fun _ _ => RetP.hands) (by simp))

/-- sastrugi/sastrugiref03.Lane -/
def c43 : ACode :=
  (.seq
(.reg [
  ⟨(some (true, 4)), .box (.g 0), none⟩,
  ⟨(some (true, 7)), .box (.g 3), none⟩,
  ⟨(some (true, 8)), .mv (.c (.lit (.slice none 0 0))), none⟩,
  ⟨(some (true, 9)), .mv (.c (.lit (.int .i64 0))), none⟩])
(.seq
(.seq
(.reg [
  ⟨(some (false, 18)), .ld (some 11) (.g 4), none⟩,
  ⟨(some (false, 19)), .mv (.g 1), none⟩,
  ⟨(some (false, 20)), .mv (.g 2), none⟩,
  ⟨(some (false, 21)), .call (.c (.fn 88 [])) [.l 18, .l 19, .l 20], none⟩,
  ⟨(some (true, 10)), .mv (.l 21), none⟩])
(.seq
(.reg [
  ⟨(some (false, 22)), .mv (.g 10), none⟩,
  ⟨(some (true, 23)), .bin .neq (.l 22) (.c (.lit (.int .i64 0))), none⟩])
(.cond (.g 23)
(.seq
(.reg [
  ⟨(some (false, 24)), .mv (.g 10), none⟩,
  ⟨(some (true, 8)), .mv (.c (.lit (.slice none 0 0))), none⟩,
  ⟨(some (true, 9)), .mv (.l 24), none⟩])
.ret)
.skip)))
(.seq
(.seq
(.reg [
  ⟨(some (false, 25)), .ld (some 2) (.g 7), none⟩,
  ⟨(some (false, 26)), .call (.c (.fn 92 [])) [.l 25, .c (.lit (.int .i64 0)), .c (.lit (.int .i64 200000))], none⟩,
  ⟨(some (true, 11)), .mv (.l 26), none⟩])
(.seq
(.reg [
  ⟨(some (false, 27)), .mv (.g 11), none⟩,
  ⟨(some (true, 28)), .bin .neq (.l 27) (.c (.lit (.int .i64 0))), none⟩])
(.cond (.g 28)
(.seq
(.reg [
  ⟨(some (false, 29)), .mv (.g 11), none⟩,
  ⟨(some (true, 8)), .mv (.c (.lit (.slice none 0 0))), none⟩,
  ⟨(some (true, 9)), .mv (.l 29), none⟩])
.ret)
.skip)))
(.seq
(.reg [
  ⟨(some (true, 12)), .mv (.c (.lit (.slice none 0 0))), none⟩])
(.seq
(.seq
(.reg [
  ⟨(some (true, 13)), .mv (.c (.lit (.int .i64 0))), none⟩])
(.block 0
(.loop
(.seq
(.seq
(.reg [
  ⟨(some (false, 30)), .mv (.g 13), none⟩,
  ⟨(some (false, 31)), .mv (.g 1), none⟩,
  ⟨(some (false, 32)), .len (.l 31), none⟩,
  ⟨(some (true, 33)), .bin .lss (.l 30) (.l 32), none⟩])
(.cond (.g 33)
.skip
(.exit 0)))
(.seq
(.block 1
(.seq
(.reg [
  ⟨(some (true, 14)), .mv (.c (.lit (.int .i64 0))), none⟩,
  ⟨(some (true, 15)), .mv (.c (.lit (.int .i64 0))), none⟩])
(.seq
(.seq
(.reg [
  ⟨(some (false, 36)), .mv (.g 13), none⟩,
  ⟨(some (false, 37)), .bin .mul (.c (.lit (.int .i64 100))) (.l 36), none⟩,
  ⟨(some (true, 16)), .mv (.l 37), none⟩])
(.block 2
(.loop
(.seq
(.seq
(.reg [
  ⟨(some (false, 38)), .mv (.g 16), none⟩,
  ⟨(some (false, 39)), .mv (.g 13), none⟩,
  ⟨(some (false, 40)), .bin .mul (.c (.lit (.int .i64 100))) (.l 39), none⟩,
  ⟨(some (false, 41)), .bin .add (.l 40) (.c (.lit (.int .i64 100))), none⟩,
  ⟨(some (true, 42)), .bin .lss (.l 38) (.l 41), none⟩])
(.cond (.g 42)
.skip
(.exit 2)))
(.seq
(.block 3
(.seq
(.reg [
  ⟨(some (false, 45)), .ld (some 11) (.g 4), none⟩,
  ⟨(some (false, 46)), .mv (.g 1), none⟩,
  ⟨(some (false, 47)), .mv (.g 2), none⟩,
  ⟨(some (false, 48)), .mv (.g 16), none⟩,
  ⟨(some (false, 49)), .ld (some 2) (.g 7), none⟩,
  ⟨(some (false, 50)), .mk [.int .i64 0, .int .i64 0, .int .i64 0, .int .i64 0] [(0, 1, .l 48), (1, 2, .l 49)], none⟩,
  ⟨(some (false, 51)), .mks false 4 [.l 50], none⟩,
  ⟨(some (true, 52)), .call (.c (.fn 90 [])) [.l 45, .l 46, .l 47, .l 51, .c (.lit (.int .i64 0))], none⟩])
(.block 4
(.seq
(.reg [
  ⟨(some (false, 54)), .bin .eql (.g 52) (.c (.lit (.int .i64 1))), none⟩,
  ⟨(some (true, 53)), .mv (.l 54), none⟩])
(.cond (.g 53)
(.reg [
  ⟨(some (false, 55)), .mv (.g 14), none⟩,
  ⟨(some (false, 56)), .bin .add (.l 55) (.c (.lit (.int .i64 1))), none⟩,
  ⟨(some (true, 14)), .mv (.l 56), none⟩])
(.seq
(.reg [
  ⟨(some (false, 58)), .bin .eql (.g 52) (.c (.lit (.int .i64 2))), none⟩,
  ⟨(some (true, 57)), .mv (.l 58), none⟩])
(.cond (.g 57)
(.reg [
  ⟨(some (false, 59)), .mv (.g 15), none⟩,
  ⟨(some (false, 60)), .bin .add (.l 59) (.c (.lit (.int .i64 1))), none⟩,
  ⟨(some (true, 15)), .mv (.l 60), none⟩])
.skip)))))))
(.reg [
  ⟨(some (false, 43)), .mv (.g 16), none⟩,
  ⟨(some (false, 44)), .bin .add (.l 43) (.c (.lit (.int .i64 1))), none⟩,
  ⟨(some (true, 16)), .mv (.l 44), none⟩]))))))
(.seq
(.reg [
  ⟨(some (true, 17)), .mv (.c (.lit (.int .i64 3))), none⟩])
(.seq
(.seq
(.reg [
  ⟨(some (false, 61)), .mv (.g 14), none⟩,
  ⟨(some (true, 62)), .bin .eql (.l 61) (.c (.lit (.int .i64 100))), none⟩])
(.cond (.g 62)
(.reg [
  ⟨(some (true, 17)), .mv (.c (.lit (.int .i64 1))), none⟩])
.skip))
(.seq
(.seq
(.reg [
  ⟨(some (false, 63)), .mv (.g 15), none⟩,
  ⟨(some (true, 64)), .bin .eql (.l 63) (.c (.lit (.int .i64 100))), none⟩])
(.cond (.g 64)
(.reg [
  ⟨(some (true, 17)), .mv (.c (.lit (.int .i64 2))), none⟩])
.skip))
(.reg [
  ⟨(some (false, 65)), .mv (.g 12), none⟩,
  ⟨(some (false, 66)), .mv (.g 17), none⟩,
  ⟨(some (false, 67)), .mks false 1 [.l 66], none⟩,
  ⟨(some (false, 68)), .app 1 8 (.l 65) (.l 67), none⟩,
  ⟨(some (true, 12)), .mv (.l 68), none⟩])))))))
(.reg [
  ⟨(some (false, 34)), .mv (.g 13), none⟩,
  ⟨(some (false, 35)), .bin .add (.l 34) (.c (.lit (.int .i64 1))), none⟩,
  ⟨(some (true, 13)), .mv (.l 35), none⟩]))))))
(.seq
(.reg [
  ⟨(some (false, 69)), .mv (.g 12), none⟩,
  ⟨(some (true, 8)), .mv (.l 69), none⟩,
  ⟨(some (true, 9)), .mv (.c (.lit (.int .i64 0))), none⟩])
.ret))))))
def K43 : List Nat := [0, 1, 2, 3, 23, 28, 33, 42, 53, 57, 62, 64, 8, 9, 4, 7, 10, 11, 12, 13, 14, 15, 16, 52, 17]
noncomputable def b43 : Code := match Try.f43.body with | some c => c | none => .skip
theorem t43 : trCode ⟨Try.prog, K43, [], 70, none⟩ b43 = some c43 := by kernel_rfl
theorem go43 {args : List AV} {H : AHeap} {Kk : AV → AHeap → Prop} (hn : args.length = 4) (h : AGo ⟨Try.prog, K43, [], 70, none⟩ H.length [.code c43] (RetP [.t (.g 8), .t (.g 9)] H.length Kk) ⟨[], argsG 0 args⟩ H) : ACalls Try.prog 43 args H Kk :=
  ACalls_of Try.func43 (c := b43) rfl (by kernel_rfl) t43 (rs := [.t (.g 8), .t (.g 9)]) (by kernel_rfl) (by rw [hn]; exact Nat.le_of_ble_eq_true rfl) (by rw [hn]; rfl) (h.weaken (fun _ _ => RetP.hands) (by simp))

/-- sastrugi/sastrugiref03.greatest -/
def c101 : ACode :=
  (.seq
(.reg [
  ⟨(some (true, 3)), .box (.g 0), none⟩,
  ⟨(some (true, 6)), .mv (.c (.lit (.int .i64 0))), none⟩])
(.seq
(.draw [
  ⟨⟨(some (false, 7)), .fa (.g 3) 0, none⟩, 0, false, []⟩,
  ⟨⟨(some (false, 8)), .fa (.l 7) 0, none⟩, 1, false, []⟩,
  ⟨⟨(some (false, 9)), .ld none (.l 8), none⟩, 2, false, []⟩,
  ⟨⟨(some (false, 10)), .mv (.g 1), none⟩, 3, false, []⟩,
  ⟨⟨(some (false, 11)), .bin .mul (.l 9) (.l 10), none⟩, 4, false, []⟩,
  ⟨⟨(some (false, 12)), .mv (.g 1), none⟩, 5, false, []⟩,
  ⟨⟨(some (false, 13)), .bin .mul (.l 11) (.l 12), none⟩, 6, false, []⟩,
  ⟨⟨(some (false, 14)), .fa (.g 3) 3, none⟩, 7, false, []⟩,
  ⟨⟨(some (false, 15)), .ld none (.l 14), none⟩, 8, false, []⟩,
  ⟨⟨(some (false, 16)), .mv (.g 2), none⟩, 9, false, []⟩,
  ⟨⟨(some (false, 17)), .call (.c (.fn 130 [])) [.l 15, .l 16], none⟩, 10, false, []⟩,
  ⟨⟨(some (false, 18)), .bin .mul (.l 13) (.l 17), none⟩, 11, false, []⟩,
  ⟨⟨(some (false, 19)), .bin .quo (.l 18) (.c (.lit (.int .i64 1000000000000))), none⟩, 12, false, []⟩,
  ⟨⟨(some (true, 6)), .mv (.l 19), none⟩, 13, false, []⟩])
.ret))
def K101 : List Nat := [0, 1, 2, 6, 3]
noncomputable def b101 : Code := match Try.f101.body with | some c => c | none => .skip
theorem t101 : trCode ⟨Try.prog, K101, [], 20, none⟩ b101 = some c101 := by kernel_rfl
theorem go101 {args : List AV} {H : AHeap} {Kk : AV → AHeap → Prop} (hn : args.length = 3) (h : AGo ⟨Try.prog, K101, [], 20, none⟩ H.length [.code c101] (RetP [.t (.g 6)] H.length Kk) ⟨[], argsG 0 args⟩ H) : ACalls Try.prog 101 args H Kk :=
  ACalls_of Try.func101 (c := b101) rfl (by kernel_rfl) t101 (rs := [.t (.g 6)]) (by kernel_rfl) (by rw [hn]; exact Nat.le_of_ble_eq_true rfl) (by rw [hn]; rfl) (h.weaken (fun _ _ => RetP.hands) (by simp))

/-- sastrugi/sastrugiref03.Bears -/
def c53 : ACode :=
  (.seq
(.reg [
  ⟨(some (true, 3)), .box (.g 0), none⟩,
  ⟨(some (true, 6)), .mv (.c (.lit (.int .i64 0))), none⟩,
  ⟨(some (true, 7)), .mv (.c (.lit (.int .i64 0))), none⟩])
(.seq
(.seq
(.reg [
  ⟨(some (false, 9)), .ld (some 11) (.g 3), none⟩,
  ⟨(some (false, 10)), .call (.c (.fn 60 [])) [.l 9], none⟩,
  ⟨(some (true, 8)), .mv (.l 10), none⟩])
(.seq
(.reg [
  ⟨(some (false, 11)), .mv (.g 8), none⟩,
  ⟨(some (true, 12)), .bin .neq (.l 11) (.c (.lit (.int .i64 0))), none⟩])
(.cond (.g 12)
(.seq
(.reg [
  ⟨(some (false, 13)), .mv (.g 8), none⟩,
  ⟨(some (true, 6)), .mv (.c (.lit (.int .i64 0))), none⟩,
  ⟨(some (true, 7)), .mv (.l 13), none⟩])
.ret)
.skip)))
(.seq
(.seq
(.reg [
  ⟨(some (false, 14)), .mv (.g 1), none⟩,
  ⟨(some (false, 15)), .call (.c (.fn 98 [])) [.l 14, .c (.lit (.int .i64 0)), .c (.lit (.int .i64 5000))], none⟩,
  ⟨(some (false, 16)), .mv (.l 15), none⟩,
  ⟨(some (false, 17)), .mv (.g 2), (some (.l 16, false))⟩,
  ⟨(some (false, 18)), .call (.c (.fn 98 [])) [.l 17, .c (.lit (.int .i64 0)), .c (.lit (.int .i64 10000))], (some (.l 16, false))⟩,
  ⟨(some (true, 19)), .pick (.l 16) (.c (.lit (.bool true))) (.l 18), none⟩])
(.cond (.g 19)
(.seq
(.reg [
  ⟨(some (true, 6)), .mv (.c (.lit (.int .i64 0))), none⟩,
  ⟨(some (true, 7)), .mv (.c (.lit (.int .i64 2))), none⟩])
.ret)
.skip))
(.seq
(.reg [
  ⟨(some (false, 20)), .ld (some 11) (.g 3), none⟩,
  ⟨(some (false, 21)), .mv (.g 1), none⟩,
  ⟨(some (false, 22)), .mv (.g 2), none⟩,
  ⟨(some (false, 23)), .call (.c (.fn 101 [])) [.l 20, .l 21, .l 22], none⟩,
  ⟨(some (true, 6)), .mv (.l 23), none⟩,
  ⟨(some (true, 7)), .mv (.c (.lit (.int .i64 0))), none⟩])
.ret))))
def K53 : List Nat := [0, 1, 2, 12, 19, 6, 7, 3, 8]
noncomputable def b53 : Code := match Try.f53.body with | some c => c | none => .skip
theorem t53 : trCode ⟨Try.prog, K53, [], 24, none⟩ b53 = some c53 := by kernel_rfl
theorem go53 {args : List AV} {H : AHeap} {Kk : AV → AHeap → Prop} (hn : args.length = 3) (h : AGo ⟨Try.prog, K53, [], 24, none⟩ H.length [.code c53] (RetP [.t (.g 6), .t (.g 7)] H.length Kk) ⟨[], argsG 0 args⟩ H) : ACalls Try.prog 53 args H Kk :=
  ACalls_of Try.func53 (c := b53) rfl (by kernel_rfl) t53 (rs := [.t (.g 6), .t (.g 7)]) (by kernel_rfl) (by rw [hn]; exact Nat.le_of_ble_eq_true rfl) (by rw [hn]; rfl) (h.weaken (fun _ _ => RetP.hands) (by simp))

/-- sastrugi/sastrugiref03.Need -/
def c56 : ACode :=
  (.seq
(.reg [
  ⟨(some (true, 3)), .box (.g 0), none⟩,
  ⟨(some (true, 6)), .mv (.c (.lit (.int .i64 0))), none⟩,
  ⟨(some (true, 7)), .mv (.c (.lit (.int .i64 0))), none⟩])
(.seq
(.seq
(.reg [
  ⟨(some (false, 10)), .ld (some 11) (.g 3), none⟩,
  ⟨(some (false, 11)), .call (.c (.fn 60 [])) [.l 10], none⟩,
  ⟨(some (true, 8)), .mv (.l 11), none⟩])
(.seq
(.reg [
  ⟨(some (false, 12)), .mv (.g 8), none⟩,
  ⟨(some (true, 13)), .bin .neq (.l 12) (.c (.lit (.int .i64 0))), none⟩])
(.cond (.g 13)
(.seq
(.reg [
  ⟨(some (false, 14)), .mv (.g 8), none⟩,
  ⟨(some (true, 6)), .mv (.c (.lit (.int .i64 0))), none⟩,
  ⟨(some (true, 7)), .mv (.l 14), none⟩])
.ret)
.skip)))
(.seq
(.seq
(.reg [
  ⟨(some (false, 15)), .mv (.g 1), none⟩,
  ⟨(some (false, 16)), .call (.c (.fn 98 [])) [.l 15, .c (.lit (.int .i64 0)), .c (.lit (.int .i64 200000))], none⟩,
  ⟨(some (false, 17)), .mv (.l 16), none⟩,
  ⟨(some (false, 18)), .mv (.g 2), (some (.l 17, false))⟩,
  ⟨(some (false, 19)), .call (.c (.fn 98 [])) [.l 18, .c (.lit (.int .i64 0)), .c (.lit (.int .i64 10000))], (some (.l 17, false))⟩,
  ⟨(some (true, 20)), .pick (.l 17) (.c (.lit (.bool true))) (.l 19), none⟩])
(.cond (.g 20)
(.seq
(.reg [
  ⟨(some (true, 6)), .mv (.c (.lit (.int .i64 0))), none⟩,
  ⟨(some (true, 7)), .mv (.c (.lit (.int .i64 2))), none⟩])
.ret)
.skip))
(.seq
(.seq
(.reg [
  ⟨(some (true, 9)), .mv (.c (.lit (.int .i64 0))), none⟩])
(.block 0
(.loop
(.seq
(.seq
(.reg [
  ⟨(some (false, 21)), .mv (.g 9), none⟩,
  ⟨(some (true, 22)), .bin .leq (.l 21) (.c (.lit (.int .i64 5000))), none⟩])
(.cond (.g 22)
.skip
(.exit 0)))
(.seq
(.block 1
(.seq
(.reg [
  ⟨(some (false, 25)), .mv (.g 1), none⟩,
  ⟨(some (false, 26)), .ld (some 11) (.g 3), none⟩,
  ⟨(some (false, 27)), .mv (.g 9), none⟩,
  ⟨(some (false, 28)), .mv (.g 2), none⟩,
  ⟨(some (false, 29)), .call (.c (.fn 101 [])) [.l 26, .l 27, .l 28], none⟩,
  ⟨(some (true, 30)), .bin .leq (.l 25) (.l 29), none⟩])
(.cond (.g 30)
(.seq
(.reg [
  ⟨(some (false, 31)), .mv (.g 9), none⟩,
  ⟨(some (true, 6)), .mv (.l 31), none⟩,
  ⟨(some (true, 7)), .mv (.c (.lit (.int .i64 0))), none⟩])
.ret)
.skip)))
(.reg [
  ⟨(some (false, 23)), .mv (.g 9), none⟩,
  ⟨(some (false, 24)), .bin .add (.l 23) (.c (.lit (.int .i64 1))), none⟩,
  ⟨(some (true, 9)), .mv (.l 24), none⟩]))))))
(.seq
(.reg [
  ⟨(some (true, 6)), .mv (.c (.lit (.int .i64 0))), none⟩,
  ⟨(some (true, 7)), .mv (.c (.lit (.int .i64 14))), none⟩])
.ret)))))
def K56 : List Nat := [0, 1, 2, 13, 20, 22, 30, 6, 7, 3, 8, 9]
noncomputable def b56 : Code := match Try.f56.body with | some c => c | none => .skip
theorem t56 : trCode ⟨Try.prog, K56, [], 32, none⟩ b56 = some c56 := by kernel_rfl
theorem go56 {args : List AV} {H : AHeap} {Kk : AV → AHeap → Prop} (hn : args.length = 3) (h : AGo ⟨Try.prog, K56, [], 32, none⟩ H.length [.code c56] (RetP [.t (.g 6), .t (.g 7)] H.length Kk) ⟨[], argsG 0 args⟩ H) : ACalls Try.prog 56 args H Kk :=
  ACalls_of Try.func56 (c := b56) rfl (by kernel_rfl) t56 (rs := [.t (.g 6), .t (.g 7)]) (by kernel_rfl) (by rw [hn]; exact Nat.le_of_ble_eq_true rfl) (by rw [hn]; rfl) (h.weaken (fun _ _ => RetP.hands) (by simp))

/-- sastrugi/sastrugiref03.Stands -/
def c58 : ACode :=
  (.seq
(.reg [
  ⟨(some (true, 3)), .box (.g 0), none⟩,
  ⟨(some (true, 6)), .mv (.c (.lit (.int .i64 0))), none⟩,
  ⟨(some (true, 7)), .mv (.c (.lit (.int .i64 0))), none⟩])
(.seq
(.seq
(.reg [
  ⟨(some (false, 11)), .ld (some 11) (.g 3), none⟩,
  ⟨(some (false, 12)), .call (.c (.fn 60 [])) [.l 11], none⟩,
  ⟨(some (true, 8)), .mv (.l 12), none⟩])
(.seq
(.reg [
  ⟨(some (false, 13)), .mv (.g 8), none⟩,
  ⟨(some (true, 14)), .bin .neq (.l 13) (.c (.lit (.int .i64 0))), none⟩])
(.cond (.g 14)
(.seq
(.reg [
  ⟨(some (false, 15)), .mv (.g 8), none⟩,
  ⟨(some (true, 6)), .mv (.c (.lit (.int .i64 0))), none⟩,
  ⟨(some (true, 7)), .mv (.l 15), none⟩])
.ret)
.skip)))
(.seq
(.seq
(.reg [
  ⟨(some (false, 16)), .mv (.g 1), none⟩,
  ⟨(some (false, 17)), .call (.c (.fn 98 [])) [.l 16, .c (.lit (.int .i64 0)), .c (.lit (.int .i64 5000))], none⟩,
  ⟨(some (false, 18)), .mv (.l 17), none⟩,
  ⟨(some (false, 19)), .mv (.g 2), (some (.l 18, false))⟩,
  ⟨(some (false, 20)), .call (.c (.fn 98 [])) [.l 19, .c (.lit (.int .i64 0)), .c (.lit (.int .i64 200000))], (some (.l 18, false))⟩,
  ⟨(some (true, 21)), .pick (.l 18) (.c (.lit (.bool true))) (.l 20), none⟩])
(.cond (.g 21)
(.seq
(.reg [
  ⟨(some (true, 6)), .mv (.c (.lit (.int .i64 0))), none⟩,
  ⟨(some (true, 7)), .mv (.c (.lit (.int .i64 2))), none⟩])
.ret)
.skip))
(.seq
(.reg [
  ⟨(some (true, 9)), .mv (.c (.lit (.int .i64 (-1)))), none⟩])
(.seq
(.seq
(.reg [
  ⟨(some (true, 10)), .mv (.c (.lit (.int .i64 0))), none⟩])
(.block 0
(.loop
(.seq
(.seq
(.reg [
  ⟨(some (false, 22)), .mv (.g 10), none⟩,
  ⟨(some (true, 23)), .bin .leq (.l 22) (.c (.lit (.int .i64 10000))), none⟩])
(.cond (.g 23)
.skip
(.exit 0)))
(.seq
(.block 1
(.seq
(.reg [
  ⟨(some (false, 26)), .mv (.g 2), none⟩,
  ⟨(some (false, 27)), .ld (some 11) (.g 3), none⟩,
  ⟨(some (false, 28)), .mv (.g 1), none⟩,
  ⟨(some (false, 29)), .mv (.g 10), none⟩,
  ⟨(some (false, 30)), .call (.c (.fn 101 [])) [.l 27, .l 28, .l 29], none⟩,
  ⟨(some (true, 31)), .bin .leq (.l 26) (.l 30), none⟩])
(.cond (.g 31)
(.reg [
  ⟨(some (false, 32)), .mv (.g 10), none⟩,
  ⟨(some (true, 9)), .mv (.l 32), none⟩])
.skip)))
(.reg [
  ⟨(some (false, 24)), .mv (.g 10), none⟩,
  ⟨(some (false, 25)), .bin .add (.l 24) (.c (.lit (.int .i64 1))), none⟩,
  ⟨(some (true, 10)), .mv (.l 25), none⟩]))))))
(.seq
(.reg [
  ⟨(some (false, 33)), .mv (.g 9), none⟩,
  ⟨(some (true, 6)), .mv (.l 33), none⟩,
  ⟨(some (true, 7)), .mv (.c (.lit (.int .i64 0))), none⟩])
.ret))))))
def K58 : List Nat := [0, 1, 2, 14, 21, 23, 31, 6, 7, 3, 8, 9, 10]
noncomputable def b58 : Code := match Try.f58.body with | some c => c | none => .skip
theorem t58 : trCode ⟨Try.prog, K58, [], 34, none⟩ b58 = some c58 := by kernel_rfl
theorem go58 {args : List AV} {H : AHeap} {Kk : AV → AHeap → Prop} (hn : args.length = 3) (h : AGo ⟨Try.prog, K58, [], 34, none⟩ H.length [.code c58] (RetP [.t (.g 6), .t (.g 7)] H.length Kk) ⟨[], argsG 0 args⟩ H) : ACalls Try.prog 58 args H Kk :=
  ACalls_of Try.func58 (c := b58) rfl (by kernel_rfl) t58 (rs := [.t (.g 6), .t (.g 7)]) (by kernel_rfl) (by rw [hn]; exact Nat.le_of_ble_eq_true rfl) (by rw [hn]; rfl) (h.weaken (fun _ _ => RetP.hands) (by simp))

/-- sastrugi/sastrugiref03.Row -/
def c113 : ACode :=
  (.seq
(.reg [
  ⟨(some (true, 4)), .box (.g 0), none⟩,
  ⟨(some (true, 8)), .mv (.c (.lit (.bool false))), none⟩])
(.seq
(.seq
(.reg [
  ⟨(some (true, 9)), .mv (.c (.lit (.int .i64 0))), none⟩])
(.block 0
(.loop
(.seq
(.seq
(.reg [
  ⟨(some (false, 12)), .mv (.g 9), none⟩,
  ⟨(some (false, 13)), .mv (.g 2), none⟩,
  ⟨(some (false, 14)), .len (.l 13), none⟩,
  ⟨(some (true, 15)), .bin .lss (.l 12) (.l 14), none⟩])
(.cond (.g 15)
.skip
(.exit 0)))
(.seq
(.block 1
(.seq
(.reg [
  ⟨(some (true, 10)), .mv (.c (.lit (.int .i64 0))), none⟩])
(.seq
(.seq
(.reg [
  ⟨(some (true, 11)), .mv (.c (.lit (.int .i64 0))), none⟩])
(.block 2
(.loop
(.seq
(.seq
(.reg [
  ⟨(some (false, 18)), .mv (.g 11), none⟩,
  ⟨(some (false, 19)), .mv (.g 2), none⟩,
  ⟨(some (false, 20)), .len (.l 19), none⟩,
  ⟨(some (true, 21)), .bin .lss (.l 18) (.l 20), none⟩])
(.cond (.g 21)
.skip
(.exit 2)))
(.seq
(.block 3
(.draw [
  ⟨⟨(some (false, 24)), .mv (.g 10), none⟩, 0, false, []⟩,
  ⟨⟨(some (false, 25)), .mv (.g 2), none⟩, 1, false, []⟩,
  ⟨⟨(some (false, 26)), .mv (.g 11), none⟩, 2, false, []⟩,
  ⟨⟨(some (false, 27)), .ia 2 (.l 25) (.l 26), none⟩, 3, false, []⟩,
  ⟨⟨(some (false, 28)), .fa (.l 27) 1, none⟩, 4, false, []⟩,
  ⟨⟨(some (false, 29)), .ld none (.l 28), none⟩, 5, false, []⟩,
  ⟨⟨(some (false, 30)), .fa (.g 4) 2, none⟩, 6, false, []⟩,
  ⟨⟨(some (false, 31)), .ld none (.l 30), none⟩, 7, false, []⟩,
  ⟨⟨(some (false, 32)), .mv (.g 9), none⟩, 8, false, []⟩,
  ⟨⟨(some (false, 33)), .mv (.g 11), none⟩, 9, false, []⟩,
  ⟨⟨(some (false, 35)), .mv (.g 3), none⟩, 11, false, []⟩,
  ⟨⟨(some (false, 34)), .call (.c (.fn 142 [])) [.l 32, .l 33], none⟩, 10, false, []⟩,
  ⟨⟨(some (false, 36)), .bin .mul (.l 34) (.l 35), none⟩, 12, false, []⟩,
  ⟨⟨(some (false, 37)), .call (.c (.fn 130 [])) [.l 31, .l 36], none⟩, 13, false, []⟩,
  ⟨⟨(some (false, 38)), .bin .mul (.l 29) (.l 37), none⟩, 14, false, []⟩,
  ⟨⟨(some (false, 39)), .bin .add (.l 24) (.l 38), none⟩, 15, false, []⟩,
  ⟨⟨(some (true, 10)), .mv (.l 39), none⟩, 16, false, []⟩]))
(.reg [
  ⟨(some (false, 22)), .mv (.g 11), none⟩,
  ⟨(some (false, 23)), .bin .add (.l 22) (.c (.lit (.int .i64 1))), none⟩,
  ⟨(some (true, 11)), .mv (.l 23), none⟩]))))))
(.seq
(.reg [
  ⟨(some (false, 40)), .mv (.g 10), none⟩,
  ⟨(some (false, 41)), .fa (.g 4) 0, none⟩,
  ⟨(some (false, 42)), .fa (.l 41) 0, none⟩,
  ⟨(some (false, 43)), .ld none (.l 42), none⟩,
  ⟨(some (false, 44)), .mv (.g 1), none⟩,
  ⟨(some (false, 45)), .call (.c (.fn 132 [])) [.l 40, .l 43, .l 44, .c (.lit (.int .i64 1000000))], none⟩,
  ⟨(some (true, 46)), .un .not (.l 45), none⟩])
(.cond (.g 46)
(.seq
(.reg [
  ⟨(some (true, 8)), .mv (.c (.lit (.bool false))), none⟩])
.ret)
.skip)))))
(.reg [
  ⟨(some (false, 16)), .mv (.g 9), none⟩,
  ⟨(some (false, 17)), .bin .add (.l 16) (.c (.lit (.int .i64 1))), none⟩,
  ⟨(some (true, 9)), .mv (.l 17), none⟩]))))))
(.seq
(.reg [
  ⟨(some (true, 8)), .mv (.c (.lit (.bool true))), none⟩])
.ret)))
def K113 : List Nat := [0, 1, 2, 3, 15, 21, 46, 8, 4, 9, 10, 11]
noncomputable def b113 : Code := match Try.f113.body with | some c => c | none => .skip
theorem t113 : trCode ⟨Try.prog, K113, [], 47, none⟩ b113 = some c113 := by kernel_rfl
theorem go113 {args : List AV} {H : AHeap} {Kk : AV → AHeap → Prop} (hn : args.length = 4) (h : AGo ⟨Try.prog, K113, [], 47, none⟩ H.length [.code c113] (RetP [.t (.g 8)] H.length Kk) ⟨[], argsG 0 args⟩ H) : ACalls Try.prog 113 args H Kk :=
  ACalls_of Try.func113 (c := b113) rfl (by kernel_rfl) t113 (rs := [.t (.g 8)]) (by kernel_rfl) (by rw [hn]; exact Nat.le_of_ble_eq_true rfl) (by rw [hn]; rfl) (h.weaken (fun _ _ => RetP.hands) (by simp))

/-- sastrugi/sastrugiref03.Gap -/
def c64 : ACode :=
  (.seq
(.reg [
  ⟨(some (true, 3)), .box (.g 0), none⟩,
  ⟨(some (true, 6)), .mv (.c (.lit (.int .i64 0))), none⟩,
  ⟨(some (true, 7)), .mv (.c (.lit (.int .i64 0))), none⟩])
(.seq
(.seq
(.reg [
  ⟨(some (false, 13)), .ld (some 11) (.g 3), none⟩,
  ⟨(some (false, 14)), .call (.c (.fn 60 [])) [.l 13], none⟩,
  ⟨(some (true, 8)), .mv (.l 14), none⟩])
(.seq
(.reg [
  ⟨(some (false, 15)), .mv (.g 8), none⟩,
  ⟨(some (true, 16)), .bin .neq (.l 15) (.c (.lit (.int .i64 0))), none⟩])
(.cond (.g 16)
(.seq
(.reg [
  ⟨(some (false, 17)), .mv (.g 8), none⟩,
  ⟨(some (true, 6)), .mv (.c (.lit (.int .i64 0))), none⟩,
  ⟨(some (true, 7)), .mv (.l 17), none⟩])
.ret)
.skip)))
(.seq
(.seq
(.reg [
  ⟨(some (false, 18)), .mv (.g 1), none⟩,
  ⟨(some (true, 19)), .call (.c (.fn 98 [])) [.l 18, .c (.lit (.int .i64 0)), .c (.lit (.int .i64 5000))], none⟩])
(.cond (.g 19)
(.seq
(.reg [
  ⟨(some (true, 6)), .mv (.c (.lit (.int .i64 0))), none⟩,
  ⟨(some (true, 7)), .mv (.c (.lit (.int .i64 2))), none⟩])
.ret)
.skip))
(.seq
(.seq
(.reg [
  ⟨(some (false, 20)), .mv (.g 2), none⟩,
  ⟨(some (false, 21)), .call (.c (.fn 112 [])) [.l 20, .c (.lit (.int .i64 30)), .c (.lit (.int .i64 200000))], none⟩,
  ⟨(some (true, 9)), .mv (.l 21), none⟩])
(.seq
(.reg [
  ⟨(some (false, 22)), .mv (.g 9), none⟩,
  ⟨(some (true, 23)), .bin .neq (.l 22) (.c (.lit (.int .i64 0))), none⟩])
(.cond (.g 23)
(.seq
(.reg [
  ⟨(some (false, 24)), .mv (.g 9), none⟩,
  ⟨(some (true, 6)), .mv (.c (.lit (.int .i64 0))), none⟩,
  ⟨(some (true, 7)), .mv (.l 24), none⟩])
.ret)
.skip)))
(.seq
(.seq
(.reg [
  ⟨(some (false, 25)), .ld (some 11) (.g 3), none⟩,
  ⟨(some (false, 26)), .mv (.g 1), none⟩,
  ⟨(some (false, 27)), .mv (.g 2), none⟩,
  ⟨(some (false, 28)), .call (.c (.fn 113 [])) [.l 25, .l 26, .l 27, .c (.lit (.int .i64 10000))], none⟩,
  ⟨(some (true, 29)), .un .not (.l 28), none⟩])
(.cond (.g 29)
(.seq
(.reg [
  ⟨(some (true, 6)), .mv (.c (.lit (.int .i64 (-1)))), none⟩,
  ⟨(some (true, 7)), .mv (.c (.lit (.int .i64 0))), none⟩])
.ret)
.skip))
(.seq
(.reg [
  ⟨(some (true, 10)), .mv (.c (.lit (.int .i64 (-1)))), none⟩,
  ⟨(some (true, 11)), .mv (.c (.lit (.int .i64 10000))), none⟩])
(.seq
(.block 0
(.loop
(.seq
(.seq
(.reg [
  ⟨(some (false, 30)), .mv (.g 11), none⟩,
  ⟨(some (false, 31)), .mv (.g 10), none⟩,
  ⟨(some (false, 32)), .bin .sub (.l 30) (.l 31), none⟩,
  ⟨(some (true, 33)), .bin .gtr (.l 32) (.c (.lit (.int .i64 1))), none⟩])
(.cond (.g 33)
.skip
(.exit 0)))
(.block 1
(.seq
(.reg [
  ⟨(some (false, 34)), .mv (.g 10), none⟩,
  ⟨(some (false, 35)), .mv (.g 11), none⟩,
  ⟨(some (false, 36)), .bin .add (.l 34) (.l 35), none⟩,
  ⟨(some (false, 37)), .bin .quo (.l 36) (.c (.lit (.int .i64 2))), none⟩,
  ⟨(some (true, 12)), .mv (.l 37), none⟩])
(.seq
(.reg [
  ⟨(some (false, 38)), .ld (some 11) (.g 3), none⟩,
  ⟨(some (false, 39)), .mv (.g 1), none⟩,
  ⟨(some (false, 40)), .mv (.g 2), none⟩,
  ⟨(some (false, 41)), .mv (.g 12), none⟩,
  ⟨(some (true, 42)), .call (.c (.fn 113 [])) [.l 38, .l 39, .l 40, .l 41], none⟩])
(.cond (.g 42)
(.reg [
  ⟨(some (false, 43)), .mv (.g 12), none⟩,
  ⟨(some (true, 11)), .mv (.l 43), none⟩])
(.reg [
  ⟨(some (false, 44)), .mv (.g 12), none⟩,
  ⟨(some (true, 10)), .mv (.l 44), none⟩]))))))))
(.seq
(.reg [
  ⟨(some (false, 45)), .mv (.g 11), none⟩,
  ⟨(some (true, 6)), .mv (.l 45), none⟩,
  ⟨(some (true, 7)), .mv (.c (.lit (.int .i64 0))), none⟩])
.ret))))))))
def K64 : List Nat := [0, 1, 2, 16, 19, 23, 29, 33, 42, 6, 7, 3, 8, 9, 10, 11, 12]
noncomputable def b64 : Code := match Try.f64.body with | some c => c | none => .skip
theorem t64 : trCode ⟨Try.prog, K64, [], 46, none⟩ b64 = some c64 := by kernel_rfl
theorem go64 {args : List AV} {H : AHeap} {Kk : AV → AHeap → Prop} (hn : args.length = 3) (h : AGo ⟨Try.prog, K64, [], 46, none⟩ H.length [.code c64] (RetP [.t (.g 6), .t (.g 7)] H.length Kk) ⟨[], argsG 0 args⟩ H) : ACalls Try.prog 64 args H Kk :=
  ACalls_of Try.func64 (c := b64) rfl (by kernel_rfl) t64 (rs := [.t (.g 6), .t (.g 7)]) (by kernel_rfl) (by rw [hn]; exact Nat.le_of_ble_eq_true rfl) (by rw [hn]; rfl) (h.weaken (fun _ _ => RetP.hands) (by simp))

/-- sastrugi/sastrugiref03.band -/
def c157 : ACode :=
  (.seq
(.reg [
  ⟨(some (true, 2)), .box (.g 0), none⟩,
  ⟨(some (true, 4)), .mv (.c (.lit (.int .i64 0))), none⟩,
  ⟨(some (true, 5)), .mv (.c (.lit (.int .i64 0))), none⟩])
(.seq
(.seq
(.reg [
  ⟨(some (false, 6)), .mv (.g 1), none⟩,
  ⟨(some (false, 7)), .fa (.g 2) 9, none⟩,
  ⟨(some (false, 8)), .ld none (.l 7), none⟩,
  ⟨(some (true, 9)), .bin .geq (.l 6) (.l 8), none⟩])
(.cond (.g 9)
(.seq
(.draw [
  ⟨⟨(some (false, 10)), .fa (.g 2) 7, none⟩, 0, false, []⟩,
  ⟨⟨(some (false, 11)), .ld none (.l 10), none⟩, 1, false, []⟩,
  ⟨⟨(some (false, 12)), .fa (.g 2) 8, none⟩, 2, false, []⟩,
  ⟨⟨(some (false, 13)), .ld none (.l 12), none⟩, 3, false, []⟩,
  ⟨⟨(some (true, 4)), .mv (.l 11), none⟩, 4, false, []⟩,
  ⟨⟨(some (true, 5)), .mv (.l 13), none⟩, 5, false, []⟩])
.ret)
.skip))
(.seq
(.draw [
  ⟨⟨(some (false, 14)), .fa (.g 2) 7, none⟩, 0, false, []⟩,
  ⟨⟨(some (false, 15)), .ld none (.l 14), none⟩, 1, false, []⟩,
  ⟨⟨(some (false, 16)), .fa (.g 2) 10, none⟩, 2, false, []⟩,
  ⟨⟨(some (false, 17)), .ld none (.l 16), none⟩, 3, false, []⟩,
  ⟨⟨(some (false, 18)), .bin .sub (.c (.lit (.int .i64 1000000))) (.l 17), none⟩, 4, false, []⟩,
  ⟨⟨(some (false, 19)), .bin .mul (.l 15) (.l 18), none⟩, 5, false, []⟩,
  ⟨⟨(some (false, 20)), .bin .quo (.l 19) (.c (.lit (.int .i64 1000000))), none⟩, 6, false, []⟩,
  ⟨⟨(some (false, 21)), .fa (.g 2) 8, none⟩, 7, false, []⟩,
  ⟨⟨(some (false, 22)), .ld none (.l 21), none⟩, 8, false, []⟩,
  ⟨⟨(some (false, 23)), .fa (.g 2) 10, none⟩, 9, false, []⟩,
  ⟨⟨(some (false, 24)), .ld none (.l 23), none⟩, 10, false, []⟩,
  ⟨⟨(some (false, 25)), .bin .add (.c (.lit (.int .i64 1000000))) (.l 24), none⟩, 11, false, []⟩,
  ⟨⟨(some (false, 26)), .bin .mul (.l 22) (.l 25), none⟩, 12, false, []⟩,
  ⟨⟨(some (false, 27)), .bin .add (.l 26) (.c (.lit (.int .i64 1000000))), none⟩, 13, false, []⟩,
  ⟨⟨(some (false, 28)), .bin .sub (.l 27) (.c (.lit (.int .i64 1))), none⟩, 14, false, []⟩,
  ⟨⟨(some (false, 29)), .bin .quo (.l 28) (.c (.lit (.int .i64 1000000))), none⟩, 15, false, []⟩,
  ⟨⟨(some (true, 4)), .mv (.l 20), none⟩, 16, false, []⟩,
  ⟨⟨(some (true, 5)), .mv (.l 29), none⟩, 17, false, []⟩])
.ret)))
def K157 : List Nat := [0, 1, 9, 4, 5, 2]
noncomputable def b157 : Code := match Try.f157.body with | some c => c | none => .skip
theorem t157 : trCode ⟨Try.prog, K157, [], 30, none⟩ b157 = some c157 := by kernel_rfl
theorem go157 {args : List AV} {H : AHeap} {Kk : AV → AHeap → Prop} (hn : args.length = 2) (h : AGo ⟨Try.prog, K157, [], 30, none⟩ H.length [.code c157] (RetP [.t (.g 4), .t (.g 5)] H.length Kk) ⟨[], argsG 0 args⟩ H) : ACalls Try.prog 157 args H Kk :=
  ACalls_of Try.func157 (c := b157) rfl (by kernel_rfl) t157 (rs := [.t (.g 4), .t (.g 5)]) (by kernel_rfl) (by rw [hn]; exact Nat.le_of_ble_eq_true rfl) (by rw [hn]; rfl) (h.weaken (fun _ _ => RetP.hands) (by simp))

/-- sastrugi/sastrugiref03.Critical -/
def c137 : ACode :=
  (.seq
(.reg [
  ⟨(some (true, 4)), .box (.g 0), none⟩,
  ⟨(some (true, 8)), .mv (.c (.lit (.bool false))), none⟩])
(.seq
(.reg [
  ⟨(some (false, 12)), .ld (some 11) (.g 4), none⟩,
  ⟨(some (false, 13)), .mv (.g 2), none⟩,
  ⟨(some (false, 14)), .call (.c (.fn 157 [])) [.l 12, .l 13], none⟩,
  ⟨(some (false, 11)), .mv (.l 14), none⟩,
  ⟨(some (false, 15)), .ex (.l 11) 0, none⟩,
  ⟨(some (false, 16)), .ex (.l 11) 1, none⟩,
  ⟨(some (true, 9)), .mv (.l 15), none⟩,
  ⟨(some (true, 10)), .mv (.l 16), none⟩])
(.seq
(.reg [
  ⟨(some (false, 17)), .mv (.g 3), none⟩,
  ⟨(some (false, 18)), .mv (.g 3), none⟩,
  ⟨(some (false, 19)), .bin .mul (.l 17) (.l 18), none⟩,
  ⟨(some (false, 20)), .bin .mul (.l 19) (.c (.lit (.int .i64 1000000))), none⟩,
  ⟨(some (false, 21)), .mv (.g 9), none⟩,
  ⟨(some (false, 22)), .fa (.g 4) 6, none⟩,
  ⟨(some (false, 23)), .ld none (.l 22), none⟩,
  ⟨(some (false, 24)), .bin .mul (.l 21) (.l 23), none⟩,
  ⟨(some (false, 25)), .mv (.g 1), none⟩,
  ⟨(some (false, 26)), .bin .mul (.l 24) (.l 25), none⟩,
  ⟨(some (false, 27)), .bin .geq (.l 20) (.l 26), none⟩,
  ⟨(some (false, 28)), .mv (.l 27), none⟩,
  ⟨(some (false, 29)), .mv (.g 3), (some (.l 28, true))⟩,
  ⟨(some (false, 30)), .mv (.g 3), (some (.l 28, true))⟩,
  ⟨(some (false, 31)), .bin .mul (.l 29) (.l 30), (some (.l 28, true))⟩,
  ⟨(some (false, 32)), .bin .mul (.l 31) (.c (.lit (.int .i64 1000000))), (some (.l 28, true))⟩,
  ⟨(some (false, 33)), .mv (.g 10), (some (.l 28, true))⟩,
  ⟨(some (false, 34)), .fa (.g 4) 6, (some (.l 28, true))⟩,
  ⟨(some (false, 35)), .ld none (.l 34), (some (.l 28, true))⟩,
  ⟨(some (false, 36)), .bin .mul (.l 33) (.l 35), (some (.l 28, true))⟩,
  ⟨(some (false, 37)), .mv (.g 1), (some (.l 28, true))⟩,
  ⟨(some (false, 38)), .bin .mul (.l 36) (.l 37), (some (.l 28, true))⟩,
  ⟨(some (false, 39)), .bin .leq (.l 32) (.l 38), (some (.l 28, true))⟩,
  ⟨(some (false, 40)), .pick (.l 28) (.l 39) (.c (.lit (.bool false))), none⟩,
  ⟨(some (true, 8)), .mv (.l 40), none⟩])
.ret)))
def K137 : List Nat := [0, 1, 2, 3, 8, 4, 9, 10]
noncomputable def b137 : Code := match Try.f137.body with | some c => c | none => .skip
theorem t137 : trCode ⟨Try.prog, K137, [], 41, none⟩ b137 = some c137 := by kernel_rfl
theorem go137 {args : List AV} {H : AHeap} {Kk : AV → AHeap → Prop} (hn : args.length = 4) (h : AGo ⟨Try.prog, K137, [], 41, none⟩ H.length [.code c137] (RetP [.t (.g 8)] H.length Kk) ⟨[], argsG 0 args⟩ H) : ACalls Try.prog 137 args H Kk :=
  ACalls_of Try.func137 (c := b137) rfl (by kernel_rfl) t137 (rs := [.t (.g 8)]) (by kernel_rfl) (by rw [hn]; exact Nat.le_of_ble_eq_true rfl) (by rw [hn]; rfl) (h.weaken (fun _ _ => RetP.hands) (by simp))

/-- sastrugi/sastrugiref03.critical -/
def c99 : ACode :=
  (.seq
(.reg [
  ⟨(some (true, 4)), .box (.g 0), none⟩,
  ⟨(some (true, 5)), .box (.g 1), none⟩,
  ⟨(some (true, 8)), .mv (.c (.lit (.int .i64 0))), none⟩])
(.seq
(.reg [
  ⟨(some (true, 9)), .mv (.c (.lit (.int .i64 0))), none⟩])
(.seq
(.seq
(.reg [
  ⟨(some (false, 11)), .fa (.g 5) 0, none⟩,
  ⟨(some (false, 12)), .ld none (.l 11), none⟩,
  ⟨(some (true, 10)), .mv (.l 12), none⟩])
(.block 0
(.loop
(.seq
(.seq
(.reg [
  ⟨(some (false, 13)), .mv (.g 10), none⟩,
  ⟨(some (false, 14)), .fa (.g 5) 1, none⟩,
  ⟨(some (false, 15)), .ld none (.l 14), none⟩,
  ⟨(some (true, 16)), .bin .leq (.l 13) (.l 15), none⟩])
(.cond (.g 16)
.skip
(.exit 0)))
(.seq
(.block 1
(.seq
(.reg [
  ⟨(some (false, 19)), .ld (some 11) (.g 4), none⟩,
  ⟨(some (false, 20)), .mv (.g 10), none⟩,
  ⟨(some (false, 21)), .mv (.g 2), none⟩,
  ⟨(some (false, 22)), .mv (.g 3), none⟩,
  ⟨(some (true, 23)), .call (.c (.fn 137 [])) [.l 19, .l 20, .l 21, .l 22], none⟩])
(.cond (.g 23)
(.reg [
  ⟨(some (false, 24)), .mv (.g 9), none⟩,
  ⟨(some (false, 25)), .bin .add (.l 24) (.c (.lit (.int .i64 1))), none⟩,
  ⟨(some (true, 9)), .mv (.l 25), none⟩])
.skip)))
(.reg [
  ⟨(some (false, 17)), .mv (.g 10), none⟩,
  ⟨(some (false, 18)), .bin .add (.l 17) (.c (.lit (.int .i64 1))), none⟩,
  ⟨(some (true, 10)), .mv (.l 18), none⟩]))))))
(.seq
(.seq
(.reg [
  ⟨(some (true, 26)), .mv (.g 9), none⟩])
(.block 2
(.seq
(.reg [
  ⟨(some (false, 28)), .bin .eql (.g 26) (.c (.lit (.int .i64 0))), none⟩,
  ⟨(some (true, 27)), .mv (.l 28), none⟩])
(.cond (.g 27)
(.seq
(.reg [
  ⟨(some (true, 8)), .mv (.c (.lit (.int .i64 1))), none⟩])
.ret)
(.seq
(.reg [
  ⟨(some (false, 30)), .fa (.g 5) 1, none⟩,
  ⟨(some (false, 31)), .ld none (.l 30), none⟩,
  ⟨(some (false, 32)), .fa (.g 5) 0, none⟩,
  ⟨(some (false, 33)), .ld none (.l 32), none⟩,
  ⟨(some (false, 34)), .bin .sub (.l 31) (.l 33), none⟩,
  ⟨(some (false, 35)), .bin .add (.l 34) (.c (.lit (.int .i64 1))), none⟩,
  ⟨(some (false, 36)), .bin .eql (.g 26) (.l 35), none⟩,
  ⟨(some (true, 29)), .mv (.l 36), none⟩])
(.cond (.g 29)
(.seq
(.reg [
  ⟨(some (true, 8)), .mv (.c (.lit (.int .i64 2))), none⟩])
.ret)
.skip))))))
(.seq
(.reg [
  ⟨(some (true, 8)), .mv (.c (.lit (.int .i64 3))), none⟩])
.ret)))))
def K99 : List Nat := [0, 1, 2, 3, 16, 23, 27, 29, 8, 4, 5, 9, 10, 26]
noncomputable def b99 : Code := match Try.f99.body with | some c => c | none => .skip
theorem t99 : trCode ⟨Try.prog, K99, [], 37, none⟩ b99 = some c99 := by kernel_rfl
theorem go99 {args : List AV} {H : AHeap} {Kk : AV → AHeap → Prop} (hn : args.length = 4) (h : AGo ⟨Try.prog, K99, [], 37, none⟩ H.length [.code c99] (RetP [.t (.g 8)] H.length Kk) ⟨[], argsG 0 args⟩ H) : ACalls Try.prog 99 args H Kk :=
  ACalls_of Try.func99 (c := b99) rfl (by kernel_rfl) t99 (rs := [.t (.g 8)]) (by kernel_rfl) (by rw [hn]; exact Nat.le_of_ble_eq_true rfl) (by rw [hn]; rfl) (h.weaken (fun _ _ => RetP.hands) (by simp))

/-- sastrugi/sastrugiref03.checkWater -/
def c97 : ACode :=
  (.seq
(.reg [
  ⟨(some (true, 3)), .box (.g 0), none⟩,
  ⟨(some (true, 4)), .box (.g 1), none⟩,
  ⟨(some (true, 6)), .mv (.c (.lit (.int .i64 0))), none⟩])
(.seq
(.seq
(.reg [
  ⟨(some (false, 9)), .ld (some 11) (.g 3), none⟩,
  ⟨(some (false, 10)), .call (.c (.fn 60 [])) [.l 9], none⟩,
  ⟨(some (true, 7)), .mv (.l 10), none⟩])
(.seq
(.reg [
  ⟨(some (false, 11)), .mv (.g 7), none⟩,
  ⟨(some (true, 12)), .bin .neq (.l 11) (.c (.lit (.int .i64 0))), none⟩])
(.cond (.g 12)
(.seq
(.reg [
  ⟨(some (false, 13)), .mv (.g 7), none⟩,
  ⟨(some (true, 6)), .mv (.l 13), none⟩])
.ret)
.skip)))
(.seq
(.seq
(.reg [
  ⟨(some (false, 14)), .ld (some 2) (.g 4), none⟩,
  ⟨(some (false, 15)), .call (.c (.fn 92 [])) [.l 14, .c (.lit (.int .i64 0)), .c (.lit (.int .i64 10000))], none⟩,
  ⟨(some (true, 8)), .mv (.l 15), none⟩])
(.seq
(.reg [
  ⟨(some (false, 16)), .mv (.g 8), none⟩,
  ⟨(some (true, 17)), .bin .neq (.l 16) (.c (.lit (.int .i64 0))), none⟩])
(.cond (.g 17)
(.seq
(.reg [
  ⟨(some (false, 18)), .mv (.g 8), none⟩,
  ⟨(some (true, 6)), .mv (.l 18), none⟩])
.ret)
.skip)))
(.seq
(.seq
(.reg [
  ⟨(some (false, 19)), .mv (.g 2), none⟩,
  ⟨(some (true, 20)), .call (.c (.fn 98 [])) [.l 19, .c (.lit (.int .i64 0)), .c (.lit (.int .i64 100000))], none⟩])
(.cond (.g 20)
(.seq
(.reg [
  ⟨(some (true, 6)), .mv (.c (.lit (.int .i64 2))), none⟩])
.ret)
.skip))
(.seq
(.reg [
  ⟨(some (true, 6)), .mv (.c (.lit (.int .i64 0))), none⟩])
.ret)))))
def K97 : List Nat := [0, 1, 2, 12, 17, 20, 6, 3, 4, 7, 8]
noncomputable def b97 : Code := match Try.f97.body with | some c => c | none => .skip
theorem t97 : trCode ⟨Try.prog, K97, [], 21, none⟩ b97 = some c97 := by kernel_rfl
theorem go97 {args : List AV} {H : AHeap} {Kk : AV → AHeap → Prop} (hn : args.length = 3) (h : AGo ⟨Try.prog, K97, [], 21, none⟩ H.length [.code c97] (RetP [.t (.g 6)] H.length Kk) ⟨[], argsG 0 args⟩ H) : ACalls Try.prog 97 args H Kk :=
  ACalls_of Try.func97 (c := b97) rfl (by kernel_rfl) t97 (rs := [.t (.g 6)]) (by kernel_rfl) (by rw [hn]; exact Nat.le_of_ble_eq_true rfl) (by rw [hn]; rfl) (h.weaken (fun _ _ => RetP.hands) (by simp))

/-- sastrugi/sastrugiref03.Speed -/
def c47 : ACode :=
  (.seq
(.reg [
  ⟨(some (true, 4)), .box (.g 0), none⟩,
  ⟨(some (true, 5)), .box (.g 1), none⟩,
  ⟨(some (true, 8)), .mv (.c (.lit (.int .i64 0))), none⟩,
  ⟨(some (true, 9)), .mv (.c (.lit (.int .i64 0))), none⟩])
(.seq
(.seq
(.reg [
  ⟨(some (false, 11)), .ld (some 11) (.g 4), none⟩,
  ⟨(some (false, 12)), .ld (some 2) (.g 5), none⟩,
  ⟨(some (false, 13)), .mv (.g 2), none⟩,
  ⟨(some (false, 14)), .call (.c (.fn 97 [])) [.l 11, .l 12, .l 13], none⟩,
  ⟨(some (true, 10)), .mv (.l 14), none⟩])
(.seq
(.reg [
  ⟨(some (false, 15)), .mv (.g 10), none⟩,
  ⟨(some (true, 16)), .bin .neq (.l 15) (.c (.lit (.int .i64 0))), none⟩])
(.cond (.g 16)
(.seq
(.reg [
  ⟨(some (false, 17)), .mv (.g 10), none⟩,
  ⟨(some (true, 8)), .mv (.c (.lit (.int .i64 0))), none⟩,
  ⟨(some (true, 9)), .mv (.l 17), none⟩])
.ret)
.skip)))
(.seq
(.seq
(.reg [
  ⟨(some (false, 18)), .mv (.g 3), none⟩,
  ⟨(some (true, 19)), .call (.c (.fn 98 [])) [.l 18, .c (.lit (.int .i64 0)), .c (.lit (.int .i64 1000))], none⟩])
(.cond (.g 19)
(.seq
(.reg [
  ⟨(some (true, 8)), .mv (.c (.lit (.int .i64 0))), none⟩,
  ⟨(some (true, 9)), .mv (.c (.lit (.int .i64 2))), none⟩])
.ret)
.skip))
(.seq
(.reg [
  ⟨(some (false, 20)), .ld (some 11) (.g 4), none⟩,
  ⟨(some (false, 21)), .ld (some 2) (.g 5), none⟩,
  ⟨(some (false, 22)), .mv (.g 2), none⟩,
  ⟨(some (false, 23)), .mv (.g 3), none⟩,
  ⟨(some (false, 24)), .call (.c (.fn 99 [])) [.l 20, .l 21, .l 22, .l 23], none⟩,
  ⟨(some (true, 8)), .mv (.l 24), none⟩,
  ⟨(some (true, 9)), .mv (.c (.lit (.int .i64 0))), none⟩])
.ret))))
def K47 : List Nat := [0, 1, 2, 3, 16, 19, 8, 9, 4, 5, 10]
noncomputable def b47 : Code := match Try.f47.body with | some c => c | none => .skip
theorem t47 : trCode ⟨Try.prog, K47, [], 25, none⟩ b47 = some c47 := by kernel_rfl
theorem go47 {args : List AV} {H : AHeap} {Kk : AV → AHeap → Prop} (hn : args.length = 4) (h : AGo ⟨Try.prog, K47, [], 25, none⟩ H.length [.code c47] (RetP [.t (.g 8), .t (.g 9)] H.length Kk) ⟨[], argsG 0 args⟩ H) : ACalls Try.prog 47 args H Kk :=
  ACalls_of Try.func47 (c := b47) rfl (by kernel_rfl) t47 (rs := [.t (.g 8), .t (.g 9)]) (by kernel_rfl) (by rw [hn]; exact Nat.le_of_ble_eq_true rfl) (by rw [hn]; rfl) (h.weaken (fun _ _ => RetP.hands) (by simp))

/-- sastrugi/sastrugiref03.Speeds -/
def c49 : ACode :=
  (.seq
(.reg [
  ⟨(some (true, 3)), .box (.g 0), none⟩,
  ⟨(some (true, 4)), .box (.g 1), none⟩,
  ⟨(some (true, 6)), .mv (.c (.lit (.slice none 0 0))), none⟩,
  ⟨(some (true, 7)), .mv (.c (.lit (.int .i64 0))), none⟩])
(.seq
(.seq
(.reg [
  ⟨(some (false, 11)), .ld (some 11) (.g 3), none⟩,
  ⟨(some (false, 12)), .ld (some 2) (.g 4), none⟩,
  ⟨(some (false, 13)), .mv (.g 2), none⟩,
  ⟨(some (false, 14)), .call (.c (.fn 97 [])) [.l 11, .l 12, .l 13], none⟩,
  ⟨(some (true, 8)), .mv (.l 14), none⟩])
(.seq
(.reg [
  ⟨(some (false, 15)), .mv (.g 8), none⟩,
  ⟨(some (true, 16)), .bin .neq (.l 15) (.c (.lit (.int .i64 0))), none⟩])
(.cond (.g 16)
(.seq
(.reg [
  ⟨(some (false, 17)), .mv (.g 8), none⟩,
  ⟨(some (true, 6)), .mv (.c (.lit (.slice none 0 0))), none⟩,
  ⟨(some (true, 7)), .mv (.l 17), none⟩])
.ret)
.skip)))
(.seq
(.reg [
  ⟨(some (true, 9)), .mv (.c (.lit (.slice none 0 0))), none⟩])
(.seq
(.seq
(.reg [
  ⟨(some (true, 10)), .mv (.c (.lit (.int .i64 0))), none⟩])
(.block 0
(.loop
(.seq
(.seq
(.reg [
  ⟨(some (false, 18)), .mv (.g 10), none⟩,
  ⟨(some (true, 19)), .bin .leq (.l 18) (.c (.lit (.int .i64 1000))), none⟩])
(.cond (.g 19)
.skip
(.exit 0)))
(.seq
(.block 1
(.seq
(.seq
(.reg [
  ⟨(some (false, 22)), .ld (some 11) (.g 3), none⟩,
  ⟨(some (false, 23)), .ld (some 2) (.g 4), none⟩,
  ⟨(some (false, 24)), .mv (.g 2), none⟩,
  ⟨(some (false, 25)), .mv (.g 10), none⟩,
  ⟨(some (false, 26)), .call (.c (.fn 99 [])) [.l 22, .l 23, .l 24, .l 25], none⟩,
  ⟨(some (true, 27)), .bin .neq (.l 26) (.c (.lit (.int .i64 1))), none⟩])
(.cond (.g 27)
(.exit 1)
.skip))
(.seq
(.reg [
  ⟨(some (false, 28)), .mv (.g 9), none⟩,
  ⟨(some (false, 29)), .len (.l 28), none⟩,
  ⟨(some (false, 30)), .bin .gtr (.l 29) (.c (.lit (.int .i64 0))), none⟩,
  ⟨(some (false, 31)), .mv (.l 30), none⟩,
  ⟨(some (false, 32)), .mv (.g 9), (some (.l 31, true))⟩,
  ⟨(some (false, 33)), .mv (.g 9), (some (.l 31, true))⟩,
  ⟨(some (false, 34)), .len (.l 33), (some (.l 31, true))⟩,
  ⟨(some (false, 35)), .bin .sub (.l 34) (.c (.lit (.int .i64 1))), (some (.l 31, true))⟩,
  ⟨(some (false, 36)), .ia 2 (.l 32) (.l 35), (some (.l 31, true))⟩,
  ⟨(some (false, 37)), .fa (.l 36) 1, (some (.l 31, true))⟩,
  ⟨(some (false, 38)), .ld none (.l 37), (some (.l 31, true))⟩,
  ⟨(some (false, 39)), .mv (.g 10), (some (.l 31, true))⟩,
  ⟨(some (false, 40)), .bin .sub (.l 39) (.c (.lit (.int .i64 1))), (some (.l 31, true))⟩,
  ⟨(some (false, 41)), .bin .eql (.l 38) (.l 40), (some (.l 31, true))⟩,
  ⟨(some (true, 42)), .pick (.l 31) (.l 41) (.c (.lit (.bool false))), none⟩])
(.cond (.g 42)
(.reg [
  ⟨(some (false, 43)), .mv (.g 9), none⟩,
  ⟨(some (false, 44)), .mv (.g 9), none⟩,
  ⟨(some (false, 45)), .len (.l 44), none⟩,
  ⟨(some (false, 46)), .bin .sub (.l 45) (.c (.lit (.int .i64 1))), none⟩,
  ⟨(some (false, 47)), .mv (.g 10), none⟩,
  ⟨(some (false, 48)), .ia 2 (.l 43) (.l 46), none⟩,
  ⟨(some (false, 49)), .fa (.l 48) 1, none⟩,
  ⟨none, .st 1 (.l 49) (.l 47), none⟩])
(.reg [
  ⟨(some (false, 50)), .mv (.g 9), none⟩,
  ⟨(some (false, 51)), .mv (.g 10), none⟩,
  ⟨(some (false, 52)), .mv (.g 10), none⟩,
  ⟨(some (false, 53)), .mk [.int .i64 0, .int .i64 0] [(0, 1, .l 51), (1, 1, .l 52)], none⟩,
  ⟨(some (false, 54)), .mks false 2 [.l 53], none⟩,
  ⟨(some (false, 55)), .app 2 16 (.l 50) (.l 54), none⟩,
  ⟨(some (true, 9)), .mv (.l 55), none⟩])))))
(.reg [
  ⟨(some (false, 20)), .mv (.g 10), none⟩,
  ⟨(some (false, 21)), .bin .add (.l 20) (.c (.lit (.int .i64 1))), none⟩,
  ⟨(some (true, 10)), .mv (.l 21), none⟩]))))))
(.seq
(.reg [
  ⟨(some (false, 56)), .mv (.g 9), none⟩,
  ⟨(some (true, 6)), .mv (.l 56), none⟩,
  ⟨(some (true, 7)), .mv (.c (.lit (.int .i64 0))), none⟩])
.ret)))))
def K49 : List Nat := [0, 1, 2, 16, 19, 27, 42, 6, 7, 3, 4, 8, 9, 10]
noncomputable def b49 : Code := match Try.f49.body with | some c => c | none => .skip
theorem t49 : trCode ⟨Try.prog, K49, [], 57, none⟩ b49 = some c49 := by kernel_rfl
theorem go49 {args : List AV} {H : AHeap} {Kk : AV → AHeap → Prop} (hn : args.length = 3) (h : AGo ⟨Try.prog, K49, [], 57, none⟩ H.length [.code c49] (RetP [.t (.g 6), .t (.g 7)] H.length Kk) ⟨[], argsG 0 args⟩ H) : ACalls Try.prog 49 args H Kk :=
  ACalls_of Try.func49 (c := b49) rfl (by kernel_rfl) t49 (rs := [.t (.g 6), .t (.g 7)]) (by kernel_rfl) (by rw [hn]; exact Nat.le_of_ble_eq_true rfl) (by rw [hn]; rfl) (h.weaken (fun _ _ => RetP.hands) (by simp))

end Go.Sas
namespace Go.Sas
open Go.Proofs
set_option maxRecDepth 100000
/-- sastrugi/sastrugilaw03.awake -/
def c19 : ACode :=
  (.seq
(.reg [
  ⟨(some (true, 0)), .mv (.c (.lit (.bool false))), none⟩])
(.seq
(.reg [
  ⟨(some (false, 8)), .call (.c (.fn 79 [])) [], none⟩,
  ⟨(some (false, 9)), .call (.c (.fn 54 [])) [.l 8, .c (.lit (.int .i64 500)), .c (.lit (.int .i64 60))], none⟩,
  ⟨(some (false, 7)), .mv (.l 9), none⟩,
  ⟨(some (false, 10)), .ex (.l 7) 0, none⟩,
  ⟨(some (false, 11)), .ex (.l 7) 1, none⟩,
  ⟨(some (true, 1)), .mv (.l 10), none⟩,
  ⟨(some (true, 2)), .mv (.l 11), none⟩])
(.seq
(.reg [
  ⟨(some (false, 13)), .call (.c (.fn 79 [])) [], none⟩,
  ⟨(some (false, 14)), .call (.c (.fn 61 [])) [.c (.lit (.int .i64 500))], none⟩,
  ⟨(some (false, 15)), .mks false 2 [.l 14], none⟩,
  ⟨(some (false, 16)), .call (.c (.fn 61 [])) [.c (.lit (.int .i64 8000))], none⟩,
  ⟨(some (false, 17)), .mks false 1 [.c (.lit (.int .i64 10)), .c (.lit (.int .i64 29))], none⟩,
  ⟨(some (false, 18)), .call (.c (.fn 44 [])) [.l 16, .l 17], none⟩,
  ⟨(some (false, 19)), .call (.c (.fn 25 [])) [.l 13, .l 15, .c (.lit (.slice none 0 0)), .l 18], none⟩,
  ⟨(some (false, 12)), .mv (.l 19), none⟩,
  ⟨(some (false, 20)), .ex (.l 12) 0, none⟩,
  ⟨(some (false, 21)), .ex (.l 12) 1, none⟩,
  ⟨(some (true, 3)), .mv (.l 20), none⟩,
  ⟨(some (true, 4)), .mv (.l 21), none⟩])
(.seq
(.reg [
  ⟨(some (false, 23)), .call (.c (.fn 79 [])) [], none⟩,
  ⟨(some (false, 24)), .call (.c (.fn 61 [])) [.c (.lit (.int .i64 50))], none⟩,
  ⟨(some (false, 25)), .call (.c (.fn 46 [])) [.l 23, .l 24, .c (.lit (.int .i64 100)), .c (.lit (.int .i64 70))], none⟩,
  ⟨(some (false, 22)), .mv (.l 25), none⟩,
  ⟨(some (false, 26)), .ex (.l 22) 0, none⟩,
  ⟨(some (false, 27)), .ex (.l 22) 1, none⟩,
  ⟨(some (true, 5)), .mv (.l 26), none⟩,
  ⟨(some (true, 6)), .mv (.l 27), none⟩])
(.seq
(.reg [
  ⟨(some (false, 28)), .mv (.g 2), none⟩,
  ⟨(some (false, 29)), .bin .eql (.l 28) (.c (.lit (.int .i64 0))), none⟩,
  ⟨(some (false, 30)), .mv (.l 29), none⟩,
  ⟨(some (false, 31)), .mv (.g 4), (some (.l 30, true))⟩,
  ⟨(some (false, 32)), .bin .eql (.l 31) (.c (.lit (.int .i64 0))), (some (.l 30, true))⟩,
  ⟨(some (false, 33)), .pick (.l 30) (.l 32) (.c (.lit (.bool false))), none⟩,
  ⟨(some (false, 34)), .mv (.l 33), none⟩,
  ⟨(some (false, 35)), .mv (.g 6), (some (.l 34, true))⟩,
  ⟨(some (false, 36)), .bin .eql (.l 35) (.c (.lit (.int .i64 0))), (some (.l 34, true))⟩,
  ⟨(some (false, 37)), .pick (.l 34) (.l 36) (.c (.lit (.bool false))), none⟩,
  ⟨(some (false, 38)), .mv (.l 37), none⟩,
  ⟨(some (false, 39)), .mv (.g 1), (some (.l 38, true))⟩,
  ⟨(some (false, 40)), .bin .eql (.l 39) (.c (.lit (.int .i64 6400))), (some (.l 38, true))⟩,
  ⟨(some (false, 41)), .pick (.l 38) (.l 40) (.c (.lit (.bool false))), none⟩,
  ⟨(some (false, 42)), .mv (.l 41), none⟩,
  ⟨(some (false, 43)), .mv (.g 3), (some (.l 42, true))⟩,
  ⟨(some (false, 44)), .mks false 1 [.c (.lit (.int .i64 2)), .c (.lit (.int .i64 2))], (some (.l 42, true))⟩,
  ⟨(some (false, 45)), .call (.c (.fn 27 [])) [.l 43, .l 44], (some (.l 42, true))⟩,
  ⟨(some (false, 46)), .pick (.l 42) (.l 45) (.c (.lit (.bool false))), none⟩,
  ⟨(some (false, 47)), .mv (.l 46), none⟩,
  ⟨(some (false, 48)), .mv (.g 5), (some (.l 47, true))⟩,
  ⟨(some (false, 49)), .bin .eql (.l 48) (.c (.lit (.int .i64 2))), (some (.l 47, true))⟩,
  ⟨(some (false, 50)), .pick (.l 47) (.l 49) (.c (.lit (.bool false))), none⟩,
  ⟨(some (true, 0)), .mv (.l 50), none⟩])
.ret)))))
def K19 : List Nat := [0, 1, 2, 3, 4, 5, 6]
noncomputable def b19 : Code := match Try.f19.body with | some c => c | none => .skip
theorem t19 : trCode ⟨Try.prog, K19, [], 51, none⟩ b19 = some c19 := by kernel_rfl
theorem go19 {args : List AV} {H : AHeap} {Kk : AV → AHeap → Prop} (hn : args.length = 0) (h : AGo ⟨Try.prog, K19, [], 51, none⟩ H.length [.code c19] (RetP [.t (.g 0)] H.length Kk) ⟨[], argsG 0 args⟩ H) : ACalls Try.prog 19 args H Kk :=
  ACalls_of Try.func19 (c := b19) rfl (by kernel_rfl) t19 (rs := [.t (.g 0)]) (by kernel_rfl) (by rw [hn]; exact Nat.le_of_ble_eq_true rfl) (by rw [hn]; rfl) (h.weaken (fun _ _ => RetP.hands) (by simp))

/-- sastrugi/sastrugilaw03.loads -/
def c44 : ACode :=
  (.seq
(.reg [
  ⟨(some (true, 2)), .box (.g 0), none⟩,
  ⟨(some (true, 4)), .mv (.c (.lit (.slice none 0 0))), none⟩])
(.seq
(.reg [
  ⟨(some (true, 5)), .mv (.c (.lit (.slice none 0 0))), none⟩])
(.seq
(.seq
(.reg [
  ⟨(some (true, 6)), .mv (.c (.lit (.int .i64 0))), none⟩])
(.block 0
(.loop
(.seq
(.seq
(.reg [
  ⟨(some (false, 7)), .mv (.g 6), none⟩,
  ⟨(some (false, 8)), .mv (.g 1), none⟩,
  ⟨(some (false, 9)), .len (.l 8), none⟩,
  ⟨(some (true, 10)), .bin .lss (.l 7) (.l 9), none⟩])
(.cond (.g 10)
.skip
(.exit 0)))
(.seq
(.block 1
(.draw [
  ⟨⟨(some (false, 13)), .mv (.g 5), none⟩, 0, false, []⟩,
  ⟨⟨(some (false, 14)), .mv (.g 1), none⟩, 1, false, []⟩,
  ⟨⟨(some (false, 15)), .mv (.g 6), none⟩, 2, false, []⟩,
  ⟨⟨(some (false, 16)), .ia 1 (.l 14) (.l 15), none⟩, 3, false, []⟩,
  ⟨⟨(some (false, 17)), .ld none (.l 16), none⟩, 4, false, []⟩,
  ⟨⟨(some (false, 18)), .ld (some 2) (.g 2), none⟩, 5, false, []⟩,
  ⟨⟨(some (false, 19)), .mk [.int .i64 0, .int .i64 0, .int .i64 0, .int .i64 0] [(0, 1, .l 17), (1, 2, .l 18)], none⟩, 6, false, []⟩,
  ⟨⟨(some (false, 20)), .mks false 4 [.l 19], none⟩, 7, false, []⟩,
  ⟨⟨(some (false, 21)), .app 4 32 (.l 13) (.l 20), none⟩, 8, false, []⟩,
  ⟨⟨(some (true, 5)), .mv (.l 21), none⟩, 9, false, []⟩]))
(.reg [
  ⟨(some (false, 11)), .mv (.g 6), none⟩,
  ⟨(some (false, 12)), .bin .add (.l 11) (.c (.lit (.int .i64 1))), none⟩,
  ⟨(some (true, 6)), .mv (.l 12), none⟩]))))))
(.seq
(.reg [
  ⟨(some (false, 22)), .mv (.g 5), none⟩,
  ⟨(some (true, 4)), .mv (.l 22), none⟩])
.ret))))
def K44 : List Nat := [0, 1, 10, 4, 2, 5, 6]
noncomputable def b44 : Code := match Try.f44.body with | some c => c | none => .skip
theorem t44 : trCode ⟨Try.prog, K44, [], 23, none⟩ b44 = some c44 := by kernel_rfl
theorem go44 {args : List AV} {H : AHeap} {Kk : AV → AHeap → Prop} (hn : args.length = 2) (h : AGo ⟨Try.prog, K44, [], 23, none⟩ H.length [.code c44] (RetP [.t (.g 4)] H.length Kk) ⟨[], argsG 0 args⟩ H) : ACalls Try.prog 44 args H Kk :=
  ACalls_of Try.func44 (c := b44) rfl (by kernel_rfl) t44 (rs := [.t (.g 4)]) (by kernel_rfl) (by rw [hn]; exact Nat.le_of_ble_eq_true rfl) (by rw [hn]; rfl) (h.weaken (fun _ _ => RetP.hands) (by simp))

/-- sastrugi/sastrugilaw03.span -/
def c51 : ACode :=
  (.seq
(.reg [
  ⟨(some (true, 4)), .new [.int .i64 0, .int .i64 0], none⟩])
(.seq
(.reg [
  ⟨(some (false, 5)), .mv (.g 0), none⟩,
  ⟨(some (false, 6)), .mv (.g 1), none⟩,
  ⟨(some (false, 7)), .mk [.int .i64 0, .int .i64 0] [(0, 1, .l 5), (1, 1, .l 6)], none⟩,
  ⟨none, .st 2 (.g 4) (.l 7), none⟩])
.ret))
def K51 : List Nat := [0, 1, 4]
noncomputable def b51 : Code := match Try.f51.body with | some c => c | none => .skip
theorem t51 : trCode ⟨Try.prog, K51, [], 8, none⟩ b51 = some c51 := by kernel_rfl
theorem go51 {args : List AV} {H : AHeap} {Kk : AV → AHeap → Prop} (hn : args.length = 2) (h : AGo ⟨Try.prog, K51, [], 8, none⟩ H.length [.code c51] (RetP [.cell (.g 4) (some 2)] H.length Kk) ⟨[], argsG 0 args⟩ H) : ACalls Try.prog 51 args H Kk :=
  ACalls_of Try.func51 (c := b51) rfl (by kernel_rfl) t51 (rs := [.cell (.g 4) (some 2)]) (by kernel_rfl) (by rw [hn]; exact Nat.le_of_ble_eq_true rfl) (by rw [hn]; rfl) (h.weaken (fun _ _ => RetP.hands) (by simp))

/-- sastrugi/sastrugilaw03.one -/
def c61 : ACode :=
  (.seq
(.reg [
  ⟨(some (true, 2)), .new [.int .i64 0, .int .i64 0], none⟩])
(.seq
(.reg [
  ⟨(some (false, 3)), .mv (.g 0), none⟩,
  ⟨(some (false, 4)), .mv (.g 0), none⟩,
  ⟨(some (false, 5)), .call (.c (.fn 51 [])) [.l 3, .l 4], none⟩,
  ⟨none, .st 2 (.g 2) (.l 5), none⟩])
.ret))
def K61 : List Nat := [0, 2]
noncomputable def b61 : Code := match Try.f61.body with | some c => c | none => .skip
theorem t61 : trCode ⟨Try.prog, K61, [], 6, none⟩ b61 = some c61 := by kernel_rfl
theorem go61 {args : List AV} {H : AHeap} {Kk : AV → AHeap → Prop} (hn : args.length = 1) (h : AGo ⟨Try.prog, K61, [], 6, none⟩ H.length [.code c61] (RetP [.cell (.g 2) (some 2)] H.length Kk) ⟨[], argsG 0 args⟩ H) : ACalls Try.prog 61 args H Kk :=
  ACalls_of Try.func61 (c := b61) rfl (by kernel_rfl) t61 (rs := [.cell (.g 2) (some 2)]) (by kernel_rfl) (by rw [hn]; exact Nat.le_of_ble_eq_true rfl) (by rw [hn]; rfl) (h.weaken (fun _ _ => RetP.hands) (by simp))

/-- sastrugi/sastrugilaw03.plate -/
def c79 : ACode :=
  (.seq
(.reg [
  ⟨(some (true, 0)), .new [.int .i64 0, .int .i64 0, .slice none 0 0, .slice none 0 0, .int .i64 0, .int .i64 0, .int .i64 0, .int .i64 0, .int .i64 0, .int .i64 0, .int .i64 0], none⟩])
(.seq
(.reg [
  ⟨(some (false, 1)), .call (.c (.fn 51 [])) [.c (.lit (.int .i64 40000)), .c (.lit (.int .i64 50000))], none⟩,
  ⟨(some (false, 2)), .mk [.int .i64 0, .int .i64 0] [(1, 1, .c (.lit (.int .i64 1000000)))], none⟩,
  ⟨(some (false, 3)), .mk [.int .i64 0, .int .i64 0] [(0, 1, .c (.lit (.int .i64 20))), (1, 1, .c (.lit (.int .i64 500000)))], none⟩,
  ⟨(some (false, 4)), .mk [.int .i64 0, .int .i64 0] [(0, 1, .c (.lit (.int .i64 100)))], none⟩,
  ⟨(some (false, 5)), .mks false 2 [.l 2, .l 3, .l 4], none⟩,
  ⟨(some (false, 6)), .mk [.int .i64 0, .int .i64 0] [(1, 1, .c (.lit (.int .i64 1000000)))], none⟩,
  ⟨(some (false, 7)), .mk [.int .i64 0, .int .i64 0] [(0, 1, .c (.lit (.int .i64 60))), (1, 1, .c (.lit (.int .i64 640000)))], none⟩,
  ⟨(some (false, 8)), .mk [.int .i64 0, .int .i64 0] [(0, 1, .c (.lit (.int .i64 600))), (1, 1, .c (.lit (.int .i64 250000)))], none⟩,
  ⟨(some (false, 9)), .mks false 2 [.l 6, .l 7, .l 8], none⟩,
  ⟨(some (false, 10)), .mk [.int .i64 0, .int .i64 0, .slice none 0 0, .slice none 0 0, .int .i64 0, .int .i64 0, .int .i64 0, .int .i64 0, .int .i64 0, .int .i64 0, .int .i64 0] [(0, 2, .l 1), (2, 1, .l 5), (3, 1, .l 9), (4, 1, .c (.lit (.int .i64 5))), (5, 1, .c (.lit (.int .i64 500000))), (6, 1, .c (.lit (.int .i64 98))), (7, 1, .c (.lit (.int .i64 640000))), (8, 1, .c (.lit (.int .i64 1440000))), (9, 1, .c (.lit (.int .i64 50))), (10, 1, .c (.lit (.int .i64 250000)))], none⟩,
  ⟨none, .st 11 (.g 0) (.l 10), none⟩])
.ret))
def K79 : List Nat := [0]
noncomputable def b79 : Code := match Try.f79.body with | some c => c | none => .skip
theorem t79 : trCode ⟨Try.prog, K79, [], 11, none⟩ b79 = some c79 := by kernel_rfl
theorem go79 {args : List AV} {H : AHeap} {Kk : AV → AHeap → Prop} (hn : args.length = 0) (h : AGo ⟨Try.prog, K79, [], 11, none⟩ H.length [.code c79] (RetP [.cell (.g 0) (some 11)] H.length Kk) ⟨[], argsG 0 args⟩ H) : ACalls Try.prog 79 args H Kk :=
  ACalls_of Try.func79 (c := b79) rfl (by kernel_rfl) t79 (rs := [.cell (.g 0) (some 11)]) (by kernel_rfl) (by rw [hn]; exact Nat.le_of_ble_eq_true rfl) (by rw [hn]; rfl) (h.weaken (fun _ _ => RetP.hands) (by simp))

/-- sastrugi/sastrugilaw03.big -/
def c18 : ACode :=
  (.seq
(.reg [
  ⟨(some (true, 1)), .box (.g 0), none⟩,
  ⟨(some (true, 2)), .mv (.c (.lit (.bool false))), none⟩])
(.seq
(.reg [
  ⟨(some (false, 3)), .fa (.g 1) 2, none⟩,
  ⟨(some (false, 4)), .ld none (.l 3), none⟩,
  ⟨(some (false, 5)), .len (.l 4), none⟩,
  ⟨(some (false, 6)), .bin .gtr (.l 5) (.c (.lit (.int .i64 40))), none⟩,
  ⟨(some (false, 7)), .mv (.l 6), none⟩,
  ⟨(some (false, 8)), .fa (.g 1) 3, (some (.l 7, false))⟩,
  ⟨(some (false, 9)), .ld none (.l 8), (some (.l 7, false))⟩,
  ⟨(some (false, 10)), .len (.l 9), (some (.l 7, false))⟩,
  ⟨(some (false, 11)), .bin .gtr (.l 10) (.c (.lit (.int .i64 40))), (some (.l 7, false))⟩,
  ⟨(some (false, 12)), .pick (.l 7) (.c (.lit (.bool true))) (.l 11), none⟩,
  ⟨(some (true, 2)), .mv (.l 12), none⟩])
.ret))
def K18 : List Nat := [0, 2, 1]
noncomputable def b18 : Code := match Try.f18.body with | some c => c | none => .skip
theorem t18 : trCode ⟨Try.prog, K18, [], 13, none⟩ b18 = some c18 := by kernel_rfl
theorem go18 {args : List AV} {H : AHeap} {Kk : AV → AHeap → Prop} (hn : args.length = 1) (h : AGo ⟨Try.prog, K18, [], 13, none⟩ H.length [.code c18] (RetP [.t (.g 2)] H.length Kk) ⟨[], argsG 0 args⟩ H) : ACalls Try.prog 18 args H Kk :=
  ACalls_of Try.func18 (c := b18) rfl (by kernel_rfl) t18 (rs := [.t (.g 2)]) (by kernel_rfl) (by rw [hn]; exact Nat.le_of_ble_eq_true rfl) (by rw [hn]; rfl) (h.weaken (fun _ _ => RetP.hands) (by simp))

/-- sastrugi/sastrugilaw03.madeOf -/
def c28 : ACode :=
  (.seq
(.reg [
  ⟨(some (true, 2)), .new [.int .i64 0, .int .i64 0, .slice none 0 0, .slice none 0 0, .int .i64 0, .int .i64 0, .int .i64 0, .int .i64 0, .int .i64 0, .int .i64 0, .int .i64 0, .slice none 0 0, .slice none 0 0, .slice none 0 0], none⟩])
(.seq
(.reg [
  ⟨(some (false, 4)), .mv (.g 0), none⟩,
  ⟨(some (false, 5)), .call (.c (.fn 21 [])) [.l 4], none⟩,
  ⟨(some (false, 6)), .mv (.g 0), none⟩,
  ⟨(some (false, 7)), .call (.c (.fn 22 [])) [.l 6, .c (.lit (.int .i64 4))], none⟩,
  ⟨(some (false, 8)), .mk [.int .i64 0, .int .i64 0, .slice none 0 0, .slice none 0 0, .int .i64 0, .int .i64 0, .int .i64 0, .int .i64 0, .int .i64 0, .int .i64 0, .int .i64 0, .slice none 0 0, .slice none 0 0, .slice none 0 0] [(0, 11, .l 5), (11, 1, .l 7)], none⟩,
  ⟨(some (true, 3)), .new [.int .i64 0, .int .i64 0, .slice none 0 0, .slice none 0 0, .int .i64 0, .int .i64 0, .int .i64 0, .int .i64 0, .int .i64 0, .int .i64 0, .int .i64 0, .slice none 0 0, .slice none 0 0, .slice none 0 0], none⟩,
  ⟨none, .st 14 (.g 3) (.l 8), none⟩])
(.seq
(.reg [
  ⟨(some (false, 9)), .mv (.g 0), none⟩,
  ⟨(some (false, 10)), .fa (.g 3) 11, none⟩,
  ⟨(some (false, 11)), .ld none (.l 10), none⟩,
  ⟨(some (false, 12)), .len (.l 11), none⟩,
  ⟨(some (false, 13)), .call (.c (.fn 23 [])) [.l 9, .l 12, .c (.lit (.int .i64 3))], none⟩,
  ⟨(some (false, 14)), .fa (.g 3) 12, none⟩,
  ⟨none, .st 1 (.l 14) (.l 13), none⟩])
(.seq
(.reg [
  ⟨(some (false, 15)), .mv (.g 0), none⟩,
  ⟨(some (false, 16)), .fa (.g 3) 11, none⟩,
  ⟨(some (false, 17)), .ld none (.l 16), none⟩,
  ⟨(some (false, 18)), .len (.l 17), none⟩,
  ⟨(some (false, 19)), .call (.c (.fn 24 [])) [.l 15, .l 18, .c (.lit (.int .i64 5))], none⟩,
  ⟨(some (false, 20)), .fa (.g 3) 13, none⟩,
  ⟨none, .st 1 (.l 20) (.l 19), none⟩])
(.seq
(.reg [
  ⟨(some (false, 21)), .ld (some 14) (.g 3), none⟩,
  ⟨none, .st 14 (.g 2) (.l 21), none⟩])
.ret)))))
def K28 : List Nat := [0, 2, 3]
noncomputable def b28 : Code := match Try.f28.body with | some c => c | none => .skip
theorem t28 : trCode ⟨Try.prog, K28, [], 22, none⟩ b28 = some c28 := by kernel_rfl
theorem go28 {args : List AV} {H : AHeap} {Kk : AV → AHeap → Prop} (hn : args.length = 1) (h : AGo ⟨Try.prog, K28, [], 22, none⟩ H.length [.code c28] (RetP [.cell (.g 2) (some 14)] H.length Kk) ⟨[], argsG 0 args⟩ H) : ACalls Try.prog 28 args H Kk :=
  ACalls_of Try.func28 (c := b28) rfl (by kernel_rfl) t28 (rs := [.cell (.g 2) (some 14)]) (by kernel_rfl) (by rw [hn]; exact Nat.le_of_ble_eq_true rfl) (by rw [hn]; rfl) (h.weaken (fun _ _ => RetP.hands) (by simp))

/-- sastrugi/sastrugilaw03.inside -/
def c30 : ACode :=
  (.seq
(.reg [
  ⟨(some (true, 4)), .mv (.c (.lit (.slice none 0 0))), none⟩])
(.seq
(.reg [
  ⟨(some (true, 5)), .mv (.c (.lit (.slice none 0 0))), none⟩])
(.seq
(.seq
(.reg [
  ⟨(some (true, 6)), .mv (.c (.lit (.int .i64 0))), none⟩])
(.block 0
(.loop
(.seq
(.seq
(.reg [
  ⟨(some (false, 7)), .mv (.g 6), none⟩,
  ⟨(some (false, 8)), .mv (.g 1), none⟩,
  ⟨(some (false, 9)), .len (.l 8), none⟩,
  ⟨(some (true, 10)), .bin .lss (.l 7) (.l 9), none⟩])
(.cond (.g 10)
.skip
(.exit 0)))
(.seq
(.block 1
(.reg [
  ⟨(some (false, 13)), .mv (.g 5), none⟩,
  ⟨(some (false, 14)), .mv (.g 0), none⟩,
  ⟨(some (false, 15)), .mv (.g 1), none⟩,
  ⟨(some (false, 16)), .mv (.g 6), none⟩,
  ⟨(some (false, 17)), .ia 2 (.l 15) (.l 16), none⟩,
  ⟨(some (false, 18)), .ld (some 2) (.l 17), none⟩,
  ⟨(some (false, 19)), .call (.c (.fn 29 [])) [.l 14, .l 18], none⟩,
  ⟨(some (false, 20)), .mks false 1 [.l 19], none⟩,
  ⟨(some (false, 21)), .app 1 8 (.l 13) (.l 20), none⟩,
  ⟨(some (true, 5)), .mv (.l 21), none⟩]))
(.reg [
  ⟨(some (false, 11)), .mv (.g 6), none⟩,
  ⟨(some (false, 12)), .bin .add (.l 11) (.c (.lit (.int .i64 1))), none⟩,
  ⟨(some (true, 6)), .mv (.l 12), none⟩]))))))
(.seq
(.reg [
  ⟨(some (false, 22)), .mv (.g 5), none⟩,
  ⟨(some (true, 4)), .mv (.l 22), none⟩])
.ret))))
def K30 : List Nat := [0, 1, 10, 4, 5, 6]
noncomputable def b30 : Code := match Try.f30.body with | some c => c | none => .skip
theorem t30 : trCode ⟨Try.prog, K30, [], 23, none⟩ b30 = some c30 := by kernel_rfl
theorem go30 {args : List AV} {H : AHeap} {Kk : AV → AHeap → Prop} (hn : args.length = 2) (h : AGo ⟨Try.prog, K30, [], 23, none⟩ H.length [.code c30] (RetP [.t (.g 4)] H.length Kk) ⟨[], argsG 0 args⟩ H) : ACalls Try.prog 30 args H Kk :=
  ACalls_of Try.func30 (c := b30) rfl (by kernel_rfl) t30 (rs := [.t (.g 4)]) (by kernel_rfl) (by rw [hn]; exact Nat.le_of_ble_eq_true rfl) (by rw [hn]; rfl) (h.weaken (fun _ _ => RetP.hands) (by simp))

/-- sastrugi/sastrugilaw03.weights -/
def c31 : ACode :=
  (.seq
(.reg [
  ⟨(some (true, 2)), .mv (.c (.lit (.slice none 0 0))), none⟩])
(.seq
(.reg [
  ⟨(some (true, 3)), .mv (.c (.lit (.slice none 0 0))), none⟩])
(.seq
(.seq
(.reg [
  ⟨(some (true, 4)), .mv (.c (.lit (.int .i64 0))), none⟩])
(.block 0
(.loop
(.seq
(.seq
(.reg [
  ⟨(some (false, 5)), .mv (.g 4), none⟩,
  ⟨(some (false, 6)), .mv (.g 0), none⟩,
  ⟨(some (false, 7)), .len (.l 6), none⟩,
  ⟨(some (true, 8)), .bin .lss (.l 5) (.l 7), none⟩])
(.cond (.g 8)
.skip
(.exit 0)))
(.seq
(.block 1
(.reg [
  ⟨(some (false, 11)), .mv (.g 3), none⟩,
  ⟨(some (false, 12)), .mv (.g 0), none⟩,
  ⟨(some (false, 13)), .mv (.g 4), none⟩,
  ⟨(some (false, 14)), .ia 4 (.l 12) (.l 13), none⟩,
  ⟨(some (false, 15)), .fa (.l 14) 1, none⟩,
  ⟨(some (false, 16)), .ld (some 2) (.l 15), none⟩,
  ⟨(some (false, 17)), .mks false 2 [.l 16], none⟩,
  ⟨(some (false, 18)), .app 2 16 (.l 11) (.l 17), none⟩,
  ⟨(some (true, 3)), .mv (.l 18), none⟩]))
(.reg [
  ⟨(some (false, 9)), .mv (.g 4), none⟩,
  ⟨(some (false, 10)), .bin .add (.l 9) (.c (.lit (.int .i64 1))), none⟩,
  ⟨(some (true, 4)), .mv (.l 10), none⟩]))))))
(.seq
(.reg [
  ⟨(some (false, 19)), .mv (.g 3), none⟩,
  ⟨(some (true, 2)), .mv (.l 19), none⟩])
.ret))))
def K31 : List Nat := [0, 8, 2, 3, 4]
noncomputable def b31 : Code := match Try.f31.body with | some c => c | none => .skip
theorem t31 : trCode ⟨Try.prog, K31, [], 20, none⟩ b31 = some c31 := by kernel_rfl
theorem go31 {args : List AV} {H : AHeap} {Kk : AV → AHeap → Prop} (hn : args.length = 1) (h : AGo ⟨Try.prog, K31, [], 20, none⟩ H.length [.code c31] (RetP [.t (.g 2)] H.length Kk) ⟨[], argsG 0 args⟩ H) : ACalls Try.prog 31 args H Kk :=
  ACalls_of Try.func31 (c := b31) rfl (by kernel_rfl) t31 (rs := [.t (.g 2)]) (by kernel_rfl) (by rw [hn]; exact Nat.le_of_ble_eq_true rfl) (by rw [hn]; rfl) (h.weaken (fun _ _ => RetP.hands) (by simp))

/-- sastrugi/sastrugilaw03.borne -/
def c32 : ACode :=
  (.seq
(.reg [
  ⟨(some (true, 4)), .box (.g 0), none⟩,
  ⟨(some (true, 6)), .box (.g 2), none⟩,
  ⟨(some (true, 8)), .mv (.c (.lit (.bool false))), none⟩])
(.seq
(.reg [
  ⟨(some (false, 15)), .mv (.g 1), none⟩,
  ⟨(some (false, 16)), .mv (.g 3), none⟩,
  ⟨(some (false, 17)), .ia 4 (.l 15) (.l 16), none⟩,
  ⟨(some (false, 18)), .ld (some 4) (.l 17), none⟩,
  ⟨(some (true, 9)), .new [.int .i64 0, .int .i64 0, .int .i64 0, .int .i64 0], none⟩,
  ⟨none, .st 4 (.g 9) (.l 18), none⟩])
(.seq
(.reg [
  ⟨(some (false, 19)), .fa (.g 6) 1, none⟩,
  ⟨(some (false, 20)), .ld none (.l 19), none⟩,
  ⟨(some (false, 21)), .fa (.g 9) 0, none⟩,
  ⟨(some (false, 22)), .ld none (.l 21), none⟩,
  ⟨(some (false, 23)), .bin .quo (.l 22) (.c (.lit (.int .i64 100))), none⟩,
  ⟨(some (false, 24)), .ia 1 (.l 20) (.l 23), none⟩,
  ⟨(some (false, 25)), .ld none (.l 24), none⟩,
  ⟨(some (true, 10)), .mv (.l 25), none⟩])
(.seq
(.reg [
  ⟨(some (true, 11)), .mv (.c (.lit (.bool false))), none⟩])
(.seq
(.seq
(.reg [
  ⟨(some (true, 12)), .mv (.c (.lit (.int .i64 0))), none⟩])
(.block 0
(.loop
(.seq
(.seq
(.reg [
  ⟨(some (false, 26)), .mv (.g 12), none⟩,
  ⟨(some (false, 27)), .fa (.g 6) 2, none⟩,
  ⟨(some (false, 28)), .ld none (.l 27), none⟩,
  ⟨(some (false, 29)), .len (.l 28), none⟩,
  ⟨(some (true, 30)), .bin .lss (.l 26) (.l 29), none⟩])
(.cond (.g 30)
.skip
(.exit 0)))
(.seq
(.block 1
(.draw [
  ⟨⟨(some (false, 33)), .mv (.g 11), none⟩, 0, false, []⟩,
  ⟨⟨(some (false, 34)), .mv (.l 33), none⟩, 1, false, []⟩,
  ⟨⟨(some (false, 35)), .fa (.g 6) 2, (some (.l 34, false))⟩, 2, false, []⟩,
  ⟨⟨(some (false, 36)), .ld none (.l 35), (some (.l 34, false))⟩, 3, false, []⟩,
  ⟨⟨(some (false, 37)), .mv (.g 12), (some (.l 34, false))⟩, 4, false, []⟩,
  ⟨⟨(some (false, 38)), .ia 1 (.l 36) (.l 37), (some (.l 34, false))⟩, 5, false, []⟩,
  ⟨⟨(some (false, 39)), .ld none (.l 38), (some (.l 34, false))⟩, 6, false, []⟩,
  ⟨⟨(some (false, 40)), .fa (.g 9) 0, (some (.l 34, false))⟩, 7, false, []⟩,
  ⟨⟨(some (false, 41)), .ld none (.l 40), (some (.l 34, false))⟩, 8, false, []⟩,
  ⟨⟨(some (false, 43)), .fa (.g 4) 4, (some (.l 34, false))⟩, 10, false, []⟩,
  ⟨⟨(some (false, 44)), .ld none (.l 43), (some (.l 34, false))⟩, 11, false, []⟩,
  ⟨⟨(some (false, 42)), .call (.c (.fn 40 [])) [.l 39, .l 41], (some (.l 34, false))⟩, 9, false, []⟩,
  ⟨⟨(some (false, 45)), .bin .leq (.l 42) (.l 44), (some (.l 34, false))⟩, 12, false, []⟩,
  ⟨⟨(some (false, 46)), .pick (.l 34) (.c (.lit (.bool true))) (.l 45), none⟩, 13, false, []⟩,
  ⟨⟨(some (true, 11)), .mv (.l 46), none⟩, 14, false, []⟩]))
(.reg [
  ⟨(some (false, 31)), .mv (.g 12), none⟩,
  ⟨(some (false, 32)), .bin .add (.l 31) (.c (.lit (.int .i64 1))), none⟩,
  ⟨(some (true, 12)), .mv (.l 32), none⟩]))))))
(.seq
(.seq
(.reg [
  ⟨(some (true, 47)), .mv (.g 11), none⟩])
(.cond (.g 47)
(.reg [
  ⟨(some (false, 48)), .mv (.g 10), none⟩,
  ⟨(some (false, 49)), .fa (.g 4) 5, none⟩,
  ⟨(some (false, 50)), .ld none (.l 49), none⟩,
  ⟨(some (false, 51)), .bin .mul (.l 48) (.l 50), none⟩,
  ⟨(some (false, 52)), .bin .quo (.l 51) (.c (.lit (.int .i64 1000000))), none⟩,
  ⟨(some (true, 10)), .mv (.l 52), none⟩])
.skip))
(.seq
(.reg [
  ⟨(some (true, 13)), .mv (.c (.lit (.int .i64 0))), none⟩])
(.seq
(.seq
(.reg [
  ⟨(some (true, 14)), .mv (.c (.lit (.int .i64 0))), none⟩])
(.block 2
(.loop
(.seq
(.seq
(.reg [
  ⟨(some (false, 53)), .mv (.g 14), none⟩,
  ⟨(some (false, 54)), .mv (.g 1), none⟩,
  ⟨(some (false, 55)), .len (.l 54), none⟩,
  ⟨(some (true, 56)), .bin .lss (.l 53) (.l 55), none⟩])
(.cond (.g 56)
.skip
(.exit 2)))
(.seq
(.block 3
(.draw [
  ⟨⟨(some (false, 59)), .mv (.g 13), none⟩, 0, false, []⟩,
  ⟨⟨(some (false, 60)), .fa (.g 6) 3, none⟩, 1, false, []⟩,
  ⟨⟨(some (false, 61)), .ld none (.l 60), none⟩, 2, false, []⟩,
  ⟨⟨(some (false, 62)), .mv (.g 14), none⟩, 3, false, []⟩,
  ⟨⟨(some (false, 63)), .ia 1 (.l 61) (.l 62), none⟩, 4, false, []⟩,
  ⟨⟨(some (false, 64)), .ld none (.l 63), none⟩, 5, false, []⟩,
  ⟨⟨(some (false, 65)), .fa (.g 4) 2, none⟩, 6, false, []⟩,
  ⟨⟨(some (false, 66)), .ld none (.l 65), none⟩, 7, false, []⟩,
  ⟨⟨(some (false, 67)), .mv (.g 1), none⟩, 8, false, []⟩,
  ⟨⟨(some (false, 68)), .mv (.g 14), none⟩, 9, false, []⟩,
  ⟨⟨(some (false, 69)), .ia 4 (.l 67) (.l 68), none⟩, 10, false, []⟩,
  ⟨⟨(some (false, 70)), .fa (.l 69) 0, none⟩, 11, false, []⟩,
  ⟨⟨(some (false, 71)), .ld none (.l 70), none⟩, 12, false, []⟩,
  ⟨⟨(some (false, 72)), .fa (.g 9) 0, none⟩, 13, false, []⟩,
  ⟨⟨(some (false, 73)), .ld none (.l 72), none⟩, 14, false, []⟩,
  ⟨⟨(some (false, 74)), .call (.c (.fn 40 [])) [.l 71, .l 73], none⟩, 15, false, []⟩,
  ⟨⟨(some (false, 75)), .call (.c (.fn 39 [])) [.l 66, .l 74], none⟩, 16, false, []⟩,
  ⟨⟨(some (false, 76)), .bin .mul (.l 64) (.l 75), none⟩, 17, false, []⟩,
  ⟨⟨(some (false, 77)), .bin .add (.l 59) (.l 76), none⟩, 18, false, []⟩,
  ⟨⟨(some (true, 13)), .mv (.l 77), none⟩, 19, false, []⟩]))
(.reg [
  ⟨(some (false, 57)), .mv (.g 14), none⟩,
  ⟨(some (false, 58)), .bin .add (.l 57) (.c (.lit (.int .i64 1))), none⟩,
  ⟨(some (true, 14)), .mv (.l 58), none⟩]))))))
(.seq
(.draw [
  ⟨⟨(some (false, 78)), .mv (.g 13), none⟩, 0, false, []⟩,
  ⟨⟨(some (false, 79)), .bin .mul (.l 78) (.c (.lit (.int .i64 1000000))), none⟩, 1, false, []⟩,
  ⟨⟨(some (false, 80)), .fa (.g 6) 0, none⟩, 2, false, []⟩,
  ⟨⟨(some (false, 81)), .ld none (.l 80), none⟩, 3, false, []⟩,
  ⟨⟨(some (false, 82)), .mv (.g 10), none⟩, 4, false, []⟩,
  ⟨⟨(some (false, 83)), .bin .mul (.l 81) (.l 82), none⟩, 5, false, []⟩,
  ⟨⟨(some (false, 84)), .mv (.g 10), none⟩, 6, false, []⟩,
  ⟨⟨(some (false, 85)), .bin .mul (.l 83) (.l 84), none⟩, 7, false, []⟩,
  ⟨⟨(some (false, 86)), .fa (.g 4) 3, none⟩, 8, false, []⟩,
  ⟨⟨(some (false, 87)), .ld none (.l 86), none⟩, 9, false, []⟩,
  ⟨⟨(some (false, 88)), .fa (.g 9) 3, none⟩, 10, false, []⟩,
  ⟨⟨(some (false, 89)), .ld none (.l 88), none⟩, 11, false, []⟩,
  ⟨⟨(some (false, 90)), .call (.c (.fn 39 [])) [.l 87, .l 89], none⟩, 12, false, []⟩,
  ⟨⟨(some (false, 91)), .bin .mul (.l 85) (.l 90), none⟩, 13, false, []⟩,
  ⟨⟨(some (false, 92)), .bin .leq (.l 79) (.l 91), none⟩, 14, false, []⟩,
  ⟨⟨(some (true, 8)), .mv (.l 92), none⟩, 15, false, []⟩])
.ret)))))))))
def K32 : List Nat := [0, 1, 2, 3, 30, 47, 56, 8, 4, 6, 9, 10, 11, 12, 13, 14]
noncomputable def b32 : Code := match Try.f32.body with | some c => c | none => .skip
theorem t32 : trCode ⟨Try.prog, K32, [], 93, none⟩ b32 = some c32 := by kernel_rfl
theorem go32 {args : List AV} {H : AHeap} {Kk : AV → AHeap → Prop} (hn : args.length = 4) (h : AGo ⟨Try.prog, K32, [], 93, none⟩ H.length [.code c32] (RetP [.t (.g 8)] H.length Kk) ⟨[], argsG 0 args⟩ H) : ACalls Try.prog 32 args H Kk :=
  ACalls_of Try.func32 (c := b32) rfl (by kernel_rfl) t32 (rs := [.t (.g 8)]) (by kernel_rfl) (by rw [hn]; exact Nat.le_of_ble_eq_true rfl) (by rw [hn]; rfl) (h.weaken (fun _ _ => RetP.hands) (by simp))

/-- sastrugi/sastrugilaw03.end -/
def c33 : ACode :=
  (.seq
(.reg [
  ⟨(some (true, 4)), .mv (.c (.lit (.slice none 0 0))), none⟩])
(.seq
(.reg [
  ⟨(some (true, 5)), .mv (.c (.lit (.slice none 0 0))), none⟩])
(.seq
(.seq
(.reg [
  ⟨(some (true, 6)), .mv (.c (.lit (.int .i64 0))), none⟩])
(.block 0
(.loop
(.seq
(.seq
(.reg [
  ⟨(some (false, 7)), .mv (.g 6), none⟩,
  ⟨(some (false, 8)), .mv (.g 0), none⟩,
  ⟨(some (false, 9)), .len (.l 8), none⟩,
  ⟨(some (true, 10)), .bin .lss (.l 7) (.l 9), none⟩])
(.cond (.g 10)
.skip
(.exit 0)))
(.seq
(.block 1
(.seq
(.reg [
  ⟨(some (true, 13)), .mv (.g 1), none⟩])
(.cond (.g 13)
(.reg [
  ⟨(some (false, 14)), .mv (.g 5), none⟩,
  ⟨(some (false, 15)), .mv (.g 0), none⟩,
  ⟨(some (false, 16)), .mv (.g 6), none⟩,
  ⟨(some (false, 17)), .ia 2 (.l 15) (.l 16), none⟩,
  ⟨(some (false, 18)), .fa (.l 17) 1, none⟩,
  ⟨(some (false, 19)), .ld none (.l 18), none⟩,
  ⟨(some (false, 20)), .mks false 1 [.l 19], none⟩,
  ⟨(some (false, 21)), .app 1 8 (.l 14) (.l 20), none⟩,
  ⟨(some (true, 5)), .mv (.l 21), none⟩])
(.reg [
  ⟨(some (false, 22)), .mv (.g 5), none⟩,
  ⟨(some (false, 23)), .mv (.g 0), none⟩,
  ⟨(some (false, 24)), .mv (.g 6), none⟩,
  ⟨(some (false, 25)), .ia 2 (.l 23) (.l 24), none⟩,
  ⟨(some (false, 26)), .fa (.l 25) 0, none⟩,
  ⟨(some (false, 27)), .ld none (.l 26), none⟩,
  ⟨(some (false, 28)), .mks false 1 [.l 27], none⟩,
  ⟨(some (false, 29)), .app 1 8 (.l 22) (.l 28), none⟩,
  ⟨(some (true, 5)), .mv (.l 29), none⟩]))))
(.reg [
  ⟨(some (false, 11)), .mv (.g 6), none⟩,
  ⟨(some (false, 12)), .bin .add (.l 11) (.c (.lit (.int .i64 1))), none⟩,
  ⟨(some (true, 6)), .mv (.l 12), none⟩]))))))
(.seq
(.reg [
  ⟨(some (false, 30)), .mv (.g 5), none⟩,
  ⟨(some (true, 4)), .mv (.l 30), none⟩])
.ret))))
def K33 : List Nat := [0, 1, 10, 13, 4, 5, 6]
noncomputable def b33 : Code := match Try.f33.body with | some c => c | none => .skip
theorem t33 : trCode ⟨Try.prog, K33, [], 31, none⟩ b33 = some c33 := by kernel_rfl
theorem go33 {args : List AV} {H : AHeap} {Kk : AV → AHeap → Prop} (hn : args.length = 2) (h : AGo ⟨Try.prog, K33, [], 31, none⟩ H.length [.code c33] (RetP [.t (.g 4)] H.length Kk) ⟨[], argsG 0 args⟩ H) : ACalls Try.prog 33 args H Kk :=
  ACalls_of Try.func33 (c := b33) rfl (by kernel_rfl) t33 (rs := [.t (.g 4)]) (by kernel_rfl) (by rw [hn]; exact Nat.le_of_ble_eq_true rfl) (by rw [hn]; rfl) (h.weaken (fun _ _ => RetP.hands) (by simp))

/-- sastrugi/sastrugilaw03.moved -/
def c34 : ACode :=
  (.seq
(.reg [
  ⟨(some (true, 6)), .mv (.c (.lit (.slice none 0 0))), none⟩])
(.seq
(.reg [
  ⟨(some (true, 7)), .mv (.c (.lit (.slice none 0 0))), none⟩])
(.seq
(.seq
(.reg [
  ⟨(some (true, 8)), .mv (.c (.lit (.int .i64 0))), none⟩])
(.block 0
(.loop
(.seq
(.seq
(.reg [
  ⟨(some (false, 10)), .mv (.g 8), none⟩,
  ⟨(some (false, 11)), .mv (.g 0), none⟩,
  ⟨(some (false, 12)), .len (.l 11), none⟩,
  ⟨(some (true, 13)), .bin .lss (.l 10) (.l 12), none⟩])
(.cond (.g 13)
.skip
(.exit 0)))
(.seq
(.block 1
(.seq
(.reg [
  ⟨(some (false, 16)), .mv (.g 0), none⟩,
  ⟨(some (false, 17)), .mv (.g 8), none⟩,
  ⟨(some (false, 18)), .ia 2 (.l 16) (.l 17), none⟩,
  ⟨(some (false, 19)), .ld (some 2) (.l 18), none⟩,
  ⟨(some (true, 9)), .new [.int .i64 0, .int .i64 0], none⟩,
  ⟨none, .st 2 (.g 9) (.l 19), none⟩])
(.block 2
(.seq
(.reg [
  ⟨(some (false, 26)), .mv (.g 2), none⟩,
  ⟨(some (true, 25)), .mv (.l 26), none⟩])
(.cond (.g 25)
(.reg [
  ⟨(some (false, 27)), .mv (.g 7), none⟩,
  ⟨(some (false, 28)), .mv (.g 1), none⟩,
  ⟨(some (false, 29)), .fa (.g 9) 0, none⟩,
  ⟨(some (false, 30)), .ld none (.l 29), none⟩,
  ⟨(some (false, 31)), .mx [.l 28, .l 30], none⟩,
  ⟨(some (false, 32)), .fa (.g 9) 1, none⟩,
  ⟨(some (false, 33)), .ld none (.l 32), none⟩,
  ⟨(some (false, 34)), .mn [.l 31, .l 33], none⟩,
  ⟨(some (false, 35)), .mks false 1 [.l 34], none⟩,
  ⟨(some (false, 36)), .app 1 8 (.l 27) (.l 35), none⟩,
  ⟨(some (true, 7)), .mv (.l 36), none⟩])
(.seq
(.draw [
  ⟨⟨(some (false, 38)), .mv (.g 1), none⟩, 0, false, []⟩,
  ⟨⟨(some (false, 39)), .fa (.g 9) 0, none⟩, 1, false, []⟩,
  ⟨⟨(some (false, 40)), .ld none (.l 39), none⟩, 2, false, []⟩,
  ⟨⟨(some (false, 42)), .mv (.g 1), none⟩, 4, false, []⟩,
  ⟨⟨(some (false, 43)), .fa (.g 9) 1, none⟩, 5, false, []⟩,
  ⟨⟨(some (false, 44)), .ld none (.l 43), none⟩, 6, false, []⟩,
  ⟨⟨(some (false, 41)), .call (.c (.fn 40 [])) [.l 38, .l 40], none⟩, 3, false, []⟩,
  ⟨⟨(some (false, 45)), .call (.c (.fn 40 [])) [.l 42, .l 44], none⟩, 7, false, []⟩,
  ⟨⟨(some (false, 46)), .bin .gtr (.l 41) (.l 45), none⟩, 8, false, []⟩,
  ⟨⟨(some (true, 37)), .mv (.l 46), none⟩, 9, false, []⟩])
(.cond (.g 37)
(.reg [
  ⟨(some (false, 47)), .mv (.g 7), none⟩,
  ⟨(some (false, 48)), .fa (.g 9) 0, none⟩,
  ⟨(some (false, 49)), .ld none (.l 48), none⟩,
  ⟨(some (false, 50)), .mks false 1 [.l 49], none⟩,
  ⟨(some (false, 51)), .app 1 8 (.l 47) (.l 50), none⟩,
  ⟨(some (true, 7)), .mv (.l 51), none⟩])
(.reg [
  ⟨(some (false, 20)), .mv (.g 7), none⟩,
  ⟨(some (false, 21)), .fa (.g 9) 1, none⟩,
  ⟨(some (false, 22)), .ld none (.l 21), none⟩,
  ⟨(some (false, 23)), .mks false 1 [.l 22], none⟩,
  ⟨(some (false, 24)), .app 1 8 (.l 20) (.l 23), none⟩,
  ⟨(some (true, 7)), .mv (.l 24), none⟩]))))))))
(.reg [
  ⟨(some (false, 14)), .mv (.g 8), none⟩,
  ⟨(some (false, 15)), .bin .add (.l 14) (.c (.lit (.int .i64 1))), none⟩,
  ⟨(some (true, 8)), .mv (.l 15), none⟩]))))))
(.seq
(.reg [
  ⟨(some (false, 52)), .mv (.g 7), none⟩,
  ⟨(some (true, 6)), .mv (.l 52), none⟩])
.ret))))
def K34 : List Nat := [0, 1, 2, 13, 25, 37, 6, 7, 8, 9]
noncomputable def b34 : Code := match Try.f34.body with | some c => c | none => .skip
theorem t34 : trCode ⟨Try.prog, K34, [], 53, none⟩ b34 = some c34 := by kernel_rfl
theorem go34 {args : List AV} {H : AHeap} {Kk : AV → AHeap → Prop} (hn : args.length = 3) (h : AGo ⟨Try.prog, K34, [], 53, none⟩ H.length [.code c34] (RetP [.t (.g 6)] H.length Kk) ⟨[], argsG 0 args⟩ H) : ACalls Try.prog 34 args H Kk :=
  ACalls_of Try.func34 (c := b34) rfl (by kernel_rfl) t34 (rs := [.t (.g 6)]) (by kernel_rfl) (by rw [hn]; exact Nat.le_of_ble_eq_true rfl) (by rw [hn]; rfl) (h.weaken (fun _ _ => RetP.hands) (by simp))

/-- sastrugi/sastrugilaw03.table -/
def c39 : ACode :=
  (.seq
(.reg [
  ⟨(some (true, 4)), .mv (.c (.lit (.int .i64 0))), none⟩])
(.seq
(.reg [
  ⟨(some (true, 5)), .mv (.c (.lit (.int .i64 0))), none⟩])
(.seq
(.seq
(.reg [
  ⟨(some (true, 6)), .mv (.c (.lit (.int .i64 0))), none⟩])
(.block 0
(.loop
(.seq
(.seq
(.reg [
  ⟨(some (false, 7)), .mv (.g 6), none⟩,
  ⟨(some (false, 8)), .mv (.g 0), none⟩,
  ⟨(some (false, 9)), .len (.l 8), none⟩,
  ⟨(some (true, 10)), .bin .lss (.l 7) (.l 9), none⟩])
(.cond (.g 10)
.skip
(.exit 0)))
(.seq
(.block 1
(.seq
(.reg [
  ⟨(some (false, 13)), .mv (.g 0), none⟩,
  ⟨(some (false, 14)), .mv (.g 6), none⟩,
  ⟨(some (false, 15)), .ia 2 (.l 13) (.l 14), none⟩,
  ⟨(some (false, 16)), .fa (.l 15) 0, none⟩,
  ⟨(some (false, 17)), .ld none (.l 16), none⟩,
  ⟨(some (false, 18)), .mv (.g 1), none⟩,
  ⟨(some (true, 19)), .bin .leq (.l 17) (.l 18), none⟩])
(.cond (.g 19)
(.reg [
  ⟨(some (false, 20)), .mv (.g 0), none⟩,
  ⟨(some (false, 21)), .mv (.g 6), none⟩,
  ⟨(some (false, 22)), .ia 2 (.l 20) (.l 21), none⟩,
  ⟨(some (false, 23)), .fa (.l 22) 1, none⟩,
  ⟨(some (false, 24)), .ld none (.l 23), none⟩,
  ⟨(some (true, 5)), .mv (.l 24), none⟩])
.skip)))
(.reg [
  ⟨(some (false, 11)), .mv (.g 6), none⟩,
  ⟨(some (false, 12)), .bin .add (.l 11) (.c (.lit (.int .i64 1))), none⟩,
  ⟨(some (true, 6)), .mv (.l 12), none⟩]))))))
(.seq
(.reg [
  ⟨(some (false, 25)), .mv (.g 5), none⟩,
  ⟨(some (true, 4)), .mv (.l 25), none⟩])
.ret))))
def K39 : List Nat := [0, 1, 10, 19, 4, 5, 6]
noncomputable def b39 : Code := match Try.f39.body with | some c => c | none => .skip
theorem t39 : trCode ⟨Try.prog, K39, [], 26, none⟩ b39 = some c39 := by kernel_rfl
theorem go39 {args : List AV} {H : AHeap} {Kk : AV → AHeap → Prop} (hn : args.length = 2) (h : AGo ⟨Try.prog, K39, [], 26, none⟩ H.length [.code c39] (RetP [.t (.g 4)] H.length Kk) ⟨[], argsG 0 args⟩ H) : ACalls Try.prog 39 args H Kk :=
  ACalls_of Try.func39 (c := b39) rfl (by kernel_rfl) t39 (rs := [.t (.g 4)]) (by kernel_rfl) (by rw [hn]; exact Nat.le_of_ble_eq_true rfl) (by rw [hn]; rfl) (h.weaken (fun _ _ => RetP.hands) (by simp))

/-- sastrugi/sastrugilaw03.far -/
def c40 : ACode :=
  (.seq
(.reg [
  ⟨(some (true, 4)), .mv (.c (.lit (.int .i64 0))), none⟩])
(.seq
(.reg [
  ⟨(some (false, 5)), .mv (.g 0), none⟩,
  ⟨(some (false, 6)), .mv (.g 1), none⟩,
  ⟨(some (false, 7)), .bin .sub (.l 5) (.l 6), none⟩,
  ⟨(some (false, 8)), .mv (.g 1), none⟩,
  ⟨(some (false, 9)), .mv (.g 0), none⟩,
  ⟨(some (false, 10)), .bin .sub (.l 8) (.l 9), none⟩,
  ⟨(some (false, 11)), .mx [.l 7, .l 10], none⟩,
  ⟨(some (true, 4)), .mv (.l 11), none⟩])
.ret))
def K40 : List Nat := [0, 1, 4]
noncomputable def b40 : Code := match Try.f40.body with | some c => c | none => .skip
theorem t40 : trCode ⟨Try.prog, K40, [], 12, none⟩ b40 = some c40 := by kernel_rfl
theorem go40 {args : List AV} {H : AHeap} {Kk : AV → AHeap → Prop} (hn : args.length = 2) (h : AGo ⟨Try.prog, K40, [], 12, none⟩ H.length [.code c40] (RetP [.t (.g 4)] H.length Kk) ⟨[], argsG 0 args⟩ H) : ACalls Try.prog 40 args H Kk :=
  ACalls_of Try.func40 (c := b40) rfl (by kernel_rfl) t40 (rs := [.t (.g 4)]) (by kernel_rfl) (by rw [hn]; exact Nat.le_of_ble_eq_true rfl) (by rw [hn]; rfl) (h.weaken (fun _ _ => RetP.hands) (by simp))

/-- sastrugi/sastrugilaw03.sure -/
def c78 : ACode :=
  (.seq
(.reg [
  ⟨(some (true, 4)), .box (.g 0), none⟩,
  ⟨(some (true, 8)), .mv (.c (.lit (.bool false))), none⟩])
(.seq
(.reg [
  ⟨(some (false, 15)), .mv (.g 2), none⟩,
  ⟨(some (false, 16)), .mv (.g 3), none⟩,
  ⟨(some (false, 17)), .call (.c (.fn 128 [])) [.l 15, .l 16], none⟩,
  ⟨(some (true, 9)), .mv (.l 17), none⟩])
(.seq
(.reg [
  ⟨(some (true, 10)), .mv (.c (.lit (.slice none 0 0))), none⟩])
(.seq
(.seq
(.reg [
  ⟨(some (true, 11)), .mv (.c (.lit (.int .i64 0))), none⟩])
(.block 0
(.loop
(.seq
(.seq
(.reg [
  ⟨(some (false, 18)), .mv (.g 11), none⟩,
  ⟨(some (false, 19)), .mv (.g 3), none⟩,
  ⟨(some (false, 20)), .mv (.g 2), none⟩,
  ⟨(some (false, 21)), .len (.l 20), none⟩,
  ⟨(some (false, 22)), .bin .mul (.l 19) (.l 21), none⟩,
  ⟨(some (false, 23)), .bin .quo (.l 22) (.c (.lit (.int .i64 100))), none⟩,
  ⟨(some (true, 24)), .bin .leq (.l 18) (.l 23), none⟩])
(.cond (.g 24)
.skip
(.exit 0)))
(.seq
(.block 1
(.reg [
  ⟨(some (false, 27)), .mv (.g 10), none⟩,
  ⟨(some (false, 28)), .mv (.g 1), none⟩,
  ⟨(some (false, 29)), .call (.c (.fn 61 [])) [.l 28], none⟩,
  ⟨(some (false, 30)), .mks false 2 [.l 29], none⟩,
  ⟨(some (false, 31)), .app 2 16 (.l 27) (.l 30), none⟩,
  ⟨(some (true, 10)), .mv (.l 31), none⟩]))
(.reg [
  ⟨(some (false, 25)), .mv (.g 11), none⟩,
  ⟨(some (false, 26)), .bin .add (.l 25) (.c (.lit (.int .i64 1))), none⟩,
  ⟨(some (true, 11)), .mv (.l 26), none⟩]))))))
(.seq
(.reg [
  ⟨(some (false, 33)), .ld (some 11) (.g 4), none⟩,
  ⟨(some (false, 34)), .mv (.g 10), none⟩,
  ⟨(some (false, 35)), .mv (.g 9), none⟩,
  ⟨(some (false, 36)), .call (.c (.fn 25 [])) [.l 33, .l 34, .c (.lit (.slice none 0 0)), .l 35], none⟩,
  ⟨(some (false, 32)), .mv (.l 36), none⟩,
  ⟨(some (false, 37)), .ex (.l 32) 0, none⟩,
  ⟨(some (false, 38)), .ex (.l 32) 1, none⟩,
  ⟨(some (true, 12)), .mv (.l 37), none⟩,
  ⟨(some (true, 13)), .mv (.l 38), none⟩])
(.seq
(.seq
(.reg [
  ⟨(some (false, 39)), .mv (.g 13), none⟩,
  ⟨(some (false, 40)), .bin .neq (.l 39) (.c (.lit (.int .i64 0))), none⟩,
  ⟨(some (false, 41)), .mv (.l 40), none⟩,
  ⟨(some (false, 42)), .mv (.g 12), (some (.l 41, false))⟩,
  ⟨(some (false, 43)), .len (.l 42), (some (.l 41, false))⟩,
  ⟨(some (false, 44)), .mv (.g 9), (some (.l 41, false))⟩,
  ⟨(some (false, 45)), .len (.l 44), (some (.l 41, false))⟩,
  ⟨(some (false, 46)), .bin .neq (.l 43) (.l 45), (some (.l 41, false))⟩,
  ⟨(some (true, 47)), .pick (.l 41) (.c (.lit (.bool true))) (.l 46), none⟩])
(.cond (.g 47)
(.seq
(.reg [
  ⟨(some (true, 8)), .mv (.c (.lit (.bool false))), none⟩])
.ret)
.skip))
(.seq
(.seq
(.reg [
  ⟨(some (true, 14)), .mv (.c (.lit (.int .i64 0))), none⟩])
(.block 2
(.loop
(.seq
(.seq
(.reg [
  ⟨(some (false, 48)), .mv (.g 14), none⟩,
  ⟨(some (false, 49)), .mv (.g 12), none⟩,
  ⟨(some (false, 50)), .len (.l 49), none⟩,
  ⟨(some (true, 51)), .bin .lss (.l 48) (.l 50), none⟩])
(.cond (.g 51)
.skip
(.exit 2)))
(.seq
(.block 3
(.seq
(.reg [
  ⟨(some (false, 54)), .mv (.g 12), none⟩,
  ⟨(some (false, 55)), .mv (.g 14), none⟩,
  ⟨(some (false, 56)), .ia 1 (.l 54) (.l 55), none⟩,
  ⟨(some (false, 57)), .ld none (.l 56), none⟩,
  ⟨(some (true, 58)), .bin .neq (.l 57) (.c (.lit (.int .i64 1))), none⟩])
(.cond (.g 58)
(.seq
(.reg [
  ⟨(some (true, 8)), .mv (.c (.lit (.bool false))), none⟩])
.ret)
.skip)))
(.reg [
  ⟨(some (false, 52)), .mv (.g 14), none⟩,
  ⟨(some (false, 53)), .bin .add (.l 52) (.c (.lit (.int .i64 1))), none⟩,
  ⟨(some (true, 14)), .mv (.l 53), none⟩]))))))
(.seq
(.reg [
  ⟨(some (true, 8)), .mv (.c (.lit (.bool true))), none⟩])
.ret))))))))
def K78 : List Nat := [0, 1, 2, 3, 24, 47, 51, 58, 8, 4, 9, 10, 11, 12, 13, 14]
noncomputable def b78 : Code := match Try.f78.body with | some c => c | none => .skip
theorem t78 : trCode ⟨Try.prog, K78, [], 59, none⟩ b78 = some c78 := by kernel_rfl
theorem go78 {args : List AV} {H : AHeap} {Kk : AV → AHeap → Prop} (hn : args.length = 4) (h : AGo ⟨Try.prog, K78, [], 59, none⟩ H.length [.code c78] (RetP [.t (.g 8)] H.length Kk) ⟨[], argsG 0 args⟩ H) : ACalls Try.prog 78 args H Kk :=
  ACalls_of Try.func78 (c := b78) rfl (by kernel_rfl) t78 (rs := [.t (.g 8)]) (by kernel_rfl) (by rw [hn]; exact Nat.le_of_ble_eq_true rfl) (by rw [hn]; rfl) (h.weaken (fun _ _ => RetP.hands) (by simp))

/-- sastrugi/sastrugilaw03.row -/
def c128 : ACode :=
  (.seq
(.reg [
  ⟨(some (true, 4)), .mv (.c (.lit (.slice none 0 0))), none⟩])
(.seq
(.reg [
  ⟨(some (true, 5)), .mv (.c (.lit (.slice none 0 0))), none⟩])
(.seq
(.seq
(.reg [
  ⟨(some (true, 6)), .mv (.c (.lit (.int .i64 0))), none⟩])
(.block 0
(.loop
(.seq
(.seq
(.reg [
  ⟨(some (false, 7)), .mv (.g 6), none⟩,
  ⟨(some (false, 8)), .mv (.g 0), none⟩,
  ⟨(some (false, 9)), .len (.l 8), none⟩,
  ⟨(some (true, 10)), .bin .lss (.l 7) (.l 9), none⟩])
(.cond (.g 10)
.skip
(.exit 0)))
(.seq
(.block 1
(.reg [
  ⟨(some (false, 13)), .mv (.g 5), none⟩,
  ⟨(some (false, 14)), .mv (.g 1), none⟩,
  ⟨(some (false, 15)), .mv (.g 6), none⟩,
  ⟨(some (false, 16)), .bin .mul (.l 14) (.l 15), none⟩,
  ⟨(some (false, 17)), .mv (.g 0), none⟩,
  ⟨(some (false, 18)), .mv (.g 6), none⟩,
  ⟨(some (false, 19)), .ia 2 (.l 17) (.l 18), none⟩,
  ⟨(some (false, 20)), .ld (some 2) (.l 19), none⟩,
  ⟨(some (false, 21)), .mk [.int .i64 0, .int .i64 0, .int .i64 0, .int .i64 0] [(0, 1, .l 16), (1, 2, .l 20)], none⟩,
  ⟨(some (false, 22)), .mks false 4 [.l 21], none⟩,
  ⟨(some (false, 23)), .app 4 32 (.l 13) (.l 22), none⟩,
  ⟨(some (true, 5)), .mv (.l 23), none⟩]))
(.reg [
  ⟨(some (false, 11)), .mv (.g 6), none⟩,
  ⟨(some (false, 12)), .bin .add (.l 11) (.c (.lit (.int .i64 1))), none⟩,
  ⟨(some (true, 6)), .mv (.l 12), none⟩]))))))
(.seq
(.reg [
  ⟨(some (false, 24)), .mv (.g 5), none⟩,
  ⟨(some (true, 4)), .mv (.l 24), none⟩])
.ret))))
def K128 : List Nat := [0, 1, 10, 4, 5, 6]
noncomputable def b128 : Code := match Try.f128.body with | some c => c | none => .skip
theorem t128 : trCode ⟨Try.prog, K128, [], 25, none⟩ b128 = some c128 := by kernel_rfl
theorem go128 {args : List AV} {H : AHeap} {Kk : AV → AHeap → Prop} (hn : args.length = 2) (h : AGo ⟨Try.prog, K128, [], 25, none⟩ H.length [.code c128] (RetP [.t (.g 4)] H.length Kk) ⟨[], argsG 0 args⟩ H) : ACalls Try.prog 128 args H Kk :=
  ACalls_of Try.func128 (c := b128) rfl (by kernel_rfl) t128 (rs := [.t (.g 4)]) (by kernel_rfl) (by rw [hn]; exact Nat.le_of_ble_eq_true rfl) (by rw [hn]; rfl) (h.weaken (fun _ _ => RetP.hands) (by simp))

end Go.Sas
