/-
The code of some functions with its types resolved, printed by a program; that it is the code is checked by the kernel.
Conditions: none.
-/
import Derived.Test.YtelmlpjkpebcgaaH4
import Derived.Test.YtelmlpjkpebcgaaProg
set_option linter.unusedVariables false
set_option linter.unusedSimpArgs false
namespace Go.Sas
open Go.Proofs
set_option maxRecDepth 100000
/-- (sastrugi/bear.side).strong -/
def c141 : ACode :=
  (.seq
(.reg [
  ⟨(some (true, 2)), .box (.g 0), none⟩,
  ⟨(some (true, 3)), .box (.g 1), none⟩,
  ⟨(some (true, 4)), .mv (.c (.lit (.int .i64 0))), none⟩])
(.seq
(.seq
(.reg [
  ⟨(some (false, 5)), .fa (.g 2) 0, none⟩,
  ⟨(some (true, 6)), .ld none (.l 5), none⟩])
(.cond (.g 6)
(.seq
(.reg [
  ⟨(some (false, 7)), .fa (.g 3) 0, none⟩,
  ⟨(some (false, 8)), .ld none (.l 7), none⟩,
  ⟨(some (true, 4)), .mv (.l 8), none⟩])
.ret)
.skip))
(.seq
(.reg [
  ⟨(some (false, 9)), .fa (.g 3) 1, none⟩,
  ⟨(some (false, 10)), .ld none (.l 9), none⟩,
  ⟨(some (true, 4)), .mv (.l 10), none⟩])
.ret)))
def K141 : List Nat := [0, 1, 6, 4, 2, 3]
noncomputable def b141 : Code := match Try.f141.body with | some c => c | none => .skip
theorem t141 : trCode ⟨Try.prog, K141, [], 11, none⟩ b141 = some c141 := by kernel_rfl
theorem go141 {args : List AV} {H : AHeap} {Kk : AV → AHeap → Prop} (hn : args.length = 2) (h : AGo ⟨Try.prog, K141, [], 11, none⟩ H.length [.code c141] (RetP [.t (.g 4)] H.length Kk) ⟨[], argsG 0 args⟩ H) : ACalls Try.prog 141 args H Kk :=
  ACalls_of Try.func141 (c := b141) rfl (by kernel_rfl) t141 (rs := [.t (.g 4)]) (by kernel_rfl) (by rw [hn]; exact Nat.le_of_ble_eq_true rfl) (by rw [hn]; rfl) (h.weaken (fun _ _ => RetP.hands) (by simp))

/-- (sastrugi/bear.side).heavy -/
def c155 : ACode :=
  (.seq
(.reg [
  ⟨(some (true, 2)), .box (.g 0), none⟩,
  ⟨(some (true, 3)), .box (.g 1), none⟩,
  ⟨(some (true, 4)), .mv (.c (.lit (.int .i64 0))), none⟩])
(.seq
(.seq
(.reg [
  ⟨(some (false, 5)), .fa (.g 2) 0, none⟩,
  ⟨(some (true, 6)), .ld none (.l 5), none⟩])
(.cond (.g 6)
(.seq
(.reg [
  ⟨(some (false, 7)), .fa (.g 3) 1, none⟩,
  ⟨(some (false, 8)), .ld none (.l 7), none⟩,
  ⟨(some (true, 4)), .mv (.l 8), none⟩])
.ret)
.skip))
(.seq
(.reg [
  ⟨(some (false, 9)), .fa (.g 3) 0, none⟩,
  ⟨(some (false, 10)), .ld none (.l 9), none⟩,
  ⟨(some (true, 4)), .mv (.l 10), none⟩])
.ret)))
def K155 : List Nat := [0, 1, 6, 4, 2, 3]
noncomputable def b155 : Code := match Try.f155.body with | some c => c | none => .skip
theorem t155 : trCode ⟨Try.prog, K155, [], 11, none⟩ b155 = some c155 := by kernel_rfl
theorem go155 {args : List AV} {H : AHeap} {Kk : AV → AHeap → Prop} (hn : args.length = 2) (h : AGo ⟨Try.prog, K155, [], 11, none⟩ H.length [.code c155] (RetP [.t (.g 4)] H.length Kk) ⟨[], argsG 0 args⟩ H) : ACalls Try.prog 155 args H Kk :=
  ACalls_of Try.func155 (c := b155) rfl (by kernel_rfl) t155 (rs := [.t (.g 4)]) (by kernel_rfl) (by rw [hn]; exact Nat.le_of_ble_eq_true rfl) (by rw [hn]; rfl) (h.weaken (fun _ _ => RetP.hands) (by simp))

/-- (sastrugi/bear.side).near -/
def c164 : ACode :=
  (.seq
(.reg [
  ⟨(some (true, 4)), .box (.g 0), none⟩,
  ⟨(some (true, 5)), .box (.g 1), none⟩,
  ⟨(some (true, 8)), .mv (.c (.lit (.bool false))), none⟩])
(.seq
(.seq
(.reg [
  ⟨(some (false, 9)), .fa (.g 4) 0, none⟩,
  ⟨(some (true, 10)), .ld none (.l 9), none⟩])
(.cond (.g 10)
(.seq
(.reg [
  ⟨(some (false, 11)), .fa (.g 5) 0, none⟩,
  ⟨(some (false, 12)), .ld none (.l 11), none⟩,
  ⟨(some (false, 13)), .mv (.g 3), none⟩,
  ⟨(some (false, 14)), .bin .sub (.l 12) (.l 13), none⟩,
  ⟨(some (false, 15)), .mv (.g 2), none⟩,
  ⟨(some (false, 16)), .bin .leq (.l 14) (.l 15), none⟩,
  ⟨(some (false, 17)), .mv (.l 16), none⟩,
  ⟨(some (false, 18)), .mv (.g 2), (some (.l 17, true))⟩,
  ⟨(some (false, 19)), .fa (.g 5) 1, (some (.l 17, true))⟩,
  ⟨(some (false, 20)), .ld none (.l 19), (some (.l 17, true))⟩,
  ⟨(some (false, 21)), .mv (.g 3), (some (.l 17, true))⟩,
  ⟨(some (false, 22)), .bin .add (.l 20) (.l 21), (some (.l 17, true))⟩,
  ⟨(some (false, 23)), .bin .leq (.l 18) (.l 22), (some (.l 17, true))⟩,
  ⟨(some (false, 24)), .pick (.l 17) (.l 23) (.c (.lit (.bool false))), none⟩,
  ⟨(some (true, 8)), .mv (.l 24), none⟩])
.ret)
.skip))
(.seq
(.reg [
  ⟨(some (false, 25)), .mv (.g 2), none⟩,
  ⟨(some (false, 26)), .fa (.g 5) 0, none⟩,
  ⟨(some (false, 27)), .ld none (.l 26), none⟩,
  ⟨(some (false, 28)), .bin .sub (.l 25) (.l 27), none⟩,
  ⟨(some (false, 29)), .mv (.g 3), none⟩,
  ⟨(some (false, 30)), .bin .leq (.l 28) (.l 29), none⟩,
  ⟨(some (false, 31)), .mv (.l 30), none⟩,
  ⟨(some (false, 32)), .fa (.g 5) 1, (some (.l 31, true))⟩,
  ⟨(some (false, 33)), .ld none (.l 32), (some (.l 31, true))⟩,
  ⟨(some (false, 34)), .mv (.g 2), (some (.l 31, true))⟩,
  ⟨(some (false, 35)), .bin .sub (.l 33) (.l 34), (some (.l 31, true))⟩,
  ⟨(some (false, 36)), .mv (.g 3), (some (.l 31, true))⟩,
  ⟨(some (false, 37)), .bin .leq (.l 35) (.l 36), (some (.l 31, true))⟩,
  ⟨(some (false, 38)), .pick (.l 31) (.l 37) (.c (.lit (.bool false))), none⟩,
  ⟨(some (true, 8)), .mv (.l 38), none⟩])
.ret)))
def K164 : List Nat := [0, 1, 2, 3, 10, 8, 4, 5]
noncomputable def b164 : Code := match Try.f164.body with | some c => c | none => .skip
theorem t164 : trCode ⟨Try.prog, K164, [], 39, none⟩ b164 = some c164 := by kernel_rfl
theorem go164 {args : List AV} {H : AHeap} {Kk : AV → AHeap → Prop} (hn : args.length = 4) (h : AGo ⟨Try.prog, K164, [], 39, none⟩ H.length [.code c164] (RetP [.t (.g 8)] H.length Kk) ⟨[], argsG 0 args⟩ H) : ACalls Try.prog 164 args H Kk :=
  ACalls_of Try.func164 (c := b164) rfl (by kernel_rfl) t164 (rs := [.t (.g 8)]) (by kernel_rfl) (by rw [hn]; exact Nat.le_of_ble_eq_true rfl) (by rw [hn]; rfl) (h.weaken (fun _ _ => RetP.hands) (by simp))

/-- (sastrugi/bear.scene).thickness -/
def c156 : ACode :=
  (.seq
(.reg [
  ⟨(some (true, 2)), .box (.g 0), none⟩,
  ⟨(some (true, 4)), .mv (.c (.lit (.int .i64 0))), none⟩])
(.seq
(.draw [
  ⟨⟨(some (false, 8)), .fa (.g 2) 0, none⟩, 0, true, []⟩,
  ⟨⟨(some (false, 9)), .ld (some 1) (.l 8), none⟩, 1, true, []⟩,
  ⟨⟨(some (false, 10)), .fa (.g 2) 12, none⟩, 2, true, []⟩,
  ⟨⟨(some (false, 11)), .ld none (.l 10), none⟩, 3, true, []⟩,
  ⟨⟨(some (false, 12)), .mv (.g 1), none⟩, 4, true, []⟩,
  ⟨⟨(some (false, 13)), .bin .quo (.l 12) (.c (.lit (.int .i64 100))), none⟩, 5, true, []⟩,
  ⟨⟨(some (false, 14)), .ia 2 (.l 11) (.l 13), none⟩, 6, true, []⟩,
  ⟨⟨(some (false, 15)), .ld (some 2) (.l 14), none⟩, 7, true, []⟩,
  ⟨⟨(some (false, 16)), .call (.c (.fn 141 [])) [.l 9, .l 15], none⟩, 8, false, []⟩,
  ⟨⟨(some (true, 5)), .mv (.l 16), none⟩, 9, true, []⟩])
(.seq
(.seq
(.reg [
  ⟨(some (false, 17)), .fa (.g 2) 13, none⟩,
  ⟨(some (true, 18)), .ld none (.l 17), none⟩,
  ⟨(some (true, 19)), .len (.g 18), none⟩,
  ⟨(some (true, 20)), .mv (.c (.lit (.int .i64 0))), none⟩])
(.block 0
(.loop
(.seq
(.reg [
  ⟨(some (true, 21)), .bin .lss (.g 20) (.g 19), none⟩])
(.seq
(.cond (.g 21)
.skip
(.exit 0))
(.seq
(.block 1
(.seq
(.reg [
  ⟨(some (false, 22)), .ia 2 (.g 18) (.g 20), none⟩,
  ⟨(some (false, 23)), .ld (some 2) (.l 22), none⟩,
  ⟨(some (true, 7)), .new [.int .i64 0, .int .i64 0], none⟩,
  ⟨none, .st 2 (.g 7) (.l 23), none⟩])
(.seq
(.reg [
  ⟨(some (false, 24)), .fa (.g 2) 0, none⟩,
  ⟨(some (false, 25)), .ld (some 1) (.l 24), none⟩,
  ⟨(some (false, 26)), .ld (some 2) (.g 7), none⟩,
  ⟨(some (false, 27)), .mv (.g 1), none⟩,
  ⟨(some (false, 28)), .fa (.g 2) 1, none⟩,
  ⟨(some (false, 29)), .fa (.l 28) 4, none⟩,
  ⟨(some (false, 30)), .ld none (.l 29), none⟩,
  ⟨(some (true, 31)), .call (.c (.fn 164 [])) [.l 25, .l 26, .l 27, .l 30], none⟩])
(.cond (.g 31)
(.seq
(.reg [
  ⟨(some (false, 32)), .mv (.g 5), none⟩,
  ⟨(some (false, 33)), .fa (.g 2) 1, none⟩,
  ⟨(some (false, 34)), .fa (.l 33) 5, none⟩,
  ⟨(some (false, 35)), .ld none (.l 34), none⟩,
  ⟨(some (false, 36)), .bin .mul (.l 32) (.l 35), none⟩,
  ⟨(some (false, 37)), .bin .quo (.l 36) (.c (.lit (.int .i64 1000000))), none⟩,
  ⟨(some (true, 4)), .mv (.l 37), none⟩])
.ret)
.skip))))
(.reg [
  ⟨(some (false, 38)), .bin .add (.g 20) (.c (.lit (.int .i64 1))), none⟩,
  ⟨(some (true, 20)), .mv (.l 38), none⟩])))))))
(.seq
(.reg [
  ⟨(some (false, 39)), .mv (.g 5), none⟩,
  ⟨(some (true, 4)), .mv (.l 39), none⟩])
.ret))))
def K156 : List Nat := [0, 1, 21, 31, 4, 2, 5, 18, 19, 20, 7]
noncomputable def b156 : Code := match Try.f156.body with | some c => c | none => .skip
theorem t156 : trCode ⟨Try.prog, K156, [], 40, none⟩ b156 = some c156 := by kernel_rfl
theorem go156 {args : List AV} {H : AHeap} {Kk : AV → AHeap → Prop} (hn : args.length = 2) (h : AGo ⟨Try.prog, K156, [], 40, none⟩ H.length [.code c156] (RetP [.t (.g 4)] H.length Kk) ⟨[], argsG 0 args⟩ H) : ACalls Try.prog 156 args H Kk :=
  ACalls_of Try.func156 (c := b156) rfl (by kernel_rfl) t156 (rs := [.t (.g 4)]) (by kernel_rfl) (by rw [hn]; exact Nat.le_of_ble_eq_true rfl) (by rw [hn]; rfl) (h.weaken (fun _ _ => RetP.hands) (by simp))

/-- (sastrugi/bear.scene).enough -/
def c111 : ACode :=
  (.seq
(.reg [
  ⟨(some (true, 4)), .box (.g 0), none⟩,
  ⟨(some (true, 8)), .mv (.c (.lit (.bool false))), none⟩])
(.seq
(.draw [
  ⟨⟨(some (false, 9)), .mv (.g 1), none⟩, 0, true, []⟩,
  ⟨⟨(some (false, 10)), .bin .mul (.l 9) (.c (.lit (.int .i64 1000000))), none⟩, 1, true, []⟩,
  ⟨⟨(some (false, 11)), .fa (.g 4) 0, none⟩, 2, true, []⟩,
  ⟨⟨(some (false, 12)), .ld (some 1) (.l 11), none⟩, 3, true, []⟩,
  ⟨⟨(some (false, 13)), .fa (.g 4) 1, none⟩, 4, true, []⟩,
  ⟨⟨(some (false, 14)), .fa (.l 13) 0, none⟩, 5, true, []⟩,
  ⟨⟨(some (false, 15)), .ld (some 2) (.l 14), none⟩, 6, true, []⟩,
  ⟨⟨(some (false, 17)), .mv (.g 2), none⟩, 8, true, []⟩,
  ⟨⟨(some (false, 19)), .mv (.g 2), none⟩, 10, true, []⟩,
  ⟨⟨(some (false, 21)), .fa (.g 4) 1, none⟩, 12, true, []⟩,
  ⟨⟨(some (false, 22)), .fa (.l 21) 3, none⟩, 13, true, []⟩,
  ⟨⟨(some (false, 23)), .ld none (.l 22), none⟩, 14, true, []⟩,
  ⟨⟨(some (false, 24)), .mv (.g 3), none⟩, 15, true, []⟩,
  ⟨⟨(some (false, 16)), .call (.c (.fn 141 [])) [.l 12, .l 15], none⟩, 7, false, []⟩,
  ⟨⟨(some (false, 18)), .bin .mul (.l 16) (.l 17), none⟩, 9, true, []⟩,
  ⟨⟨(some (false, 20)), .bin .mul (.l 18) (.l 19), none⟩, 11, true, []⟩,
  ⟨⟨(some (false, 25)), .call (.c (.fn 110 [])) [.l 23, .l 24], none⟩, 16, false, []⟩,
  ⟨⟨(some (false, 26)), .bin .mul (.l 20) (.l 25), none⟩, 17, true, []⟩,
  ⟨⟨(some (false, 27)), .bin .leq (.l 10) (.l 26), none⟩, 18, true, []⟩,
  ⟨⟨(some (true, 8)), .mv (.l 27), none⟩, 19, true, []⟩])
.ret))
def K111 : List Nat := [0, 1, 2, 3, 8, 4]
noncomputable def b111 : Code := match Try.f111.body with | some c => c | none => .skip
theorem t111 : trCode ⟨Try.prog, K111, [], 28, none⟩ b111 = some c111 := by kernel_rfl
theorem go111 {args : List AV} {H : AHeap} {Kk : AV → AHeap → Prop} (hn : args.length = 4) (h : AGo ⟨Try.prog, K111, [], 28, none⟩ H.length [.code c111] (RetP [.t (.g 8)] H.length Kk) ⟨[], argsG 0 args⟩ H) : ACalls Try.prog 111 args H Kk :=
  ACalls_of Try.func111 (c := b111) rfl (by kernel_rfl) t111 (rs := [.t (.g 8)]) (by kernel_rfl) (by rw [hn]; exact Nat.le_of_ble_eq_true rfl) (by rw [hn]; rfl) (h.weaken (fun _ _ => RetP.hands) (by simp))

/-- (sastrugi/bear.scene).bears -/
def c129 : ACode :=
  (.seq
(.reg [
  ⟨(some (true, 3)), .box (.g 0), none⟩,
  ⟨(some (true, 6)), .mv (.c (.lit (.bool false))), none⟩])
(.seq
(.reg [
  ⟨(some (true, 7)), .mv (.c (.lit (.int .i64 0))), none⟩])
(.seq
(.seq
(.reg [
  ⟨(some (true, 10)), .mv (.g 1), none⟩,
  ⟨(some (true, 11)), .len (.g 10), none⟩,
  ⟨(some (true, 12)), .mv (.c (.lit (.int .i64 0))), none⟩])
(.block 0
(.loop
(.seq
(.reg [
  ⟨(some (true, 13)), .bin .lss (.g 12) (.g 11), none⟩])
(.seq
(.cond (.g 13)
.skip
(.exit 0))
(.seq
(.block 1
(.seq
(.reg [
  ⟨(some (false, 14)), .ia 4 (.g 10) (.g 12), none⟩,
  ⟨(some (false, 15)), .ld (some 4) (.l 14), none⟩,
  ⟨(some (true, 9)), .new [.int .i64 0, .int .i64 0, .int .i64 0, .int .i64 0], none⟩,
  ⟨none, .st 4 (.g 9) (.l 15), none⟩])
(.draw [
  ⟨⟨(some (false, 16)), .mv (.g 7), none⟩, 0, true, []⟩,
  ⟨⟨(some (false, 17)), .fa (.g 3) 0, none⟩, 1, true, []⟩,
  ⟨⟨(some (false, 18)), .ld (some 1) (.l 17), none⟩, 2, true, []⟩,
  ⟨⟨(some (false, 19)), .fa (.g 9) 1, none⟩, 3, true, []⟩,
  ⟨⟨(some (false, 20)), .ld (some 2) (.l 19), none⟩, 4, true, []⟩,
  ⟨⟨(some (false, 22)), .fa (.g 3) 1, none⟩, 6, true, []⟩,
  ⟨⟨(some (false, 23)), .fa (.l 22) 2, none⟩, 7, true, []⟩,
  ⟨⟨(some (false, 24)), .ld none (.l 23), none⟩, 8, true, []⟩,
  ⟨⟨(some (false, 25)), .mv (.g 1), none⟩, 9, true, []⟩,
  ⟨⟨(some (false, 26)), .mv (.g 2), none⟩, 10, true, []⟩,
  ⟨⟨(some (false, 27)), .ia 4 (.l 25) (.l 26), none⟩, 11, true, []⟩,
  ⟨⟨(some (false, 28)), .fa (.l 27) 0, none⟩, 12, true, []⟩,
  ⟨⟨(some (false, 29)), .ld none (.l 28), none⟩, 13, true, []⟩,
  ⟨⟨(some (false, 30)), .fa (.g 9) 0, none⟩, 14, true, []⟩,
  ⟨⟨(some (false, 31)), .ld none (.l 30), none⟩, 15, true, []⟩,
  ⟨⟨(some (false, 32)), .bin .sub (.l 29) (.l 31), none⟩, 16, true, []⟩,
  ⟨⟨(some (false, 33)), .fa (.g 9) 0, none⟩, 17, true, []⟩,
  ⟨⟨(some (false, 34)), .ld none (.l 33), none⟩, 18, true, []⟩,
  ⟨⟨(some (false, 35)), .mv (.g 1), none⟩, 19, true, []⟩,
  ⟨⟨(some (false, 36)), .mv (.g 2), none⟩, 20, true, []⟩,
  ⟨⟨(some (false, 37)), .ia 4 (.l 35) (.l 36), none⟩, 21, true, []⟩,
  ⟨⟨(some (false, 38)), .fa (.l 37) 0, none⟩, 22, true, []⟩,
  ⟨⟨(some (false, 39)), .ld none (.l 38), none⟩, 23, true, []⟩,
  ⟨⟨(some (false, 40)), .bin .sub (.l 34) (.l 39), none⟩, 24, true, []⟩,
  ⟨⟨(some (false, 41)), .mx [.l 32, .l 40], none⟩, 25, true, []⟩,
  ⟨⟨(some (false, 21)), .call (.c (.fn 155 [])) [.l 18, .l 20], none⟩, 5, false, []⟩,
  ⟨⟨(some (false, 42)), .call (.c (.fn 110 [])) [.l 24, .l 41], none⟩, 26, false, []⟩,
  ⟨⟨(some (false, 43)), .bin .mul (.l 21) (.l 42), none⟩, 27, true, []⟩,
  ⟨⟨(some (false, 44)), .bin .add (.l 16) (.l 43), none⟩, 28, true, []⟩,
  ⟨⟨(some (true, 7)), .mv (.l 44), none⟩, 29, true, []⟩])))
(.reg [
  ⟨(some (false, 45)), .bin .add (.g 12) (.c (.lit (.int .i64 1))), none⟩,
  ⟨(some (true, 12)), .mv (.l 45), none⟩])))))))
(.seq
(.draw [
  ⟨⟨(some (false, 46)), .ld (some 14) (.g 3), none⟩, 0, true, []⟩,
  ⟨⟨(some (false, 47)), .mv (.g 7), none⟩, 1, true, []⟩,
  ⟨⟨(some (false, 48)), .ld (some 14) (.g 3), none⟩, 2, true, []⟩,
  ⟨⟨(some (false, 49)), .mv (.g 1), none⟩, 3, true, []⟩,
  ⟨⟨(some (false, 50)), .mv (.g 2), none⟩, 4, true, []⟩,
  ⟨⟨(some (false, 51)), .ia 4 (.l 49) (.l 50), none⟩, 5, true, []⟩,
  ⟨⟨(some (false, 52)), .fa (.l 51) 0, none⟩, 6, true, []⟩,
  ⟨⟨(some (false, 53)), .ld none (.l 52), none⟩, 7, true, []⟩,
  ⟨⟨(some (false, 55)), .mv (.g 1), none⟩, 9, true, []⟩,
  ⟨⟨(some (false, 56)), .mv (.g 2), none⟩, 10, true, []⟩,
  ⟨⟨(some (false, 57)), .ia 4 (.l 55) (.l 56), none⟩, 11, true, []⟩,
  ⟨⟨(some (false, 58)), .fa (.l 57) 3, none⟩, 12, true, []⟩,
  ⟨⟨(some (false, 59)), .ld none (.l 58), none⟩, 13, true, []⟩,
  ⟨⟨(some (false, 54)), .call (.c (.fn 156 [])) [.l 48, .l 53], none⟩, 8, false, []⟩,
  ⟨⟨(some (false, 60)), .call (.c (.fn 111 [])) [.l 46, .l 47, .l 54, .l 59], none⟩, 14, false, []⟩,
  ⟨⟨(some (true, 6)), .mv (.l 60), none⟩, 15, true, []⟩])
.ret))))
def K129 : List Nat := [0, 1, 2, 13, 6, 3, 7, 10, 11, 12, 9]
noncomputable def b129 : Code := match Try.f129.body with | some c => c | none => .skip
theorem t129 : trCode ⟨Try.prog, K129, [], 61, none⟩ b129 = some c129 := by kernel_rfl
theorem go129 {args : List AV} {H : AHeap} {Kk : AV → AHeap → Prop} (hn : args.length = 3) (h : AGo ⟨Try.prog, K129, [], 61, none⟩ H.length [.code c129] (RetP [.t (.g 6)] H.length Kk) ⟨[], argsG 0 args⟩ H) : ACalls Try.prog 129 args H Kk :=
  ACalls_of Try.func129 (c := b129) rfl (by kernel_rfl) t129 (rs := [.t (.g 6)]) (by kernel_rfl) (by rw [hn]; exact Nat.le_of_ble_eq_true rfl) (by rw [hn]; rfl) (h.weaken (fun _ _ => RetP.hands) (by simp))

/-- sastrugi/bear.verdict -/
def c87 : ACode :=
  (.seq
(.reg [
  ⟨(some (true, 5)), .box (.g 0), none⟩,
  ⟨(some (true, 10)), .mv (.c (.lit (.int .i64 0))), none⟩])
(.seq
(.block 0
(.seq
(.reg [
  ⟨(some (false, 12)), .mk [.bool false] [(0, 1, .c (.lit (.bool true)))], none⟩,
  ⟨(some (false, 13)), .ld (some 11) (.g 5), none⟩,
  ⟨(some (false, 14)), .mv (.g 1), none⟩,
  ⟨(some (false, 15)), .mv (.g 2), none⟩,
  ⟨(some (false, 16)), .mk [.bool false, .int .i64 0, .int .i64 0, .slice none 0 0, .slice none 0 0, .int .i64 0, .int .i64 0, .int .i64 0, .int .i64 0, .int .i64 0, .int .i64 0, .int .i64 0, .slice none 0 0, .slice none 0 0] [(0, 1, .l 12), (1, 11, .l 13), (12, 1, .l 14), (13, 1, .l 15)], none⟩,
  ⟨(some (false, 17)), .mv (.g 3), none⟩,
  ⟨(some (false, 18)), .mv (.g 4), none⟩,
  ⟨(some (false, 19)), .call (.c (.fn 129 [])) [.l 16, .l 17, .l 18], none⟩,
  ⟨(some (true, 11)), .mv (.l 19), none⟩])
(.cond (.g 11)
(.seq
(.reg [
  ⟨(some (true, 10)), .mv (.c (.lit (.int .i64 1))), none⟩])
.ret)
(.seq
(.reg [
  ⟨(some (false, 21)), .mk [.bool false] [(0, 1, .c (.lit (.bool false)))], none⟩,
  ⟨(some (false, 22)), .ld (some 11) (.g 5), none⟩,
  ⟨(some (false, 23)), .mv (.g 1), none⟩,
  ⟨(some (false, 24)), .mv (.g 2), none⟩,
  ⟨(some (false, 25)), .mk [.bool false, .int .i64 0, .int .i64 0, .slice none 0 0, .slice none 0 0, .int .i64 0, .int .i64 0, .int .i64 0, .int .i64 0, .int .i64 0, .int .i64 0, .int .i64 0, .slice none 0 0, .slice none 0 0] [(0, 1, .l 21), (1, 11, .l 22), (12, 1, .l 23), (13, 1, .l 24)], none⟩,
  ⟨(some (false, 26)), .mv (.g 3), none⟩,
  ⟨(some (false, 27)), .mv (.g 4), none⟩,
  ⟨(some (false, 28)), .call (.c (.fn 129 [])) [.l 25, .l 26, .l 27], none⟩,
  ⟨(some (false, 29)), .un .not (.l 28), none⟩,
  ⟨(some (true, 20)), .mv (.l 29), none⟩])
(.cond (.g 20)
(.seq
(.reg [
  ⟨(some (true, 10)), .mv (.c (.lit (.int .i64 2))), none⟩])
.ret)
.skip)))))
(.seq
(.reg [
  ⟨(some (true, 10)), .mv (.c (.lit (.int .i64 3))), none⟩])
.ret)))
def K87 : List Nat := [0, 1, 2, 3, 4, 11, 20, 10, 5]
noncomputable def b87 : Code := match Try.f87.body with | some c => c | none => .skip
theorem t87 : trCode ⟨Try.prog, K87, [], 30, none⟩ b87 = some c87 := by kernel_rfl
theorem go87 {args : List AV} {H : AHeap} {Kk : AV → AHeap → Prop} (hn : args.length = 5) (h : AGo ⟨Try.prog, K87, [], 30, none⟩ H.length [.code c87] (RetP [.t (.g 10)] H.length Kk) ⟨[], argsG 0 args⟩ H) : ACalls Try.prog 87 args H Kk :=
  ACalls_of Try.func87 (c := b87) rfl (by kernel_rfl) t87 (rs := [.t (.g 10)]) (by kernel_rfl) (by rw [hn]; exact Nat.le_of_ble_eq_true rfl) (by rw [hn]; rfl) (h.weaken (fun _ _ => RetP.hands) (by simp))

/-- sastrugi/bear.Holds -/
def c25 : ACode :=
  (.seq
(.reg [
  ⟨(some (true, 4)), .box (.g 0), none⟩,
  ⟨(some (true, 8)), .mv (.c (.lit (.slice none 0 0))), none⟩,
  ⟨(some (true, 9)), .mv (.c (.lit (.int .i64 0))), none⟩])
(.seq
(.seq
(.reg [
  ⟨(some (false, 14)), .ld (some 11) (.g 4), none⟩,
  ⟨(some (false, 15)), .mv (.g 1), none⟩,
  ⟨(some (false, 16)), .mv (.g 2), none⟩,
  ⟨(some (false, 17)), .call (.c (.fn 85 [])) [.l 14, .l 15, .l 16], none⟩,
  ⟨(some (true, 10)), .mv (.l 17), none⟩])
(.seq
(.reg [
  ⟨(some (false, 18)), .mv (.g 10), none⟩,
  ⟨(some (true, 19)), .bin .neq (.l 18) (.c (.lit (.int .i64 0))), none⟩])
(.cond (.g 19)
(.seq
(.reg [
  ⟨(some (false, 20)), .mv (.g 10), none⟩,
  ⟨(some (true, 8)), .mv (.c (.lit (.slice none 0 0))), none⟩,
  ⟨(some (true, 9)), .mv (.l 20), none⟩])
.ret)
.skip)))
(.seq
(.seq
(.reg [
  ⟨(some (false, 21)), .mv (.g 3), none⟩,
  ⟨(some (false, 22)), .mv (.g 1), none⟩,
  ⟨(some (false, 23)), .len (.l 22), none⟩,
  ⟨(some (false, 24)), .call (.c (.fn 86 [])) [.l 21, .l 23], none⟩,
  ⟨(some (true, 11)), .mv (.l 24), none⟩])
(.seq
(.reg [
  ⟨(some (false, 25)), .mv (.g 11), none⟩,
  ⟨(some (true, 26)), .bin .neq (.l 25) (.c (.lit (.int .i64 0))), none⟩])
(.cond (.g 26)
(.seq
(.reg [
  ⟨(some (false, 27)), .mv (.g 11), none⟩,
  ⟨(some (true, 8)), .mv (.c (.lit (.slice none 0 0))), none⟩,
  ⟨(some (true, 9)), .mv (.l 27), none⟩])
.ret)
.skip)))
(.seq
(.reg [
  ⟨(some (true, 12)), .mv (.c (.lit (.slice none 0 0))), none⟩])
(.seq
(.seq
(.reg [
  ⟨(some (false, 28)), .mv (.g 3), none⟩,
  ⟨(some (true, 29)), .len (.l 28), none⟩,
  ⟨(some (true, 30)), .mv (.c (.lit (.int .i64 0))), none⟩])
(.block 0
(.loop
(.seq
(.reg [
  ⟨(some (true, 31)), .bin .lss (.g 30) (.g 29), none⟩])
(.seq
(.cond (.g 31)
.skip
(.exit 0))
(.seq
(.block 1
(.seq
(.reg [
  ⟨(some (false, 32)), .mv (.g 30), none⟩,
  ⟨(some (true, 13)), .mv (.l 32), none⟩])
(.reg [
  ⟨(some (false, 33)), .mv (.g 12), none⟩,
  ⟨(some (false, 34)), .ld (some 11) (.g 4), none⟩,
  ⟨(some (false, 35)), .mv (.g 1), none⟩,
  ⟨(some (false, 36)), .mv (.g 2), none⟩,
  ⟨(some (false, 37)), .mv (.g 3), none⟩,
  ⟨(some (false, 38)), .mv (.g 13), none⟩,
  ⟨(some (false, 39)), .call (.c (.fn 87 [])) [.l 34, .l 35, .l 36, .l 37, .l 38], none⟩,
  ⟨(some (false, 40)), .mks false 1 [.l 39], none⟩,
  ⟨(some (false, 41)), .app 1 8 (.l 33) (.l 40), none⟩,
  ⟨(some (true, 12)), .mv (.l 41), none⟩])))
(.reg [
  ⟨(some (false, 42)), .bin .add (.g 30) (.c (.lit (.int .i64 1))), none⟩,
  ⟨(some (true, 30)), .mv (.l 42), none⟩])))))))
(.seq
(.reg [
  ⟨(some (false, 43)), .mv (.g 12), none⟩,
  ⟨(some (true, 8)), .mv (.l 43), none⟩,
  ⟨(some (true, 9)), .mv (.c (.lit (.int .i64 0))), none⟩])
.ret))))))
def K25 : List Nat := [0, 1, 2, 3, 19, 26, 31, 8, 9, 4, 10, 11, 12, 29, 30, 13]
noncomputable def b25 : Code := match Try.f25.body with | some c => c | none => .skip
theorem t25 : trCode ⟨Try.prog, K25, [], 44, none⟩ b25 = some c25 := by kernel_rfl
theorem go25 {args : List AV} {H : AHeap} {Kk : AV → AHeap → Prop} (hn : args.length = 4) (h : AGo ⟨Try.prog, K25, [], 44, none⟩ H.length [.code c25] (RetP [.t (.g 8), .t (.g 9)] H.length Kk) ⟨[], argsG 0 args⟩ H) : ACalls Try.prog 25 args H Kk :=
  ACalls_of Try.func25 (c := b25) rfl (by kernel_rfl) t25 (rs := [.t (.g 8), .t (.g 9)]) (by kernel_rfl) (by rw [hn]; exact Nat.le_of_ble_eq_true rfl) (by rw [hn]; rfl) (h.weaken (fun _ _ => RetP.hands) (by simp))

/-- sastrugi/bear.alone -/
def c102 : ACode :=
  (.seq
(.reg [
  ⟨(some (true, 3)), .box (.g 0), none⟩,
  ⟨(some (true, 6)), .mv (.c (.lit (.int .i64 0))), none⟩])
(.seq
(.draw [
  ⟨⟨(some (false, 7)), .fa (.g 3) 0, none⟩, 0, true, []⟩,
  ⟨⟨(some (false, 8)), .fa (.l 7) 0, none⟩, 1, true, []⟩,
  ⟨⟨(some (false, 9)), .ld none (.l 8), none⟩, 2, true, []⟩,
  ⟨⟨(some (false, 10)), .mv (.g 1), none⟩, 3, true, []⟩,
  ⟨⟨(some (false, 11)), .bin .mul (.l 9) (.l 10), none⟩, 4, true, []⟩,
  ⟨⟨(some (false, 12)), .mv (.g 1), none⟩, 5, true, []⟩,
  ⟨⟨(some (false, 13)), .bin .mul (.l 11) (.l 12), none⟩, 6, true, []⟩,
  ⟨⟨(some (false, 14)), .fa (.g 3) 3, none⟩, 7, true, []⟩,
  ⟨⟨(some (false, 15)), .ld none (.l 14), none⟩, 8, true, []⟩,
  ⟨⟨(some (false, 16)), .mv (.g 2), none⟩, 9, true, []⟩,
  ⟨⟨(some (false, 17)), .call (.c (.fn 110 [])) [.l 15, .l 16], none⟩, 10, false, []⟩,
  ⟨⟨(some (false, 18)), .bin .mul (.l 13) (.l 17), none⟩, 11, true, []⟩,
  ⟨⟨(some (false, 19)), .bin .quo (.l 18) (.c (.lit (.int .i64 1000000000000))), none⟩, 12, true, []⟩,
  ⟨⟨(some (true, 6)), .mv (.l 19), none⟩, 13, true, []⟩])
.ret))
def K102 : List Nat := [0, 1, 2, 6, 3]
noncomputable def b102 : Code := match Try.f102.body with | some c => c | none => .skip
theorem t102 : trCode ⟨Try.prog, K102, [], 20, none⟩ b102 = some c102 := by kernel_rfl
theorem go102 {args : List AV} {H : AHeap} {Kk : AV → AHeap → Prop} (hn : args.length = 3) (h : AGo ⟨Try.prog, K102, [], 20, none⟩ H.length [.code c102] (RetP [.t (.g 6)] H.length Kk) ⟨[], argsG 0 args⟩ H) : ACalls Try.prog 102 args H Kk :=
  ACalls_of Try.func102 (c := b102) rfl (by kernel_rfl) t102 (rs := [.t (.g 6)]) (by kernel_rfl) (by rw [hn]; exact Nat.le_of_ble_eq_true rfl) (by rw [hn]; rfl) (h.weaken (fun _ _ => RetP.hands) (by simp))

/-- sastrugi/bear.Bears -/
def c54 : ACode :=
  (.seq
(.reg [
  ⟨(some (true, 3)), .box (.g 0), none⟩,
  ⟨(some (true, 6)), .mv (.c (.lit (.int .i64 0))), none⟩,
  ⟨(some (true, 7)), .mv (.c (.lit (.int .i64 0))), none⟩])
(.seq
(.seq
(.reg [
  ⟨(some (false, 9)), .ld (some 11) (.g 3), none⟩,
  ⟨(some (false, 10)), .call (.c (.fn 59 [])) [.l 9], none⟩,
  ⟨(some (true, 8)), .mv (.l 10), none⟩])
(.seq
(.reg [
  ⟨(some (false, 11)), .mv (.g 8), none⟩,
  ⟨(some (true, 12)), .bin .neq (.l 11) (.c (.lit (.int .i64 0))), none⟩])
(.cond (.g 12)
(.seq
(.reg [
  ⟨(some (false, 13)), .mv (.g 8), none⟩,
  ⟨(some (true, 6)), .mv (.c (.lit (.int .i64 0))), none⟩,
  ⟨(some (true, 7)), .mv (.l 13), none⟩])
.ret)
.skip)))
(.seq
(.seq
(.reg [
  ⟨(some (false, 14)), .mv (.g 1), none⟩,
  ⟨(some (false, 15)), .call (.c (.fn 94 [])) [.l 14, .c (.lit (.int .i64 0)), .c (.lit (.int .i64 5000))], none⟩,
  ⟨(some (false, 16)), .un .not (.l 15), none⟩,
  ⟨(some (false, 17)), .mv (.l 16), none⟩,
  ⟨(some (false, 18)), .mv (.g 2), (some (.l 17, false))⟩,
  ⟨(some (false, 19)), .call (.c (.fn 94 [])) [.l 18, .c (.lit (.int .i64 0)), .c (.lit (.int .i64 10000))], (some (.l 17, false))⟩,
  ⟨(some (false, 20)), .un .not (.l 19), (some (.l 17, false))⟩,
  ⟨(some (true, 21)), .pick (.l 17) (.c (.lit (.bool true))) (.l 20), none⟩])
(.cond (.g 21)
(.seq
(.reg [
  ⟨(some (true, 6)), .mv (.c (.lit (.int .i64 0))), none⟩,
  ⟨(some (true, 7)), .mv (.c (.lit (.int .i64 2))), none⟩])
.ret)
.skip))
(.seq
(.reg [
  ⟨(some (false, 22)), .ld (some 11) (.g 3), none⟩,
  ⟨(some (false, 23)), .mv (.g 1), none⟩,
  ⟨(some (false, 24)), .mv (.g 2), none⟩,
  ⟨(some (false, 25)), .call (.c (.fn 102 [])) [.l 22, .l 23, .l 24], none⟩,
  ⟨(some (true, 6)), .mv (.l 25), none⟩,
  ⟨(some (true, 7)), .mv (.c (.lit (.int .i64 0))), none⟩])
.ret))))
def K54 : List Nat := [0, 1, 2, 12, 21, 6, 7, 3, 8]
noncomputable def b54 : Code := match Try.f54.body with | some c => c | none => .skip
theorem t54 : trCode ⟨Try.prog, K54, [], 26, none⟩ b54 = some c54 := by kernel_rfl
theorem go54 {args : List AV} {H : AHeap} {Kk : AV → AHeap → Prop} (hn : args.length = 3) (h : AGo ⟨Try.prog, K54, [], 26, none⟩ H.length [.code c54] (RetP [.t (.g 6), .t (.g 7)] H.length Kk) ⟨[], argsG 0 args⟩ H) : ACalls Try.prog 54 args H Kk :=
  ACalls_of Try.func54 (c := b54) rfl (by kernel_rfl) t54 (rs := [.t (.g 6), .t (.g 7)]) (by kernel_rfl) (by rw [hn]; exact Nat.le_of_ble_eq_true rfl) (by rw [hn]; rfl) (h.weaken (fun _ _ => RetP.hands) (by simp))

/-- sastrugi/sastrugiref03.far -/
def c142 : ACode :=
  (.seq
(.reg [
  ⟨(some (true, 4)), .mv (.c (.lit (.int .i64 0))), none⟩])
(.seq
(.reg [
  ⟨(some (false, 5)), .mv (.g 0), none⟩,
  ⟨(some (false, 6)), .mv (.g 1), none⟩,
  ⟨(some (false, 7)), .bin .sub (.l 5) (.l 6), none⟩,
  ⟨(some (false, 8)), .mv (.g 1), none⟩,
  ⟨(some (false, 9)), .mv (.g 0), none⟩,
  ⟨(some (false, 10)), .bin .sub (.l 8) (.l 9), none⟩,
  ⟨(some (false, 11)), .mx [.l 7, .l 10], none⟩,
  ⟨(some (true, 4)), .mv (.l 11), none⟩])
.ret))
def K142 : List Nat := [0, 1, 4]
noncomputable def b142 : Code := match Try.f142.body with | some c => c | none => .skip
theorem t142 : trCode ⟨Try.prog, K142, [], 12, none⟩ b142 = some c142 := by kernel_rfl
theorem go142 {args : List AV} {H : AHeap} {Kk : AV → AHeap → Prop} (hn : args.length = 2) (h : AGo ⟨Try.prog, K142, [], 12, none⟩ H.length [.code c142] (RetP [.t (.g 4)] H.length Kk) ⟨[], argsG 0 args⟩ H) : ACalls Try.prog 142 args H Kk :=
  ACalls_of Try.func142 (c := b142) rfl (by kernel_rfl) t142 (rs := [.t (.g 4)]) (by kernel_rfl) (by rw [hn]; exact Nat.le_of_ble_eq_true rfl) (by rw [hn]; rfl) (h.weaken (fun _ _ => RetP.hands) (by simp))

/-- sastrugi/sastrugiref03.may -/
def c134 : ACode :=
  (.seq
(.reg [
  ⟨(some (true, 3)), .box (.g 0), none⟩,
  ⟨(some (true, 6)), .mv (.c (.lit (.bool false))), none⟩])
(.seq
(.seq
(.reg [
  ⟨(some (true, 7)), .mv (.c (.lit (.int .i64 0))), none⟩])
(.block 0
(.loop
(.seq
(.seq
(.reg [
  ⟨(some (false, 8)), .mv (.g 7), none⟩,
  ⟨(some (false, 9)), .mv (.g 1), none⟩,
  ⟨(some (false, 10)), .len (.l 9), none⟩,
  ⟨(some (true, 11)), .bin .lss (.l 8) (.l 10), none⟩])
(.cond (.g 11)
.skip
(.exit 0)))
(.seq
(.block 1
(.seq
(.draw [
  ⟨⟨(some (false, 14)), .mv (.g 2), none⟩, 0, true, []⟩,
  ⟨⟨(some (false, 15)), .fa (.g 3) 4, none⟩, 1, true, []⟩,
  ⟨⟨(some (false, 16)), .ld none (.l 15), none⟩, 2, true, []⟩,
  ⟨⟨(some (false, 17)), .bin .add (.l 14) (.l 16), none⟩, 3, true, []⟩,
  ⟨⟨(some (false, 18)), .mv (.g 1), none⟩, 4, true, []⟩,
  ⟨⟨(some (false, 19)), .mv (.g 7), none⟩, 5, true, []⟩,
  ⟨⟨(some (false, 20)), .ia 2 (.l 18) (.l 19), none⟩, 6, true, []⟩,
  ⟨⟨(some (false, 21)), .fa (.l 20) 0, none⟩, 7, true, []⟩,
  ⟨⟨(some (false, 22)), .ld none (.l 21), none⟩, 8, true, []⟩,
  ⟨⟨(some (false, 23)), .bin .geq (.l 17) (.l 22), none⟩, 9, true, []⟩,
  ⟨⟨(some (false, 24)), .mv (.l 23), none⟩, 10, true, []⟩,
  ⟨⟨(some (false, 25)), .mv (.g 2), (some (.l 24, true))⟩, 11, true, []⟩,
  ⟨⟨(some (false, 26)), .fa (.g 3) 4, (some (.l 24, true))⟩, 12, true, []⟩,
  ⟨⟨(some (false, 27)), .ld none (.l 26), (some (.l 24, true))⟩, 13, true, []⟩,
  ⟨⟨(some (false, 28)), .bin .sub (.l 25) (.l 27), (some (.l 24, true))⟩, 14, true, []⟩,
  ⟨⟨(some (false, 29)), .mv (.g 1), (some (.l 24, true))⟩, 15, true, []⟩,
  ⟨⟨(some (false, 30)), .mv (.g 7), (some (.l 24, true))⟩, 16, true, []⟩,
  ⟨⟨(some (false, 31)), .ia 2 (.l 29) (.l 30), (some (.l 24, true))⟩, 17, true, []⟩,
  ⟨⟨(some (false, 32)), .fa (.l 31) 1, (some (.l 24, true))⟩, 18, true, []⟩,
  ⟨⟨(some (false, 33)), .ld none (.l 32), (some (.l 24, true))⟩, 19, true, []⟩,
  ⟨⟨(some (false, 34)), .bin .leq (.l 28) (.l 33), (some (.l 24, true))⟩, 20, true, []⟩,
  ⟨⟨(some (true, 35)), .pick (.l 24) (.l 34) (.c (.lit (.bool false))), none⟩, 21, true, []⟩])
(.cond (.g 35)
(.seq
(.reg [
  ⟨(some (true, 6)), .mv (.c (.lit (.bool true))), none⟩])
.ret)
.skip)))
(.reg [
  ⟨(some (false, 12)), .mv (.g 7), none⟩,
  ⟨(some (false, 13)), .bin .add (.l 12) (.c (.lit (.int .i64 1))), none⟩,
  ⟨(some (true, 7)), .mv (.l 13), none⟩]))))))
(.seq
(.reg [
  ⟨(some (true, 6)), .mv (.c (.lit (.bool false))), none⟩])
.ret)))
def K134 : List Nat := [0, 1, 2, 11, 35, 6, 3, 7]
noncomputable def b134 : Code := match Try.f134.body with | some c => c | none => .skip
theorem t134 : trCode ⟨Try.prog, K134, [], 36, none⟩ b134 = some c134 := by kernel_rfl
theorem go134 {args : List AV} {H : AHeap} {Kk : AV → AHeap → Prop} (hn : args.length = 3) (h : AGo ⟨Try.prog, K134, [], 36, none⟩ H.length [.code c134] (RetP [.t (.g 6)] H.length Kk) ⟨[], argsG 0 args⟩ H) : ACalls Try.prog 134 args H Kk :=
  ACalls_of Try.func134 (c := b134) rfl (by kernel_rfl) t134 (rs := [.t (.g 6)]) (by kernel_rfl) (by rw [hn]; exact Nat.le_of_ble_eq_true rfl) (by rw [hn]; rfl) (h.weaken (fun _ _ => RetP.hands) (by simp))

/-- sastrugi/sastrugiref03.must -/
def c135 : ACode :=
  (.seq
(.reg [
  ⟨(some (true, 3)), .box (.g 0), none⟩,
  ⟨(some (true, 6)), .mv (.c (.lit (.bool false))), none⟩])
(.seq
(.seq
(.reg [
  ⟨(some (true, 7)), .mv (.c (.lit (.int .i64 0))), none⟩])
(.block 0
(.loop
(.seq
(.seq
(.reg [
  ⟨(some (false, 8)), .mv (.g 7), none⟩,
  ⟨(some (false, 9)), .mv (.g 1), none⟩,
  ⟨(some (false, 10)), .len (.l 9), none⟩,
  ⟨(some (true, 11)), .bin .lss (.l 8) (.l 10), none⟩])
(.cond (.g 11)
.skip
(.exit 0)))
(.seq
(.block 1
(.seq
(.draw [
  ⟨⟨(some (false, 14)), .mv (.g 2), none⟩, 0, true, []⟩,
  ⟨⟨(some (false, 15)), .mv (.g 1), none⟩, 1, true, []⟩,
  ⟨⟨(some (false, 16)), .mv (.g 7), none⟩, 2, true, []⟩,
  ⟨⟨(some (false, 17)), .ia 2 (.l 15) (.l 16), none⟩, 3, true, []⟩,
  ⟨⟨(some (false, 18)), .fa (.l 17) 0, none⟩, 4, true, []⟩,
  ⟨⟨(some (false, 19)), .ld none (.l 18), none⟩, 5, true, []⟩,
  ⟨⟨(some (false, 21)), .fa (.g 3) 4, none⟩, 7, true, []⟩,
  ⟨⟨(some (false, 22)), .ld none (.l 21), none⟩, 8, true, []⟩,
  ⟨⟨(some (false, 20)), .call (.c (.fn 142 [])) [.l 14, .l 19], none⟩, 6, false, []⟩,
  ⟨⟨(some (false, 23)), .bin .leq (.l 20) (.l 22), none⟩, 9, true, []⟩,
  ⟨⟨(some (false, 24)), .mv (.l 23), none⟩, 10, true, []⟩,
  ⟨⟨(some (false, 25)), .mv (.g 2), (some (.l 24, true))⟩, 11, true, []⟩,
  ⟨⟨(some (false, 26)), .mv (.g 1), (some (.l 24, true))⟩, 12, true, []⟩,
  ⟨⟨(some (false, 27)), .mv (.g 7), (some (.l 24, true))⟩, 13, true, []⟩,
  ⟨⟨(some (false, 28)), .ia 2 (.l 26) (.l 27), (some (.l 24, true))⟩, 14, true, []⟩,
  ⟨⟨(some (false, 29)), .fa (.l 28) 1, (some (.l 24, true))⟩, 15, true, []⟩,
  ⟨⟨(some (false, 30)), .ld none (.l 29), (some (.l 24, true))⟩, 16, true, []⟩,
  ⟨⟨(some (false, 32)), .fa (.g 3) 4, (some (.l 24, true))⟩, 18, true, []⟩,
  ⟨⟨(some (false, 33)), .ld none (.l 32), (some (.l 24, true))⟩, 19, true, []⟩,
  ⟨⟨(some (false, 31)), .call (.c (.fn 142 [])) [.l 25, .l 30], (some (.l 24, true))⟩, 17, false, []⟩,
  ⟨⟨(some (false, 34)), .bin .leq (.l 31) (.l 33), (some (.l 24, true))⟩, 20, true, []⟩,
  ⟨⟨(some (true, 35)), .pick (.l 24) (.l 34) (.c (.lit (.bool false))), none⟩, 21, true, []⟩])
(.cond (.g 35)
(.seq
(.reg [
  ⟨(some (true, 6)), .mv (.c (.lit (.bool true))), none⟩])
.ret)
.skip)))
(.reg [
  ⟨(some (false, 12)), .mv (.g 7), none⟩,
  ⟨(some (false, 13)), .bin .add (.l 12) (.c (.lit (.int .i64 1))), none⟩,
  ⟨(some (true, 7)), .mv (.l 13), none⟩]))))))
(.seq
(.reg [
  ⟨(some (true, 6)), .mv (.c (.lit (.bool false))), none⟩])
.ret)))
def K135 : List Nat := [0, 1, 2, 11, 35, 6, 3, 7]
noncomputable def b135 : Code := match Try.f135.body with | some c => c | none => .skip
theorem t135 : trCode ⟨Try.prog, K135, [], 36, none⟩ b135 = some c135 := by kernel_rfl
theorem go135 {args : List AV} {H : AHeap} {Kk : AV → AHeap → Prop} (hn : args.length = 3) (h : AGo ⟨Try.prog, K135, [], 36, none⟩ H.length [.code c135] (RetP [.t (.g 6)] H.length Kk) ⟨[], argsG 0 args⟩ H) : ACalls Try.prog 135 args H Kk :=
  ACalls_of Try.func135 (c := b135) rfl (by kernel_rfl) t135 (rs := [.t (.g 6)]) (by kernel_rfl) (by rw [hn]; exact Nat.le_of_ble_eq_true rfl) (by rw [hn]; rfl) (h.weaken (fun _ _ => RetP.hands) (by simp))

/-- sastrugi/sastrugiref03.thickness -/
def c133 : ACode :=
  (.seq
(.reg [
  ⟨(some (true, 3)), .box (.g 0), none⟩,
  ⟨(some (true, 6)), .mv (.c (.lit (.int .i64 0))), none⟩])
(.seq
(.seq
(.reg [
  ⟨(some (true, 7)), .mv (.g 2), none⟩])
(.cond (.g 7)
(.seq
(.reg [
  ⟨(some (false, 8)), .mv (.g 1), none⟩,
  ⟨(some (false, 9)), .fa (.g 3) 5, none⟩,
  ⟨(some (false, 10)), .ld none (.l 9), none⟩,
  ⟨(some (false, 11)), .bin .mul (.l 8) (.l 10), none⟩,
  ⟨(some (false, 12)), .bin .quo (.l 11) (.c (.lit (.int .i64 1000000))), none⟩,
  ⟨(some (true, 6)), .mv (.l 12), none⟩])
.ret)
.skip))
(.seq
(.reg [
  ⟨(some (false, 13)), .mv (.g 1), none⟩,
  ⟨(some (true, 6)), .mv (.l 13), none⟩])
.ret)))
def K133 : List Nat := [0, 1, 2, 7, 6, 3]
noncomputable def b133 : Code := match Try.f133.body with | some c => c | none => .skip
theorem t133 : trCode ⟨Try.prog, K133, [], 14, none⟩ b133 = some c133 := by kernel_rfl
theorem go133 {args : List AV} {H : AHeap} {Kk : AV → AHeap → Prop} (hn : args.length = 3) (h : AGo ⟨Try.prog, K133, [], 14, none⟩ H.length [.code c133] (RetP [.t (.g 6)] H.length Kk) ⟨[], argsG 0 args⟩ H) : ACalls Try.prog 133 args H Kk :=
  ACalls_of Try.func133 (c := b133) rfl (by kernel_rfl) t133 (rs := [.t (.g 6)]) (by kernel_rfl) (by rw [hn]; exact Nat.le_of_ble_eq_true rfl) (by rw [hn]; rfl) (h.weaken (fun _ _ => RetP.hands) (by simp))

/-- sastrugi/sastrugiref03.Borne -/
def c132 : ACode :=
  (.seq
(.reg [
  ⟨(some (true, 8)), .mv (.c (.lit (.bool false))), none⟩])
(.seq
(.reg [
  ⟨(some (false, 9)), .mv (.g 0), none⟩,
  ⟨(some (false, 10)), .bin .mul (.l 9) (.c (.lit (.int .i64 1000000))), none⟩,
  ⟨(some (false, 11)), .mv (.g 1), none⟩,
  ⟨(some (false, 12)), .mv (.g 2), none⟩,
  ⟨(some (false, 13)), .bin .mul (.l 11) (.l 12), none⟩,
  ⟨(some (false, 14)), .mv (.g 2), none⟩,
  ⟨(some (false, 15)), .bin .mul (.l 13) (.l 14), none⟩,
  ⟨(some (false, 16)), .mv (.g 3), none⟩,
  ⟨(some (false, 17)), .bin .mul (.l 15) (.l 16), none⟩,
  ⟨(some (false, 18)), .bin .leq (.l 10) (.l 17), none⟩,
  ⟨(some (true, 8)), .mv (.l 18), none⟩])
.ret))
def K132 : List Nat := [0, 1, 2, 3, 8]
noncomputable def b132 : Code := match Try.f132.body with | some c => c | none => .skip
theorem t132 : trCode ⟨Try.prog, K132, [], 19, none⟩ b132 = some c132 := by kernel_rfl
theorem go132 {args : List AV} {H : AHeap} {Kk : AV → AHeap → Prop} (hn : args.length = 4) (h : AGo ⟨Try.prog, K132, [], 19, none⟩ H.length [.code c132] (RetP [.t (.g 8)] H.length Kk) ⟨[], argsG 0 args⟩ H) : ACalls Try.prog 132 args H Kk :=
  ACalls_of Try.func132 (c := b132) rfl (by kernel_rfl) t132 (rs := [.t (.g 8)]) (by kernel_rfl) (by rw [hn]; exact Nat.le_of_ble_eq_true rfl) (by rw [hn]; rfl) (h.weaken (fun _ _ => RetP.hands) (by simp))

/-- sastrugi/sastrugiref03.burdens -/
def c131 : ACode :=
  (.seq
(.reg [
  ⟨(some (true, 3)), .box (.g 0), none⟩,
  ⟨(some (true, 6)), .new [.int .i64 0, .int .i64 0], none⟩])
(.seq
(.reg [
  ⟨(some (true, 7)), .new [.int .i64 0, .int .i64 0], none⟩])
(.seq
(.seq
(.reg [
  ⟨(some (true, 8)), .mv (.c (.lit (.int .i64 0))), none⟩])
(.block 0
(.loop
(.seq
(.seq
(.reg [
  ⟨(some (false, 10)), .mv (.g 8), none⟩,
  ⟨(some (false, 11)), .mv (.g 1), none⟩,
  ⟨(some (false, 12)), .len (.l 11), none⟩,
  ⟨(some (true, 13)), .bin .lss (.l 10) (.l 12), none⟩])
(.cond (.g 13)
.skip
(.exit 0)))
(.seq
(.block 1
(.seq
(.draw [
  ⟨⟨(some (false, 16)), .fa (.g 3) 2, none⟩, 0, true, []⟩,
  ⟨⟨(some (false, 17)), .ld none (.l 16), none⟩, 1, true, []⟩,
  ⟨⟨(some (false, 18)), .mv (.g 1), none⟩, 2, true, []⟩,
  ⟨⟨(some (false, 19)), .mv (.g 8), none⟩, 3, true, []⟩,
  ⟨⟨(some (false, 20)), .ia 4 (.l 18) (.l 19), none⟩, 4, true, []⟩,
  ⟨⟨(some (false, 21)), .fa (.l 20) 0, none⟩, 5, true, []⟩,
  ⟨⟨(some (false, 22)), .ld none (.l 21), none⟩, 6, true, []⟩,
  ⟨⟨(some (false, 23)), .mv (.g 1), none⟩, 7, true, []⟩,
  ⟨⟨(some (false, 24)), .mv (.g 2), none⟩, 8, true, []⟩,
  ⟨⟨(some (false, 25)), .ia 4 (.l 23) (.l 24), none⟩, 9, true, []⟩,
  ⟨⟨(some (false, 26)), .fa (.l 25) 0, none⟩, 10, true, []⟩,
  ⟨⟨(some (false, 27)), .ld none (.l 26), none⟩, 11, true, []⟩,
  ⟨⟨(some (false, 28)), .call (.c (.fn 142 [])) [.l 22, .l 27], none⟩, 12, false, []⟩,
  ⟨⟨(some (false, 29)), .call (.c (.fn 130 [])) [.l 17, .l 28], none⟩, 13, false, []⟩,
  ⟨⟨(some (true, 9)), .mv (.l 29), none⟩, 14, true, []⟩])
(.draw [
  ⟨⟨(some (false, 30)), .fa (.g 7) 0, none⟩, 0, true, []⟩,
  ⟨⟨(some (false, 31)), .ld none (.l 30), none⟩, 1, true, []⟩,
  ⟨⟨(some (false, 32)), .mv (.g 1), none⟩, 2, true, []⟩,
  ⟨⟨(some (false, 33)), .mv (.g 8), none⟩, 3, true, []⟩,
  ⟨⟨(some (false, 34)), .ia 4 (.l 32) (.l 33), none⟩, 4, true, []⟩,
  ⟨⟨(some (false, 35)), .fa (.l 34) 1, none⟩, 5, true, []⟩,
  ⟨⟨(some (false, 36)), .fa (.l 35) 0, none⟩, 6, true, []⟩,
  ⟨⟨(some (false, 37)), .ld none (.l 36), none⟩, 7, true, []⟩,
  ⟨⟨(some (false, 38)), .mv (.g 9), none⟩, 8, true, []⟩,
  ⟨⟨(some (false, 39)), .bin .mul (.l 37) (.l 38), none⟩, 9, true, []⟩,
  ⟨⟨(some (false, 40)), .bin .add (.l 31) (.l 39), none⟩, 10, true, []⟩,
  ⟨⟨(some (false, 41)), .fa (.g 7) 1, none⟩, 11, true, []⟩,
  ⟨⟨(some (false, 42)), .ld none (.l 41), none⟩, 12, true, []⟩,
  ⟨⟨(some (false, 43)), .mv (.g 1), none⟩, 13, true, []⟩,
  ⟨⟨(some (false, 44)), .mv (.g 8), none⟩, 14, true, []⟩,
  ⟨⟨(some (false, 45)), .ia 4 (.l 43) (.l 44), none⟩, 15, true, []⟩,
  ⟨⟨(some (false, 46)), .fa (.l 45) 1, none⟩, 16, true, []⟩,
  ⟨⟨(some (false, 47)), .fa (.l 46) 1, none⟩, 17, true, []⟩,
  ⟨⟨(some (false, 48)), .ld none (.l 47), none⟩, 18, true, []⟩,
  ⟨⟨(some (false, 49)), .mv (.g 9), none⟩, 19, true, []⟩,
  ⟨⟨(some (false, 50)), .bin .mul (.l 48) (.l 49), none⟩, 20, true, []⟩,
  ⟨⟨(some (false, 51)), .bin .add (.l 42) (.l 50), none⟩, 21, true, []⟩,
  ⟨⟨(some (false, 52)), .mk [.int .i64 0, .int .i64 0] [(0, 1, .l 40), (1, 1, .l 51)], none⟩, 22, true, []⟩,
  ⟨⟨none, .st 2 (.g 7) (.l 52), none⟩, 23, true, []⟩])))
(.reg [
  ⟨(some (false, 14)), .mv (.g 8), none⟩,
  ⟨(some (false, 15)), .bin .add (.l 14) (.c (.lit (.int .i64 1))), none⟩,
  ⟨(some (true, 8)), .mv (.l 15), none⟩]))))))
(.seq
(.reg [
  ⟨(some (false, 53)), .ld (some 2) (.g 7), none⟩,
  ⟨none, .st 2 (.g 6) (.l 53), none⟩])
.ret))))
def K131 : List Nat := [0, 1, 2, 13, 6, 3, 7, 8, 9]
noncomputable def b131 : Code := match Try.f131.body with | some c => c | none => .skip
theorem t131 : trCode ⟨Try.prog, K131, [], 54, none⟩ b131 = some c131 := by kernel_rfl
theorem go131 {args : List AV} {H : AHeap} {Kk : AV → AHeap → Prop} (hn : args.length = 3) (h : AGo ⟨Try.prog, K131, [], 54, none⟩ H.length [.code c131] (RetP [.cell (.g 6) (some 2)] H.length Kk) ⟨[], argsG 0 args⟩ H) : ACalls Try.prog 131 args H Kk :=
  ACalls_of Try.func131 (c := b131) rfl (by kernel_rfl) t131 (rs := [.cell (.g 6) (some 2)]) (by kernel_rfl) (by rw [hn]; exact Nat.le_of_ble_eq_true rfl) (by rw [hn]; rfl) (h.weaken (fun _ _ => RetP.hands) (by simp))

end Go.Sas
