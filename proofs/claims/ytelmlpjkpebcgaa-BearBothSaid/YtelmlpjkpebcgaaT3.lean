/-
The code of some functions with its types resolved, printed by a program; that it is the code is checked by the kernel.
Conditions: none.
-/
import Derived.Test.YtelmlpjkpebcgaaAbs15
import Derived.Test.YtelmlpjkpebcgaaProg
set_option linter.unusedVariables false
set_option linter.unusedSimpArgs false
namespace Go.Sas
open Go.Proofs
set_option maxRecDepth 100000
/-- sastrugi/sastrugilaw03.awake -/
def c19 : ACode :=
  (.seq
(.reg [
  ⟨(some (true, 0)), .mv (.c (.lit (.bool false))), none⟩])
(.seq
(.reg [
  ⟨(some (false, 8)), .call (.c (.fn 79 [])) [], none⟩,
  ⟨(some (false, 9)), .call (.c (.fn 54 [])) [.l 8, .c (.lit (.int .i64 500)), .c (.lit (.int .i64 60))], none⟩,
  ⟨(some (false, 7)), .mv (.l 9), none⟩,
  ⟨(some (false, 10)), .ex (.l 7) 0, none⟩,
  ⟨(some (false, 11)), .ex (.l 7) 1, none⟩,
  ⟨(some (true, 1)), .mv (.l 10), none⟩,
  ⟨(some (true, 2)), .mv (.l 11), none⟩])
(.seq
(.reg [
  ⟨(some (false, 13)), .call (.c (.fn 79 [])) [], none⟩,
  ⟨(some (false, 14)), .call (.c (.fn 61 [])) [.c (.lit (.int .i64 500))], none⟩,
  ⟨(some (false, 15)), .mks false 2 [.l 14], none⟩,
  ⟨(some (false, 16)), .call (.c (.fn 61 [])) [.c (.lit (.int .i64 8000))], none⟩,
  ⟨(some (false, 17)), .mks false 1 [.c (.lit (.int .i64 10)), .c (.lit (.int .i64 29))], none⟩,
  ⟨(some (false, 18)), .call (.c (.fn 44 [])) [.l 16, .l 17], none⟩,
  ⟨(some (false, 19)), .call (.c (.fn 25 [])) [.l 13, .l 15, .c (.lit (.slice none 0 0)), .l 18], none⟩,
  ⟨(some (false, 12)), .mv (.l 19), none⟩,
  ⟨(some (false, 20)), .ex (.l 12) 0, none⟩,
  ⟨(some (false, 21)), .ex (.l 12) 1, none⟩,
  ⟨(some (true, 3)), .mv (.l 20), none⟩,
  ⟨(some (true, 4)), .mv (.l 21), none⟩])
(.seq
(.reg [
  ⟨(some (false, 23)), .call (.c (.fn 79 [])) [], none⟩,
  ⟨(some (false, 24)), .call (.c (.fn 61 [])) [.c (.lit (.int .i64 50))], none⟩,
  ⟨(some (false, 25)), .call (.c (.fn 46 [])) [.l 23, .l 24, .c (.lit (.int .i64 100)), .c (.lit (.int .i64 70))], none⟩,
  ⟨(some (false, 22)), .mv (.l 25), none⟩,
  ⟨(some (false, 26)), .ex (.l 22) 0, none⟩,
  ⟨(some (false, 27)), .ex (.l 22) 1, none⟩,
  ⟨(some (true, 5)), .mv (.l 26), none⟩,
  ⟨(some (true, 6)), .mv (.l 27), none⟩])
(.seq
(.reg [
  ⟨(some (false, 28)), .mv (.g 2), none⟩,
  ⟨(some (false, 29)), .bin .eql (.l 28) (.c (.lit (.int .i64 0))), none⟩,
  ⟨(some (false, 30)), .mv (.l 29), none⟩,
  ⟨(some (false, 31)), .mv (.g 4), (some (.l 30, true))⟩,
  ⟨(some (false, 32)), .bin .eql (.l 31) (.c (.lit (.int .i64 0))), (some (.l 30, true))⟩,
  ⟨(some (false, 33)), .pick (.l 30) (.l 32) (.c (.lit (.bool false))), none⟩,
  ⟨(some (false, 34)), .mv (.l 33), none⟩,
  ⟨(some (false, 35)), .mv (.g 6), (some (.l 34, true))⟩,
  ⟨(some (false, 36)), .bin .eql (.l 35) (.c (.lit (.int .i64 0))), (some (.l 34, true))⟩,
  ⟨(some (false, 37)), .pick (.l 34) (.l 36) (.c (.lit (.bool false))), none⟩,
  ⟨(some (false, 38)), .mv (.l 37), none⟩,
  ⟨(some (false, 39)), .mv (.g 1), (some (.l 38, true))⟩,
  ⟨(some (false, 40)), .bin .eql (.l 39) (.c (.lit (.int .i64 6400))), (some (.l 38, true))⟩,
  ⟨(some (false, 41)), .pick (.l 38) (.l 40) (.c (.lit (.bool false))), none⟩,
  ⟨(some (false, 42)), .mv (.l 41), none⟩,
  ⟨(some (false, 43)), .mv (.g 3), (some (.l 42, true))⟩,
  ⟨(some (false, 44)), .mks false 1 [.c (.lit (.int .i64 2)), .c (.lit (.int .i64 2))], (some (.l 42, true))⟩,
  ⟨(some (false, 45)), .call (.c (.fn 27 [])) [.l 43, .l 44], (some (.l 42, true))⟩,
  ⟨(some (false, 46)), .pick (.l 42) (.l 45) (.c (.lit (.bool false))), none⟩,
  ⟨(some (false, 47)), .mv (.l 46), none⟩,
  ⟨(some (false, 48)), .mv (.g 5), (some (.l 47, true))⟩,
  ⟨(some (false, 49)), .bin .eql (.l 48) (.c (.lit (.int .i64 2))), (some (.l 47, true))⟩,
  ⟨(some (false, 50)), .pick (.l 47) (.l 49) (.c (.lit (.bool false))), none⟩,
  ⟨(some (true, 0)), .mv (.l 50), none⟩])
.ret)))))
def K19 : List Nat := [0, 1, 2, 3, 4, 5, 6]
noncomputable def b19 : Code := match Try.f19.body with | some c => c | none => .skip
theorem t19 : trCode ⟨Try.prog, K19, [], 51, none⟩ b19 = some c19 := by kernel_rfl
theorem go19 {args : List AV} {H : AHeap} {Kk : AV → AHeap → Prop} (hn : args.length = 0) (h : AGo ⟨Try.prog, K19, [], 51, none⟩ H.length [.code c19] (RetP [.t (.g 0)] H.length Kk) ⟨[], argsG 0 args⟩ H) : ACalls Try.prog 19 args H Kk :=
  ACalls_of Try.func19 (c := b19) rfl (by kernel_rfl) t19 (rs := [.t (.g 0)]) (by kernel_rfl) (by rw [hn]; exact Nat.le_of_ble_eq_true rfl) (by rw [hn]; rfl) (h.weaken (fun _ _ => RetP.hands) (by simp))

/-- sastrugi/sastrugilaw03.loads -/
def c44 : ACode :=
  (.seq
(.reg [
  ⟨(some (true, 2)), .box (.g 0), none⟩,
  ⟨(some (true, 4)), .mv (.c (.lit (.slice none 0 0))), none⟩])
(.seq
(.reg [
  ⟨(some (true, 5)), .mv (.c (.lit (.slice none 0 0))), none⟩])
(.seq
(.seq
(.reg [
  ⟨(some (true, 6)), .mv (.c (.lit (.int .i64 0))), none⟩])
(.block 0
(.loop
(.seq
(.seq
(.reg [
  ⟨(some (false, 7)), .mv (.g 6), none⟩,
  ⟨(some (false, 8)), .mv (.g 1), none⟩,
  ⟨(some (false, 9)), .len (.l 8), none⟩,
  ⟨(some (true, 10)), .bin .lss (.l 7) (.l 9), none⟩])
(.cond (.g 10)
.skip
(.exit 0)))
(.seq
(.block 1
(.draw [
  ⟨⟨(some (false, 13)), .mv (.g 5), none⟩, 0, false, []⟩,
  ⟨⟨(some (false, 14)), .mv (.g 1), none⟩, 1, false, []⟩,
  ⟨⟨(some (false, 15)), .mv (.g 6), none⟩, 2, false, []⟩,
  ⟨⟨(some (false, 16)), .ia 1 (.l 14) (.l 15), none⟩, 3, false, []⟩,
  ⟨⟨(some (false, 17)), .ld none (.l 16), none⟩, 4, false, []⟩,
  ⟨⟨(some (false, 18)), .ld (some 2) (.g 2), none⟩, 5, false, []⟩,
  ⟨⟨(some (false, 19)), .mk [.int .i64 0, .int .i64 0, .int .i64 0, .int .i64 0] [(0, 1, .l 17), (1, 2, .l 18)], none⟩, 6, false, []⟩,
  ⟨⟨(some (false, 20)), .mks false 4 [.l 19], none⟩, 7, false, []⟩,
  ⟨⟨(some (false, 21)), .app 4 32 (.l 13) (.l 20), none⟩, 8, false, []⟩,
  ⟨⟨(some (true, 5)), .mv (.l 21), none⟩, 9, false, []⟩]))
(.reg [
  ⟨(some (false, 11)), .mv (.g 6), none⟩,
  ⟨(some (false, 12)), .bin .add (.l 11) (.c (.lit (.int .i64 1))), none⟩,
  ⟨(some (true, 6)), .mv (.l 12), none⟩]))))))
(.seq
(.reg [
  ⟨(some (false, 22)), .mv (.g 5), none⟩,
  ⟨(some (true, 4)), .mv (.l 22), none⟩])
.ret))))
def K44 : List Nat := [0, 1, 10, 4, 2, 5, 6]
noncomputable def b44 : Code := match Try.f44.body with | some c => c | none => .skip
theorem t44 : trCode ⟨Try.prog, K44, [], 23, none⟩ b44 = some c44 := by kernel_rfl
theorem go44 {args : List AV} {H : AHeap} {Kk : AV → AHeap → Prop} (hn : args.length = 2) (h : AGo ⟨Try.prog, K44, [], 23, none⟩ H.length [.code c44] (RetP [.t (.g 4)] H.length Kk) ⟨[], argsG 0 args⟩ H) : ACalls Try.prog 44 args H Kk :=
  ACalls_of Try.func44 (c := b44) rfl (by kernel_rfl) t44 (rs := [.t (.g 4)]) (by kernel_rfl) (by rw [hn]; exact Nat.le_of_ble_eq_true rfl) (by rw [hn]; rfl) (h.weaken (fun _ _ => RetP.hands) (by simp))

/-- sastrugi/sastrugilaw03.span -/
def c51 : ACode :=
  (.seq
(.reg [
  ⟨(some (true, 4)), .new [.int .i64 0, .int .i64 0], none⟩])
(.seq
(.reg [
  ⟨(some (false, 5)), .mv (.g 0), none⟩,
  ⟨(some (false, 6)), .mv (.g 1), none⟩,
  ⟨(some (false, 7)), .mk [.int .i64 0, .int .i64 0] [(0, 1, .l 5), (1, 1, .l 6)], none⟩,
  ⟨none, .st 2 (.g 4) (.l 7), none⟩])
.ret))
def K51 : List Nat := [0, 1, 4]
noncomputable def b51 : Code := match Try.f51.body with | some c => c | none => .skip
theorem t51 : trCode ⟨Try.prog, K51, [], 8, none⟩ b51 = some c51 := by kernel_rfl
theorem go51 {args : List AV} {H : AHeap} {Kk : AV → AHeap → Prop} (hn : args.length = 2) (h : AGo ⟨Try.prog, K51, [], 8, none⟩ H.length [.code c51] (RetP [.cell (.g 4) (some 2)] H.length Kk) ⟨[], argsG 0 args⟩ H) : ACalls Try.prog 51 args H Kk :=
  ACalls_of Try.func51 (c := b51) rfl (by kernel_rfl) t51 (rs := [.cell (.g 4) (some 2)]) (by kernel_rfl) (by rw [hn]; exact Nat.le_of_ble_eq_true rfl) (by rw [hn]; rfl) (h.weaken (fun _ _ => RetP.hands) (by simp))

/-- sastrugi/sastrugilaw03.one -/
def c61 : ACode :=
  (.seq
(.reg [
  ⟨(some (true, 2)), .new [.int .i64 0, .int .i64 0], none⟩])
(.seq
(.reg [
  ⟨(some (false, 3)), .mv (.g 0), none⟩,
  ⟨(some (false, 4)), .mv (.g 0), none⟩,
  ⟨(some (false, 5)), .call (.c (.fn 51 [])) [.l 3, .l 4], none⟩,
  ⟨none, .st 2 (.g 2) (.l 5), none⟩])
.ret))
def K61 : List Nat := [0, 2]
noncomputable def b61 : Code := match Try.f61.body with | some c => c | none => .skip
theorem t61 : trCode ⟨Try.prog, K61, [], 6, none⟩ b61 = some c61 := by kernel_rfl
theorem go61 {args : List AV} {H : AHeap} {Kk : AV → AHeap → Prop} (hn : args.length = 1) (h : AGo ⟨Try.prog, K61, [], 6, none⟩ H.length [.code c61] (RetP [.cell (.g 2) (some 2)] H.length Kk) ⟨[], argsG 0 args⟩ H) : ACalls Try.prog 61 args H Kk :=
  ACalls_of Try.func61 (c := b61) rfl (by kernel_rfl) t61 (rs := [.cell (.g 2) (some 2)]) (by kernel_rfl) (by rw [hn]; exact Nat.le_of_ble_eq_true rfl) (by rw [hn]; rfl) (h.weaken (fun _ _ => RetP.hands) (by simp))

/-- sastrugi/sastrugilaw03.plate -/
def c79 : ACode :=
  (.seq
(.reg [
  ⟨(some (true, 0)), .new [.int .i64 0, .int .i64 0, .slice none 0 0, .slice none 0 0, .int .i64 0, .int .i64 0, .int .i64 0, .int .i64 0, .int .i64 0, .int .i64 0, .int .i64 0], none⟩])
(.seq
(.reg [
  ⟨(some (false, 1)), .call (.c (.fn 51 [])) [.c (.lit (.int .i64 40000)), .c (.lit (.int .i64 50000))], none⟩,
  ⟨(some (false, 2)), .mk [.int .i64 0, .int .i64 0] [(1, 1, .c (.lit (.int .i64 1000000)))], none⟩,
  ⟨(some (false, 3)), .mk [.int .i64 0, .int .i64 0] [(0, 1, .c (.lit (.int .i64 20))), (1, 1, .c (.lit (.int .i64 500000)))], none⟩,
  ⟨(some (false, 4)), .mk [.int .i64 0, .int .i64 0] [(0, 1, .c (.lit (.int .i64 100)))], none⟩,
  ⟨(some (false, 5)), .mks false 2 [.l 2, .l 3, .l 4], none⟩,
  ⟨(some (false, 6)), .mk [.int .i64 0, .int .i64 0] [(1, 1, .c (.lit (.int .i64 1000000)))], none⟩,
  ⟨(some (false, 7)), .mk [.int .i64 0, .int .i64 0] [(0, 1, .c (.lit (.int .i64 60))), (1, 1, .c (.lit (.int .i64 640000)))], none⟩,
  ⟨(some (false, 8)), .mk [.int .i64 0, .int .i64 0] [(0, 1, .c (.lit (.int .i64 600))), (1, 1, .c (.lit (.int .i64 250000)))], none⟩,
  ⟨(some (false, 9)), .mks false 2 [.l 6, .l 7, .l 8], none⟩,
  ⟨(some (false, 10)), .mk [.int .i64 0, .int .i64 0, .slice none 0 0, .slice none 0 0, .int .i64 0, .int .i64 0, .int .i64 0, .int .i64 0, .int .i64 0, .int .i64 0, .int .i64 0] [(0, 2, .l 1), (2, 1, .l 5), (3, 1, .l 9), (4, 1, .c (.lit (.int .i64 5))), (5, 1, .c (.lit (.int .i64 500000))), (6, 1, .c (.lit (.int .i64 98))), (7, 1, .c (.lit (.int .i64 640000))), (8, 1, .c (.lit (.int .i64 1440000))), (9, 1, .c (.lit (.int .i64 50))), (10, 1, .c (.lit (.int .i64 250000)))], none⟩,
  ⟨none, .st 11 (.g 0) (.l 10), none⟩])
.ret))
def K79 : List Nat := [0]
noncomputable def b79 : Code := match Try.f79.body with | some c => c | none => .skip
theorem t79 : trCode ⟨Try.prog, K79, [], 11, none⟩ b79 = some c79 := by kernel_rfl
theorem go79 {args : List AV} {H : AHeap} {Kk : AV → AHeap → Prop} (hn : args.length = 0) (h : AGo ⟨Try.prog, K79, [], 11, none⟩ H.length [.code c79] (RetP [.cell (.g 0) (some 11)] H.length Kk) ⟨[], argsG 0 args⟩ H) : ACalls Try.prog 79 args H Kk :=
  ACalls_of Try.func79 (c := b79) rfl (by kernel_rfl) t79 (rs := [.cell (.g 0) (some 11)]) (by kernel_rfl) (by rw [hn]; exact Nat.le_of_ble_eq_true rfl) (by rw [hn]; rfl) (h.weaken (fun _ _ => RetP.hands) (by simp))

/-- sastrugi/sastrugilaw03.big -/
def c18 : ACode :=
  (.seq
(.reg [
  ⟨(some (true, 1)), .box (.g 0), none⟩,
  ⟨(some (true, 2)), .mv (.c (.lit (.bool false))), none⟩])
(.seq
(.reg [
  ⟨(some (false, 3)), .fa (.g 1) 2, none⟩,
  ⟨(some (false, 4)), .ld none (.l 3), none⟩,
  ⟨(some (false, 5)), .len (.l 4), none⟩,
  ⟨(some (false, 6)), .bin .gtr (.l 5) (.c (.lit (.int .i64 40))), none⟩,
  ⟨(some (false, 7)), .mv (.l 6), none⟩,
  ⟨(some (false, 8)), .fa (.g 1) 3, (some (.l 7, false))⟩,
  ⟨(some (false, 9)), .ld none (.l 8), (some (.l 7, false))⟩,
  ⟨(some (false, 10)), .len (.l 9), (some (.l 7, false))⟩,
  ⟨(some (false, 11)), .bin .gtr (.l 10) (.c (.lit (.int .i64 40))), (some (.l 7, false))⟩,
  ⟨(some (false, 12)), .pick (.l 7) (.c (.lit (.bool true))) (.l 11), none⟩,
  ⟨(some (true, 2)), .mv (.l 12), none⟩])
.ret))
def K18 : List Nat := [0, 2, 1]
noncomputable def b18 : Code := match Try.f18.body with | some c => c | none => .skip
theorem t18 : trCode ⟨Try.prog, K18, [], 13, none⟩ b18 = some c18 := by kernel_rfl
theorem go18 {args : List AV} {H : AHeap} {Kk : AV → AHeap → Prop} (hn : args.length = 1) (h : AGo ⟨Try.prog, K18, [], 13, none⟩ H.length [.code c18] (RetP [.t (.g 2)] H.length Kk) ⟨[], argsG 0 args⟩ H) : ACalls Try.prog 18 args H Kk :=
  ACalls_of Try.func18 (c := b18) rfl (by kernel_rfl) t18 (rs := [.t (.g 2)]) (by kernel_rfl) (by rw [hn]; exact Nat.le_of_ble_eq_true rfl) (by rw [hn]; rfl) (h.weaken (fun _ _ => RetP.hands) (by simp))

/-- sastrugi/sastrugilaw03.madeOf -/
def c28 : ACode :=
  (.seq
(.reg [
  ⟨(some (true, 2)), .new [.int .i64 0, .int .i64 0, .slice none 0 0, .slice none 0 0, .int .i64 0, .int .i64 0, .int .i64 0, .int .i64 0, .int .i64 0, .int .i64 0, .int .i64 0, .slice none 0 0, .slice none 0 0, .slice none 0 0], none⟩])
(.seq
(.reg [
  ⟨(some (false, 4)), .mv (.g 0), none⟩,
  ⟨(some (false, 5)), .call (.c (.fn 21 [])) [.l 4], none⟩,
  ⟨(some (false, 6)), .mv (.g 0), none⟩,
  ⟨(some (false, 7)), .call (.c (.fn 22 [])) [.l 6, .c (.lit (.int .i64 4))], none⟩,
  ⟨(some (false, 8)), .mk [.int .i64 0, .int .i64 0, .slice none 0 0, .slice none 0 0, .int .i64 0, .int .i64 0, .int .i64 0, .int .i64 0, .int .i64 0, .int .i64 0, .int .i64 0, .slice none 0 0, .slice none 0 0, .slice none 0 0] [(0, 11, .l 5), (11, 1, .l 7)], none⟩,
  ⟨(some (true, 3)), .new [.int .i64 0, .int .i64 0, .slice none 0 0, .slice none 0 0, .int .i64 0, .int .i64 0, .int .i64 0, .int .i64 0, .int .i64 0, .int .i64 0, .int .i64 0, .slice none 0 0, .slice none 0 0, .slice none 0 0], none⟩,
  ⟨none, .st 14 (.g 3) (.l 8), none⟩])
(.seq
(.reg [
  ⟨(some (false, 9)), .mv (.g 0), none⟩,
  ⟨(some (false, 10)), .fa (.g 3) 11, none⟩,
  ⟨(some (false, 11)), .ld none (.l 10), none⟩,
  ⟨(some (false, 12)), .len (.l 11), none⟩,
  ⟨(some (false, 13)), .call (.c (.fn 23 [])) [.l 9, .l 12, .c (.lit (.int .i64 3))], none⟩,
  ⟨(some (false, 14)), .fa (.g 3) 12, none⟩,
  ⟨none, .st 1 (.l 14) (.l 13), none⟩])
(.seq
(.reg [
  ⟨(some (false, 15)), .mv (.g 0), none⟩,
  ⟨(some (false, 16)), .fa (.g 3) 11, none⟩,
  ⟨(some (false, 17)), .ld none (.l 16), none⟩,
  ⟨(some (false, 18)), .len (.l 17), none⟩,
  ⟨(some (false, 19)), .call (.c (.fn 24 [])) [.l 15, .l 18, .c (.lit (.int .i64 5))], none⟩,
  ⟨(some (false, 20)), .fa (.g 3) 13, none⟩,
  ⟨none, .st 1 (.l 20) (.l 19), none⟩])
(.seq
(.reg [
  ⟨(some (false, 21)), .ld (some 14) (.g 3), none⟩,
  ⟨none, .st 14 (.g 2) (.l 21), none⟩])
.ret)))))
def K28 : List Nat := [0, 2, 3]
noncomputable def b28 : Code := match Try.f28.body with | some c => c | none => .skip
theorem t28 : trCode ⟨Try.prog, K28, [], 22, none⟩ b28 = some c28 := by kernel_rfl
theorem go28 {args : List AV} {H : AHeap} {Kk : AV → AHeap → Prop} (hn : args.length = 1) (h : AGo ⟨Try.prog, K28, [], 22, none⟩ H.length [.code c28] (RetP [.cell (.g 2) (some 14)] H.length Kk) ⟨[], argsG 0 args⟩ H) : ACalls Try.prog 28 args H Kk :=
  ACalls_of Try.func28 (c := b28) rfl (by kernel_rfl) t28 (rs := [.cell (.g 2) (some 14)]) (by kernel_rfl) (by rw [hn]; exact Nat.le_of_ble_eq_true rfl) (by rw [hn]; rfl) (h.weaken (fun _ _ => RetP.hands) (by simp))

/-- sastrugi/sastrugilaw03.inside -/
def c30 : ACode :=
  (.seq
(.reg [
  ⟨(some (true, 4)), .mv (.c (.lit (.slice none 0 0))), none⟩])
(.seq
(.reg [
  ⟨(some (true, 5)), .mv (.c (.lit (.slice none 0 0))), none⟩])
(.seq
(.seq
(.reg [
  ⟨(some (true, 6)), .mv (.c (.lit (.int .i64 0))), none⟩])
(.block 0
(.loop
(.seq
(.seq
(.reg [
  ⟨(some (false, 7)), .mv (.g 6), none⟩,
  ⟨(some (false, 8)), .mv (.g 1), none⟩,
  ⟨(some (false, 9)), .len (.l 8), none⟩,
  ⟨(some (true, 10)), .bin .lss (.l 7) (.l 9), none⟩])
(.cond (.g 10)
.skip
(.exit 0)))
(.seq
(.block 1
(.reg [
  ⟨(some (false, 13)), .mv (.g 5), none⟩,
  ⟨(some (false, 14)), .mv (.g 0), none⟩,
  ⟨(some (false, 15)), .mv (.g 1), none⟩,
  ⟨(some (false, 16)), .mv (.g 6), none⟩,
  ⟨(some (false, 17)), .ia 2 (.l 15) (.l 16), none⟩,
  ⟨(some (false, 18)), .ld (some 2) (.l 17), none⟩,
  ⟨(some (false, 19)), .call (.c (.fn 29 [])) [.l 14, .l 18], none⟩,
  ⟨(some (false, 20)), .mks false 1 [.l 19], none⟩,
  ⟨(some (false, 21)), .app 1 8 (.l 13) (.l 20), none⟩,
  ⟨(some (true, 5)), .mv (.l 21), none⟩]))
(.reg [
  ⟨(some (false, 11)), .mv (.g 6), none⟩,
  ⟨(some (false, 12)), .bin .add (.l 11) (.c (.lit (.int .i64 1))), none⟩,
  ⟨(some (true, 6)), .mv (.l 12), none⟩]))))))
(.seq
(.reg [
  ⟨(some (false, 22)), .mv (.g 5), none⟩,
  ⟨(some (true, 4)), .mv (.l 22), none⟩])
.ret))))
def K30 : List Nat := [0, 1, 10, 4, 5, 6]
noncomputable def b30 : Code := match Try.f30.body with | some c => c | none => .skip
theorem t30 : trCode ⟨Try.prog, K30, [], 23, none⟩ b30 = some c30 := by kernel_rfl
theorem go30 {args : List AV} {H : AHeap} {Kk : AV → AHeap → Prop} (hn : args.length = 2) (h : AGo ⟨Try.prog, K30, [], 23, none⟩ H.length [.code c30] (RetP [.t (.g 4)] H.length Kk) ⟨[], argsG 0 args⟩ H) : ACalls Try.prog 30 args H Kk :=
  ACalls_of Try.func30 (c := b30) rfl (by kernel_rfl) t30 (rs := [.t (.g 4)]) (by kernel_rfl) (by rw [hn]; exact Nat.le_of_ble_eq_true rfl) (by rw [hn]; rfl) (h.weaken (fun _ _ => RetP.hands) (by simp))

/-- sastrugi/sastrugilaw03.weights -/
def c31 : ACode :=
  (.seq
(.reg [
  ⟨(some (true, 2)), .mv (.c (.lit (.slice none 0 0))), none⟩])
(.seq
(.reg [
  ⟨(some (true, 3)), .mv (.c (.lit (.slice none 0 0))), none⟩])
(.seq
(.seq
(.reg [
  ⟨(some (true, 4)), .mv (.c (.lit (.int .i64 0))), none⟩])
(.block 0
(.loop
(.seq
(.seq
(.reg [
  ⟨(some (false, 5)), .mv (.g 4), none⟩,
  ⟨(some (false, 6)), .mv (.g 0), none⟩,
  ⟨(some (false, 7)), .len (.l 6), none⟩,
  ⟨(some (true, 8)), .bin .lss (.l 5) (.l 7), none⟩])
(.cond (.g 8)
.skip
(.exit 0)))
(.seq
(.block 1
(.reg [
  ⟨(some (false, 11)), .mv (.g 3), none⟩,
  ⟨(some (false, 12)), .mv (.g 0), none⟩,
  ⟨(some (false, 13)), .mv (.g 4), none⟩,
  ⟨(some (false, 14)), .ia 4 (.l 12) (.l 13), none⟩,
  ⟨(some (false, 15)), .fa (.l 14) 1, none⟩,
  ⟨(some (false, 16)), .ld (some 2) (.l 15), none⟩,
  ⟨(some (false, 17)), .mks false 2 [.l 16], none⟩,
  ⟨(some (false, 18)), .app 2 16 (.l 11) (.l 17), none⟩,
  ⟨(some (true, 3)), .mv (.l 18), none⟩]))
(.reg [
  ⟨(some (false, 9)), .mv (.g 4), none⟩,
  ⟨(some (false, 10)), .bin .add (.l 9) (.c (.lit (.int .i64 1))), none⟩,
  ⟨(some (true, 4)), .mv (.l 10), none⟩]))))))
(.seq
(.reg [
  ⟨(some (false, 19)), .mv (.g 3), none⟩,
  ⟨(some (true, 2)), .mv (.l 19), none⟩])
.ret))))
def K31 : List Nat := [0, 8, 2, 3, 4]
noncomputable def b31 : Code := match Try.f31.body with | some c => c | none => .skip
theorem t31 : trCode ⟨Try.prog, K31, [], 20, none⟩ b31 = some c31 := by kernel_rfl
theorem go31 {args : List AV} {H : AHeap} {Kk : AV → AHeap → Prop} (hn : args.length = 1) (h : AGo ⟨Try.prog, K31, [], 20, none⟩ H.length [.code c31] (RetP [.t (.g 2)] H.length Kk) ⟨[], argsG 0 args⟩ H) : ACalls Try.prog 31 args H Kk :=
  ACalls_of Try.func31 (c := b31) rfl (by kernel_rfl) t31 (rs := [.t (.g 2)]) (by kernel_rfl) (by rw [hn]; exact Nat.le_of_ble_eq_true rfl) (by rw [hn]; rfl) (h.weaken (fun _ _ => RetP.hands) (by simp))

/-- sastrugi/sastrugilaw03.borne -/
def c32 : ACode :=
  (.seq
(.reg [
  ⟨(some (true, 4)), .box (.g 0), none⟩,
  ⟨(some (true, 6)), .box (.g 2), none⟩,
  ⟨(some (true, 8)), .mv (.c (.lit (.bool false))), none⟩])
(.seq
(.reg [
  ⟨(some (false, 15)), .mv (.g 1), none⟩,
  ⟨(some (false, 16)), .mv (.g 3), none⟩,
  ⟨(some (false, 17)), .ia 4 (.l 15) (.l 16), none⟩,
  ⟨(some (false, 18)), .ld (some 4) (.l 17), none⟩,
  ⟨(some (true, 9)), .new [.int .i64 0, .int .i64 0, .int .i64 0, .int .i64 0], none⟩,
  ⟨none, .st 4 (.g 9) (.l 18), none⟩])
(.seq
(.reg [
  ⟨(some (false, 19)), .fa (.g 6) 1, none⟩,
  ⟨(some (false, 20)), .ld none (.l 19), none⟩,
  ⟨(some (false, 21)), .fa (.g 9) 0, none⟩,
  ⟨(some (false, 22)), .ld none (.l 21), none⟩,
  ⟨(some (false, 23)), .bin .quo (.l 22) (.c (.lit (.int .i64 100))), none⟩,
  ⟨(some (false, 24)), .ia 1 (.l 20) (.l 23), none⟩,
  ⟨(some (false, 25)), .ld none (.l 24), none⟩,
  ⟨(some (true, 10)), .mv (.l 25), none⟩])
(.seq
(.reg [
  ⟨(some (true, 11)), .mv (.c (.lit (.bool false))), none⟩])
(.seq
(.seq
(.reg [
  ⟨(some (true, 12)), .mv (.c (.lit (.int .i64 0))), none⟩])
(.block 0
(.loop
(.seq
(.seq
(.reg [
  ⟨(some (false, 26)), .mv (.g 12), none⟩,
  ⟨(some (false, 27)), .fa (.g 6) 2, none⟩,
  ⟨(some (false, 28)), .ld none (.l 27), none⟩,
  ⟨(some (false, 29)), .len (.l 28), none⟩,
  ⟨(some (true, 30)), .bin .lss (.l 26) (.l 29), none⟩])
(.cond (.g 30)
.skip
(.exit 0)))
(.seq
(.block 1
(.draw [
  ⟨⟨(some (false, 33)), .mv (.g 11), none⟩, 0, false, []⟩,
  ⟨⟨(some (false, 34)), .mv (.l 33), none⟩, 1, false, []⟩,
  ⟨⟨(some (false, 35)), .fa (.g 6) 2, (some (.l 34, false))⟩, 2, false, []⟩,
  ⟨⟨(some (false, 36)), .ld none (.l 35), (some (.l 34, false))⟩, 3, false, []⟩,
  ⟨⟨(some (false, 37)), .mv (.g 12), (some (.l 34, false))⟩, 4, false, []⟩,
  ⟨⟨(some (false, 38)), .ia 1 (.l 36) (.l 37), (some (.l 34, false))⟩, 5, false, []⟩,
  ⟨⟨(some (false, 39)), .ld none (.l 38), (some (.l 34, false))⟩, 6, false, []⟩,
  ⟨⟨(some (false, 40)), .fa (.g 9) 0, (some (.l 34, false))⟩, 7, false, []⟩,
  ⟨⟨(some (false, 41)), .ld none (.l 40), (some (.l 34, false))⟩, 8, false, []⟩,
  ⟨⟨(some (false, 43)), .fa (.g 4) 4, (some (.l 34, false))⟩, 10, false, []⟩,
  ⟨⟨(some (false, 44)), .ld none (.l 43), (some (.l 34, false))⟩, 11, false, []⟩,
  ⟨⟨(some (false, 42)), .call (.c (.fn 40 [])) [.l 39, .l 41], (some (.l 34, false))⟩, 9, false, []⟩,
  ⟨⟨(some (false, 45)), .bin .leq (.l 42) (.l 44), (some (.l 34, false))⟩, 12, false, []⟩,
  ⟨⟨(some (false, 46)), .pick (.l 34) (.c (.lit (.bool true))) (.l 45), none⟩, 13, false, []⟩,
  ⟨⟨(some (true, 11)), .mv (.l 46), none⟩, 14, false, []⟩]))
(.reg [
  ⟨(some (false, 31)), .mv (.g 12), none⟩,
  ⟨(some (false, 32)), .bin .add (.l 31) (.c (.lit (.int .i64 1))), none⟩,
  ⟨(some (true, 12)), .mv (.l 32), none⟩]))))))
(.seq
(.seq
(.reg [
  ⟨(some (true, 47)), .mv (.g 11), none⟩])
(.cond (.g 47)
(.reg [
  ⟨(some (false, 48)), .mv (.g 10), none⟩,
  ⟨(some (false, 49)), .fa (.g 4) 5, none⟩,
  ⟨(some (false, 50)), .ld none (.l 49), none⟩,
  ⟨(some (false, 51)), .bin .mul (.l 48) (.l 50), none⟩,
  ⟨(some (false, 52)), .bin .quo (.l 51) (.c (.lit (.int .i64 1000000))), none⟩,
  ⟨(some (true, 10)), .mv (.l 52), none⟩])
.skip))
(.seq
(.reg [
  ⟨(some (true, 13)), .mv (.c (.lit (.int .i64 0))), none⟩])
(.seq
(.seq
(.reg [
  ⟨(some (true, 14)), .mv (.c (.lit (.int .i64 0))), none⟩])
(.block 2
(.loop
(.seq
(.seq
(.reg [
  ⟨(some (false, 53)), .mv (.g 14), none⟩,
  ⟨(some (false, 54)), .mv (.g 1), none⟩,
  ⟨(some (false, 55)), .len (.l 54), none⟩,
  ⟨(some (true, 56)), .bin .lss (.l 53) (.l 55), none⟩])
(.cond (.g 56)
.skip
(.exit 2)))
(.seq
(.block 3
(.draw [
  ⟨⟨(some (false, 59)), .mv (.g 13), none⟩, 0, false, []⟩,
  ⟨⟨(some (false, 60)), .fa (.g 6) 3, none⟩, 1, false, []⟩,
  ⟨⟨(some (false, 61)), .ld none (.l 60), none⟩, 2, false, []⟩,
  ⟨⟨(some (false, 62)), .mv (.g 14), none⟩, 3, false, []⟩,
  ⟨⟨(some (false, 63)), .ia 1 (.l 61) (.l 62), none⟩, 4, false, []⟩,
  ⟨⟨(some (false, 64)), .ld none (.l 63), none⟩, 5, false, []⟩,
  ⟨⟨(some (false, 65)), .fa (.g 4) 2, none⟩, 6, false, []⟩,
  ⟨⟨(some (false, 66)), .ld none (.l 65), none⟩, 7, false, []⟩,
  ⟨⟨(some (false, 67)), .mv (.g 1), none⟩, 8, false, []⟩,
  ⟨⟨(some (false, 68)), .mv (.g 14), none⟩, 9, false, []⟩,
  ⟨⟨(some (false, 69)), .ia 4 (.l 67) (.l 68), none⟩, 10, false, []⟩,
  ⟨⟨(some (false, 70)), .fa (.l 69) 0, none⟩, 11, false, []⟩,
  ⟨⟨(some (false, 71)), .ld none (.l 70), none⟩, 12, false, []⟩,
  ⟨⟨(some (false, 72)), .fa (.g 9) 0, none⟩, 13, false, []⟩,
  ⟨⟨(some (false, 73)), .ld none (.l 72), none⟩, 14, false, []⟩,
  ⟨⟨(some (false, 74)), .call (.c (.fn 40 [])) [.l 71, .l 73], none⟩, 15, false, []⟩,
  ⟨⟨(some (false, 75)), .call (.c (.fn 39 [])) [.l 66, .l 74], none⟩, 16, false, []⟩,
  ⟨⟨(some (false, 76)), .bin .mul (.l 64) (.l 75), none⟩, 17, false, []⟩,
  ⟨⟨(some (false, 77)), .bin .add (.l 59) (.l 76), none⟩, 18, false, []⟩,
  ⟨⟨(some (true, 13)), .mv (.l 77), none⟩, 19, false, []⟩]))
(.reg [
  ⟨(some (false, 57)), .mv (.g 14), none⟩,
  ⟨(some (false, 58)), .bin .add (.l 57) (.c (.lit (.int .i64 1))), none⟩,
  ⟨(some (true, 14)), .mv (.l 58), none⟩]))))))
(.seq
(.draw [
  ⟨⟨(some (false, 78)), .mv (.g 13), none⟩, 0, false, []⟩,
  ⟨⟨(some (false, 79)), .bin .mul (.l 78) (.c (.lit (.int .i64 1000000))), none⟩, 1, false, []⟩,
  ⟨⟨(some (false, 80)), .fa (.g 6) 0, none⟩, 2, false, []⟩,
  ⟨⟨(some (false, 81)), .ld none (.l 80), none⟩, 3, false, []⟩,
  ⟨⟨(some (false, 82)), .mv (.g 10), none⟩, 4, false, []⟩,
  ⟨⟨(some (false, 83)), .bin .mul (.l 81) (.l 82), none⟩, 5, false, []⟩,
  ⟨⟨(some (false, 84)), .mv (.g 10), none⟩, 6, false, []⟩,
  ⟨⟨(some (false, 85)), .bin .mul (.l 83) (.l 84), none⟩, 7, false, []⟩,
  ⟨⟨(some (false, 86)), .fa (.g 4) 3, none⟩, 8, false, []⟩,
  ⟨⟨(some (false, 87)), .ld none (.l 86), none⟩, 9, false, []⟩,
  ⟨⟨(some (false, 88)), .fa (.g 9) 3, none⟩, 10, false, []⟩,
  ⟨⟨(some (false, 89)), .ld none (.l 88), none⟩, 11, false, []⟩,
  ⟨⟨(some (false, 90)), .call (.c (.fn 39 [])) [.l 87, .l 89], none⟩, 12, false, []⟩,
  ⟨⟨(some (false, 91)), .bin .mul (.l 85) (.l 90), none⟩, 13, false, []⟩,
  ⟨⟨(some (false, 92)), .bin .leq (.l 79) (.l 91), none⟩, 14, false, []⟩,
  ⟨⟨(some (true, 8)), .mv (.l 92), none⟩, 15, false, []⟩])
.ret)))))))))
def K32 : List Nat := [0, 1, 2, 3, 30, 47, 56, 8, 4, 6, 9, 10, 11, 12, 13, 14]
noncomputable def b32 : Code := match Try.f32.body with | some c => c | none => .skip
theorem t32 : trCode ⟨Try.prog, K32, [], 93, none⟩ b32 = some c32 := by kernel_rfl
theorem go32 {args : List AV} {H : AHeap} {Kk : AV → AHeap → Prop} (hn : args.length = 4) (h : AGo ⟨Try.prog, K32, [], 93, none⟩ H.length [.code c32] (RetP [.t (.g 8)] H.length Kk) ⟨[], argsG 0 args⟩ H) : ACalls Try.prog 32 args H Kk :=
  ACalls_of Try.func32 (c := b32) rfl (by kernel_rfl) t32 (rs := [.t (.g 8)]) (by kernel_rfl) (by rw [hn]; exact Nat.le_of_ble_eq_true rfl) (by rw [hn]; rfl) (h.weaken (fun _ _ => RetP.hands) (by simp))

/-- sastrugi/sastrugilaw03.end -/
def c33 : ACode :=
  (.seq
(.reg [
  ⟨(some (true, 4)), .mv (.c (.lit (.slice none 0 0))), none⟩])
(.seq
(.reg [
  ⟨(some (true, 5)), .mv (.c (.lit (.slice none 0 0))), none⟩])
(.seq
(.seq
(.reg [
  ⟨(some (true, 6)), .mv (.c (.lit (.int .i64 0))), none⟩])
(.block 0
(.loop
(.seq
(.seq
(.reg [
  ⟨(some (false, 7)), .mv (.g 6), none⟩,
  ⟨(some (false, 8)), .mv (.g 0), none⟩,
  ⟨(some (false, 9)), .len (.l 8), none⟩,
  ⟨(some (true, 10)), .bin .lss (.l 7) (.l 9), none⟩])
(.cond (.g 10)
.skip
(.exit 0)))
(.seq
(.block 1
(.seq
(.reg [
  ⟨(some (true, 13)), .mv (.g 1), none⟩])
(.cond (.g 13)
(.reg [
  ⟨(some (false, 14)), .mv (.g 5), none⟩,
  ⟨(some (false, 15)), .mv (.g 0), none⟩,
  ⟨(some (false, 16)), .mv (.g 6), none⟩,
  ⟨(some (false, 17)), .ia 2 (.l 15) (.l 16), none⟩,
  ⟨(some (false, 18)), .fa (.l 17) 1, none⟩,
  ⟨(some (false, 19)), .ld none (.l 18), none⟩,
  ⟨(some (false, 20)), .mks false 1 [.l 19], none⟩,
  ⟨(some (false, 21)), .app 1 8 (.l 14) (.l 20), none⟩,
  ⟨(some (true, 5)), .mv (.l 21), none⟩])
(.reg [
  ⟨(some (false, 22)), .mv (.g 5), none⟩,
  ⟨(some (false, 23)), .mv (.g 0), none⟩,
  ⟨(some (false, 24)), .mv (.g 6), none⟩,
  ⟨(some (false, 25)), .ia 2 (.l 23) (.l 24), none⟩,
  ⟨(some (false, 26)), .fa (.l 25) 0, none⟩,
  ⟨(some (false, 27)), .ld none (.l 26), none⟩,
  ⟨(some (false, 28)), .mks false 1 [.l 27], none⟩,
  ⟨(some (false, 29)), .app 1 8 (.l 22) (.l 28), none⟩,
  ⟨(some (true, 5)), .mv (.l 29), none⟩]))))
(.reg [
  ⟨(some (false, 11)), .mv (.g 6), none⟩,
  ⟨(some (false, 12)), .bin .add (.l 11) (.c (.lit (.int .i64 1))), none⟩,
  ⟨(some (true, 6)), .mv (.l 12), none⟩]))))))
(.seq
(.reg [
  ⟨(some (false, 30)), .mv (.g 5), none⟩,
  ⟨(some (true, 4)), .mv (.l 30), none⟩])
.ret))))
def K33 : List Nat := [0, 1, 10, 13, 4, 5, 6]
noncomputable def b33 : Code := match Try.f33.body with | some c => c | none => .skip
theorem t33 : trCode ⟨Try.prog, K33, [], 31, none⟩ b33 = some c33 := by kernel_rfl
theorem go33 {args : List AV} {H : AHeap} {Kk : AV → AHeap → Prop} (hn : args.length = 2) (h : AGo ⟨Try.prog, K33, [], 31, none⟩ H.length [.code c33] (RetP [.t (.g 4)] H.length Kk) ⟨[], argsG 0 args⟩ H) : ACalls Try.prog 33 args H Kk :=
  ACalls_of Try.func33 (c := b33) rfl (by kernel_rfl) t33 (rs := [.t (.g 4)]) (by kernel_rfl) (by rw [hn]; exact Nat.le_of_ble_eq_true rfl) (by rw [hn]; rfl) (h.weaken (fun _ _ => RetP.hands) (by simp))

/-- sastrugi/sastrugilaw03.moved -/
def c34 : ACode :=
  (.seq
(.reg [
  ⟨(some (true, 6)), .mv (.c (.lit (.slice none 0 0))), none⟩])
(.seq
(.reg [
  ⟨(some (true, 7)), .mv (.c (.lit (.slice none 0 0))), none⟩])
(.seq
(.seq
(.reg [
  ⟨(some (true, 8)), .mv (.c (.lit (.int .i64 0))), none⟩])
(.block 0
(.loop
(.seq
(.seq
(.reg [
  ⟨(some (false, 10)), .mv (.g 8), none⟩,
  ⟨(some (false, 11)), .mv (.g 0), none⟩,
  ⟨(some (false, 12)), .len (.l 11), none⟩,
  ⟨(some (true, 13)), .bin .lss (.l 10) (.l 12), none⟩])
(.cond (.g 13)
.skip
(.exit 0)))
(.seq
(.block 1
(.seq
(.reg [
  ⟨(some (false, 16)), .mv (.g 0), none⟩,
  ⟨(some (false, 17)), .mv (.g 8), none⟩,
  ⟨(some (false, 18)), .ia 2 (.l 16) (.l 17), none⟩,
  ⟨(some (false, 19)), .ld (some 2) (.l 18), none⟩,
  ⟨(some (true, 9)), .new [.int .i64 0, .int .i64 0], none⟩,
  ⟨none, .st 2 (.g 9) (.l 19), none⟩])
(.block 2
(.seq
(.reg [
  ⟨(some (false, 26)), .mv (.g 2), none⟩,
  ⟨(some (true, 25)), .mv (.l 26), none⟩])
(.cond (.g 25)
(.reg [
  ⟨(some (false, 27)), .mv (.g 7), none⟩,
  ⟨(some (false, 28)), .mv (.g 1), none⟩,
  ⟨(some (false, 29)), .fa (.g 9) 0, none⟩,
  ⟨(some (false, 30)), .ld none (.l 29), none⟩,
  ⟨(some (false, 31)), .mx [.l 28, .l 30], none⟩,
  ⟨(some (false, 32)), .fa (.g 9) 1, none⟩,
  ⟨(some (false, 33)), .ld none (.l 32), none⟩,
  ⟨(some (false, 34)), .mn [.l 31, .l 33], none⟩,
  ⟨(some (false, 35)), .mks false 1 [.l 34], none⟩,
  ⟨(some (false, 36)), .app 1 8 (.l 27) (.l 35), none⟩,
  ⟨(some (true, 7)), .mv (.l 36), none⟩])
(.seq
(.draw [
  ⟨⟨(some (false, 38)), .mv (.g 1), none⟩, 0, false, []⟩,
  ⟨⟨(some (false, 39)), .fa (.g 9) 0, none⟩, 1, false, []⟩,
  ⟨⟨(some (false, 40)), .ld none (.l 39), none⟩, 2, false, []⟩,
  ⟨⟨(some (false, 42)), .mv (.g 1), none⟩, 4, false, []⟩,
  ⟨⟨(some (false, 43)), .fa (.g 9) 1, none⟩, 5, false, []⟩,
  ⟨⟨(some (false, 44)), .ld none (.l 43), none⟩, 6, false, []⟩,
  ⟨⟨(some (false, 41)), .call (.c (.fn 40 [])) [.l 38, .l 40], none⟩, 3, false, []⟩,
  ⟨⟨(some (false, 45)), .call (.c (.fn 40 [])) [.l 42, .l 44], none⟩, 7, false, []⟩,
  ⟨⟨(some (false, 46)), .bin .gtr (.l 41) (.l 45), none⟩, 8, false, []⟩,
  ⟨⟨(some (true, 37)), .mv (.l 46), none⟩, 9, false, []⟩])
(.cond (.g 37)
(.reg [
  ⟨(some (false, 47)), .mv (.g 7), none⟩,
  ⟨(some (false, 48)), .fa (.g 9) 0, none⟩,
  ⟨(some (false, 49)), .ld none (.l 48), none⟩,
  ⟨(some (false, 50)), .mks false 1 [.l 49], none⟩,
  ⟨(some (false, 51)), .app 1 8 (.l 47) (.l 50), none⟩,
  ⟨(some (true, 7)), .mv (.l 51), none⟩])
(.reg [
  ⟨(some (false, 20)), .mv (.g 7), none⟩,
  ⟨(some (false, 21)), .fa (.g 9) 1, none⟩,
  ⟨(some (false, 22)), .ld none (.l 21), none⟩,
  ⟨(some (false, 23)), .mks false 1 [.l 22], none⟩,
  ⟨(some (false, 24)), .app 1 8 (.l 20) (.l 23), none⟩,
  ⟨(some (true, 7)), .mv (.l 24), none⟩]))))))))
(.reg [
  ⟨(some (false, 14)), .mv (.g 8), none⟩,
  ⟨(some (false, 15)), .bin .add (.l 14) (.c (.lit (.int .i64 1))), none⟩,
  ⟨(some (true, 8)), .mv (.l 15), none⟩]))))))
(.seq
(.reg [
  ⟨(some (false, 52)), .mv (.g 7), none⟩,
  ⟨(some (true, 6)), .mv (.l 52), none⟩])
.ret))))
def K34 : List Nat := [0, 1, 2, 13, 25, 37, 6, 7, 8, 9]
noncomputable def b34 : Code := match Try.f34.body with | some c => c | none => .skip
theorem t34 : trCode ⟨Try.prog, K34, [], 53, none⟩ b34 = some c34 := by kernel_rfl
theorem go34 {args : List AV} {H : AHeap} {Kk : AV → AHeap → Prop} (hn : args.length = 3) (h : AGo ⟨Try.prog, K34, [], 53, none⟩ H.length [.code c34] (RetP [.t (.g 6)] H.length Kk) ⟨[], argsG 0 args⟩ H) : ACalls Try.prog 34 args H Kk :=
  ACalls_of Try.func34 (c := b34) rfl (by kernel_rfl) t34 (rs := [.t (.g 6)]) (by kernel_rfl) (by rw [hn]; exact Nat.le_of_ble_eq_true rfl) (by rw [hn]; rfl) (h.weaken (fun _ _ => RetP.hands) (by simp))

/-- sastrugi/sastrugilaw03.table -/
def c39 : ACode :=
  (.seq
(.reg [
  ⟨(some (true, 4)), .mv (.c (.lit (.int .i64 0))), none⟩])
(.seq
(.reg [
  ⟨(some (true, 5)), .mv (.c (.lit (.int .i64 0))), none⟩])
(.seq
(.seq
(.reg [
  ⟨(some (true, 6)), .mv (.c (.lit (.int .i64 0))), none⟩])
(.block 0
(.loop
(.seq
(.seq
(.reg [
  ⟨(some (false, 7)), .mv (.g 6), none⟩,
  ⟨(some (false, 8)), .mv (.g 0), none⟩,
  ⟨(some (false, 9)), .len (.l 8), none⟩,
  ⟨(some (true, 10)), .bin .lss (.l 7) (.l 9), none⟩])
(.cond (.g 10)
.skip
(.exit 0)))
(.seq
(.block 1
(.seq
(.reg [
  ⟨(some (false, 13)), .mv (.g 0), none⟩,
  ⟨(some (false, 14)), .mv (.g 6), none⟩,
  ⟨(some (false, 15)), .ia 2 (.l 13) (.l 14), none⟩,
  ⟨(some (false, 16)), .fa (.l 15) 0, none⟩,
  ⟨(some (false, 17)), .ld none (.l 16), none⟩,
  ⟨(some (false, 18)), .mv (.g 1), none⟩,
  ⟨(some (true, 19)), .bin .leq (.l 17) (.l 18), none⟩])
(.cond (.g 19)
(.reg [
  ⟨(some (false, 20)), .mv (.g 0), none⟩,
  ⟨(some (false, 21)), .mv (.g 6), none⟩,
  ⟨(some (false, 22)), .ia 2 (.l 20) (.l 21), none⟩,
  ⟨(some (false, 23)), .fa (.l 22) 1, none⟩,
  ⟨(some (false, 24)), .ld none (.l 23), none⟩,
  ⟨(some (true, 5)), .mv (.l 24), none⟩])
.skip)))
(.reg [
  ⟨(some (false, 11)), .mv (.g 6), none⟩,
  ⟨(some (false, 12)), .bin .add (.l 11) (.c (.lit (.int .i64 1))), none⟩,
  ⟨(some (true, 6)), .mv (.l 12), none⟩]))))))
(.seq
(.reg [
  ⟨(some (false, 25)), .mv (.g 5), none⟩,
  ⟨(some (true, 4)), .mv (.l 25), none⟩])
.ret))))
def K39 : List Nat := [0, 1, 10, 19, 4, 5, 6]
noncomputable def b39 : Code := match Try.f39.body with | some c => c | none => .skip
theorem t39 : trCode ⟨Try.prog, K39, [], 26, none⟩ b39 = some c39 := by kernel_rfl
theorem go39 {args : List AV} {H : AHeap} {Kk : AV → AHeap → Prop} (hn : args.length = 2) (h : AGo ⟨Try.prog, K39, [], 26, none⟩ H.length [.code c39] (RetP [.t (.g 4)] H.length Kk) ⟨[], argsG 0 args⟩ H) : ACalls Try.prog 39 args H Kk :=
  ACalls_of Try.func39 (c := b39) rfl (by kernel_rfl) t39 (rs := [.t (.g 4)]) (by kernel_rfl) (by rw [hn]; exact Nat.le_of_ble_eq_true rfl) (by rw [hn]; rfl) (h.weaken (fun _ _ => RetP.hands) (by simp))

/-- sastrugi/sastrugilaw03.far -/
def c40 : ACode :=
  (.seq
(.reg [
  ⟨(some (true, 4)), .mv (.c (.lit (.int .i64 0))), none⟩])
(.seq
(.reg [
  ⟨(some (false, 5)), .mv (.g 0), none⟩,
  ⟨(some (false, 6)), .mv (.g 1), none⟩,
  ⟨(some (false, 7)), .bin .sub (.l 5) (.l 6), none⟩,
  ⟨(some (false, 8)), .mv (.g 1), none⟩,
  ⟨(some (false, 9)), .mv (.g 0), none⟩,
  ⟨(some (false, 10)), .bin .sub (.l 8) (.l 9), none⟩,
  ⟨(some (false, 11)), .mx [.l 7, .l 10], none⟩,
  ⟨(some (true, 4)), .mv (.l 11), none⟩])
.ret))
def K40 : List Nat := [0, 1, 4]
noncomputable def b40 : Code := match Try.f40.body with | some c => c | none => .skip
theorem t40 : trCode ⟨Try.prog, K40, [], 12, none⟩ b40 = some c40 := by kernel_rfl
theorem go40 {args : List AV} {H : AHeap} {Kk : AV → AHeap → Prop} (hn : args.length = 2) (h : AGo ⟨Try.prog, K40, [], 12, none⟩ H.length [.code c40] (RetP [.t (.g 4)] H.length Kk) ⟨[], argsG 0 args⟩ H) : ACalls Try.prog 40 args H Kk :=
  ACalls_of Try.func40 (c := b40) rfl (by kernel_rfl) t40 (rs := [.t (.g 4)]) (by kernel_rfl) (by rw [hn]; exact Nat.le_of_ble_eq_true rfl) (by rw [hn]; rfl) (h.weaken (fun _ _ => RetP.hands) (by simp))

/-- sastrugi/sastrugilaw03.sure -/
def c78 : ACode :=
  (.seq
(.reg [
  ⟨(some (true, 4)), .box (.g 0), none⟩,
  ⟨(some (true, 8)), .mv (.c (.lit (.bool false))), none⟩])
(.seq
(.reg [
  ⟨(some (false, 15)), .mv (.g 2), none⟩,
  ⟨(some (false, 16)), .mv (.g 3), none⟩,
  ⟨(some (false, 17)), .call (.c (.fn 128 [])) [.l 15, .l 16], none⟩,
  ⟨(some (true, 9)), .mv (.l 17), none⟩])
(.seq
(.reg [
  ⟨(some (true, 10)), .mv (.c (.lit (.slice none 0 0))), none⟩])
(.seq
(.seq
(.reg [
  ⟨(some (true, 11)), .mv (.c (.lit (.int .i64 0))), none⟩])
(.block 0
(.loop
(.seq
(.seq
(.reg [
  ⟨(some (false, 18)), .mv (.g 11), none⟩,
  ⟨(some (false, 19)), .mv (.g 3), none⟩,
  ⟨(some (false, 20)), .mv (.g 2), none⟩,
  ⟨(some (false, 21)), .len (.l 20), none⟩,
  ⟨(some (false, 22)), .bin .mul (.l 19) (.l 21), none⟩,
  ⟨(some (false, 23)), .bin .quo (.l 22) (.c (.lit (.int .i64 100))), none⟩,
  ⟨(some (true, 24)), .bin .leq (.l 18) (.l 23), none⟩])
(.cond (.g 24)
.skip
(.exit 0)))
(.seq
(.block 1
(.reg [
  ⟨(some (false, 27)), .mv (.g 10), none⟩,
  ⟨(some (false, 28)), .mv (.g 1), none⟩,
  ⟨(some (false, 29)), .call (.c (.fn 61 [])) [.l 28], none⟩,
  ⟨(some (false, 30)), .mks false 2 [.l 29], none⟩,
  ⟨(some (false, 31)), .app 2 16 (.l 27) (.l 30), none⟩,
  ⟨(some (true, 10)), .mv (.l 31), none⟩]))
(.reg [
  ⟨(some (false, 25)), .mv (.g 11), none⟩,
  ⟨(some (false, 26)), .bin .add (.l 25) (.c (.lit (.int .i64 1))), none⟩,
  ⟨(some (true, 11)), .mv (.l 26), none⟩]))))))
(.seq
(.reg [
  ⟨(some (false, 33)), .ld (some 11) (.g 4), none⟩,
  ⟨(some (false, 34)), .mv (.g 10), none⟩,
  ⟨(some (false, 35)), .mv (.g 9), none⟩,
  ⟨(some (false, 36)), .call (.c (.fn 25 [])) [.l 33, .l 34, .c (.lit (.slice none 0 0)), .l 35], none⟩,
  ⟨(some (false, 32)), .mv (.l 36), none⟩,
  ⟨(some (false, 37)), .ex (.l 32) 0, none⟩,
  ⟨(some (false, 38)), .ex (.l 32) 1, none⟩,
  ⟨(some (true, 12)), .mv (.l 37), none⟩,
  ⟨(some (true, 13)), .mv (.l 38), none⟩])
(.seq
(.seq
(.reg [
  ⟨(some (false, 39)), .mv (.g 13), none⟩,
  ⟨(some (false, 40)), .bin .neq (.l 39) (.c (.lit (.int .i64 0))), none⟩,
  ⟨(some (false, 41)), .mv (.l 40), none⟩,
  ⟨(some (false, 42)), .mv (.g 12), (some (.l 41, false))⟩,
  ⟨(some (false, 43)), .len (.l 42), (some (.l 41, false))⟩,
  ⟨(some (false, 44)), .mv (.g 9), (some (.l 41, false))⟩,
  ⟨(some (false, 45)), .len (.l 44), (some (.l 41, false))⟩,
  ⟨(some (false, 46)), .bin .neq (.l 43) (.l 45), (some (.l 41, false))⟩,
  ⟨(some (true, 47)), .pick (.l 41) (.c (.lit (.bool true))) (.l 46), none⟩])
(.cond (.g 47)
(.seq
(.reg [
  ⟨(some (true, 8)), .mv (.c (.lit (.bool false))), none⟩])
.ret)
.skip))
(.seq
(.seq
(.reg [
  ⟨(some (true, 14)), .mv (.c (.lit (.int .i64 0))), none⟩])
(.block 2
(.loop
(.seq
(.seq
(.reg [
  ⟨(some (false, 48)), .mv (.g 14), none⟩,
  ⟨(some (false, 49)), .mv (.g 12), none⟩,
  ⟨(some (false, 50)), .len (.l 49), none⟩,
  ⟨(some (true, 51)), .bin .lss (.l 48) (.l 50), none⟩])
(.cond (.g 51)
.skip
(.exit 2)))
(.seq
(.block 3
(.seq
(.reg [
  ⟨(some (false, 54)), .mv (.g 12), none⟩,
  ⟨(some (false, 55)), .mv (.g 14), none⟩,
  ⟨(some (false, 56)), .ia 1 (.l 54) (.l 55), none⟩,
  ⟨(some (false, 57)), .ld none (.l 56), none⟩,
  ⟨(some (true, 58)), .bin .neq (.l 57) (.c (.lit (.int .i64 1))), none⟩])
(.cond (.g 58)
(.seq
(.reg [
  ⟨(some (true, 8)), .mv (.c (.lit (.bool false))), none⟩])
.ret)
.skip)))
(.reg [
  ⟨(some (false, 52)), .mv (.g 14), none⟩,
  ⟨(some (false, 53)), .bin .add (.l 52) (.c (.lit (.int .i64 1))), none⟩,
  ⟨(some (true, 14)), .mv (.l 53), none⟩]))))))
(.seq
(.reg [
  ⟨(some (true, 8)), .mv (.c (.lit (.bool true))), none⟩])
.ret))))))))
def K78 : List Nat := [0, 1, 2, 3, 24, 47, 51, 58, 8, 4, 9, 10, 11, 12, 13, 14]
noncomputable def b78 : Code := match Try.f78.body with | some c => c | none => .skip
theorem t78 : trCode ⟨Try.prog, K78, [], 59, none⟩ b78 = some c78 := by kernel_rfl
theorem go78 {args : List AV} {H : AHeap} {Kk : AV → AHeap → Prop} (hn : args.length = 4) (h : AGo ⟨Try.prog, K78, [], 59, none⟩ H.length [.code c78] (RetP [.t (.g 8)] H.length Kk) ⟨[], argsG 0 args⟩ H) : ACalls Try.prog 78 args H Kk :=
  ACalls_of Try.func78 (c := b78) rfl (by kernel_rfl) t78 (rs := [.t (.g 8)]) (by kernel_rfl) (by rw [hn]; exact Nat.le_of_ble_eq_true rfl) (by rw [hn]; rfl) (h.weaken (fun _ _ => RetP.hands) (by simp))

/-- sastrugi/sastrugilaw03.row -/
def c128 : ACode :=
  (.seq
(.reg [
  ⟨(some (true, 4)), .mv (.c (.lit (.slice none 0 0))), none⟩])
(.seq
(.reg [
  ⟨(some (true, 5)), .mv (.c (.lit (.slice none 0 0))), none⟩])
(.seq
(.seq
(.reg [
  ⟨(some (true, 6)), .mv (.c (.lit (.int .i64 0))), none⟩])
(.block 0
(.loop
(.seq
(.seq
(.reg [
  ⟨(some (false, 7)), .mv (.g 6), none⟩,
  ⟨(some (false, 8)), .mv (.g 0), none⟩,
  ⟨(some (false, 9)), .len (.l 8), none⟩,
  ⟨(some (true, 10)), .bin .lss (.l 7) (.l 9), none⟩])
(.cond (.g 10)
.skip
(.exit 0)))
(.seq
(.block 1
(.reg [
  ⟨(some (false, 13)), .mv (.g 5), none⟩,
  ⟨(some (false, 14)), .mv (.g 1), none⟩,
  ⟨(some (false, 15)), .mv (.g 6), none⟩,
  ⟨(some (false, 16)), .bin .mul (.l 14) (.l 15), none⟩,
  ⟨(some (false, 17)), .mv (.g 0), none⟩,
  ⟨(some (false, 18)), .mv (.g 6), none⟩,
  ⟨(some (false, 19)), .ia 2 (.l 17) (.l 18), none⟩,
  ⟨(some (false, 20)), .ld (some 2) (.l 19), none⟩,
  ⟨(some (false, 21)), .mk [.int .i64 0, .int .i64 0, .int .i64 0, .int .i64 0] [(0, 1, .l 16), (1, 2, .l 20)], none⟩,
  ⟨(some (false, 22)), .mks false 4 [.l 21], none⟩,
  ⟨(some (false, 23)), .app 4 32 (.l 13) (.l 22), none⟩,
  ⟨(some (true, 5)), .mv (.l 23), none⟩]))
(.reg [
  ⟨(some (false, 11)), .mv (.g 6), none⟩,
  ⟨(some (false, 12)), .bin .add (.l 11) (.c (.lit (.int .i64 1))), none⟩,
  ⟨(some (true, 6)), .mv (.l 12), none⟩]))))))
(.seq
(.reg [
  ⟨(some (false, 24)), .mv (.g 5), none⟩,
  ⟨(some (true, 4)), .mv (.l 24), none⟩])
.ret))))
def K128 : List Nat := [0, 1, 10, 4, 5, 6]
noncomputable def b128 : Code := match Try.f128.body with | some c => c | none => .skip
theorem t128 : trCode ⟨Try.prog, K128, [], 25, none⟩ b128 = some c128 := by kernel_rfl
theorem go128 {args : List AV} {H : AHeap} {Kk : AV → AHeap → Prop} (hn : args.length = 2) (h : AGo ⟨Try.prog, K128, [], 25, none⟩ H.length [.code c128] (RetP [.t (.g 4)] H.length Kk) ⟨[], argsG 0 args⟩ H) : ACalls Try.prog 128 args H Kk :=
  ACalls_of Try.func128 (c := b128) rfl (by kernel_rfl) t128 (rs := [.t (.g 4)]) (by kernel_rfl) (by rw [hn]; exact Nat.le_of_ble_eq_true rfl) (by rw [hn]; rfl) (h.weaken (fun _ _ => RetP.hands) (by simp))

end Go.Sas
