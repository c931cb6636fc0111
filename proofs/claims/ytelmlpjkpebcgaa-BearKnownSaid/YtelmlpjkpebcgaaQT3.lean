/-
The code of some functions with its types resolved, printed by a program; that it is the code is checked by the kernel.
Conditions: none.
-/
import Derived.Test.YtelmlpjkpebcgaaH4
import Derived.Test.YtelmlpjkpebcgaaProg
set_option linter.unusedVariables false
set_option linter.unusedSimpArgs false
namespace Go.Sas
open Go.Proofs
set_option maxRecDepth 100000
/-- sastrugi/sastrugilaw03.awake -/
def c19 : ACode :=
  (.seq
(.reg [
  ⟨(some (true, 0)), .mv (.c (.lit (.bool false))), none⟩])
(.seq
(.reg [
  ⟨(some (false, 8)), .call (.c (.fn 79 [])) [], none⟩,
  ⟨(some (false, 9)), .call (.c (.fn 54 [])) [.l 8, .c (.lit (.int .i64 500)), .c (.lit (.int .i64 60))], none⟩,
  ⟨(some (false, 7)), .mv (.l 9), none⟩,
  ⟨(some (false, 10)), .ex (.l 7) 0, none⟩,
  ⟨(some (false, 11)), .ex (.l 7) 1, none⟩,
  ⟨(some (true, 1)), .mv (.l 10), none⟩,
  ⟨(some (true, 2)), .mv (.l 11), none⟩])
(.seq
(.reg [
  ⟨(some (false, 13)), .call (.c (.fn 79 [])) [], none⟩,
  ⟨(some (false, 14)), .call (.c (.fn 61 [])) [.c (.lit (.int .i64 500))], none⟩,
  ⟨(some (false, 15)), .mks false 2 [.l 14], none⟩,
  ⟨(some (false, 16)), .call (.c (.fn 61 [])) [.c (.lit (.int .i64 8000))], none⟩,
  ⟨(some (false, 17)), .mks false 1 [.c (.lit (.int .i64 10)), .c (.lit (.int .i64 29))], none⟩,
  ⟨(some (false, 18)), .call (.c (.fn 44 [])) [.l 16, .l 17], none⟩,
  ⟨(some (false, 19)), .call (.c (.fn 25 [])) [.l 13, .l 15, .c (.lit (.slice none 0 0)), .l 18], none⟩,
  ⟨(some (false, 12)), .mv (.l 19), none⟩,
  ⟨(some (false, 20)), .ex (.l 12) 0, none⟩,
  ⟨(some (false, 21)), .ex (.l 12) 1, none⟩,
  ⟨(some (true, 3)), .mv (.l 20), none⟩,
  ⟨(some (true, 4)), .mv (.l 21), none⟩])
(.seq
(.reg [
  ⟨(some (false, 23)), .call (.c (.fn 79 [])) [], none⟩,
  ⟨(some (false, 24)), .call (.c (.fn 61 [])) [.c (.lit (.int .i64 50))], none⟩,
  ⟨(some (false, 25)), .call (.c (.fn 46 [])) [.l 23, .l 24, .c (.lit (.int .i64 100)), .c (.lit (.int .i64 70))], none⟩,
  ⟨(some (false, 22)), .mv (.l 25), none⟩,
  ⟨(some (false, 26)), .ex (.l 22) 0, none⟩,
  ⟨(some (false, 27)), .ex (.l 22) 1, none⟩,
  ⟨(some (true, 5)), .mv (.l 26), none⟩,
  ⟨(some (true, 6)), .mv (.l 27), none⟩])
(.seq
(.reg [
  ⟨(some (false, 28)), .mv (.g 2), none⟩,
  ⟨(some (false, 29)), .bin .eql (.l 28) (.c (.lit (.int .i64 0))), none⟩,
  ⟨(some (false, 30)), .mv (.l 29), none⟩,
  ⟨(some (false, 31)), .mv (.g 4), (some (.l 30, true))⟩,
  ⟨(some (false, 32)), .bin .eql (.l 31) (.c (.lit (.int .i64 0))), (some (.l 30, true))⟩,
  ⟨(some (false, 33)), .pick (.l 30) (.l 32) (.c (.lit (.bool false))), none⟩,
  ⟨(some (false, 34)), .mv (.l 33), none⟩,
  ⟨(some (false, 35)), .mv (.g 6), (some (.l 34, true))⟩,
  ⟨(some (false, 36)), .bin .eql (.l 35) (.c (.lit (.int .i64 0))), (some (.l 34, true))⟩,
  ⟨(some (false, 37)), .pick (.l 34) (.l 36) (.c (.lit (.bool false))), none⟩,
  ⟨(some (false, 38)), .mv (.l 37), none⟩,
  ⟨(some (false, 39)), .mv (.g 1), (some (.l 38, true))⟩,
  ⟨(some (false, 40)), .bin .eql (.l 39) (.c (.lit (.int .i64 6400))), (some (.l 38, true))⟩,
  ⟨(some (false, 41)), .pick (.l 38) (.l 40) (.c (.lit (.bool false))), none⟩,
  ⟨(some (false, 42)), .mv (.l 41), none⟩,
  ⟨(some (false, 43)), .mv (.g 3), (some (.l 42, true))⟩,
  ⟨(some (false, 44)), .mks false 1 [.c (.lit (.int .i64 2)), .c (.lit (.int .i64 2))], (some (.l 42, true))⟩,
  ⟨(some (false, 45)), .call (.c (.fn 27 [])) [.l 43, .l 44], (some (.l 42, true))⟩,
  ⟨(some (false, 46)), .pick (.l 42) (.l 45) (.c (.lit (.bool false))), none⟩,
  ⟨(some (false, 47)), .mv (.l 46), none⟩,
  ⟨(some (false, 48)), .mv (.g 5), (some (.l 47, true))⟩,
  ⟨(some (false, 49)), .bin .eql (.l 48) (.c (.lit (.int .i64 2))), (some (.l 47, true))⟩,
  ⟨(some (false, 50)), .pick (.l 47) (.l 49) (.c (.lit (.bool false))), none⟩,
  ⟨(some (true, 0)), .mv (.l 50), none⟩])
.ret)))))
def K19 : List Nat := [0, 1, 2, 3, 4, 5, 6]
noncomputable def b19 : Code := match Try.f19.body with | some c => c | none => .skip
theorem t19 : trCode ⟨Try.prog, K19, [], 51, none⟩ b19 = some c19 := by kernel_rfl
theorem go19 {args : List AV} {H : AHeap} {Kk : AV → AHeap → Prop} (hn : args.length = 0) (h : AGo ⟨Try.prog, K19, [], 51, none⟩ H.length [.code c19] (RetP [.t (.g 0)] H.length Kk) ⟨[], argsG 0 args⟩ H) : ACalls Try.prog 19 args H Kk :=
  ACalls_of Try.func19 (c := b19) rfl (by kernel_rfl) t19 (rs := [.t (.g 0)]) (by kernel_rfl) (by rw [hn]; exact Nat.le_of_ble_eq_true rfl) (by rw [hn]; rfl) (h.weaken (fun _ _ => RetP.hands) (by simp))

/-- sastrugi/sastrugilaw03.loads -/
def c44 : ACode :=
  (.seq
(.reg [
  ⟨(some (true, 2)), .box (.g 0), none⟩,
  ⟨(some (true, 4)), .mv (.c (.lit (.slice none 0 0))), none⟩])
(.seq
(.reg [
  ⟨(some (true, 5)), .mv (.c (.lit (.slice none 0 0))), none⟩])
(.seq
(.seq
(.reg [
  ⟨(some (true, 6)), .mv (.c (.lit (.int .i64 0))), none⟩])
(.block 0
(.loop
(.seq
(.seq
(.reg [
  ⟨(some (false, 7)), .mv (.g 6), none⟩,
  ⟨(some (false, 8)), .mv (.g 1), none⟩,
  ⟨(some (false, 9)), .len (.l 8), none⟩,
  ⟨(some (true, 10)), .bin .lss (.l 7) (.l 9), none⟩])
(.cond (.g 10)
.skip
(.exit 0)))
(.seq
(.block 1
(.draw [
  ⟨⟨(some (false, 13)), .mv (.g 5), none⟩, 0, true, []⟩,
  ⟨⟨(some (false, 14)), .mv (.g 1), none⟩, 1, true, []⟩,
  ⟨⟨(some (false, 15)), .mv (.g 6), none⟩, 2, true, []⟩,
  ⟨⟨(some (false, 16)), .ia 1 (.l 14) (.l 15), none⟩, 3, true, []⟩,
  ⟨⟨(some (false, 17)), .ld none (.l 16), none⟩, 4, true, []⟩,
  ⟨⟨(some (false, 18)), .ld (some 2) (.g 2), none⟩, 5, true, []⟩,
  ⟨⟨(some (false, 19)), .mk [.int .i64 0, .int .i64 0, .int .i64 0, .int .i64 0] [(0, 1, .l 17), (1, 2, .l 18)], none⟩, 6, true, []⟩,
  ⟨⟨(some (false, 20)), .mks false 4 [.l 19], none⟩, 7, true, []⟩,
  ⟨⟨(some (false, 21)), .app 4 32 (.l 13) (.l 20), none⟩, 8, false, []⟩,
  ⟨⟨(some (true, 5)), .mv (.l 21), none⟩, 9, true, []⟩]))
(.reg [
  ⟨(some (false, 11)), .mv (.g 6), none⟩,
  ⟨(some (false, 12)), .bin .add (.l 11) (.c (.lit (.int .i64 1))), none⟩,
  ⟨(some (true, 6)), .mv (.l 12), none⟩]))))))
(.seq
(.reg [
  ⟨(some (false, 22)), .mv (.g 5), none⟩,
  ⟨(some (true, 4)), .mv (.l 22), none⟩])
.ret))))
def K44 : List Nat := [0, 1, 10, 4, 2, 5, 6]
noncomputable def b44 : Code := match Try.f44.body with | some c => c | none => .skip
theorem t44 : trCode ⟨Try.prog, K44, [], 23, none⟩ b44 = some c44 := by kernel_rfl
theorem go44 {args : List AV} {H : AHeap} {Kk : AV → AHeap → Prop} (hn : args.length = 2) (h : AGo ⟨Try.prog, K44, [], 23, none⟩ H.length [.code c44] (RetP [.t (.g 4)] H.length Kk) ⟨[], argsG 0 args⟩ H) : ACalls Try.prog 44 args H Kk :=
  ACalls_of Try.func44 (c := b44) rfl (by kernel_rfl) t44 (rs := [.t (.g 4)]) (by kernel_rfl) (by rw [hn]; exact Nat.le_of_ble_eq_true rfl) (by rw [hn]; rfl) (h.weaken (fun _ _ => RetP.hands) (by simp))

/-- sastrugi/sastrugilaw03.span -/
def c51 : ACode :=
  (.seq
(.reg [
  ⟨(some (true, 4)), .new [.int .i64 0, .int .i64 0], none⟩])
(.seq
(.reg [
  ⟨(some (false, 5)), .mv (.g 0), none⟩,
  ⟨(some (false, 6)), .mv (.g 1), none⟩,
  ⟨(some (false, 7)), .mk [.int .i64 0, .int .i64 0] [(0, 1, .l 5), (1, 1, .l 6)], none⟩,
  ⟨none, .st 2 (.g 4) (.l 7), none⟩])
.ret))
def K51 : List Nat := [0, 1, 4]
noncomputable def b51 : Code := match Try.f51.body with | some c => c | none => .skip
theorem t51 : trCode ⟨Try.prog, K51, [], 8, none⟩ b51 = some c51 := by kernel_rfl
theorem go51 {args : List AV} {H : AHeap} {Kk : AV → AHeap → Prop} (hn : args.length = 2) (h : AGo ⟨Try.prog, K51, [], 8, none⟩ H.length [.code c51] (RetP [.cell (.g 4) (some 2)] H.length Kk) ⟨[], argsG 0 args⟩ H) : ACalls Try.prog 51 args H Kk :=
  ACalls_of Try.func51 (c := b51) rfl (by kernel_rfl) t51 (rs := [.cell (.g 4) (some 2)]) (by kernel_rfl) (by rw [hn]; exact Nat.le_of_ble_eq_true rfl) (by rw [hn]; rfl) (h.weaken (fun _ _ => RetP.hands) (by simp))

/-- sastrugi/sastrugilaw03.one -/
def c61 : ACode :=
  (.seq
(.reg [
  ⟨(some (true, 2)), .new [.int .i64 0, .int .i64 0], none⟩])
(.seq
(.reg [
  ⟨(some (false, 3)), .mv (.g 0), none⟩,
  ⟨(some (false, 4)), .mv (.g 0), none⟩,
  ⟨(some (false, 5)), .call (.c (.fn 51 [])) [.l 3, .l 4], none⟩,
  ⟨none, .st 2 (.g 2) (.l 5), none⟩])
.ret))
def K61 : List Nat := [0, 2]
noncomputable def b61 : Code := match Try.f61.body with | some c => c | none => .skip
theorem t61 : trCode ⟨Try.prog, K61, [], 6, none⟩ b61 = some c61 := by kernel_rfl
theorem go61 {args : List AV} {H : AHeap} {Kk : AV → AHeap → Prop} (hn : args.length = 1) (h : AGo ⟨Try.prog, K61, [], 6, none⟩ H.length [.code c61] (RetP [.cell (.g 2) (some 2)] H.length Kk) ⟨[], argsG 0 args⟩ H) : ACalls Try.prog 61 args H Kk :=
  ACalls_of Try.func61 (c := b61) rfl (by kernel_rfl) t61 (rs := [.cell (.g 2) (some 2)]) (by kernel_rfl) (by rw [hn]; exact Nat.le_of_ble_eq_true rfl) (by rw [hn]; rfl) (h.weaken (fun _ _ => RetP.hands) (by simp))

/-- sastrugi/sastrugilaw03.plate -/
def c79 : ACode :=
  (.seq
(.reg [
  ⟨(some (true, 0)), .new [.int .i64 0, .int .i64 0, .slice none 0 0, .slice none 0 0, .int .i64 0, .int .i64 0, .int .i64 0, .int .i64 0, .int .i64 0, .int .i64 0, .int .i64 0], none⟩])
(.seq
(.reg [
  ⟨(some (false, 1)), .call (.c (.fn 51 [])) [.c (.lit (.int .i64 40000)), .c (.lit (.int .i64 50000))], none⟩,
  ⟨(some (false, 2)), .mk [.int .i64 0, .int .i64 0] [(1, 1, .c (.lit (.int .i64 1000000)))], none⟩,
  ⟨(some (false, 3)), .mk [.int .i64 0, .int .i64 0] [(0, 1, .c (.lit (.int .i64 20))), (1, 1, .c (.lit (.int .i64 500000)))], none⟩,
  ⟨(some (false, 4)), .mk [.int .i64 0, .int .i64 0] [(0, 1, .c (.lit (.int .i64 100)))], none⟩,
  ⟨(some (false, 5)), .mks false 2 [.l 2, .l 3, .l 4], none⟩,
  ⟨(some (false, 6)), .mk [.int .i64 0, .int .i64 0] [(1, 1, .c (.lit (.int .i64 1000000)))], none⟩,
  ⟨(some (false, 7)), .mk [.int .i64 0, .int .i64 0] [(0, 1, .c (.lit (.int .i64 60))), (1, 1, .c (.lit (.int .i64 640000)))], none⟩,
  ⟨(some (false, 8)), .mk [.int .i64 0, .int .i64 0] [(0, 1, .c (.lit (.int .i64 600))), (1, 1, .c (.lit (.int .i64 250000)))], none⟩,
  ⟨(some (false, 9)), .mks false 2 [.l 6, .l 7, .l 8], none⟩,
  ⟨(some (false, 10)), .mk [.int .i64 0, .int .i64 0, .slice none 0 0, .slice none 0 0, .int .i64 0, .int .i64 0, .int .i64 0, .int .i64 0, .int .i64 0, .int .i64 0, .int .i64 0] [(0, 2, .l 1), (2, 1, .l 5), (3, 1, .l 9), (4, 1, .c (.lit (.int .i64 5))), (5, 1, .c (.lit (.int .i64 500000))), (6, 1, .c (.lit (.int .i64 98))), (7, 1, .c (.lit (.int .i64 640000))), (8, 1, .c (.lit (.int .i64 1440000))), (9, 1, .c (.lit (.int .i64 50))), (10, 1, .c (.lit (.int .i64 250000)))], none⟩,
  ⟨none, .st 11 (.g 0) (.l 10), none⟩])
.ret))
def K79 : List Nat := [0]
noncomputable def b79 : Code := match Try.f79.body with | some c => c | none => .skip
theorem t79 : trCode ⟨Try.prog, K79, [], 11, none⟩ b79 = some c79 := by kernel_rfl
theorem go79 {args : List AV} {H : AHeap} {Kk : AV → AHeap → Prop} (hn : args.length = 0) (h : AGo ⟨Try.prog, K79, [], 11, none⟩ H.length [.code c79] (RetP [.cell (.g 0) (some 11)] H.length Kk) ⟨[], argsG 0 args⟩ H) : ACalls Try.prog 79 args H Kk :=
  ACalls_of Try.func79 (c := b79) rfl (by kernel_rfl) t79 (rs := [.cell (.g 0) (some 11)]) (by kernel_rfl) (by rw [hn]; exact Nat.le_of_ble_eq_true rfl) (by rw [hn]; rfl) (h.weaken (fun _ _ => RetP.hands) (by simp))

end Go.Sas
