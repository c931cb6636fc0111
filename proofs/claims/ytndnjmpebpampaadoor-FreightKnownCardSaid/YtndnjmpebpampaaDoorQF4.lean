/-
The code of some functions with its types resolved, printed by a program; that it is the code is checked by the kernel.
Conditions: none.
-/
import Derived.Test.YtndnjmpebpampaaDoorP4f
import Derived.Test.YtndnjmpebpampaaDoorProg
set_option linter.unusedVariables false
set_option linter.unusedSimpArgs false
namespace Go.Sas
open Go.Proofs
set_option maxRecDepth 100000
/-- slices.Min[[]int,int] -/
def c39 : ACode :=
  (.seq
(.reg [
  ⟨(some (true, 2)), .mv (.c (.lit (.int .i64 0))), none⟩])
(.seq
(.seq
(.reg [
  ⟨(some (false, 5)), .mv (.g 0), none⟩,
  ⟨(some (false, 6)), .len (.l 5), none⟩,
  ⟨(some (true, 7)), .bin .lss (.l 6) (.c (.lit (.int .i64 1))), none⟩])
(.cond (.g 7)
(.other .skip)
.skip))
(.seq
(.reg [
  ⟨(some (false, 9)), .mv (.g 0), none⟩,
  ⟨(some (false, 10)), .ia 1 (.l 9) (.c (.lit (.int .i64 0))), none⟩,
  ⟨(some (false, 11)), .ld none (.l 10), none⟩,
  ⟨(some (true, 3)), .mv (.l 11), none⟩])
(.seq
(.seq
(.reg [
  ⟨(some (true, 4)), .mv (.c (.lit (.int .i64 1))), none⟩])
(.block 0
(.loop
(.seq
(.seq
(.reg [
  ⟨(some (false, 12)), .mv (.g 4), none⟩,
  ⟨(some (false, 13)), .mv (.g 0), none⟩,
  ⟨(some (false, 14)), .len (.l 13), none⟩,
  ⟨(some (true, 15)), .bin .lss (.l 12) (.l 14), none⟩])
(.cond (.g 15)
.skip
(.exit 0)))
(.seq
(.block 1
(.reg [
  ⟨(some (false, 18)), .mv (.g 3), none⟩,
  ⟨(some (false, 19)), .mv (.g 0), none⟩,
  ⟨(some (false, 20)), .mv (.g 4), none⟩,
  ⟨(some (false, 21)), .ia 1 (.l 19) (.l 20), none⟩,
  ⟨(some (false, 22)), .ld none (.l 21), none⟩,
  ⟨(some (false, 23)), .mn [.l 18, .l 22], none⟩,
  ⟨(some (true, 3)), .mv (.l 23), none⟩]))
(.reg [
  ⟨(some (false, 16)), .mv (.g 4), none⟩,
  ⟨(some (false, 17)), .bin .add (.l 16) (.c (.lit (.int .i64 1))), none⟩,
  ⟨(some (true, 4)), .mv (.l 17), none⟩]))))))
(.seq
(.reg [
  ⟨(some (false, 24)), .mv (.g 3), none⟩,
  ⟨(some (true, 2)), .mv (.l 24), none⟩])
.ret)))))
def K39 : List Nat := [0, 7, 15, 2, 3, 4]
noncomputable def b39 : Code := match Tryd.f39.body with | some c => c | none => .skip
theorem t39 : trCode ⟨Tryd.prog, K39, [], 25, none⟩ b39 = some c39 := by kernel_rfl
theorem go39 {args : List AV} {H : AHeap} {Kk : AV → AHeap → Prop} (hn : args.length = 1) (h : AGo ⟨Tryd.prog, K39, [], 25, none⟩ H.length [.code c39] (RetP [.t (.g 2)] H.length Kk) ⟨[], argsG 0 args⟩ H) : ACalls Tryd.prog 39 args H Kk :=
  ACalls_of Tryd.func39 (c := b39) rfl (by kernel_rfl) t39 (rs := [.t (.g 2)]) (by kernel_rfl) (by rw [hn]; exact Nat.le_of_ble_eq_true rfl) (by rw [hn]; rfl) (h.weaken (fun _ _ => RetP.hands) (by simp))

/-- sastrugi/freight.Share -/
def c31 : ACode :=
  (.seq
(.reg [
  ⟨(some (true, 4)), .mv (.c (.lit (.slice none 0 0))), none⟩,
  ⟨(some (true, 5)), .mv (.c (.lit (.int .i64 0))), none⟩])
(.seq
(.block 0
(.seq
(.reg [
  ⟨(some (false, 7)), .mv (.g 0), none⟩,
  ⟨(some (false, 8)), .call (.c (.fn 21 [])) [.l 7, .c (.lit (.int .i64 0)), .c (.lit (.int .i64 1000000000000))], none⟩,
  ⟨(some (false, 9)), .un .not (.l 8), none⟩,
  ⟨(some (true, 6)), .mv (.l 9), none⟩])
(.cond (.g 6)
(.seq
(.reg [
  ⟨(some (true, 4)), .mv (.c (.lit (.slice none 0 0))), none⟩,
  ⟨(some (true, 5)), .mv (.c (.lit (.int .i64 2))), none⟩])
.ret)
(.seq
(.reg [
  ⟨(some (false, 11)), .mv (.g 1), none⟩,
  ⟨(some (false, 12)), .len (.l 11), none⟩,
  ⟨(some (false, 13)), .bin .eql (.l 12) (.c (.lit (.int .i64 0))), none⟩,
  ⟨(some (true, 10)), .mv (.l 13), none⟩])
(.cond (.g 10)
(.seq
(.reg [
  ⟨(some (true, 4)), .mv (.c (.lit (.slice none 0 0))), none⟩,
  ⟨(some (true, 5)), .mv (.c (.lit (.int .i64 6))), none⟩])
.ret)
(.seq
(.reg [
  ⟨(some (false, 15)), .mv (.g 1), none⟩,
  ⟨(some (false, 16)), .len (.l 15), none⟩,
  ⟨(some (false, 17)), .bin .gtr (.l 16) (.c (.lit (.int .i64 40))), none⟩,
  ⟨(some (true, 14)), .mv (.l 17), none⟩])
(.cond (.g 14)
(.seq
(.reg [
  ⟨(some (true, 4)), .mv (.c (.lit (.slice none 0 0))), none⟩,
  ⟨(some (true, 5)), .mv (.c (.lit (.int .i64 8))), none⟩])
.ret)
(.seq
(.reg [
  ⟨(some (false, 19)), .mv (.g 1), none⟩,
  ⟨(some (false, 20)), .call (.c (.fn 43 [])) [.l 19, .c (.fn 44 [])], none⟩,
  ⟨(some (true, 18)), .mv (.l 20), none⟩])
(.cond (.g 18)
(.seq
(.reg [
  ⟨(some (true, 4)), .mv (.c (.lit (.slice none 0 0))), none⟩,
  ⟨(some (true, 5)), .mv (.c (.lit (.int .i64 2))), none⟩])
.ret)
.skip)))))))))
(.seq
(.reg [
  ⟨(some (false, 21)), .mv (.g 0), none⟩,
  ⟨(some (false, 22)), .mv (.g 1), none⟩,
  ⟨(some (false, 23)), .call (.c (.fn 45 [])) [.l 21, .l 22], none⟩,
  ⟨(some (true, 4)), .mv (.l 23), none⟩,
  ⟨(some (true, 5)), .mv (.c (.lit (.int .i64 0))), none⟩])
.ret)))
def K31 : List Nat := [0, 1, 6, 10, 14, 18, 4, 5]
noncomputable def b31 : Code := match Tryd.f31.body with | some c => c | none => .skip
theorem t31 : trCode ⟨Tryd.prog, K31, [], 24, none⟩ b31 = some c31 := by kernel_rfl
theorem go31 {args : List AV} {H : AHeap} {Kk : AV → AHeap → Prop} (hn : args.length = 2) (h : AGo ⟨Tryd.prog, K31, [], 24, none⟩ H.length [.code c31] (RetP [.t (.g 4), .t (.g 5)] H.length Kk) ⟨[], argsG 0 args⟩ H) : ACalls Tryd.prog 31 args H Kk :=
  ACalls_of Tryd.func31 (c := b31) rfl (by kernel_rfl) t31 (rs := [.t (.g 4), .t (.g 5)]) (by kernel_rfl) (by rw [hn]; exact Nat.le_of_ble_eq_true rfl) (by rw [hn]; rfl) (h.weaken (fun _ _ => RetP.hands) (by simp))

/-- sastrugi/freight.Bills -/
def c32 : ACode :=
  (.seq
(.reg [
  ⟨(some (true, 5)), .box (.g 0), none⟩,
  ⟨(some (true, 6)), .box (.g 1), none⟩,
  ⟨(some (true, 10)), .mv (.c (.lit (.slice none 0 0))), none⟩,
  ⟨(some (true, 11)), .mv (.c (.lit (.int .i64 0))), none⟩])
(.seq
(.seq
(.reg [
  ⟨(some (false, 19)), .ld (some 6) (.g 5), none⟩,
  ⟨(some (false, 20)), .ld (some 3) (.g 6), none⟩,
  ⟨(some (false, 21)), .mv (.g 2), none⟩,
  ⟨(some (false, 22)), .call (.c (.fn 25 [])) [.l 19, .l 20, .l 21], none⟩,
  ⟨(some (true, 12)), .mv (.l 22), none⟩])
(.seq
(.reg [
  ⟨(some (false, 23)), .mv (.g 12), none⟩,
  ⟨(some (true, 24)), .bin .neq (.l 23) (.c (.lit (.int .i64 0))), none⟩])
(.cond (.g 24)
(.seq
(.reg [
  ⟨(some (false, 25)), .mv (.g 12), none⟩,
  ⟨(some (true, 10)), .mv (.c (.lit (.slice none 0 0))), none⟩,
  ⟨(some (true, 11)), .mv (.l 25), none⟩])
.ret)
.skip)))
(.seq
(.seq
(.reg [
  ⟨(some (false, 26)), .mv (.g 3), none⟩,
  ⟨(some (false, 27)), .call (.c (.fn 21 [])) [.l 26, .c (.lit (.int .i64 0)), .c (.lit (.int .i64 1000000))], none⟩,
  ⟨(some (false, 28)), .un .not (.l 27), none⟩,
  ⟨(some (false, 29)), .mv (.l 28), none⟩,
  ⟨(some (false, 30)), .mv (.g 4), (some (.l 29, false))⟩,
  ⟨(some (false, 31)), .call (.c (.fn 21 [])) [.l 30, .c (.lit (.int .i64 0)), .c (.lit (.int .i64 1000000000000))], (some (.l 29, false))⟩,
  ⟨(some (false, 32)), .un .not (.l 31), (some (.l 29, false))⟩,
  ⟨(some (true, 33)), .pick (.l 29) (.c (.lit (.bool true))) (.l 32), none⟩])
(.cond (.g 33)
(.seq
(.reg [
  ⟨(some (true, 10)), .mv (.c (.lit (.slice none 0 0))), none⟩,
  ⟨(some (true, 11)), .mv (.c (.lit (.int .i64 2))), none⟩])
.ret)
.skip))
(.seq
(.reg [
  ⟨(some (true, 13)), .mv (.c (.lit (.slice none 0 0))), none⟩])
(.seq
(.seq
(.reg [
  ⟨(some (true, 34)), .mv (.g 2), none⟩,
  ⟨(some (true, 35)), .len (.g 34), none⟩,
  ⟨(some (true, 36)), .mv (.c (.lit (.int .i64 0))), none⟩])
(.block 0
(.loop
(.seq
(.reg [
  ⟨(some (true, 37)), .bin .lss (.g 36) (.g 35), none⟩])
(.seq
(.cond (.g 37)
.skip
(.exit 0))
(.seq
(.block 1
(.seq
(.reg [
  ⟨(some (false, 38)), .ia 1 (.g 34) (.g 36), none⟩,
  ⟨(some (false, 39)), .ld none (.l 38), none⟩,
  ⟨(some (true, 15)), .mv (.l 39), none⟩])
(.reg [
  ⟨(some (false, 40)), .mv (.g 13), none⟩,
  ⟨(some (false, 41)), .mv (.g 15), none⟩,
  ⟨(some (false, 42)), .call (.c (.fn 42 [])) [.l 41], none⟩,
  ⟨(some (false, 43)), .mks false 1 [.l 42], none⟩,
  ⟨(some (false, 44)), .app 1 8 (.l 40) (.l 43), none⟩,
  ⟨(some (true, 13)), .mv (.l 44), none⟩])))
(.reg [
  ⟨(some (false, 45)), .bin .add (.g 36) (.c (.lit (.int .i64 1))), none⟩,
  ⟨(some (true, 36)), .mv (.l 45), none⟩])))))))
(.seq
(.reg [
  ⟨(some (false, 46)), .mv (.g 4), none⟩,
  ⟨(some (false, 47)), .mv (.g 13), none⟩,
  ⟨(some (false, 48)), .call (.c (.fn 45 [])) [.l 46, .l 47], none⟩,
  ⟨(some (true, 16)), .mv (.l 48), none⟩])
(.seq
(.seq
(.reg [
  ⟨(some (true, 49)), .mv (.g 13), none⟩,
  ⟨(some (true, 50)), .len (.g 49), none⟩,
  ⟨(some (true, 51)), .mv (.c (.lit (.int .i64 0))), none⟩])
(.block 2
(.loop
(.seq
(.reg [
  ⟨(some (true, 52)), .bin .lss (.g 51) (.g 50), none⟩])
(.seq
(.cond (.g 52)
.skip
(.exit 2))
(.seq
(.block 3
(.seq
(.reg [
  ⟨(some (false, 53)), .mv (.g 51), none⟩,
  ⟨(some (false, 54)), .ia 1 (.g 49) (.g 51), none⟩,
  ⟨(some (false, 55)), .ld none (.l 54), none⟩,
  ⟨(some (true, 17)), .mv (.l 53), none⟩,
  ⟨(some (true, 18)), .mv (.l 55), none⟩])
(.reg [
  ⟨(some (false, 56)), .mv (.g 16), none⟩,
  ⟨(some (false, 57)), .mv (.g 17), none⟩,
  ⟨(some (false, 58)), .ia 1 (.l 56) (.l 57), none⟩,
  ⟨(some (false, 59)), .ld none (.l 58), none⟩,
  ⟨(some (false, 60)), .mv (.g 3), none⟩,
  ⟨(some (false, 61)), .mv (.g 18), none⟩,
  ⟨(some (false, 62)), .bin .mul (.l 60) (.l 61), none⟩,
  ⟨(some (false, 63)), .bin .add (.l 59) (.l 62), none⟩,
  ⟨(some (false, 64)), .ia 1 (.l 56) (.l 57), none⟩,
  ⟨none, .st 1 (.l 64) (.l 63), none⟩])))
(.reg [
  ⟨(some (false, 65)), .bin .add (.g 51) (.c (.lit (.int .i64 1))), none⟩,
  ⟨(some (true, 51)), .mv (.l 65), none⟩])))))))
(.seq
(.reg [
  ⟨(some (false, 66)), .mv (.g 16), none⟩,
  ⟨(some (true, 10)), .mv (.l 66), none⟩,
  ⟨(some (true, 11)), .mv (.c (.lit (.int .i64 0))), none⟩])
.ret))))))))
def K32 : List Nat := [0, 1, 2, 3, 4, 24, 33, 37, 52, 10, 11, 5, 6, 12, 13, 34, 35, 36, 15, 16, 49, 50, 51, 17, 18]
noncomputable def b32 : Code := match Tryd.f32.body with | some c => c | none => .skip
theorem t32 : trCode ⟨Tryd.prog, K32, [], 67, none⟩ b32 = some c32 := by kernel_rfl
theorem go32 {args : List AV} {H : AHeap} {Kk : AV → AHeap → Prop} (hn : args.length = 5) (h : AGo ⟨Tryd.prog, K32, [], 67, none⟩ H.length [.code c32] (RetP [.t (.g 10), .t (.g 11)] H.length Kk) ⟨[], argsG 0 args⟩ H) : ACalls Tryd.prog 32 args H Kk :=
  ACalls_of Tryd.func32 (c := b32) rfl (by kernel_rfl) t32 (rs := [.t (.g 10), .t (.g 11)]) (by kernel_rfl) (by rw [hn]; exact Nat.le_of_ble_eq_true rfl) (by rw [hn]; rfl) (h.weaken (fun _ _ => RetP.hands) (by simp))

/-- slices.ContainsFunc[[]int,int] -/
def c43 : ACode :=
  (.seq
(.reg [
  ⟨(some (true, 4)), .mv (.c (.lit (.bool false))), none⟩])
(.seq
(.reg [
  ⟨(some (false, 5)), .mv (.g 0), none⟩,
  ⟨(some (false, 6)), .mv (.g 1), none⟩,
  ⟨(some (false, 7)), .call (.c (.fn 60 [])) [.l 5, .l 6], none⟩,
  ⟨(some (false, 8)), .bin .geq (.l 7) (.c (.lit (.int .i64 0))), none⟩,
  ⟨(some (true, 4)), .mv (.l 8), none⟩])
.ret))
def K43 : List Nat := [0, 1, 4]
noncomputable def b43 : Code := match Tryd.f43.body with | some c => c | none => .skip
theorem t43 : trCode ⟨Tryd.prog, K43, [], 9, none⟩ b43 = some c43 := by kernel_rfl
theorem go43 {args : List AV} {H : AHeap} {Kk : AV → AHeap → Prop} (hn : args.length = 2) (h : AGo ⟨Tryd.prog, K43, [], 9, none⟩ H.length [.code c43] (RetP [.t (.g 4)] H.length Kk) ⟨[], argsG 0 args⟩ H) : ACalls Tryd.prog 43 args H Kk :=
  ACalls_of Tryd.func43 (c := b43) rfl (by kernel_rfl) t43 (rs := [.t (.g 4)]) (by kernel_rfl) (by rw [hn]; exact Nat.le_of_ble_eq_true rfl) (by rw [hn]; rfl) (h.weaken (fun _ _ => RetP.hands) (by simp))

/-- sastrugi/freight.Share$1 -/
def c44 : ACode :=
  (.seq
(.reg [
  ⟨(some (true, 2)), .mv (.c (.lit (.bool false))), none⟩])
(.seq
(.reg [
  ⟨(some (false, 3)), .mv (.g 0), none⟩,
  ⟨(some (false, 4)), .call (.c (.fn 21 [])) [.l 3, .c (.lit (.int .i64 0)), .c (.lit (.int .i64 1000000))], none⟩,
  ⟨(some (false, 5)), .un .not (.l 4), none⟩,
  ⟨(some (true, 2)), .mv (.l 5), none⟩])
.ret))
def K44 : List Nat := [0, 2]
noncomputable def b44 : Code := match Tryd.f44.body with | some c => c | none => .skip
theorem t44 : trCode ⟨Tryd.prog, K44, [], 6, none⟩ b44 = some c44 := by kernel_rfl
theorem go44 {args : List AV} {H : AHeap} {Kk : AV → AHeap → Prop} (hn : args.length = 1) (h : AGo ⟨Tryd.prog, K44, [], 6, none⟩ H.length [.code c44] (RetP [.t (.g 2)] H.length Kk) ⟨[], argsG 0 args⟩ H) : ACalls Tryd.prog 44 args H Kk :=
  ACalls_of Tryd.func44 (c := b44) rfl (by kernel_rfl) t44 (rs := [.t (.g 2)]) (by kernel_rfl) (by rw [hn]; exact Nat.le_of_ble_eq_true rfl) (by rw [hn]; rfl) (h.weaken (fun _ _ => RetP.hands) (by simp))

/-- sastrugi/freight.share -/
def c45 : ACode :=
  (.seq
(.reg [
  ⟨(some (true, 4)), .mv (.c (.lit (.slice none 0 0))), none⟩])
(.seq
(.reg [
  ⟨(some (false, 13)), .mv (.g 1), none⟩,
  ⟨(some (false, 14)), .call (.c (.fn 42 [])) [.l 13], none⟩,
  ⟨(some (true, 5)), .mv (.l 14), none⟩])
(.seq
(.seq
(.reg [
  ⟨(some (false, 15)), .mv (.g 5), none⟩,
  ⟨(some (true, 16)), .bin .eql (.l 15) (.c (.lit (.int .i64 0))), none⟩])
(.cond (.g 16)
(.seq
(.reg [
  ⟨(some (false, 17)), .mks false 1 [.c (.lit (.int .i64 1))], none⟩,
  ⟨(some (false, 18)), .mv (.g 1), none⟩,
  ⟨(some (false, 19)), .len (.l 18), none⟩,
  ⟨(some (false, 20)), .call (.c (.fn 61 [])) [.l 17, .l 19], none⟩,
  ⟨(some (true, 1)), .mv (.l 20), none⟩])
(.reg [
  ⟨(some (false, 21)), .mv (.g 1), none⟩,
  ⟨(some (false, 22)), .len (.l 21), none⟩,
  ⟨(some (true, 5)), .mv (.l 22), none⟩]))
.skip))
(.seq
(.reg [
  ⟨(some (true, 6)), .mv (.c (.lit (.slice none 0 0))), none⟩,
  ⟨(some (true, 7)), .mv (.c (.lit (.slice none 0 0))), none⟩,
  ⟨(some (true, 8)), .new [.slice none 0 0], none⟩])
(.seq
(.seq
(.reg [
  ⟨(some (true, 23)), .mv (.g 1), none⟩,
  ⟨(some (true, 24)), .len (.g 23), none⟩,
  ⟨(some (true, 25)), .mv (.c (.lit (.int .i64 0))), none⟩])
(.block 0
(.loop
(.seq
(.reg [
  ⟨(some (true, 26)), .bin .lss (.g 25) (.g 24), none⟩])
(.seq
(.cond (.g 26)
.skip
(.exit 0))
(.seq
(.block 1
(.seq
(.reg [
  ⟨(some (false, 27)), .mv (.g 25), none⟩,
  ⟨(some (false, 28)), .ia 1 (.g 23) (.g 25), none⟩,
  ⟨(some (false, 29)), .ld none (.l 28), none⟩,
  ⟨(some (true, 9)), .mv (.l 27), none⟩,
  ⟨(some (true, 10)), .mv (.l 29), none⟩])
(.draw [
  ⟨⟨(some (false, 30)), .mv (.g 6), none⟩, 0, true, []⟩,
  ⟨⟨(some (false, 31)), .mv (.g 0), none⟩, 1, true, []⟩,
  ⟨⟨(some (false, 32)), .mv (.g 10), none⟩, 2, true, []⟩,
  ⟨⟨(some (false, 33)), .bin .mul (.l 31) (.l 32), none⟩, 3, true, []⟩,
  ⟨⟨(some (false, 34)), .mv (.g 5), none⟩, 4, true, []⟩,
  ⟨⟨(some (false, 35)), .bin .quo (.l 33) (.l 34), none⟩, 5, true, []⟩,
  ⟨⟨(some (false, 36)), .mks false 1 [.l 35], none⟩, 6, true, []⟩,
  ⟨⟨(some (false, 38)), .mv (.g 7), none⟩, 8, true, []⟩,
  ⟨⟨(some (false, 39)), .mv (.g 9), none⟩, 9, true, []⟩,
  ⟨⟨(some (false, 40)), .mks false 1 [.l 39], none⟩, 10, true, []⟩,
  ⟨⟨(some (false, 42)), .ld none (.g 8), none⟩, 12, true, []⟩,
  ⟨⟨(some (false, 43)), .mv (.g 0), none⟩, 13, true, []⟩,
  ⟨⟨(some (false, 44)), .mv (.g 10), none⟩, 14, true, []⟩,
  ⟨⟨(some (false, 45)), .bin .mul (.l 43) (.l 44), none⟩, 15, true, []⟩,
  ⟨⟨(some (false, 46)), .mv (.g 5), none⟩, 16, true, []⟩,
  ⟨⟨(some (false, 47)), .bin .rem (.l 45) (.l 46), none⟩, 17, true, []⟩,
  ⟨⟨(some (false, 48)), .mks false 1 [.l 47], none⟩, 18, true, []⟩,
  ⟨⟨(some (false, 37)), .app 1 8 (.l 30) (.l 36), none⟩, 7, false, []⟩,
  ⟨⟨(some (false, 41)), .app 1 8 (.l 38) (.l 40), none⟩, 11, false, []⟩,
  ⟨⟨(some (false, 49)), .app 1 8 (.l 42) (.l 48), none⟩, 19, false, []⟩,
  ⟨⟨(some (true, 6)), .mv (.l 37), none⟩, 20, true, []⟩,
  ⟨⟨(some (true, 7)), .mv (.l 41), none⟩, 21, true, []⟩,
  ⟨⟨none, .st 1 (.g 8) (.l 49), none⟩, 22, true, []⟩])))
(.reg [
  ⟨(some (false, 50)), .bin .add (.g 25) (.c (.lit (.int .i64 1))), none⟩,
  ⟨(some (true, 25)), .mv (.l 50), none⟩])))))))
(.seq
(.reg [
  ⟨(some (false, 51)), .mv (.g 7), none⟩,
  ⟨(some (false, 52)), .mkf 63 [.g 8], none⟩,
  ⟨(some (false, 53)), .call (.c (.fn 62 [])) [.l 51, .l 52], none⟩])
(.seq
(.seq
(.reg [
  ⟨(some (false, 54)), .mv (.g 7), none⟩,
  ⟨(some (false, 55)), .mv (.g 0), none⟩,
  ⟨(some (false, 56)), .mv (.g 6), none⟩,
  ⟨(some (false, 57)), .call (.c (.fn 42 [])) [.l 56], none⟩,
  ⟨(some (false, 58)), .bin .sub (.l 55) (.l 57), none⟩,
  ⟨(some (true, 59)), .sl 1 (.l 54) none (some (.l 58)) none, none⟩,
  ⟨(some (true, 60)), .len (.g 59), none⟩,
  ⟨(some (true, 61)), .mv (.c (.lit (.int .i64 0))), none⟩])
(.block 2
(.loop
(.seq
(.reg [
  ⟨(some (true, 62)), .bin .lss (.g 61) (.g 60), none⟩])
(.seq
(.cond (.g 62)
.skip
(.exit 2))
(.seq
(.block 3
(.seq
(.reg [
  ⟨(some (false, 63)), .ia 1 (.g 59) (.g 61), none⟩,
  ⟨(some (false, 64)), .ld none (.l 63), none⟩,
  ⟨(some (true, 12)), .mv (.l 64), none⟩])
(.reg [
  ⟨(some (false, 65)), .mv (.g 6), none⟩,
  ⟨(some (false, 66)), .mv (.g 12), none⟩,
  ⟨(some (false, 67)), .ia 1 (.l 65) (.l 66), none⟩,
  ⟨(some (false, 68)), .ld none (.l 67), none⟩,
  ⟨(some (false, 69)), .bin .add (.l 68) (.c (.lit (.int .i64 1))), none⟩,
  ⟨(some (false, 70)), .ia 1 (.l 65) (.l 66), none⟩,
  ⟨none, .st 1 (.l 70) (.l 69), none⟩])))
(.reg [
  ⟨(some (false, 71)), .bin .add (.g 61) (.c (.lit (.int .i64 1))), none⟩,
  ⟨(some (true, 61)), .mv (.l 71), none⟩])))))))
(.seq
(.reg [
  ⟨(some (false, 72)), .mv (.g 6), none⟩,
  ⟨(some (true, 4)), .mv (.l 72), none⟩])
.ret))))))))
def K45 : List Nat := [0, 1, 16, 26, 62, 4, 5, 6, 7, 8, 23, 24, 25, 9, 10, 59, 60, 61, 12]
noncomputable def b45 : Code := match Tryd.f45.body with | some c => c | none => .skip
theorem t45 : trCode ⟨Tryd.prog, K45, [], 73, none⟩ b45 = some c45 := by kernel_rfl
theorem go45 {args : List AV} {H : AHeap} {Kk : AV → AHeap → Prop} (hn : args.length = 2) (h : AGo ⟨Tryd.prog, K45, [], 73, none⟩ H.length [.code c45] (RetP [.t (.g 4)] H.length Kk) ⟨[], argsG 0 args⟩ H) : ACalls Tryd.prog 45 args H Kk :=
  ACalls_of Tryd.func45 (c := b45) rfl (by kernel_rfl) t45 (rs := [.t (.g 4)]) (by kernel_rfl) (by rw [hn]; exact Nat.le_of_ble_eq_true rfl) (by rw [hn]; rfl) (h.weaken (fun _ _ => RetP.hands) (by simp))

/-- slices.IndexFunc[[]int,int] -/
def c60 : ACode :=
  (.seq
(.reg [
  ⟨(some (true, 4)), .mv (.c (.lit (.int .i64 0))), none⟩])
(.seq
(.seq
(.reg [
  ⟨(some (false, 6)), .mv (.g 0), none⟩,
  ⟨(some (true, 7)), .len (.l 6), none⟩,
  ⟨(some (true, 8)), .mv (.c (.lit (.int .i64 0))), none⟩])
(.block 0
(.loop
(.seq
(.reg [
  ⟨(some (true, 9)), .bin .lss (.g 8) (.g 7), none⟩])
(.seq
(.cond (.g 9)
.skip
(.exit 0))
(.seq
(.block 1
(.seq
(.reg [
  ⟨(some (false, 10)), .mv (.g 8), none⟩,
  ⟨(some (true, 5)), .mv (.l 10), none⟩])
(.seq
(.reg [
  ⟨(some (false, 11)), .mv (.g 1), none⟩,
  ⟨(some (false, 12)), .mv (.g 0), none⟩,
  ⟨(some (false, 13)), .mv (.g 5), none⟩,
  ⟨(some (false, 14)), .ia 1 (.l 12) (.l 13), none⟩,
  ⟨(some (false, 15)), .ld none (.l 14), none⟩,
  ⟨(some (true, 16)), .call (.l 11) [.l 15], none⟩])
(.cond (.g 16)
(.seq
(.reg [
  ⟨(some (false, 17)), .mv (.g 5), none⟩,
  ⟨(some (true, 4)), .mv (.l 17), none⟩])
.ret)
.skip))))
(.reg [
  ⟨(some (false, 18)), .bin .add (.g 8) (.c (.lit (.int .i64 1))), none⟩,
  ⟨(some (true, 8)), .mv (.l 18), none⟩])))))))
(.seq
(.reg [
  ⟨(some (true, 4)), .mv (.c (.lit (.int .i64 (-1)))), none⟩])
.ret)))
def K60 : List Nat := [0, 1, 9, 16, 4, 7, 8, 5]
noncomputable def b60 : Code := match Tryd.f60.body with | some c => c | none => .skip
theorem t60 : trCode ⟨Tryd.prog, K60, [], 19, none⟩ b60 = some c60 := by kernel_rfl
theorem go60 {args : List AV} {H : AHeap} {Kk : AV → AHeap → Prop} (hn : args.length = 2) (h : AGo ⟨Tryd.prog, K60, [], 19, none⟩ H.length [.code c60] (RetP [.t (.g 4)] H.length Kk) ⟨[], argsG 0 args⟩ H) : ACalls Tryd.prog 60 args H Kk :=
  ACalls_of Tryd.func60 (c := b60) rfl (by kernel_rfl) t60 (rs := [.t (.g 4)]) (by kernel_rfl) (by rw [hn]; exact Nat.le_of_ble_eq_true rfl) (by rw [hn]; rfl) (h.weaken (fun _ _ => RetP.hands) (by simp))

/-- slices.Repeat[[]int,int] -/
def c61 : ACode :=
  (.seq
(.reg [
  ⟨(some (true, 4)), .mv (.c (.lit (.slice none 0 0))), none⟩])
(.seq
(.seq
(.reg [
  ⟨(some (false, 9)), .mv (.g 1), none⟩,
  ⟨(some (true, 10)), .bin .lss (.l 9) (.c (.lit (.int .i64 0))), none⟩])
(.cond (.g 10)
(.other .skip)
.skip))
(.seq
(.reg [
  ⟨(some (false, 13)), .mv (.g 0), none⟩,
  ⟨(some (false, 14)), .len (.l 13), none⟩,
  ⟨(some (false, 15)), .cv .u64 (.l 14), none⟩,
  ⟨(some (false, 16)), .mv (.g 1), none⟩,
  ⟨(some (false, 17)), .cv .u64 (.l 16), none⟩,
  ⟨(some (false, 18)), .call (.c (.fn 69 [])) [.l 15, .l 17], none⟩,
  ⟨(some (false, 12)), .mv (.l 18), none⟩,
  ⟨(some (false, 19)), .ex (.l 12) 0, none⟩,
  ⟨(some (false, 20)), .ex (.l 12) 1, none⟩,
  ⟨(some (true, 5)), .mv (.l 19), none⟩,
  ⟨(some (true, 6)), .mv (.l 20), none⟩])
(.seq
(.seq
(.reg [
  ⟨(some (false, 21)), .mv (.g 5), none⟩,
  ⟨(some (false, 22)), .bin .gtr (.l 21) (.c (.lit (.int .u64 0))), none⟩,
  ⟨(some (false, 23)), .mv (.l 22), none⟩,
  ⟨(some (false, 24)), .mv (.g 6), (some (.l 23, false))⟩,
  ⟨(some (false, 25)), .bin .gtr (.l 24) (.c (.lit (.int .u64 9223372036854775807))), (some (.l 23, false))⟩,
  ⟨(some (true, 26)), .pick (.l 23) (.c (.lit (.bool true))) (.l 25), none⟩])
(.cond (.g 26)
(.other .skip)
.skip))
(.seq
(.reg [
  ⟨(some (false, 28)), .mv (.g 6), none⟩,
  ⟨(some (false, 29)), .cv .i64 (.l 28), none⟩,
  ⟨(some (false, 30)), .mksl 1 8 [.int .i64 0] (.l 29) (.l 29), none⟩,
  ⟨(some (true, 7)), .mv (.l 30), none⟩])
(.seq
(.reg [
  ⟨(some (false, 31)), .mv (.g 7), none⟩,
  ⟨(some (false, 32)), .mv (.g 0), none⟩,
  ⟨(some (false, 33)), .cpy 1 (.l 31) (.l 32), none⟩,
  ⟨(some (true, 8)), .mv (.l 33), none⟩])
(.seq
(.block 0
(.loop
(.seq
(.seq
(.reg [
  ⟨(some (false, 34)), .mv (.g 8), none⟩,
  ⟨(some (false, 35)), .mv (.g 7), none⟩,
  ⟨(some (false, 36)), .len (.l 35), none⟩,
  ⟨(some (true, 37)), .bin .lss (.l 34) (.l 36), none⟩])
(.cond (.g 37)
.skip
(.exit 0)))
(.block 1
(.draw [
  ⟨⟨(some (false, 38)), .mv (.g 8), none⟩, 0, true, []⟩,
  ⟨⟨(some (false, 39)), .mv (.g 7), none⟩, 1, true, []⟩,
  ⟨⟨(some (false, 40)), .mv (.g 8), none⟩, 2, true, []⟩,
  ⟨⟨(some (false, 41)), .sl 1 (.l 39) (some (.l 40)) none none, none⟩, 3, true, []⟩,
  ⟨⟨(some (false, 42)), .mv (.g 7), none⟩, 4, true, []⟩,
  ⟨⟨(some (false, 43)), .mv (.g 8), none⟩, 5, true, []⟩,
  ⟨⟨(some (false, 44)), .sl 1 (.l 42) none (some (.l 43)) none, none⟩, 6, true, []⟩,
  ⟨⟨(some (false, 45)), .cpy 1 (.l 41) (.l 44), none⟩, 7, false, []⟩,
  ⟨⟨(some (false, 46)), .bin .add (.l 38) (.l 45), none⟩, 8, true, []⟩,
  ⟨⟨(some (true, 8)), .mv (.l 46), none⟩, 9, true, []⟩])))))
(.seq
(.reg [
  ⟨(some (false, 47)), .mv (.g 7), none⟩,
  ⟨(some (true, 4)), .mv (.l 47), none⟩])
.ret))))))))
def K61 : List Nat := [0, 1, 10, 26, 37, 4, 5, 6, 7, 8]
noncomputable def b61 : Code := match Tryd.f61.body with | some c => c | none => .skip
theorem t61 : trCode ⟨Tryd.prog, K61, [], 48, none⟩ b61 = some c61 := by kernel_rfl
theorem go61 {args : List AV} {H : AHeap} {Kk : AV → AHeap → Prop} (hn : args.length = 2) (h : AGo ⟨Tryd.prog, K61, [], 48, none⟩ H.length [.code c61] (RetP [.t (.g 4)] H.length Kk) ⟨[], argsG 0 args⟩ H) : ACalls Tryd.prog 61 args H Kk :=
  ACalls_of Tryd.func61 (c := b61) rfl (by kernel_rfl) t61 (rs := [.t (.g 4)]) (by kernel_rfl) (by rw [hn]; exact Nat.le_of_ble_eq_true rfl) (by rw [hn]; rfl) (h.weaken (fun _ _ => RetP.hands) (by simp))

/-- slices.SortStableFunc[[]int,int] -/
def c62 : ACode :=
  (.reg [
  ⟨(some (false, 4)), .mv (.g 0), none⟩,
  ⟨(some (false, 5)), .mv (.g 0), none⟩,
  ⟨(some (false, 6)), .len (.l 5), none⟩,
  ⟨(some (false, 7)), .mv (.g 1), none⟩,
  ⟨(some (false, 8)), .call (.c (.fn 70 [])) [.l 4, .l 6, .l 7], none⟩])
def K62 : List Nat := [0, 1]
noncomputable def b62 : Code := match Tryd.f62.body with | some c => c | none => .skip
theorem t62 : trCode ⟨Tryd.prog, K62, [], 9, none⟩ b62 = some c62 := by kernel_rfl
theorem go62 {args : List AV} {H : AHeap} {Kk : AV → AHeap → Prop} (hn : args.length = 2) (h : AGo ⟨Tryd.prog, K62, [], 9, none⟩ H.length [.code c62] (RetP [] H.length Kk) ⟨[], argsG 0 args⟩ H) : ACalls Tryd.prog 62 args H Kk :=
  ACalls_of Tryd.func62 (c := b62) rfl (by kernel_rfl) t62 (rs := []) (by kernel_rfl) (by rw [hn]; exact Nat.le_of_ble_eq_true rfl) (by rw [hn]; rfl) (h.weaken (fun _ _ => RetP.hands) (by simp))

/-- sastrugi/freight.share$1 -/
def c63 : ACode :=
  (.seq
(.reg [
  ⟨(some (true, 5)), .mv (.c (.lit (.int .i64 0))), none⟩])
(.seq
(.draw [
  ⟨⟨(some (false, 6)), .ld none (.g 2), none⟩, 0, true, []⟩,
  ⟨⟨(some (false, 7)), .mv (.g 1), none⟩, 1, true, []⟩,
  ⟨⟨(some (false, 8)), .ia 1 (.l 6) (.l 7), none⟩, 2, true, []⟩,
  ⟨⟨(some (false, 9)), .ld none (.l 8), none⟩, 3, true, []⟩,
  ⟨⟨(some (false, 10)), .ld none (.g 2), none⟩, 4, true, []⟩,
  ⟨⟨(some (false, 11)), .mv (.g 0), none⟩, 5, true, []⟩,
  ⟨⟨(some (false, 12)), .ia 1 (.l 10) (.l 11), none⟩, 6, true, []⟩,
  ⟨⟨(some (false, 13)), .ld none (.l 12), none⟩, 7, true, []⟩,
  ⟨⟨(some (false, 14)), .call (.c (.fn 58 [])) [.l 9, .l 13], none⟩, 8, false, []⟩,
  ⟨⟨(some (true, 5)), .mv (.l 14), none⟩, 9, true, []⟩])
.ret))
def K63 : List Nat := [0, 1, 2, 5]
noncomputable def b63 : Code := match Tryd.f63.body with | some c => c | none => .skip
theorem t63 : trCode ⟨Tryd.prog, K63, [], 15, none⟩ b63 = some c63 := by kernel_rfl
theorem go63 {args : List AV} {H : AHeap} {Kk : AV → AHeap → Prop} (hn : args.length = 3) (h : AGo ⟨Tryd.prog, K63, [], 15, none⟩ H.length [.code c63] (RetP [.t (.g 5)] H.length Kk) ⟨[], argsG 0 args⟩ H) : ACalls Tryd.prog 63 args H Kk :=
  ACalls_of Tryd.func63 (c := b63) rfl (by kernel_rfl) t63 (rs := [.t (.g 5)]) (by kernel_rfl) (by rw [hn]; exact Nat.le_of_ble_eq_true rfl) (by rw [hn]; rfl) (h.weaken (fun _ _ => RetP.hands) (by simp))

/-- slices.stableCmpFunc[int] -/
def c70 : ACode :=
  (.seq
(.reg [
  ⟨(some (true, 6)), .mv (.c (.lit (.int .i64 20))), none⟩])
(.seq
(.reg [
  ⟨(some (false, 10)), .mv (.g 6), none⟩,
  ⟨(some (true, 7)), .mv (.c (.lit (.int .i64 0))), none⟩,
  ⟨(some (true, 8)), .mv (.l 10), none⟩])
(.seq
(.block 0
(.loop
(.seq
(.seq
(.reg [
  ⟨(some (false, 11)), .mv (.g 8), none⟩,
  ⟨(some (false, 12)), .mv (.g 1), none⟩,
  ⟨(some (true, 13)), .bin .leq (.l 11) (.l 12), none⟩])
(.cond (.g 13)
.skip
(.exit 0)))
(.block 1
(.seq
(.reg [
  ⟨(some (false, 14)), .mv (.g 0), none⟩,
  ⟨(some (false, 15)), .mv (.g 7), none⟩,
  ⟨(some (false, 16)), .mv (.g 8), none⟩,
  ⟨(some (false, 17)), .mv (.g 2), none⟩,
  ⟨(some (false, 18)), .call (.c (.fn 77 [])) [.l 14, .l 15, .l 16, .l 17], none⟩])
(.seq
(.reg [
  ⟨(some (false, 19)), .mv (.g 8), none⟩,
  ⟨(some (true, 7)), .mv (.l 19), none⟩])
(.reg [
  ⟨(some (false, 20)), .mv (.g 8), none⟩,
  ⟨(some (false, 21)), .mv (.g 6), none⟩,
  ⟨(some (false, 22)), .bin .add (.l 20) (.l 21), none⟩,
  ⟨(some (true, 8)), .mv (.l 22), none⟩])))))))
(.seq
(.reg [
  ⟨(some (false, 23)), .mv (.g 0), none⟩,
  ⟨(some (false, 24)), .mv (.g 7), none⟩,
  ⟨(some (false, 25)), .mv (.g 1), none⟩,
  ⟨(some (false, 26)), .mv (.g 2), none⟩,
  ⟨(some (false, 27)), .call (.c (.fn 77 [])) [.l 23, .l 24, .l 25, .l 26], none⟩])
(.block 2
(.loop
(.seq
(.seq
(.reg [
  ⟨(some (false, 28)), .mv (.g 6), none⟩,
  ⟨(some (false, 29)), .mv (.g 1), none⟩,
  ⟨(some (true, 30)), .bin .lss (.l 28) (.l 29), none⟩])
(.cond (.g 30)
.skip
(.exit 2)))
(.block 3
(.seq
(.reg [
  ⟨(some (false, 31)), .mv (.g 6), none⟩,
  ⟨(some (false, 32)), .bin .mul (.c (.lit (.int .i64 2))) (.l 31), none⟩,
  ⟨(some (true, 7)), .mv (.c (.lit (.int .i64 0))), none⟩,
  ⟨(some (true, 8)), .mv (.l 32), none⟩])
(.seq
(.block 4
(.loop
(.seq
(.seq
(.reg [
  ⟨(some (false, 33)), .mv (.g 8), none⟩,
  ⟨(some (false, 34)), .mv (.g 1), none⟩,
  ⟨(some (true, 35)), .bin .leq (.l 33) (.l 34), none⟩])
(.cond (.g 35)
.skip
(.exit 4)))
(.block 5
(.seq
(.reg [
  ⟨(some (false, 36)), .mv (.g 0), none⟩,
  ⟨(some (false, 37)), .mv (.g 7), none⟩,
  ⟨(some (false, 38)), .mv (.g 7), none⟩,
  ⟨(some (false, 39)), .mv (.g 6), none⟩,
  ⟨(some (false, 40)), .bin .add (.l 38) (.l 39), none⟩,
  ⟨(some (false, 41)), .mv (.g 8), none⟩,
  ⟨(some (false, 42)), .mv (.g 2), none⟩,
  ⟨(some (false, 43)), .call (.c (.fn 78 [])) [.l 36, .l 37, .l 40, .l 41, .l 42], none⟩])
(.seq
(.reg [
  ⟨(some (false, 44)), .mv (.g 8), none⟩,
  ⟨(some (true, 7)), .mv (.l 44), none⟩])
(.reg [
  ⟨(some (false, 45)), .mv (.g 8), none⟩,
  ⟨(some (false, 46)), .mv (.g 6), none⟩,
  ⟨(some (false, 47)), .bin .mul (.c (.lit (.int .i64 2))) (.l 46), none⟩,
  ⟨(some (false, 48)), .bin .add (.l 45) (.l 47), none⟩,
  ⟨(some (true, 8)), .mv (.l 48), none⟩])))))))
(.seq
(.seq
(.reg [
  ⟨(some (false, 49)), .mv (.g 7), none⟩,
  ⟨(some (false, 50)), .mv (.g 6), none⟩,
  ⟨(some (false, 51)), .bin .add (.l 49) (.l 50), none⟩,
  ⟨(some (true, 9)), .mv (.l 51), none⟩])
(.seq
(.reg [
  ⟨(some (false, 52)), .mv (.g 9), none⟩,
  ⟨(some (false, 53)), .mv (.g 1), none⟩,
  ⟨(some (true, 54)), .bin .lss (.l 52) (.l 53), none⟩])
(.cond (.g 54)
(.reg [
  ⟨(some (false, 55)), .mv (.g 0), none⟩,
  ⟨(some (false, 56)), .mv (.g 7), none⟩,
  ⟨(some (false, 57)), .mv (.g 9), none⟩,
  ⟨(some (false, 58)), .mv (.g 1), none⟩,
  ⟨(some (false, 59)), .mv (.g 2), none⟩,
  ⟨(some (false, 60)), .call (.c (.fn 78 [])) [.l 55, .l 56, .l 57, .l 58, .l 59], none⟩])
.skip)))
(.reg [
  ⟨(some (false, 61)), .mv (.g 6), none⟩,
  ⟨(some (false, 62)), .bin .mul (.l 61) (.c (.lit (.int .i64 2))), none⟩,
  ⟨(some (true, 6)), .mv (.l 62), none⟩]))))))))))))
def K70 : List Nat := [0, 1, 2, 13, 30, 35, 54, 6, 7, 8, 9]
noncomputable def b70 : Code := match Tryd.f70.body with | some c => c | none => .skip
theorem t70 : trCode ⟨Tryd.prog, K70, [], 63, none⟩ b70 = some c70 := by kernel_rfl
theorem go70 {args : List AV} {H : AHeap} {Kk : AV → AHeap → Prop} (hn : args.length = 3) (h : AGo ⟨Tryd.prog, K70, [], 63, none⟩ H.length [.code c70] (RetP [] H.length Kk) ⟨[], argsG 0 args⟩ H) : ACalls Tryd.prog 70 args H Kk :=
  ACalls_of Tryd.func70 (c := b70) rfl (by kernel_rfl) t70 (rs := []) (by kernel_rfl) (by rw [hn]; exact Nat.le_of_ble_eq_true rfl) (by rw [hn]; rfl) (h.weaken (fun _ _ => RetP.hands) (by simp))

/-- slices.insertionSortCmpFunc[int] -/
def c77 : ACode :=
  (.seq
(.reg [
  ⟨(some (false, 10)), .mv (.g 1), none⟩,
  ⟨(some (false, 11)), .bin .add (.l 10) (.c (.lit (.int .i64 1))), none⟩,
  ⟨(some (true, 8)), .mv (.l 11), none⟩])
(.block 0
(.loop
(.seq
(.seq
(.reg [
  ⟨(some (false, 12)), .mv (.g 8), none⟩,
  ⟨(some (false, 13)), .mv (.g 2), none⟩,
  ⟨(some (true, 14)), .bin .lss (.l 12) (.l 13), none⟩])
(.cond (.g 14)
.skip
(.exit 0)))
(.seq
(.block 1
(.seq
(.reg [
  ⟨(some (false, 17)), .mv (.g 8), none⟩,
  ⟨(some (true, 9)), .mv (.l 17), none⟩])
(.block 2
(.loop
(.seq
(.seq
(.draw [
  ⟨⟨(some (false, 18)), .mv (.g 9), none⟩, 0, true, []⟩,
  ⟨⟨(some (false, 19)), .mv (.g 1), none⟩, 1, true, []⟩,
  ⟨⟨(some (false, 20)), .bin .gtr (.l 18) (.l 19), none⟩, 2, true, []⟩,
  ⟨⟨(some (false, 21)), .mv (.l 20), none⟩, 3, true, []⟩,
  ⟨⟨(some (false, 22)), .mv (.g 3), (some (.l 21, true))⟩, 4, true, []⟩,
  ⟨⟨(some (false, 23)), .mv (.g 0), (some (.l 21, true))⟩, 5, true, []⟩,
  ⟨⟨(some (false, 24)), .mv (.g 9), (some (.l 21, true))⟩, 6, true, []⟩,
  ⟨⟨(some (false, 25)), .ia 1 (.l 23) (.l 24), (some (.l 21, true))⟩, 7, true, []⟩,
  ⟨⟨(some (false, 26)), .ld none (.l 25), (some (.l 21, true))⟩, 8, true, []⟩,
  ⟨⟨(some (false, 27)), .mv (.g 0), (some (.l 21, true))⟩, 9, true, []⟩,
  ⟨⟨(some (false, 28)), .mv (.g 9), (some (.l 21, true))⟩, 10, true, []⟩,
  ⟨⟨(some (false, 29)), .bin .sub (.l 28) (.c (.lit (.int .i64 1))), (some (.l 21, true))⟩, 11, true, []⟩,
  ⟨⟨(some (false, 30)), .ia 1 (.l 27) (.l 29), (some (.l 21, true))⟩, 12, true, []⟩,
  ⟨⟨(some (false, 31)), .ld none (.l 30), (some (.l 21, true))⟩, 13, true, []⟩,
  ⟨⟨(some (false, 32)), .call (.l 22) [.l 26, .l 31], (some (.l 21, true))⟩, 14, false, []⟩,
  ⟨⟨(some (false, 33)), .bin .lss (.l 32) (.c (.lit (.int .i64 0))), (some (.l 21, true))⟩, 15, true, []⟩,
  ⟨⟨(some (true, 34)), .pick (.l 21) (.l 33) (.c (.lit (.bool false))), none⟩, 16, true, []⟩])
(.cond (.g 34)
.skip
(.exit 2)))
(.seq
(.block 3
(.draw [
  ⟨⟨(some (false, 37)), .mv (.g 0), none⟩, 0, true, []⟩,
  ⟨⟨(some (false, 38)), .mv (.g 9), none⟩, 1, true, []⟩,
  ⟨⟨(some (false, 39)), .mv (.g 0), none⟩, 2, false, []⟩,
  ⟨⟨(some (false, 40)), .mv (.g 9), none⟩, 3, false, []⟩,
  ⟨⟨(some (false, 41)), .bin .sub (.l 40) (.c (.lit (.int .i64 1))), none⟩, 4, false, []⟩,
  ⟨⟨(some (false, 42)), .mv (.g 0), none⟩, 5, true, []⟩,
  ⟨⟨(some (false, 43)), .mv (.g 9), none⟩, 6, true, []⟩,
  ⟨⟨(some (false, 44)), .bin .sub (.l 43) (.c (.lit (.int .i64 1))), none⟩, 7, true, []⟩,
  ⟨⟨(some (false, 45)), .ia 1 (.l 42) (.l 44), none⟩, 8, true, []⟩,
  ⟨⟨(some (false, 46)), .ld none (.l 45), none⟩, 9, true, []⟩,
  ⟨⟨(some (false, 47)), .mv (.g 0), none⟩, 10, false, []⟩,
  ⟨⟨(some (false, 48)), .mv (.g 9), none⟩, 11, false, []⟩,
  ⟨⟨(some (false, 49)), .ia 1 (.l 47) (.l 48), none⟩, 12, true, []⟩,
  ⟨⟨(some (false, 50)), .ld none (.l 49), none⟩, 13, true, []⟩,
  ⟨⟨(some (false, 51)), .ia 1 (.l 37) (.l 38), none⟩, 14, true, []⟩,
  ⟨⟨none, .st 1 (.l 51) (.l 46), none⟩, 15, false, []⟩,
  ⟨⟨(some (false, 52)), .ia 1 (.l 39) (.l 41), none⟩, 16, false, []⟩,
  ⟨⟨none, .st 1 (.l 52) (.l 50), none⟩, 17, true, []⟩]))
(.reg [
  ⟨(some (false, 35)), .mv (.g 9), none⟩,
  ⟨(some (false, 36)), .bin .sub (.l 35) (.c (.lit (.int .i64 1))), none⟩,
  ⟨(some (true, 9)), .mv (.l 36), none⟩])))))))
(.reg [
  ⟨(some (false, 15)), .mv (.g 8), none⟩,
  ⟨(some (false, 16)), .bin .add (.l 15) (.c (.lit (.int .i64 1))), none⟩,
  ⟨(some (true, 8)), .mv (.l 16), none⟩]))))))
def K77 : List Nat := [0, 1, 2, 3, 14, 34, 8, 9]
noncomputable def b77 : Code := match Tryd.f77.body with | some c => c | none => .skip
theorem t77 : trCode ⟨Tryd.prog, K77, [], 53, none⟩ b77 = some c77 := by kernel_rfl
theorem go77 {args : List AV} {H : AHeap} {Kk : AV → AHeap → Prop} (hn : args.length = 4) (h : AGo ⟨Tryd.prog, K77, [], 53, none⟩ H.length [.code c77] (RetP [] H.length Kk) ⟨[], argsG 0 args⟩ H) : ACalls Tryd.prog 77 args H Kk :=
  ACalls_of Tryd.func77 (c := b77) rfl (by kernel_rfl) t77 (rs := []) (by kernel_rfl) (by rw [hn]; exact Nat.le_of_ble_eq_true rfl) (by rw [hn]; rfl) (h.weaken (fun _ _ => RetP.hands) (by simp))

/-- slices.symMergeCmpFunc[int] -/
def c78 : ACode :=
  (.seq
(.seq
(.reg [
  ⟨(some (false, 25)), .mv (.g 2), none⟩,
  ⟨(some (false, 26)), .mv (.g 1), none⟩,
  ⟨(some (false, 27)), .bin .sub (.l 25) (.l 26), none⟩,
  ⟨(some (true, 28)), .bin .eql (.l 27) (.c (.lit (.int .i64 1))), none⟩])
(.cond (.g 28)
(.seq
(.reg [
  ⟨(some (false, 29)), .mv (.g 2), none⟩,
  ⟨(some (true, 10)), .mv (.l 29), none⟩])
(.seq
(.reg [
  ⟨(some (false, 30)), .mv (.g 3), none⟩,
  ⟨(some (true, 11)), .mv (.l 30), none⟩])
(.seq
(.block 0
(.loop
(.seq
(.seq
(.reg [
  ⟨(some (false, 31)), .mv (.g 10), none⟩,
  ⟨(some (false, 32)), .mv (.g 11), none⟩,
  ⟨(some (true, 33)), .bin .lss (.l 31) (.l 32), none⟩])
(.cond (.g 33)
.skip
(.exit 0)))
(.block 1
(.seq
(.reg [
  ⟨(some (false, 34)), .mv (.g 10), none⟩,
  ⟨(some (false, 35)), .mv (.g 11), none⟩,
  ⟨(some (false, 36)), .bin .add (.l 34) (.l 35), none⟩,
  ⟨(some (false, 37)), .cv .u64 (.l 36), none⟩,
  ⟨(some (false, 38)), .bin .shr (.l 37) (.c (.lit (.int .u64 1))), none⟩,
  ⟨(some (false, 39)), .cv .i64 (.l 38), none⟩,
  ⟨(some (true, 12)), .mv (.l 39), none⟩])
(.seq
(.draw [
  ⟨⟨(some (false, 40)), .mv (.g 4), none⟩, 0, true, []⟩,
  ⟨⟨(some (false, 41)), .mv (.g 0), none⟩, 1, true, []⟩,
  ⟨⟨(some (false, 42)), .mv (.g 12), none⟩, 2, true, []⟩,
  ⟨⟨(some (false, 43)), .ia 1 (.l 41) (.l 42), none⟩, 3, true, []⟩,
  ⟨⟨(some (false, 44)), .ld none (.l 43), none⟩, 4, true, []⟩,
  ⟨⟨(some (false, 45)), .mv (.g 0), none⟩, 5, true, []⟩,
  ⟨⟨(some (false, 46)), .mv (.g 1), none⟩, 6, true, []⟩,
  ⟨⟨(some (false, 47)), .ia 1 (.l 45) (.l 46), none⟩, 7, true, []⟩,
  ⟨⟨(some (false, 48)), .ld none (.l 47), none⟩, 8, true, []⟩,
  ⟨⟨(some (false, 49)), .call (.l 40) [.l 44, .l 48], none⟩, 9, false, []⟩,
  ⟨⟨(some (true, 50)), .bin .lss (.l 49) (.c (.lit (.int .i64 0))), none⟩, 10, true, []⟩])
(.cond (.g 50)
(.reg [
  ⟨(some (false, 51)), .mv (.g 12), none⟩,
  ⟨(some (false, 52)), .bin .add (.l 51) (.c (.lit (.int .i64 1))), none⟩,
  ⟨(some (true, 10)), .mv (.l 52), none⟩])
(.reg [
  ⟨(some (false, 53)), .mv (.g 12), none⟩,
  ⟨(some (true, 11)), .mv (.l 53), none⟩]))))))))
(.seq
(.seq
(.reg [
  ⟨(some (false, 54)), .mv (.g 1), none⟩,
  ⟨(some (true, 13)), .mv (.l 54), none⟩])
(.block 2
(.loop
(.seq
(.seq
(.reg [
  ⟨(some (false, 55)), .mv (.g 13), none⟩,
  ⟨(some (false, 56)), .mv (.g 10), none⟩,
  ⟨(some (false, 57)), .bin .sub (.l 56) (.c (.lit (.int .i64 1))), none⟩,
  ⟨(some (true, 58)), .bin .lss (.l 55) (.l 57), none⟩])
(.cond (.g 58)
.skip
(.exit 2)))
(.seq
(.block 3
(.draw [
  ⟨⟨(some (false, 61)), .mv (.g 0), none⟩, 0, true, []⟩,
  ⟨⟨(some (false, 62)), .mv (.g 13), none⟩, 1, true, []⟩,
  ⟨⟨(some (false, 63)), .mv (.g 0), none⟩, 2, false, []⟩,
  ⟨⟨(some (false, 64)), .mv (.g 13), none⟩, 3, false, []⟩,
  ⟨⟨(some (false, 65)), .bin .add (.l 64) (.c (.lit (.int .i64 1))), none⟩, 4, false, []⟩,
  ⟨⟨(some (false, 66)), .mv (.g 0), none⟩, 5, true, []⟩,
  ⟨⟨(some (false, 67)), .mv (.g 13), none⟩, 6, true, []⟩,
  ⟨⟨(some (false, 68)), .bin .add (.l 67) (.c (.lit (.int .i64 1))), none⟩, 7, true, []⟩,
  ⟨⟨(some (false, 69)), .ia 1 (.l 66) (.l 68), none⟩, 8, true, []⟩,
  ⟨⟨(some (false, 70)), .ld none (.l 69), none⟩, 9, true, []⟩,
  ⟨⟨(some (false, 71)), .mv (.g 0), none⟩, 10, false, []⟩,
  ⟨⟨(some (false, 72)), .mv (.g 13), none⟩, 11, false, []⟩,
  ⟨⟨(some (false, 73)), .ia 1 (.l 71) (.l 72), none⟩, 12, true, []⟩,
  ⟨⟨(some (false, 74)), .ld none (.l 73), none⟩, 13, true, []⟩,
  ⟨⟨(some (false, 75)), .ia 1 (.l 61) (.l 62), none⟩, 14, true, []⟩,
  ⟨⟨none, .st 1 (.l 75) (.l 70), none⟩, 15, false, []⟩,
  ⟨⟨(some (false, 76)), .ia 1 (.l 63) (.l 65), none⟩, 16, false, []⟩,
  ⟨⟨none, .st 1 (.l 76) (.l 74), none⟩, 17, true, []⟩]))
(.reg [
  ⟨(some (false, 59)), .mv (.g 13), none⟩,
  ⟨(some (false, 60)), .bin .add (.l 59) (.c (.lit (.int .i64 1))), none⟩,
  ⟨(some (true, 13)), .mv (.l 60), none⟩]))))))
.ret))))
.skip))
(.seq
(.seq
(.reg [
  ⟨(some (false, 77)), .mv (.g 3), none⟩,
  ⟨(some (false, 78)), .mv (.g 2), none⟩,
  ⟨(some (false, 79)), .bin .sub (.l 77) (.l 78), none⟩,
  ⟨(some (true, 80)), .bin .eql (.l 79) (.c (.lit (.int .i64 1))), none⟩])
(.cond (.g 80)
(.seq
(.reg [
  ⟨(some (false, 81)), .mv (.g 1), none⟩,
  ⟨(some (true, 14)), .mv (.l 81), none⟩])
(.seq
(.reg [
  ⟨(some (false, 82)), .mv (.g 2), none⟩,
  ⟨(some (true, 15)), .mv (.l 82), none⟩])
(.seq
(.block 4
(.loop
(.seq
(.seq
(.reg [
  ⟨(some (false, 83)), .mv (.g 14), none⟩,
  ⟨(some (false, 84)), .mv (.g 15), none⟩,
  ⟨(some (true, 85)), .bin .lss (.l 83) (.l 84), none⟩])
(.cond (.g 85)
.skip
(.exit 4)))
(.block 5
(.seq
(.reg [
  ⟨(some (false, 86)), .mv (.g 14), none⟩,
  ⟨(some (false, 87)), .mv (.g 15), none⟩,
  ⟨(some (false, 88)), .bin .add (.l 86) (.l 87), none⟩,
  ⟨(some (false, 89)), .cv .u64 (.l 88), none⟩,
  ⟨(some (false, 90)), .bin .shr (.l 89) (.c (.lit (.int .u64 1))), none⟩,
  ⟨(some (false, 91)), .cv .i64 (.l 90), none⟩,
  ⟨(some (true, 16)), .mv (.l 91), none⟩])
(.seq
(.draw [
  ⟨⟨(some (false, 92)), .mv (.g 4), none⟩, 0, true, []⟩,
  ⟨⟨(some (false, 93)), .mv (.g 0), none⟩, 1, true, []⟩,
  ⟨⟨(some (false, 94)), .mv (.g 2), none⟩, 2, true, []⟩,
  ⟨⟨(some (false, 95)), .ia 1 (.l 93) (.l 94), none⟩, 3, true, []⟩,
  ⟨⟨(some (false, 96)), .ld none (.l 95), none⟩, 4, true, []⟩,
  ⟨⟨(some (false, 97)), .mv (.g 0), none⟩, 5, true, []⟩,
  ⟨⟨(some (false, 98)), .mv (.g 16), none⟩, 6, true, []⟩,
  ⟨⟨(some (false, 99)), .ia 1 (.l 97) (.l 98), none⟩, 7, true, []⟩,
  ⟨⟨(some (false, 100)), .ld none (.l 99), none⟩, 8, true, []⟩,
  ⟨⟨(some (false, 101)), .call (.l 92) [.l 96, .l 100], none⟩, 9, false, []⟩,
  ⟨⟨(some (false, 102)), .bin .lss (.l 101) (.c (.lit (.int .i64 0))), none⟩, 10, true, []⟩,
  ⟨⟨(some (true, 103)), .un .not (.l 102), none⟩, 11, true, []⟩])
(.cond (.g 103)
(.reg [
  ⟨(some (false, 104)), .mv (.g 16), none⟩,
  ⟨(some (false, 105)), .bin .add (.l 104) (.c (.lit (.int .i64 1))), none⟩,
  ⟨(some (true, 14)), .mv (.l 105), none⟩])
(.reg [
  ⟨(some (false, 106)), .mv (.g 16), none⟩,
  ⟨(some (true, 15)), .mv (.l 106), none⟩]))))))))
(.seq
(.seq
(.reg [
  ⟨(some (false, 107)), .mv (.g 2), none⟩,
  ⟨(some (true, 17)), .mv (.l 107), none⟩])
(.block 6
(.loop
(.seq
(.seq
(.reg [
  ⟨(some (false, 108)), .mv (.g 17), none⟩,
  ⟨(some (false, 109)), .mv (.g 14), none⟩,
  ⟨(some (true, 110)), .bin .gtr (.l 108) (.l 109), none⟩])
(.cond (.g 110)
.skip
(.exit 6)))
(.seq
(.block 7
(.draw [
  ⟨⟨(some (false, 113)), .mv (.g 0), none⟩, 0, true, []⟩,
  ⟨⟨(some (false, 114)), .mv (.g 17), none⟩, 1, true, []⟩,
  ⟨⟨(some (false, 115)), .mv (.g 0), none⟩, 2, false, []⟩,
  ⟨⟨(some (false, 116)), .mv (.g 17), none⟩, 3, false, []⟩,
  ⟨⟨(some (false, 117)), .bin .sub (.l 116) (.c (.lit (.int .i64 1))), none⟩, 4, false, []⟩,
  ⟨⟨(some (false, 118)), .mv (.g 0), none⟩, 5, true, []⟩,
  ⟨⟨(some (false, 119)), .mv (.g 17), none⟩, 6, true, []⟩,
  ⟨⟨(some (false, 120)), .bin .sub (.l 119) (.c (.lit (.int .i64 1))), none⟩, 7, true, []⟩,
  ⟨⟨(some (false, 121)), .ia 1 (.l 118) (.l 120), none⟩, 8, true, []⟩,
  ⟨⟨(some (false, 122)), .ld none (.l 121), none⟩, 9, true, []⟩,
  ⟨⟨(some (false, 123)), .mv (.g 0), none⟩, 10, false, []⟩,
  ⟨⟨(some (false, 124)), .mv (.g 17), none⟩, 11, false, []⟩,
  ⟨⟨(some (false, 125)), .ia 1 (.l 123) (.l 124), none⟩, 12, true, []⟩,
  ⟨⟨(some (false, 126)), .ld none (.l 125), none⟩, 13, true, []⟩,
  ⟨⟨(some (false, 127)), .ia 1 (.l 113) (.l 114), none⟩, 14, true, []⟩,
  ⟨⟨none, .st 1 (.l 127) (.l 122), none⟩, 15, false, []⟩,
  ⟨⟨(some (false, 128)), .ia 1 (.l 115) (.l 117), none⟩, 16, false, []⟩,
  ⟨⟨none, .st 1 (.l 128) (.l 126), none⟩, 17, true, []⟩]))
(.reg [
  ⟨(some (false, 111)), .mv (.g 17), none⟩,
  ⟨(some (false, 112)), .bin .sub (.l 111) (.c (.lit (.int .i64 1))), none⟩,
  ⟨(some (true, 17)), .mv (.l 112), none⟩]))))))
.ret))))
.skip))
(.seq
(.reg [
  ⟨(some (false, 129)), .mv (.g 1), none⟩,
  ⟨(some (false, 130)), .mv (.g 3), none⟩,
  ⟨(some (false, 131)), .bin .add (.l 129) (.l 130), none⟩,
  ⟨(some (false, 132)), .cv .u64 (.l 131), none⟩,
  ⟨(some (false, 133)), .bin .shr (.l 132) (.c (.lit (.int .u64 1))), none⟩,
  ⟨(some (false, 134)), .cv .i64 (.l 133), none⟩,
  ⟨(some (true, 18)), .mv (.l 134), none⟩])
(.seq
(.reg [
  ⟨(some (false, 135)), .mv (.g 18), none⟩,
  ⟨(some (false, 136)), .mv (.g 2), none⟩,
  ⟨(some (false, 137)), .bin .add (.l 135) (.l 136), none⟩,
  ⟨(some (true, 19)), .mv (.l 137), none⟩])
(.seq
(.reg [
  ⟨(some (true, 20)), .mv (.c (.lit (.int .i64 0))), none⟩,
  ⟨(some (true, 21)), .mv (.c (.lit (.int .i64 0))), none⟩])
(.seq
(.seq
(.reg [
  ⟨(some (false, 138)), .mv (.g 2), none⟩,
  ⟨(some (false, 139)), .mv (.g 18), none⟩,
  ⟨(some (true, 140)), .bin .gtr (.l 138) (.l 139), none⟩])
(.cond (.g 140)
(.seq
(.reg [
  ⟨(some (false, 141)), .mv (.g 19), none⟩,
  ⟨(some (false, 142)), .mv (.g 3), none⟩,
  ⟨(some (false, 143)), .bin .sub (.l 141) (.l 142), none⟩,
  ⟨(some (true, 20)), .mv (.l 143), none⟩])
(.reg [
  ⟨(some (false, 144)), .mv (.g 18), none⟩,
  ⟨(some (true, 21)), .mv (.l 144), none⟩]))
(.seq
(.reg [
  ⟨(some (false, 145)), .mv (.g 1), none⟩,
  ⟨(some (true, 20)), .mv (.l 145), none⟩])
(.reg [
  ⟨(some (false, 146)), .mv (.g 2), none⟩,
  ⟨(some (true, 21)), .mv (.l 146), none⟩]))))
(.seq
(.reg [
  ⟨(some (false, 147)), .mv (.g 19), none⟩,
  ⟨(some (false, 148)), .bin .sub (.l 147) (.c (.lit (.int .i64 1))), none⟩,
  ⟨(some (true, 22)), .mv (.l 148), none⟩])
(.seq
(.block 8
(.loop
(.seq
(.seq
(.reg [
  ⟨(some (false, 149)), .mv (.g 20), none⟩,
  ⟨(some (false, 150)), .mv (.g 21), none⟩,
  ⟨(some (true, 151)), .bin .lss (.l 149) (.l 150), none⟩])
(.cond (.g 151)
.skip
(.exit 8)))
(.block 9
(.seq
(.reg [
  ⟨(some (false, 152)), .mv (.g 20), none⟩,
  ⟨(some (false, 153)), .mv (.g 21), none⟩,
  ⟨(some (false, 154)), .bin .add (.l 152) (.l 153), none⟩,
  ⟨(some (false, 155)), .cv .u64 (.l 154), none⟩,
  ⟨(some (false, 156)), .bin .shr (.l 155) (.c (.lit (.int .u64 1))), none⟩,
  ⟨(some (false, 157)), .cv .i64 (.l 156), none⟩,
  ⟨(some (true, 23)), .mv (.l 157), none⟩])
(.seq
(.draw [
  ⟨⟨(some (false, 158)), .mv (.g 4), none⟩, 0, true, []⟩,
  ⟨⟨(some (false, 159)), .mv (.g 0), none⟩, 1, true, []⟩,
  ⟨⟨(some (false, 160)), .mv (.g 22), none⟩, 2, true, []⟩,
  ⟨⟨(some (false, 161)), .mv (.g 23), none⟩, 3, true, []⟩,
  ⟨⟨(some (false, 162)), .bin .sub (.l 160) (.l 161), none⟩, 4, true, []⟩,
  ⟨⟨(some (false, 163)), .ia 1 (.l 159) (.l 162), none⟩, 5, true, []⟩,
  ⟨⟨(some (false, 164)), .ld none (.l 163), none⟩, 6, true, []⟩,
  ⟨⟨(some (false, 165)), .mv (.g 0), none⟩, 7, true, []⟩,
  ⟨⟨(some (false, 166)), .mv (.g 23), none⟩, 8, true, []⟩,
  ⟨⟨(some (false, 167)), .ia 1 (.l 165) (.l 166), none⟩, 9, true, []⟩,
  ⟨⟨(some (false, 168)), .ld none (.l 167), none⟩, 10, true, []⟩,
  ⟨⟨(some (false, 169)), .call (.l 158) [.l 164, .l 168], none⟩, 11, false, []⟩,
  ⟨⟨(some (false, 170)), .bin .lss (.l 169) (.c (.lit (.int .i64 0))), none⟩, 12, true, []⟩,
  ⟨⟨(some (true, 171)), .un .not (.l 170), none⟩, 13, true, []⟩])
(.cond (.g 171)
(.reg [
  ⟨(some (false, 172)), .mv (.g 23), none⟩,
  ⟨(some (false, 173)), .bin .add (.l 172) (.c (.lit (.int .i64 1))), none⟩,
  ⟨(some (true, 20)), .mv (.l 173), none⟩])
(.reg [
  ⟨(some (false, 174)), .mv (.g 23), none⟩,
  ⟨(some (true, 21)), .mv (.l 174), none⟩]))))))))
(.seq
(.reg [
  ⟨(some (false, 175)), .mv (.g 19), none⟩,
  ⟨(some (false, 176)), .mv (.g 20), none⟩,
  ⟨(some (false, 177)), .bin .sub (.l 175) (.l 176), none⟩,
  ⟨(some (true, 24)), .mv (.l 177), none⟩])
(.seq
(.seq
(.reg [
  ⟨(some (false, 178)), .mv (.g 20), none⟩,
  ⟨(some (false, 179)), .mv (.g 2), none⟩,
  ⟨(some (false, 180)), .bin .lss (.l 178) (.l 179), none⟩,
  ⟨(some (false, 181)), .mv (.l 180), none⟩,
  ⟨(some (false, 182)), .mv (.g 2), (some (.l 181, true))⟩,
  ⟨(some (false, 183)), .mv (.g 24), (some (.l 181, true))⟩,
  ⟨(some (false, 184)), .bin .lss (.l 182) (.l 183), (some (.l 181, true))⟩,
  ⟨(some (true, 185)), .pick (.l 181) (.l 184) (.c (.lit (.bool false))), none⟩])
(.cond (.g 185)
(.reg [
  ⟨(some (false, 186)), .mv (.g 0), none⟩,
  ⟨(some (false, 187)), .mv (.g 20), none⟩,
  ⟨(some (false, 188)), .mv (.g 2), none⟩,
  ⟨(some (false, 189)), .mv (.g 24), none⟩,
  ⟨(some (false, 190)), .mv (.g 4), none⟩,
  ⟨(some (false, 191)), .call (.c (.fn 84 [])) [.l 186, .l 187, .l 188, .l 189, .l 190], none⟩])
.skip))
(.seq
(.seq
(.reg [
  ⟨(some (false, 192)), .mv (.g 1), none⟩,
  ⟨(some (false, 193)), .mv (.g 20), none⟩,
  ⟨(some (false, 194)), .bin .lss (.l 192) (.l 193), none⟩,
  ⟨(some (false, 195)), .mv (.l 194), none⟩,
  ⟨(some (false, 196)), .mv (.g 20), (some (.l 195, true))⟩,
  ⟨(some (false, 197)), .mv (.g 18), (some (.l 195, true))⟩,
  ⟨(some (false, 198)), .bin .lss (.l 196) (.l 197), (some (.l 195, true))⟩,
  ⟨(some (true, 199)), .pick (.l 195) (.l 198) (.c (.lit (.bool false))), none⟩])
(.cond (.g 199)
(.reg [
  ⟨(some (false, 200)), .mv (.g 0), none⟩,
  ⟨(some (false, 201)), .mv (.g 1), none⟩,
  ⟨(some (false, 202)), .mv (.g 20), none⟩,
  ⟨(some (false, 203)), .mv (.g 18), none⟩,
  ⟨(some (false, 204)), .mv (.g 4), none⟩,
  ⟨(some (false, 205)), .call (.c (.fn 78 [])) [.l 200, .l 201, .l 202, .l 203, .l 204], none⟩])
.skip))
(.seq
(.reg [
  ⟨(some (false, 206)), .mv (.g 18), none⟩,
  ⟨(some (false, 207)), .mv (.g 24), none⟩,
  ⟨(some (false, 208)), .bin .lss (.l 206) (.l 207), none⟩,
  ⟨(some (false, 209)), .mv (.l 208), none⟩,
  ⟨(some (false, 210)), .mv (.g 24), (some (.l 209, true))⟩,
  ⟨(some (false, 211)), .mv (.g 3), (some (.l 209, true))⟩,
  ⟨(some (false, 212)), .bin .lss (.l 210) (.l 211), (some (.l 209, true))⟩,
  ⟨(some (true, 213)), .pick (.l 209) (.l 212) (.c (.lit (.bool false))), none⟩])
(.cond (.g 213)
(.reg [
  ⟨(some (false, 214)), .mv (.g 0), none⟩,
  ⟨(some (false, 215)), .mv (.g 18), none⟩,
  ⟨(some (false, 216)), .mv (.g 24), none⟩,
  ⟨(some (false, 217)), .mv (.g 3), none⟩,
  ⟨(some (false, 218)), .mv (.g 4), none⟩,
  ⟨(some (false, 219)), .call (.c (.fn 78 [])) [.l 214, .l 215, .l 216, .l 217, .l 218], none⟩])
.skip)))))))))))))
def K78 : List Nat := [0, 1, 2, 3, 4, 28, 33, 50, 58, 80, 85, 103, 110, 140, 151, 171, 185, 199, 213, 10, 11, 12, 13, 14, 15, 16, 17, 18, 19, 20, 21, 22, 23, 24]
noncomputable def b78 : Code := match Tryd.f78.body with | some c => c | none => .skip
theorem t78 : trCode ⟨Tryd.prog, K78, [], 220, none⟩ b78 = some c78 := by kernel_rfl
theorem go78 {args : List AV} {H : AHeap} {Kk : AV → AHeap → Prop} (hn : args.length = 5) (h : AGo ⟨Tryd.prog, K78, [], 220, none⟩ H.length [.code c78] (RetP [] H.length Kk) ⟨[], argsG 0 args⟩ H) : ACalls Tryd.prog 78 args H Kk :=
  ACalls_of Tryd.func78 (c := b78) rfl (by kernel_rfl) t78 (rs := []) (by kernel_rfl) (by rw [hn]; exact Nat.le_of_ble_eq_true rfl) (by rw [hn]; rfl) (h.weaken (fun _ _ => RetP.hands) (by simp))

/-- slices.rotateCmpFunc[int] -/
def c84 : ACode :=
  (.seq
(.reg [
  ⟨(some (false, 12)), .mv (.g 2), none⟩,
  ⟨(some (false, 13)), .mv (.g 1), none⟩,
  ⟨(some (false, 14)), .bin .sub (.l 12) (.l 13), none⟩,
  ⟨(some (true, 10)), .mv (.l 14), none⟩])
(.seq
(.reg [
  ⟨(some (false, 15)), .mv (.g 3), none⟩,
  ⟨(some (false, 16)), .mv (.g 2), none⟩,
  ⟨(some (false, 17)), .bin .sub (.l 15) (.l 16), none⟩,
  ⟨(some (true, 11)), .mv (.l 17), none⟩])
(.seq
(.block 0
(.loop
(.seq
(.seq
(.reg [
  ⟨(some (false, 18)), .mv (.g 10), none⟩,
  ⟨(some (false, 19)), .mv (.g 11), none⟩,
  ⟨(some (true, 20)), .bin .neq (.l 18) (.l 19), none⟩])
(.cond (.g 20)
.skip
(.exit 0)))
(.block 1
(.seq
(.reg [
  ⟨(some (false, 21)), .mv (.g 10), none⟩,
  ⟨(some (false, 22)), .mv (.g 11), none⟩,
  ⟨(some (true, 23)), .bin .gtr (.l 21) (.l 22), none⟩])
(.cond (.g 23)
(.seq
(.reg [
  ⟨(some (false, 24)), .mv (.g 0), none⟩,
  ⟨(some (false, 25)), .mv (.g 2), none⟩,
  ⟨(some (false, 26)), .mv (.g 10), none⟩,
  ⟨(some (false, 27)), .bin .sub (.l 25) (.l 26), none⟩,
  ⟨(some (false, 28)), .mv (.g 2), none⟩,
  ⟨(some (false, 29)), .mv (.g 11), none⟩,
  ⟨(some (false, 30)), .mv (.g 4), none⟩,
  ⟨(some (false, 31)), .call (.c (.fn 91 [])) [.l 24, .l 27, .l 28, .l 29, .l 30], none⟩])
(.reg [
  ⟨(some (false, 32)), .mv (.g 10), none⟩,
  ⟨(some (false, 33)), .mv (.g 11), none⟩,
  ⟨(some (false, 34)), .bin .sub (.l 32) (.l 33), none⟩,
  ⟨(some (true, 10)), .mv (.l 34), none⟩]))
(.seq
(.reg [
  ⟨(some (false, 35)), .mv (.g 0), none⟩,
  ⟨(some (false, 36)), .mv (.g 2), none⟩,
  ⟨(some (false, 37)), .mv (.g 10), none⟩,
  ⟨(some (false, 38)), .bin .sub (.l 36) (.l 37), none⟩,
  ⟨(some (false, 39)), .mv (.g 2), none⟩,
  ⟨(some (false, 40)), .mv (.g 11), none⟩,
  ⟨(some (false, 41)), .bin .add (.l 39) (.l 40), none⟩,
  ⟨(some (false, 42)), .mv (.g 10), none⟩,
  ⟨(some (false, 43)), .bin .sub (.l 41) (.l 42), none⟩,
  ⟨(some (false, 44)), .mv (.g 10), none⟩,
  ⟨(some (false, 45)), .mv (.g 4), none⟩,
  ⟨(some (false, 46)), .call (.c (.fn 91 [])) [.l 35, .l 38, .l 43, .l 44, .l 45], none⟩])
(.reg [
  ⟨(some (false, 47)), .mv (.g 11), none⟩,
  ⟨(some (false, 48)), .mv (.g 10), none⟩,
  ⟨(some (false, 49)), .bin .sub (.l 47) (.l 48), none⟩,
  ⟨(some (true, 11)), .mv (.l 49), none⟩]))))))))
(.reg [
  ⟨(some (false, 50)), .mv (.g 0), none⟩,
  ⟨(some (false, 51)), .mv (.g 2), none⟩,
  ⟨(some (false, 52)), .mv (.g 10), none⟩,
  ⟨(some (false, 53)), .bin .sub (.l 51) (.l 52), none⟩,
  ⟨(some (false, 54)), .mv (.g 2), none⟩,
  ⟨(some (false, 55)), .mv (.g 10), none⟩,
  ⟨(some (false, 56)), .mv (.g 4), none⟩,
  ⟨(some (false, 57)), .call (.c (.fn 91 [])) [.l 50, .l 53, .l 54, .l 55, .l 56], none⟩]))))
def K84 : List Nat := [0, 1, 2, 3, 4, 20, 23, 10, 11]
noncomputable def b84 : Code := match Tryd.f84.body with | some c => c | none => .skip
theorem t84 : trCode ⟨Tryd.prog, K84, [], 58, none⟩ b84 = some c84 := by kernel_rfl
theorem go84 {args : List AV} {H : AHeap} {Kk : AV → AHeap → Prop} (hn : args.length = 5) (h : AGo ⟨Tryd.prog, K84, [], 58, none⟩ H.length [.code c84] (RetP [] H.length Kk) ⟨[], argsG 0 args⟩ H) : ACalls Tryd.prog 84 args H Kk :=
  ACalls_of Tryd.func84 (c := b84) rfl (by kernel_rfl) t84 (rs := []) (by kernel_rfl) (by rw [hn]; exact Nat.le_of_ble_eq_true rfl) (by rw [hn]; rfl) (h.weaken (fun _ _ => RetP.hands) (by simp))

/-- slices.swapRangeCmpFunc[int] -/
def c91 : ACode :=
  (.seq
(.reg [
  ⟨(some (true, 10)), .mv (.c (.lit (.int .i64 0))), none⟩])
(.block 0
(.loop
(.seq
(.seq
(.reg [
  ⟨(some (false, 11)), .mv (.g 10), none⟩,
  ⟨(some (false, 12)), .mv (.g 3), none⟩,
  ⟨(some (true, 13)), .bin .lss (.l 11) (.l 12), none⟩])
(.cond (.g 13)
.skip
(.exit 0)))
(.seq
(.block 1
(.draw [
  ⟨⟨(some (false, 16)), .mv (.g 0), none⟩, 0, true, []⟩,
  ⟨⟨(some (false, 17)), .mv (.g 1), none⟩, 1, true, []⟩,
  ⟨⟨(some (false, 18)), .mv (.g 10), none⟩, 2, true, []⟩,
  ⟨⟨(some (false, 19)), .bin .add (.l 17) (.l 18), none⟩, 3, true, []⟩,
  ⟨⟨(some (false, 20)), .mv (.g 0), none⟩, 4, false, []⟩,
  ⟨⟨(some (false, 21)), .mv (.g 2), none⟩, 5, false, []⟩,
  ⟨⟨(some (false, 22)), .mv (.g 10), none⟩, 6, false, []⟩,
  ⟨⟨(some (false, 23)), .bin .add (.l 21) (.l 22), none⟩, 7, false, []⟩,
  ⟨⟨(some (false, 24)), .mv (.g 0), none⟩, 8, true, []⟩,
  ⟨⟨(some (false, 25)), .mv (.g 2), none⟩, 9, true, []⟩,
  ⟨⟨(some (false, 26)), .mv (.g 10), none⟩, 10, true, []⟩,
  ⟨⟨(some (false, 27)), .bin .add (.l 25) (.l 26), none⟩, 11, true, []⟩,
  ⟨⟨(some (false, 28)), .ia 1 (.l 24) (.l 27), none⟩, 12, true, []⟩,
  ⟨⟨(some (false, 29)), .ld none (.l 28), none⟩, 13, true, []⟩,
  ⟨⟨(some (false, 30)), .mv (.g 0), none⟩, 14, false, []⟩,
  ⟨⟨(some (false, 31)), .mv (.g 1), none⟩, 15, false, []⟩,
  ⟨⟨(some (false, 32)), .mv (.g 10), none⟩, 16, false, []⟩,
  ⟨⟨(some (false, 33)), .bin .add (.l 31) (.l 32), none⟩, 17, false, []⟩,
  ⟨⟨(some (false, 34)), .ia 1 (.l 30) (.l 33), none⟩, 18, true, []⟩,
  ⟨⟨(some (false, 35)), .ld none (.l 34), none⟩, 19, true, []⟩,
  ⟨⟨(some (false, 36)), .ia 1 (.l 16) (.l 19), none⟩, 20, true, []⟩,
  ⟨⟨none, .st 1 (.l 36) (.l 29), none⟩, 21, false, []⟩,
  ⟨⟨(some (false, 37)), .ia 1 (.l 20) (.l 23), none⟩, 22, false, []⟩,
  ⟨⟨none, .st 1 (.l 37) (.l 35), none⟩, 23, true, []⟩]))
(.reg [
  ⟨(some (false, 14)), .mv (.g 10), none⟩,
  ⟨(some (false, 15)), .bin .add (.l 14) (.c (.lit (.int .i64 1))), none⟩,
  ⟨(some (true, 10)), .mv (.l 15), none⟩]))))))
def K91 : List Nat := [0, 1, 2, 3, 4, 13, 10]
noncomputable def b91 : Code := match Tryd.f91.body with | some c => c | none => .skip
theorem t91 : trCode ⟨Tryd.prog, K91, [], 38, none⟩ b91 = some c91 := by kernel_rfl
theorem go91 {args : List AV} {H : AHeap} {Kk : AV → AHeap → Prop} (hn : args.length = 5) (h : AGo ⟨Tryd.prog, K91, [], 38, none⟩ H.length [.code c91] (RetP [] H.length Kk) ⟨[], argsG 0 args⟩ H) : ACalls Tryd.prog 91 args H Kk :=
  ACalls_of Tryd.func91 (c := b91) rfl (by kernel_rfl) t91 (rs := []) (by kernel_rfl) (by rw [hn]; exact Nat.le_of_ble_eq_true rfl) (by rw [hn]; rfl) (h.weaken (fun _ _ => RetP.hands) (by simp))

end Go.Sas
