/-
The code of some functions with its types resolved, printed by a program; that it is the code is checked by the kernel.
Conditions: none.
-/
import Derived.Test.YtndnjmpebpampaaGreatDoorP4
import Derived.Test.YtndnjmpebpampaaGreatDoorP4
import Derived.Test.YtndnjmpebpampaaGreatDoorProg
set_option linter.unusedVariables false
set_option linter.unusedSimpArgs false
namespace Go.Sas
open Go.Proofs
set_option maxRecDepth 100000
/-- (sastrugi/bear.side).strong -/
def c57 : ACode :=
  (.seq
(.reg [
.g 2 (.box (.g 0)),
.g 3 (.box (.g 1)),
.g 4 (.mv (.i 0))])
(.seq
(.seq
(.reg [
.l 5 (.fa (.g 2) 0),
.g 6 (.ld none (.l 5))])
(.cond (.g 6)
(.seq
(.reg [
.l 7 (.fa (.g 3) 0),
.l 8 (.ld none (.l 7)),
.g 4 (.mv (.l 8))])
.ret)
.skip))
(.seq
(.reg [
.l 9 (.fa (.g 3) 1),
.l 10 (.ld none (.l 9)),
.g 4 (.mv (.l 10))])
.ret)))
def K57 : List Nat := [0, 1, 6, 4, 2, 3]
noncomputable def b57 : Code := match Tryz.f57.body with | some c => c | none => .skip
theorem t57 : trCode ⟨Tryz.prog, K57, [], 11, none⟩ b57 = some c57 := by kernel_rfl
theorem go57 {args : List AV} {H : AHeap} {Kk : AV → AHeap → Prop} (hn : args.length = 2) (h : AGo ⟨Tryz.prog, K57, [], 11, none⟩ H.length [.code c57] (RetP [.t (.g 4)] H.length Kk) ⟨[], argsG 0 args⟩ H) : ACalls Tryz.prog 57 args H Kk :=
  ACalls_of Tryz.func57 (c := b57) rfl (by kernel_rfl) t57 (rs := [.t (.g 4)]) (by kernel_rfl) (by rw [hn]; exact Nat.le_of_ble_eq_true rfl) (by rw [hn]; rfl) (h.weaken (fun _ _ => RetP.hands) (by simp))

/-- (sastrugi/bear.side).heavy -/
def c77 : ACode :=
  (.seq
(.reg [
.g 2 (.box (.g 0)),
.g 3 (.box (.g 1)),
.g 4 (.mv (.i 0))])
(.seq
(.seq
(.reg [
.l 5 (.fa (.g 2) 0),
.g 6 (.ld none (.l 5))])
(.cond (.g 6)
(.seq
(.reg [
.l 7 (.fa (.g 3) 1),
.l 8 (.ld none (.l 7)),
.g 4 (.mv (.l 8))])
.ret)
.skip))
(.seq
(.reg [
.l 9 (.fa (.g 3) 0),
.l 10 (.ld none (.l 9)),
.g 4 (.mv (.l 10))])
.ret)))
def K77 : List Nat := [0, 1, 6, 4, 2, 3]
noncomputable def b77 : Code := match Tryz.f77.body with | some c => c | none => .skip
theorem t77 : trCode ⟨Tryz.prog, K77, [], 11, none⟩ b77 = some c77 := by kernel_rfl
theorem go77 {args : List AV} {H : AHeap} {Kk : AV → AHeap → Prop} (hn : args.length = 2) (h : AGo ⟨Tryz.prog, K77, [], 11, none⟩ H.length [.code c77] (RetP [.t (.g 4)] H.length Kk) ⟨[], argsG 0 args⟩ H) : ACalls Tryz.prog 77 args H Kk :=
  ACalls_of Tryz.func77 (c := b77) rfl (by kernel_rfl) t77 (rs := [.t (.g 4)]) (by kernel_rfl) (by rw [hn]; exact Nat.le_of_ble_eq_true rfl) (by rw [hn]; rfl) (h.weaken (fun _ _ => RetP.hands) (by simp))

/-- (sastrugi/bear.side).near -/
def c87 : ACode :=
  (.seq
(.reg [
.g 4 (.box (.g 0)),
.g 5 (.box (.g 1)),
.g 8 (.mv (.b false))])
(.seq
(.seq
(.reg [
.l 9 (.fa (.g 4) 0),
.g 10 (.ld none (.l 9))])
(.cond (.g 10)
(.seq
(.reg [
.l 11 (.fa (.g 5) 0),
.l 12 (.ld none (.l 11)),
.l 13 (.mv (.g 3)),
.l 14 (.bin .sub (.l 12) (.l 13)),
.l 15 (.mv (.g 2)),
.l 16 (.bin .leq (.l 14) (.l 15)),
.l 17 (.mv (.l 16)),
.lw 18 (.mv (.g 2)) (.l 17) true,
.lw 19 (.fa (.g 5) 1) (.l 17) true,
.lw 20 (.ld none (.l 19)) (.l 17) true,
.lw 21 (.mv (.g 3)) (.l 17) true,
.lw 22 (.bin .add (.l 20) (.l 21)) (.l 17) true,
.lw 23 (.bin .leq (.l 18) (.l 22)) (.l 17) true,
.l 24 (.pick (.l 17) (.l 23) (.b false)),
.g 8 (.mv (.l 24))])
.ret)
.skip))
(.seq
(.reg [
.l 25 (.mv (.g 2)),
.l 26 (.fa (.g 5) 0),
.l 27 (.ld none (.l 26)),
.l 28 (.bin .sub (.l 25) (.l 27)),
.l 29 (.mv (.g 3)),
.l 30 (.bin .leq (.l 28) (.l 29)),
.l 31 (.mv (.l 30)),
.lw 32 (.fa (.g 5) 1) (.l 31) true,
.lw 33 (.ld none (.l 32)) (.l 31) true,
.lw 34 (.mv (.g 2)) (.l 31) true,
.lw 35 (.bin .sub (.l 33) (.l 34)) (.l 31) true,
.lw 36 (.mv (.g 3)) (.l 31) true,
.lw 37 (.bin .leq (.l 35) (.l 36)) (.l 31) true,
.l 38 (.pick (.l 31) (.l 37) (.b false)),
.g 8 (.mv (.l 38))])
.ret)))
def K87 : List Nat := [0, 1, 2, 3, 10, 8, 4, 5]
noncomputable def b87 : Code := match Tryz.f87.body with | some c => c | none => .skip
theorem t87 : trCode ⟨Tryz.prog, K87, [], 39, none⟩ b87 = some c87 := by kernel_rfl
theorem go87 {args : List AV} {H : AHeap} {Kk : AV → AHeap → Prop} (hn : args.length = 4) (h : AGo ⟨Tryz.prog, K87, [], 39, none⟩ H.length [.code c87] (RetP [.t (.g 8)] H.length Kk) ⟨[], argsG 0 args⟩ H) : ACalls Tryz.prog 87 args H Kk :=
  ACalls_of Tryz.func87 (c := b87) rfl (by kernel_rfl) t87 (rs := [.t (.g 8)]) (by kernel_rfl) (by rw [hn]; exact Nat.le_of_ble_eq_true rfl) (by rw [hn]; rfl) (h.weaken (fun _ _ => RetP.hands) (by simp))

/-- (sastrugi/bear.scene).thickness -/
def c78 : ACode :=
  (.seq
(.reg [
.g 2 (.box (.g 0)),
.g 4 (.mv (.i 0))])
(.seq
(.draw [
.l 8 (.fa (.g 2) 0) 0,
.l 9 (.ld (some 1) (.l 8)) 1,
.l 10 (.fa (.g 2) 12) 2,
.l 11 (.ld none (.l 10)) 3,
.l 12 (.mv (.g 1)) 4,
.l 13 (.bin .quo (.l 12) (.i 100)) 5,
.l 14 (.ia 2 (.l 11) (.l 13)) 6,
.l 15 (.ld (some 2) (.l 14)) 7,
.lf 16 (.call (.c (.fn 57 [])) [.l 9, .l 15]) 8,
.g 5 (.mv (.l 16)) 9])
(.seq
(.seq
(.reg [
.l 17 (.fa (.g 2) 13),
.g 18 (.ld none (.l 17)),
.g 19 (.len (.g 18)),
.g 20 (.mv (.i 0))])
(.block 0
(.loop
(.seq
(.reg [
.g 21 (.bin .lss (.g 20) (.g 19))])
(.seq
(.cond (.g 21)
.skip
(.exit 0))
(.seq
(.block 1
(.seq
(.reg [
.l 22 (.ia 2 (.g 18) (.g 20)),
.l 23 (.ld (some 2) (.l 22)),
.g 7 (.new [.int .i64 0, .int .i64 0]),
.n (.st 2 (.g 7) (.l 23))])
(.seq
(.reg [
.l 24 (.fa (.g 2) 0),
.l 25 (.ld (some 1) (.l 24)),
.l 26 (.ld (some 2) (.g 7)),
.l 27 (.mv (.g 1)),
.l 28 (.fa (.g 2) 1),
.l 29 (.fa (.l 28) 4),
.l 30 (.ld none (.l 29)),
.g 31 (.call (.c (.fn 87 [])) [.l 25, .l 26, .l 27, .l 30])])
(.cond (.g 31)
(.seq
(.reg [
.l 32 (.mv (.g 5)),
.l 33 (.fa (.g 2) 1),
.l 34 (.fa (.l 33) 5),
.l 35 (.ld none (.l 34)),
.l 36 (.bin .mul (.l 32) (.l 35)),
.l 37 (.bin .quo (.l 36) (.i 1000000)),
.g 4 (.mv (.l 37))])
.ret)
.skip))))
(.reg [
.l 38 (.bin .add (.g 20) (.i 1)),
.g 20 (.mv (.l 38))])))))))
(.seq
(.reg [
.l 39 (.mv (.g 5)),
.g 4 (.mv (.l 39))])
.ret))))
def K78 : List Nat := [0, 1, 21, 31, 4, 2, 5, 18, 19, 20, 7]
noncomputable def b78 : Code := match Tryz.f78.body with | some c => c | none => .skip
theorem t78 : trCode ⟨Tryz.prog, K78, [], 40, none⟩ b78 = some c78 := by kernel_rfl
theorem go78 {args : List AV} {H : AHeap} {Kk : AV → AHeap → Prop} (hn : args.length = 2) (h : AGo ⟨Tryz.prog, K78, [], 40, none⟩ H.length [.code c78] (RetP [.t (.g 4)] H.length Kk) ⟨[], argsG 0 args⟩ H) : ACalls Tryz.prog 78 args H Kk :=
  ACalls_of Tryz.func78 (c := b78) rfl (by kernel_rfl) t78 (rs := [.t (.g 4)]) (by kernel_rfl) (by rw [hn]; exact Nat.le_of_ble_eq_true rfl) (by rw [hn]; rfl) (h.weaken (fun _ _ => RetP.hands) (by simp))

/-- (sastrugi/bear.scene).enough -/
def c33 : ACode :=
  (.seq
(.reg [
.g 4 (.box (.g 0)),
.g 8 (.mv (.b false))])
(.seq
(.draw [
.l 9 (.mv (.g 1)) 0,
.l 10 (.bin .mul (.l 9) (.i 1000000)) 1,
.l 11 (.fa (.g 4) 0) 2,
.l 12 (.ld (some 1) (.l 11)) 3,
.l 13 (.fa (.g 4) 1) 4,
.l 14 (.fa (.l 13) 0) 5,
.l 15 (.ld (some 2) (.l 14)) 6,
.l 17 (.mv (.g 2)) 8,
.l 19 (.mv (.g 2)) 10,
.l 21 (.fa (.g 4) 1) 12,
.l 22 (.fa (.l 21) 3) 13,
.l 23 (.ld none (.l 22)) 14,
.l 24 (.mv (.g 3)) 15,
.lf 16 (.call (.c (.fn 57 [])) [.l 12, .l 15]) 7,
.l 18 (.bin .mul (.l 16) (.l 17)) 9,
.l 20 (.bin .mul (.l 18) (.l 19)) 11,
.lf 25 (.call (.c (.fn 32 [])) [.l 23, .l 24]) 16,
.l 26 (.bin .mul (.l 20) (.l 25)) 17,
.l 27 (.bin .leq (.l 10) (.l 26)) 18,
.g 8 (.mv (.l 27)) 19])
.ret))
def K33 : List Nat := [0, 1, 2, 3, 8, 4]
noncomputable def b33 : Code := match Tryz.f33.body with | some c => c | none => .skip
theorem t33 : trCode ⟨Tryz.prog, K33, [], 28, none⟩ b33 = some c33 := by kernel_rfl
theorem go33 {args : List AV} {H : AHeap} {Kk : AV → AHeap → Prop} (hn : args.length = 4) (h : AGo ⟨Tryz.prog, K33, [], 28, none⟩ H.length [.code c33] (RetP [.t (.g 8)] H.length Kk) ⟨[], argsG 0 args⟩ H) : ACalls Tryz.prog 33 args H Kk :=
  ACalls_of Tryz.func33 (c := b33) rfl (by kernel_rfl) t33 (rs := [.t (.g 8)]) (by kernel_rfl) (by rw [hn]; exact Nat.le_of_ble_eq_true rfl) (by rw [hn]; rfl) (h.weaken (fun _ _ => RetP.hands) (by simp))

/-- (sastrugi/bear.scene).bears -/
def c63 : ACode :=
  (.seq
(.reg [
.g 3 (.box (.g 0)),
.g 6 (.mv (.b false))])
(.seq
(.reg [
.g 7 (.mv (.i 0))])
(.seq
(.seq
(.reg [
.g 10 (.mv (.g 1)),
.g 11 (.len (.g 10)),
.g 12 (.mv (.i 0))])
(.block 0
(.loop
(.seq
(.reg [
.g 13 (.bin .lss (.g 12) (.g 11))])
(.seq
(.cond (.g 13)
.skip
(.exit 0))
(.seq
(.block 1
(.seq
(.reg [
.l 14 (.ia 4 (.g 10) (.g 12)),
.l 15 (.ld (some 4) (.l 14)),
.g 9 (.new [.int .i64 0, .int .i64 0, .int .i64 0, .int .i64 0]),
.n (.st 4 (.g 9) (.l 15))])
(.draw [
.l 16 (.mv (.g 7)) 0,
.l 17 (.fa (.g 3) 0) 1,
.l 18 (.ld (some 1) (.l 17)) 2,
.l 19 (.fa (.g 9) 1) 3,
.l 20 (.ld (some 2) (.l 19)) 4,
.l 22 (.fa (.g 3) 1) 6,
.l 23 (.fa (.l 22) 2) 7,
.l 24 (.ld none (.l 23)) 8,
.l 25 (.mv (.g 1)) 9,
.l 26 (.mv (.g 2)) 10,
.l 27 (.ia 4 (.l 25) (.l 26)) 11,
.l 28 (.fa (.l 27) 0) 12,
.l 29 (.ld none (.l 28)) 13,
.l 30 (.fa (.g 9) 0) 14,
.l 31 (.ld none (.l 30)) 15,
.l 32 (.bin .sub (.l 29) (.l 31)) 16,
.l 33 (.fa (.g 9) 0) 17,
.l 34 (.ld none (.l 33)) 18,
.l 35 (.mv (.g 1)) 19,
.l 36 (.mv (.g 2)) 20,
.l 37 (.ia 4 (.l 35) (.l 36)) 21,
.l 38 (.fa (.l 37) 0) 22,
.l 39 (.ld none (.l 38)) 23,
.l 40 (.bin .sub (.l 34) (.l 39)) 24,
.l 41 (.mx [.l 32, .l 40]) 25,
.lf 21 (.call (.c (.fn 77 [])) [.l 18, .l 20]) 5,
.lf 42 (.call (.c (.fn 32 [])) [.l 24, .l 41]) 26,
.l 43 (.bin .mul (.l 21) (.l 42)) 27,
.l 44 (.bin .add (.l 16) (.l 43)) 28,
.g 7 (.mv (.l 44)) 29])))
(.reg [
.l 45 (.bin .add (.g 12) (.i 1)),
.g 12 (.mv (.l 45))])))))))
(.seq
(.draw [
.l 46 (.ld (some 14) (.g 3)) 0,
.l 47 (.mv (.g 7)) 1,
.l 48 (.ld (some 14) (.g 3)) 2,
.l 49 (.mv (.g 1)) 3,
.l 50 (.mv (.g 2)) 4,
.l 51 (.ia 4 (.l 49) (.l 50)) 5,
.l 52 (.fa (.l 51) 0) 6,
.l 53 (.ld none (.l 52)) 7,
.l 55 (.mv (.g 1)) 9,
.l 56 (.mv (.g 2)) 10,
.l 57 (.ia 4 (.l 55) (.l 56)) 11,
.l 58 (.fa (.l 57) 3) 12,
.l 59 (.ld none (.l 58)) 13,
.lf 54 (.call (.c (.fn 78 [])) [.l 48, .l 53]) 8,
.lf 60 (.call (.c (.fn 33 [])) [.l 46, .l 47, .l 54, .l 59]) 14,
.g 6 (.mv (.l 60)) 15])
.ret))))
def K63 : List Nat := [0, 1, 2, 13, 6, 3, 7, 10, 11, 12, 9]
noncomputable def b63 : Code := match Tryz.f63.body with | some c => c | none => .skip
theorem t63 : trCode ⟨Tryz.prog, K63, [], 61, none⟩ b63 = some c63 := by kernel_rfl
theorem go63 {args : List AV} {H : AHeap} {Kk : AV → AHeap → Prop} (hn : args.length = 3) (h : AGo ⟨Tryz.prog, K63, [], 61, none⟩ H.length [.code c63] (RetP [.t (.g 6)] H.length Kk) ⟨[], argsG 0 args⟩ H) : ACalls Tryz.prog 63 args H Kk :=
  ACalls_of Tryz.func63 (c := b63) rfl (by kernel_rfl) t63 (rs := [.t (.g 6)]) (by kernel_rfl) (by rw [hn]; exact Nat.le_of_ble_eq_true rfl) (by rw [hn]; rfl) (h.weaken (fun _ _ => RetP.hands) (by simp))

/-- sastrugi/bear.verdict -/
def c40 : ACode :=
  (.seq
(.reg [
.g 5 (.box (.g 0)),
.g 10 (.mv (.i 0))])
(.seq
(.block 0
(.seq
(.reg [
.l 12 (.mk [.bool false] [(0, 1, .b true)]),
.l 13 (.ld (some 11) (.g 5)),
.l 14 (.mv (.g 1)),
.l 15 (.mv (.g 2)),
.l 16 (.mk [.bool false, .int .i64 0, .int .i64 0, .slice none 0 0, .slice none 0 0, .int .i64 0, .int .i64 0, .int .i64 0, .int .i64 0, .int .i64 0, .int .i64 0, .int .i64 0, .slice none 0 0, .slice none 0 0] [(0, 1, .l 12), (1, 11, .l 13), (12, 1, .l 14), (13, 1, .l 15)]),
.l 17 (.mv (.g 3)),
.l 18 (.mv (.g 4)),
.l 19 (.call (.c (.fn 63 [])) [.l 16, .l 17, .l 18]),
.g 11 (.mv (.l 19))])
(.cond (.g 11)
(.seq
(.reg [
.g 10 (.mv (.i 1))])
.ret)
(.seq
(.reg [
.l 21 (.mk [.bool false] [(0, 1, .b false)]),
.l 22 (.ld (some 11) (.g 5)),
.l 23 (.mv (.g 1)),
.l 24 (.mv (.g 2)),
.l 25 (.mk [.bool false, .int .i64 0, .int .i64 0, .slice none 0 0, .slice none 0 0, .int .i64 0, .int .i64 0, .int .i64 0, .int .i64 0, .int .i64 0, .int .i64 0, .int .i64 0, .slice none 0 0, .slice none 0 0] [(0, 1, .l 21), (1, 11, .l 22), (12, 1, .l 23), (13, 1, .l 24)]),
.l 26 (.mv (.g 3)),
.l 27 (.mv (.g 4)),
.l 28 (.call (.c (.fn 63 [])) [.l 25, .l 26, .l 27]),
.l 29 (.un .not (.l 28)),
.g 20 (.mv (.l 29))])
(.cond (.g 20)
(.seq
(.reg [
.g 10 (.mv (.i 2))])
.ret)
.skip)))))
(.seq
(.reg [
.g 10 (.mv (.i 3))])
.ret)))
def K40 : List Nat := [0, 1, 2, 3, 4, 11, 20, 10, 5]
noncomputable def b40 : Code := match Tryz.f40.body with | some c => c | none => .skip
theorem t40 : trCode ⟨Tryz.prog, K40, [], 30, none⟩ b40 = some c40 := by kernel_rfl
theorem go40 {args : List AV} {H : AHeap} {Kk : AV → AHeap → Prop} (hn : args.length = 5) (h : AGo ⟨Tryz.prog, K40, [], 30, none⟩ H.length [.code c40] (RetP [.t (.g 10)] H.length Kk) ⟨[], argsG 0 args⟩ H) : ACalls Tryz.prog 40 args H Kk :=
  ACalls_of Tryz.func40 (c := b40) rfl (by kernel_rfl) t40 (rs := [.t (.g 10)]) (by kernel_rfl) (by rw [hn]; exact Nat.le_of_ble_eq_true rfl) (by rw [hn]; rfl) (h.weaken (fun _ _ => RetP.hands) (by simp))

/-- sastrugi/bear.Holds -/
def c17 : ACode :=
  (.seq
(.reg [
.g 4 (.box (.g 0)),
.g 8 (.mv (.c (.lit (.slice none 0 0)))),
.g 9 (.mv (.i 0))])
(.seq
(.seq
(.reg [
.l 14 (.ld (some 11) (.g 4)),
.l 15 (.mv (.g 1)),
.l 16 (.mv (.g 2)),
.l 17 (.call (.c (.fn 38 [])) [.l 14, .l 15, .l 16]),
.g 10 (.mv (.l 17))])
(.seq
(.reg [
.l 18 (.mv (.g 10)),
.g 19 (.bin .neq (.l 18) (.i 0))])
(.cond (.g 19)
(.seq
(.reg [
.l 20 (.mv (.g 10)),
.g 8 (.mv (.c (.lit (.slice none 0 0)))),
.g 9 (.mv (.l 20))])
.ret)
.skip)))
(.seq
(.seq
(.reg [
.l 21 (.mv (.g 3)),
.l 22 (.mv (.g 1)),
.l 23 (.len (.l 22)),
.l 24 (.call (.c (.fn 39 [])) [.l 21, .l 23]),
.g 11 (.mv (.l 24))])
(.seq
(.reg [
.l 25 (.mv (.g 11)),
.g 26 (.bin .neq (.l 25) (.i 0))])
(.cond (.g 26)
(.seq
(.reg [
.l 27 (.mv (.g 11)),
.g 8 (.mv (.c (.lit (.slice none 0 0)))),
.g 9 (.mv (.l 27))])
.ret)
.skip)))
(.seq
(.reg [
.g 12 (.mv (.c (.lit (.slice none 0 0))))])
(.seq
(.seq
(.reg [
.l 28 (.mv (.g 3)),
.g 29 (.len (.l 28)),
.g 30 (.mv (.i 0))])
(.block 0
(.loop
(.seq
(.reg [
.g 31 (.bin .lss (.g 30) (.g 29))])
(.seq
(.cond (.g 31)
.skip
(.exit 0))
(.seq
(.block 1
(.seq
(.reg [
.l 32 (.mv (.g 30)),
.g 13 (.mv (.l 32))])
(.reg [
.l 33 (.mv (.g 12)),
.l 34 (.ld (some 11) (.g 4)),
.l 35 (.mv (.g 1)),
.l 36 (.mv (.g 2)),
.l 37 (.mv (.g 3)),
.l 38 (.mv (.g 13)),
.l 39 (.call (.c (.fn 40 [])) [.l 34, .l 35, .l 36, .l 37, .l 38]),
.l 40 (.mks false 1 [.l 39]),
.l 41 (.app 1 8 (.l 33) (.l 40)),
.g 12 (.mv (.l 41))])))
(.reg [
.l 42 (.bin .add (.g 30) (.i 1)),
.g 30 (.mv (.l 42))])))))))
(.seq
(.reg [
.l 43 (.mv (.g 12)),
.g 8 (.mv (.l 43)),
.g 9 (.mv (.i 0))])
.ret))))))
def K17 : List Nat := [0, 1, 2, 3, 19, 26, 31, 8, 9, 4, 10, 11, 12, 29, 30, 13]
noncomputable def b17 : Code := match Tryz.f17.body with | some c => c | none => .skip
theorem t17 : trCode ⟨Tryz.prog, K17, [], 44, none⟩ b17 = some c17 := by kernel_rfl
theorem go17 {args : List AV} {H : AHeap} {Kk : AV → AHeap → Prop} (hn : args.length = 4) (h : AGo ⟨Tryz.prog, K17, [], 44, none⟩ H.length [.code c17] (RetP [.t (.g 8), .t (.g 9)] H.length Kk) ⟨[], argsG 0 args⟩ H) : ACalls Tryz.prog 17 args H Kk :=
  ACalls_of Tryz.func17 (c := b17) rfl (by kernel_rfl) t17 (rs := [.t (.g 8), .t (.g 9)]) (by kernel_rfl) (by rw [hn]; exact Nat.le_of_ble_eq_true rfl) (by rw [hn]; rfl) (h.weaken (fun _ _ => RetP.hands) (by simp))

/-- sastrugi/bear.alone -/
def c74 : ACode :=
  (.seq
(.reg [
.g 3 (.box (.g 0)),
.g 6 (.mv (.i 0))])
(.seq
(.draw [
.l 7 (.fa (.g 3) 0) 0,
.l 8 (.fa (.l 7) 0) 1,
.l 9 (.ld none (.l 8)) 2,
.l 10 (.mv (.g 1)) 3,
.l 11 (.bin .mul (.l 9) (.l 10)) 4,
.l 12 (.mv (.g 1)) 5,
.l 13 (.bin .mul (.l 11) (.l 12)) 6,
.l 14 (.fa (.g 3) 3) 7,
.l 15 (.ld none (.l 14)) 8,
.l 16 (.mv (.g 2)) 9,
.lf 17 (.call (.c (.fn 32 [])) [.l 15, .l 16]) 10,
.l 18 (.bin .mul (.l 13) (.l 17)) 11,
.l 19 (.bin .quo (.l 18) (.i 1000000000000)) 12,
.g 6 (.mv (.l 19)) 13])
.ret))
def K74 : List Nat := [0, 1, 2, 6, 3]
noncomputable def b74 : Code := match Tryz.f74.body with | some c => c | none => .skip
theorem t74 : trCode ⟨Tryz.prog, K74, [], 20, none⟩ b74 = some c74 := by kernel_rfl
theorem go74 {args : List AV} {H : AHeap} {Kk : AV → AHeap → Prop} (hn : args.length = 3) (h : AGo ⟨Tryz.prog, K74, [], 20, none⟩ H.length [.code c74] (RetP [.t (.g 6)] H.length Kk) ⟨[], argsG 0 args⟩ H) : ACalls Tryz.prog 74 args H Kk :=
  ACalls_of Tryz.func74 (c := b74) rfl (by kernel_rfl) t74 (rs := [.t (.g 6)]) (by kernel_rfl) (by rw [hn]; exact Nat.le_of_ble_eq_true rfl) (by rw [hn]; rfl) (h.weaken (fun _ _ => RetP.hands) (by simp))

/-- sastrugi/bear.Bears -/
def c59 : ACode :=
  (.seq
(.reg [
.g 3 (.box (.g 0)),
.g 6 (.mv (.i 0)),
.g 7 (.mv (.i 0))])
(.seq
(.seq
(.reg [
.l 9 (.ld (some 11) (.g 3)),
.l 10 (.call (.c (.fn 27 [])) [.l 9]),
.g 8 (.mv (.l 10))])
(.seq
(.reg [
.l 11 (.mv (.g 8)),
.g 12 (.bin .neq (.l 11) (.i 0))])
(.cond (.g 12)
(.seq
(.reg [
.l 13 (.mv (.g 8)),
.g 6 (.mv (.i 0)),
.g 7 (.mv (.l 13))])
.ret)
.skip)))
(.seq
(.seq
(.reg [
.l 14 (.mv (.g 1)),
.l 15 (.call (.c (.fn 28 [])) [.l 14, .i 0, .i 5000]),
.l 16 (.un .not (.l 15)),
.l 17 (.mv (.l 16)),
.lw 18 (.mv (.g 2)) (.l 17) false,
.lw 19 (.call (.c (.fn 28 [])) [.l 18, .i 0, .i 10000]) (.l 17) false,
.lw 20 (.un .not (.l 19)) (.l 17) false,
.g 21 (.pick (.l 17) (.b true) (.l 20))])
(.cond (.g 21)
(.seq
(.reg [
.g 6 (.mv (.i 0)),
.g 7 (.mv (.i 2))])
.ret)
.skip))
(.seq
(.reg [
.l 22 (.ld (some 11) (.g 3)),
.l 23 (.mv (.g 1)),
.l 24 (.mv (.g 2)),
.l 25 (.call (.c (.fn 74 [])) [.l 22, .l 23, .l 24]),
.g 6 (.mv (.l 25)),
.g 7 (.mv (.i 0))])
.ret))))
def K59 : List Nat := [0, 1, 2, 12, 21, 6, 7, 3, 8]
noncomputable def b59 : Code := match Tryz.f59.body with | some c => c | none => .skip
theorem t59 : trCode ⟨Tryz.prog, K59, [], 26, none⟩ b59 = some c59 := by kernel_rfl
theorem go59 {args : List AV} {H : AHeap} {Kk : AV → AHeap → Prop} (hn : args.length = 3) (h : AGo ⟨Tryz.prog, K59, [], 26, none⟩ H.length [.code c59] (RetP [.t (.g 6), .t (.g 7)] H.length Kk) ⟨[], argsG 0 args⟩ H) : ACalls Tryz.prog 59 args H Kk :=
  ACalls_of Tryz.func59 (c := b59) rfl (by kernel_rfl) t59 (rs := [.t (.g 6), .t (.g 7)]) (by kernel_rfl) (by rw [hn]; exact Nat.le_of_ble_eq_true rfl) (by rw [hn]; rfl) (h.weaken (fun _ _ => RetP.hands) (by simp))

/-- sastrugi/bear.Gap -/
def c11 : ACode :=
  (.seq
(.reg [
.g 3 (.box (.g 0)),
.g 4 (.box (.g 1)),
.g 5 (.box (.g 2)),
.g 6 (.mv (.i 0)),
.g 7 (.mv (.i 0))])
(.seq
(.seq
(.reg [
.l 12 (.ld (some 11) (.g 3)),
.l 13 (.call (.c (.fn 27 [])) [.l 12]),
.g 8 (.mv (.l 13))])
(.seq
(.reg [
.l 14 (.mv (.g 8)),
.g 15 (.bin .neq (.l 14) (.i 0))])
(.cond (.g 15)
(.seq
(.reg [
.l 16 (.mv (.g 8)),
.g 6 (.mv (.i 0)),
.g 7 (.mv (.l 16))])
.ret)
.skip)))
(.seq
(.seq
(.reg [
.l 17 (.ld none (.g 4)),
.l 18 (.call (.c (.fn 28 [])) [.l 17, .i 0, .i 5000]),
.g 19 (.un .not (.l 18))])
(.cond (.g 19)
(.seq
(.reg [
.g 6 (.mv (.i 0)),
.g 7 (.mv (.i 2))])
.ret)
.skip))
(.seq
(.seq
(.reg [
.l 20 (.ld none (.g 5)),
.l 21 (.call (.c (.fn 29 [])) [.l 20, .i 30, .i 200000]),
.g 9 (.mv (.l 21))])
(.seq
(.reg [
.l 22 (.mv (.g 9)),
.g 23 (.bin .neq (.l 22) (.i 0))])
(.cond (.g 23)
(.seq
(.reg [
.l 24 (.mv (.g 9)),
.g 6 (.mv (.i 0)),
.g 7 (.mv (.l 24))])
.ret)
.skip)))
(.seq
(.reg [
.l 25 (.mk [.bool false] [(0, 1, .b true)]),
.l 26 (.ld (some 11) (.g 3)),
.l 27 (.mk [.bool false, .int .i64 0, .int .i64 0, .slice none 0 0, .slice none 0 0, .int .i64 0, .int .i64 0, .int .i64 0, .int .i64 0, .int .i64 0, .int .i64 0, .int .i64 0, .slice none 0 0, .slice none 0 0] [(0, 1, .l 25), (1, 11, .l 26)]),
.g 10 (.new [.bool false, .int .i64 0, .int .i64 0, .slice none 0 0, .slice none 0 0, .int .i64 0, .int .i64 0, .int .i64 0, .int .i64 0, .int .i64 0, .int .i64 0, .int .i64 0, .slice none 0 0, .slice none 0 0]),
.n (.st 14 (.g 10) (.l 27))])
(.seq
(.reg [
.l 28 (.mkf 31 [.g 5, .g 3, .g 10, .g 4]),
.l 29 (.call (.c (.fn 30 [])) [.i 10001, .l 28]),
.g 11 (.mv (.l 29))])
(.seq
(.seq
(.reg [
.l 30 (.mv (.g 11)),
.g 31 (.bin .gtr (.l 30) (.i 10000))])
(.cond (.g 31)
(.seq
(.reg [
.g 6 (.mv (.i (-1))),
.g 7 (.mv (.i 0))])
.ret)
.skip))
(.seq
(.reg [
.l 32 (.mv (.g 11)),
.g 6 (.mv (.l 32)),
.g 7 (.mv (.i 0))])
.ret))))))))
def K11 : List Nat := [0, 1, 2, 15, 19, 23, 31, 6, 7, 3, 4, 5, 8, 9, 10, 11]
noncomputable def b11 : Code := match Tryz.f11.body with | some c => c | none => .skip
theorem t11 : trCode ⟨Tryz.prog, K11, [], 33, none⟩ b11 = some c11 := by kernel_rfl
theorem go11 {args : List AV} {H : AHeap} {Kk : AV → AHeap → Prop} (hn : args.length = 3) (h : AGo ⟨Tryz.prog, K11, [], 33, none⟩ H.length [.code c11] (RetP [.t (.g 6), .t (.g 7)] H.length Kk) ⟨[], argsG 0 args⟩ H) : ACalls Tryz.prog 11 args H Kk :=
  ACalls_of Tryz.func11 (c := b11) rfl (by kernel_rfl) t11 (rs := [.t (.g 6), .t (.g 7)]) (by kernel_rfl) (by rw [hn]; exact Nat.le_of_ble_eq_true rfl) (by rw [hn]; rfl) (h.weaken (fun _ _ => RetP.hands) (by simp))

/-- sastrugi/bear.Gap$1 -/
def c31 : ACode :=
  (.seq
(.reg [
.g 6 (.mv (.b false))])
(.seq
(.seq
(.reg [
.l 11 (.ld none (.g 1)),
.g 12 (.len (.l 11)),
.g 13 (.mv (.i 0))])
(.block 0
(.loop
(.seq
(.reg [
.g 14 (.bin .lss (.g 13) (.g 12))])
(.seq
(.cond (.g 14)
.skip
(.exit 0))
(.seq
(.block 1
(.seq
(.reg [
.l 15 (.mv (.g 13)),
.g 7 (.mv (.l 15))])
(.seq
(.reg [
.g 8 (.mv (.i 0))])
(.seq
(.seq
(.reg [
.g 16 (.ld none (.g 1)),
.g 17 (.len (.g 16)),
.g 18 (.mv (.i 0))])
(.block 2
(.loop
(.seq
(.reg [
.g 19 (.bin .lss (.g 18) (.g 17))])
(.seq
(.cond (.g 19)
.skip
(.exit 2))
(.seq
(.block 3
(.seq
(.reg [
.l 20 (.mv (.g 18)),
.l 21 (.ia 2 (.g 16) (.g 18)),
.l 22 (.ld (some 2) (.l 21)),
.g 10 (.new [.int .i64 0, .int .i64 0]),
.g 9 (.mv (.l 20)),
.n (.st 2 (.g 10) (.l 22))])
(.draw [
.l 23 (.mv (.g 8)) 0,
.l 24 (.fa (.g 10) 1) 1,
.l 25 (.ld none (.l 24)) 2,
.l 26 (.fa (.g 2) 2) 3,
.l 27 (.ld none (.l 26)) 4,
.l 28 (.mv (.g 0)) 5,
.l 29 (.mv (.g 7)) 6,
.l 30 (.mv (.g 9)) 7,
.l 31 (.bin .sub (.l 29) (.l 30)) 8,
.l 32 (.mv (.g 9)) 9,
.l 33 (.mv (.g 7)) 10,
.l 34 (.bin .sub (.l 32) (.l 33)) 11,
.l 35 (.mx [.l 31, .l 34]) 12,
.l 36 (.bin .mul (.l 28) (.l 35)) 13,
.lf 37 (.call (.c (.fn 32 [])) [.l 27, .l 36]) 14,
.l 38 (.bin .mul (.l 25) (.l 37)) 15,
.l 39 (.bin .add (.l 23) (.l 38)) 16,
.g 8 (.mv (.l 39)) 17])))
(.reg [
.l 40 (.bin .add (.g 18) (.i 1)),
.g 18 (.mv (.l 40))])))))))
(.seq
(.reg [
.l 41 (.ld (some 14) (.g 3)),
.l 42 (.mv (.g 8)),
.l 43 (.ld none (.g 4)),
.l 44 (.call (.c (.fn 33 [])) [.l 41, .l 42, .l 43, .i 0]),
.g 45 (.un .not (.l 44))])
(.cond (.g 45)
(.seq
(.reg [
.g 6 (.mv (.b false))])
.ret)
.skip))))))
(.reg [
.l 46 (.bin .add (.g 13) (.i 1)),
.g 13 (.mv (.l 46))])))))))
(.seq
(.reg [
.g 6 (.mv (.b true))])
.ret)))
def K31 : List Nat := [0, 1, 2, 3, 4, 14, 19, 45, 6, 12, 13, 7, 8, 16, 17, 18, 10, 9]
noncomputable def b31 : Code := match Tryz.f31.body with | some c => c | none => .skip
theorem t31 : trCode ⟨Tryz.prog, K31, [], 47, none⟩ b31 = some c31 := by kernel_rfl
theorem go31 {args : List AV} {H : AHeap} {Kk : AV → AHeap → Prop} (hn : args.length = 5) (h : AGo ⟨Tryz.prog, K31, [], 47, none⟩ H.length [.code c31] (RetP [.t (.g 6)] H.length Kk) ⟨[], argsG 0 args⟩ H) : ACalls Tryz.prog 31 args H Kk :=
  ACalls_of Tryz.func31 (c := b31) rfl (by kernel_rfl) t31 (rs := [.t (.g 6)]) (by kernel_rfl) (by rw [hn]; exact Nat.le_of_ble_eq_true rfl) (by rw [hn]; rfl) (h.weaken (fun _ _ => RetP.hands) (by simp))

end Go.Sas
