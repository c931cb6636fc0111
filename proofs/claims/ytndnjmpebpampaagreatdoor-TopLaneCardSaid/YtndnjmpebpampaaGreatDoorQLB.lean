/-
The code of some functions with its types resolved, printed by a program; that it is the code is checked by the kernel.
Conditions: none.
-/
import Derived.Test.YtndnjmpebpampaaGreatDoorP4
import Derived.Test.YtndnjmpebpampaaGreatDoorProg
set_option linter.unusedVariables false
set_option linter.unusedSimpArgs false
namespace Go.Sas
open Go.Proofs
set_option maxRecDepth 100000
/-- sastrugi/convoy.Check -/
def c25 : ACode :=
  (.seq
(.reg [
.g 1 (.box (.g 0)),
.g 2 (.mv (.i 0))])
(.seq
(.block 0
(.seq
(.reg [
.l 7 (.fa (.g 1) 0),
.l 8 (.ld none (.l 7)),
.l 9 (.call (.c (.fn 48 [])) [.l 8, .i 1, .i 100000]),
.l 10 (.un .not (.l 9)),
.l 11 (.mv (.l 10)),
.lw 12 (.fa (.g 1) 1) (.l 11) false,
.lw 13 (.ld none (.l 12)) (.l 11) false,
.lw 14 (.call (.c (.fn 48 [])) [.l 13, .i 1, .i 100000]) (.l 11) false,
.lw 15 (.un .not (.l 14)) (.l 11) false,
.l 16 (.pick (.l 11) (.b true) (.l 15)),
.l 17 (.mv (.l 16)),
.lw 18 (.fa (.g 1) 2) (.l 17) false,
.lw 19 (.ld none (.l 18)) (.l 17) false,
.lw 20 (.call (.c (.fn 48 [])) [.l 19, .i 0, .i 20]) (.l 17) false,
.lw 21 (.un .not (.l 20)) (.l 17) false,
.l 22 (.pick (.l 17) (.b true) (.l 21)),
.g 6 (.mv (.l 22))])
(.cond (.g 6)
(.seq
(.reg [
.g 2 (.mv (.i 2))])
.ret)
(.seq
(.reg [
.l 24 (.fa (.g 1) 3),
.l 25 (.ld none (.l 24)),
.l 26 (.len (.l 25)),
.l 27 (.bin .gtr (.l 26) (.i 20)),
.g 23 (.mv (.l 27))])
(.cond (.g 23)
(.seq
(.reg [
.g 2 (.mv (.i 8))])
.ret)
.skip)))))
(.seq
(.seq
(.reg [
.l 28 (.fa (.g 1) 3),
.g 29 (.ld none (.l 28)),
.g 30 (.len (.g 29)),
.g 31 (.mv (.i 0))])
(.block 1
(.loop
(.seq
(.reg [
.g 32 (.bin .lss (.g 31) (.g 30))])
(.seq
(.cond (.g 32)
.skip
(.exit 1))
(.seq
(.block 2
(.seq
(.reg [
.l 33 (.ia 5 (.g 29) (.g 31)),
.l 34 (.ld (some 5) (.l 33)),
.g 4 (.new [.int .i64 0, .int .i64 0, .int .i64 0, .int .i64 0, .slice none 0 0]),
.n (.st 5 (.g 4) (.l 34))])
(.seq
(.reg [
.l 35 (.ld (some 4) (.g 1)),
.l 36 (.ld (some 5) (.g 4)),
.l 37 (.call (.c (.fn 49 [])) [.l 35, .l 36]),
.g 5 (.mv (.l 37))])
(.seq
(.reg [
.l 38 (.mv (.g 5)),
.g 39 (.bin .neq (.l 38) (.i 0))])
(.cond (.g 39)
(.seq
(.reg [
.l 40 (.mv (.g 5)),
.g 2 (.mv (.l 40))])
.ret)
.skip)))))
(.reg [
.l 41 (.bin .add (.g 31) (.i 1)),
.g 31 (.mv (.l 41))])))))))
(.seq
(.reg [
.g 2 (.mv (.i 0))])
.ret))))
def K25 : List Nat := [0, 6, 23, 32, 39, 2, 1, 29, 30, 31, 4, 5]
noncomputable def b25 : Code := match Tryz.f25.body with | some c => c | none => .skip
theorem t25 : trCode ⟨Tryz.prog, K25, [], 42, none⟩ b25 = some c25 := by kernel_rfl
theorem go25 {args : List AV} {H : AHeap} {Kk : AV → AHeap → Prop} (hn : args.length = 1) (h : AGo ⟨Tryz.prog, K25, [], 42, none⟩ H.length [.code c25] (RetP [.t (.g 2)] H.length Kk) ⟨[], argsG 0 args⟩ H) : ACalls Tryz.prog 25 args H Kk :=
  ACalls_of Tryz.func25 (c := b25) rfl (by kernel_rfl) t25 (rs := [.t (.g 2)]) (by kernel_rfl) (by rw [hn]; exact Nat.le_of_ble_eq_true rfl) (by rw [hn]; rfl) (h.weaken (fun _ _ => RetP.hands) (by simp))
/-- sastrugi/convoy.checkTruck -/
def c49 : ACode :=
  (.seq
(.reg [
.g 2 (.box (.g 0)),
.g 3 (.box (.g 1)),
.g 4 (.mv (.i 0))])
(.seq
(.block 0
(.seq
(.reg [
.l 9 (.fa (.g 3) 0),
.l 10 (.ld none (.l 9)),
.l 11 (.call (.c (.fn 48 [])) [.l 10, .i 1, .i 2]),
.l 12 (.un .not (.l 11)),
.g 8 (.mv (.l 12))])
(.cond (.g 8)
(.seq
(.reg [
.g 4 (.mv (.i 4))])
.ret)
(.seq
(.reg [
.l 14 (.fa (.g 3) 1),
.l 15 (.ld none (.l 14)),
.l 16 (.call (.c (.fn 48 [])) [.l 15, .i 0, .i 10000]),
.l 17 (.un .not (.l 16)),
.l 18 (.mv (.l 17)),
.lw 19 (.fa (.g 3) 2) (.l 18) false,
.lw 20 (.fa (.l 19) 0) (.l 18) false,
.lw 21 (.ld none (.l 20)) (.l 18) false,
.lw 22 (.call (.c (.fn 48 [])) [.l 21, .i 1, .i 1000]) (.l 18) false,
.lw 23 (.un .not (.l 22)) (.l 18) false,
.l 24 (.pick (.l 18) (.b true) (.l 23)),
.l 25 (.mv (.l 24)),
.lw 26 (.fa (.g 3) 2) (.l 25) false,
.lw 27 (.fa (.l 26) 1) (.l 25) false,
.lw 28 (.ld none (.l 27)) (.l 25) false,
.lw 29 (.call (.c (.fn 48 [])) [.l 28, .i 1, .i 1000]) (.l 25) false,
.lw 30 (.un .not (.l 29)) (.l 25) false,
.l 31 (.pick (.l 25) (.b true) (.l 30)),
.g 13 (.mv (.l 31))])
(.cond (.g 13)
(.seq
(.reg [
.g 4 (.mv (.i 2))])
.ret)
(.seq
(.reg [
.l 33 (.fa (.g 3) 2),
.l 34 (.fa (.l 33) 0),
.l 35 (.ld none (.l 34)),
.l 36 (.fa (.g 3) 2),
.l 37 (.fa (.l 36) 1),
.l 38 (.ld none (.l 37)),
.l 39 (.bin .gtr (.l 35) (.l 38)),
.g 32 (.mv (.l 39))])
(.cond (.g 32)
(.seq
(.reg [
.g 4 (.mv (.i 11))])
.ret)
(.seq
(.reg [
.l 41 (.fa (.g 2) 0),
.l 42 (.ld none (.l 41)),
.l 43 (.fa (.g 3) 2),
.l 44 (.fa (.l 43) 0),
.l 45 (.ld none (.l 44)),
.l 46 (.bin .mul (.i 1000) (.l 45)),
.l 47 (.bin .gtr (.l 42) (.l 46)),
.g 40 (.mv (.l 47))])
(.cond (.g 40)
(.seq
(.reg [
.g 4 (.mv (.i 13))])
.ret)
(.seq
(.reg [
.l 49 (.fa (.g 2) 1),
.l 50 (.ld none (.l 49)),
.l 51 (.fa (.g 3) 2),
.l 52 (.fa (.l 51) 1),
.l 53 (.ld none (.l 52)),
.l 54 (.bin .mul (.i 2) (.l 53)),
.l 55 (.bin .lss (.l 50) (.l 54)),
.g 48 (.mv (.l 55))])
(.cond (.g 48)
(.seq
(.reg [
.g 4 (.mv (.i 12))])
.ret)
(.seq
(.reg [
.l 57 (.fa (.g 3) 4),
.l 58 (.ld none (.l 57)),
.l 59 (.len (.l 58)),
.l 60 (.bin .gtr (.l 59) (.i 8)),
.g 56 (.mv (.l 60))])
(.cond (.g 56)
(.seq
(.reg [
.g 4 (.mv (.i 8))])
.ret)
.skip)))))))))))))
(.seq
(.reg [
.l 61 (.ld (some 5) (.g 3)),
.l 62 (.fa (.g 2) 0),
.l 63 (.ld none (.l 62)),
.l 64 (.mk [.int .i64 0, .int .i64 0, .int .i64 0, .int .i64 0, .slice none 0 0, .int .i64 0] [(0, 5, .l 61), (5, 1, .l 63)]),
.g 5 (.new [.int .i64 0, .int .i64 0, .int .i64 0, .int .i64 0, .slice none 0 0, .int .i64 0]),
.n (.st 6 (.g 5) (.l 64))])
(.seq
(.seq
(.reg [
.l 65 (.fa (.g 3) 4),
.g 66 (.ld none (.l 65)),
.g 67 (.len (.g 66)),
.g 68 (.mv (.i 0))])
(.block 1
(.loop
(.seq
(.reg [
.g 69 (.bin .lss (.g 68) (.g 67))])
(.seq
(.cond (.g 69)
.skip
(.exit 1))
(.seq
(.block 2
(.seq
(.reg [
.l 70 (.mv (.g 68)),
.l 71 (.ia 2 (.g 66) (.g 68)),
.l 72 (.ld (some 2) (.l 71)),
.g 7 (.new [.int .i64 0, .int .i64 0]),
.g 6 (.mv (.l 70)),
.n (.st 2 (.g 7) (.l 72))])
(.block 3
(.seq
(.reg [
.l 74 (.fa (.g 7) 0),
.l 75 (.ld none (.l 74)),
.l 76 (.fa (.g 2) 0),
.l 77 (.ld none (.l 76)),
.l 78 (.bin .sub (.l 77) (.i 1)),
.l 79 (.call (.c (.fn 48 [])) [.l 75, .i 1, .l 78]),
.l 80 (.un .not (.l 79)),
.l 81 (.mv (.l 80)),
.lw 82 (.fa (.g 7) 1) (.l 81) false,
.lw 83 (.ld none (.l 82)) (.l 81) false,
.lw 84 (.call (.c (.fn 48 [])) [.l 83, .i 0, .i 10000]) (.l 81) false,
.lw 85 (.un .not (.l 84)) (.l 81) false,
.l 86 (.pick (.l 81) (.b true) (.l 85)),
.g 73 (.mv (.l 86))])
(.cond (.g 73)
(.seq
(.reg [
.g 4 (.mv (.i 2))])
.ret)
(.seq
(.draw [
.l 88 (.mv (.g 6)) 0,
.l 89 (.bin .gtr (.l 88) (.i 0)) 1,
.l 90 (.mv (.l 89)) 2,
.lw 91 (.ld (some 6) (.g 5)) (.l 90) true 3,
.lw 92 (.fa (.g 7) 0) (.l 90) true 4,
.lw 93 (.ld none (.l 92)) (.l 90) true 5,
.lw 95 (.ld (some 6) (.g 5)) (.l 90) true 7,
.lw 96 (.fa (.g 3) 4) (.l 90) true 8,
.lw 97 (.ld none (.l 96)) (.l 90) true 9,
.lw 98 (.mv (.g 6)) (.l 90) true 10,
.lw 99 (.bin .sub (.l 98) (.i 1)) (.l 90) true 11,
.lw 100 (.ia 2 (.l 97) (.l 99)) (.l 90) true 12,
.lw 101 (.fa (.l 100) 0) (.l 90) true 13,
.lw 102 (.ld none (.l 101)) (.l 90) true 14,
.lwf 94 (.call (.c (.fn 67 [])) [.l 91, .l 93]) (.l 90) true 6,
.lwf 103 (.call (.c (.fn 67 [])) [.l 95, .l 102]) (.l 90) true 15,
.lw 104 (.bin .leq (.l 94) (.l 103)) (.l 90) true 16,
.l 105 (.pick (.l 90) (.l 104) (.b false)) 17,
.g 87 (.mv (.l 105)) 18])
(.cond (.g 87)
(.seq
(.reg [
.g 4 (.mv (.i 11))])
.ret)
.skip)))))))
(.reg [
.l 106 (.bin .add (.g 68) (.i 1)),
.g 68 (.mv (.l 106))])))))))
(.seq
(.reg [
.g 4 (.mv (.i 0))])
.ret)))))
def K49 : List Nat := [0, 1, 8, 13, 32, 40, 48, 56, 69, 73, 87, 4, 2, 3, 5, 66, 67, 68, 7, 6]
noncomputable def b49 : Code := match Tryz.f49.body with | some c => c | none => .skip
theorem t49 : trCode ⟨Tryz.prog, K49, [], 107, none⟩ b49 = some c49 := by kernel_rfl
theorem go49 {args : List AV} {H : AHeap} {Kk : AV → AHeap → Prop} (hn : args.length = 2) (h : AGo ⟨Tryz.prog, K49, [], 107, none⟩ H.length [.code c49] (RetP [.t (.g 4)] H.length Kk) ⟨[], argsG 0 args⟩ H) : ACalls Tryz.prog 49 args H Kk :=
  ACalls_of Tryz.func49 (c := b49) rfl (by kernel_rfl) t49 (rs := [.t (.g 4)]) (by kernel_rfl) (by rw [hn]; exact Nat.le_of_ble_eq_true rfl) (by rw [hn]; rfl) (h.weaken (fun _ _ => RetP.hands) (by simp))
/-- sastrugi/convoy.in -/
def c48 : ACode :=
  (.seq
(.reg [
.g 6 (.mv (.b false))])
(.seq
(.reg [
.l 7 (.mv (.g 1)),
.l 8 (.mv (.g 0)),
.l 9 (.bin .leq (.l 7) (.l 8)),
.l 10 (.mv (.l 9)),
.lw 11 (.mv (.g 0)) (.l 10) true,
.lw 12 (.mv (.g 2)) (.l 10) true,
.lw 13 (.bin .leq (.l 11) (.l 12)) (.l 10) true,
.l 14 (.pick (.l 10) (.l 13) (.b false)),
.g 6 (.mv (.l 14))])
.ret))
def K48 : List Nat := [0, 1, 2, 6]
noncomputable def b48 : Code := match Tryz.f48.body with | some c => c | none => .skip
theorem t48 : trCode ⟨Tryz.prog, K48, [], 15, none⟩ b48 = some c48 := by kernel_rfl
theorem go48 {args : List AV} {H : AHeap} {Kk : AV → AHeap → Prop} (hn : args.length = 3) (h : AGo ⟨Tryz.prog, K48, [], 15, none⟩ H.length [.code c48] (RetP [.t (.g 6)] H.length Kk) ⟨[], argsG 0 args⟩ H) : ACalls Tryz.prog 48 args H Kk :=
  ACalls_of Tryz.func48 (c := b48) rfl (by kernel_rfl) t48 (rs := [.t (.g 6)]) (by kernel_rfl) (by rw [hn]; exact Nat.le_of_ble_eq_true rfl) (by rw [hn]; rfl) (h.weaken (fun _ _ => RetP.hands) (by simp))
/-- (sastrugi/convoy.ride).along -/
def c67 : ACode :=
  (.seq
(.reg [
.g 2 (.box (.g 0)),
.g 4 (.mv (.i 0))])
(.seq
(.seq
(.reg [
.l 5 (.fa (.g 2) 0),
.l 6 (.fa (.l 5) 0),
.l 7 (.ld none (.l 6)),
.g 8 (.bin .eql (.l 7) (.i 2))])
(.cond (.g 8)
(.seq
(.reg [
.l 9 (.fa (.g 2) 5),
.l 10 (.ld none (.l 9)),
.l 11 (.mv (.g 1)),
.l 12 (.bin .sub (.l 10) (.l 11)),
.g 4 (.mv (.l 12))])
.ret)
.skip))
(.seq
(.reg [
.l 13 (.mv (.g 1)),
.g 4 (.mv (.l 13))])
.ret)))
def K67 : List Nat := [0, 1, 8, 4, 2]
noncomputable def b67 : Code := match Tryz.f67.body with | some c => c | none => .skip
theorem t67 : trCode ⟨Tryz.prog, K67, [], 14, none⟩ b67 = some c67 := by kernel_rfl
theorem go67 {args : List AV} {H : AHeap} {Kk : AV → AHeap → Prop} (hn : args.length = 2) (h : AGo ⟨Tryz.prog, K67, [], 14, none⟩ H.length [.code c67] (RetP [.t (.g 4)] H.length Kk) ⟨[], argsG 0 args⟩ H) : ACalls Tryz.prog 67 args H Kk :=
  ACalls_of Tryz.func67 (c := b67) rfl (by kernel_rfl) t67 (rs := [.t (.g 4)]) (by kernel_rfl) (by rw [hn]; exact Nat.le_of_ble_eq_true rfl) (by rw [hn]; rfl) (h.weaken (fun _ _ => RetP.hands) (by simp))
/-- sastrugi/convoy.rideOf -/
def c69 : ACode :=
  (.seq
(.reg [
.g 3 (.box (.g 0)),
.g 6 (.new [.int .i64 0, .int .i64 0, .int .i64 0, .int .i64 0, .slice none 0 0, .int .i64 0])])
(.seq
(.draw [
.l 8 (.fa (.g 3) 3) 0,
.l 9 (.ld none (.l 8)) 1,
.l 10 (.mv (.g 1)) 2,
.l 11 (.ia 5 (.l 9) (.l 10)) 3,
.l 12 (.ld (some 5) (.l 11)) 4,
.l 13 (.fa (.g 3) 0) 5,
.l 14 (.ld none (.l 13)) 6,
.l 15 (.mk [.int .i64 0, .int .i64 0, .int .i64 0, .int .i64 0, .slice none 0 0, .int .i64 0] [(0, 5, .l 12), (5, 1, .l 14)]) 7,
.g 7 (.new [.int .i64 0, .int .i64 0, .int .i64 0, .int .i64 0, .slice none 0 0, .int .i64 0]) 8,
.nx (.st 6 (.g 7) (.l 15)) 9 true [8]])
(.seq
(.seq
(.reg [
.g 16 (.mv (.g 2))])
(.cond (.g 16)
(.reg [
.l 17 (.fa (.g 7) 0),
.l 18 (.fa (.l 17) 4),
.n (.st 1 (.l 18) (.c (.lit (.slice none 0 0))))])
.skip))
(.seq
(.reg [
.l 19 (.ld (some 6) (.g 7)),
.n (.st 6 (.g 6) (.l 19))])
.ret))))
def K69 : List Nat := [0, 1, 2, 16, 6, 3, 7]
noncomputable def b69 : Code := match Tryz.f69.body with | some c => c | none => .skip
theorem t69 : trCode ⟨Tryz.prog, K69, [], 20, none⟩ b69 = some c69 := by kernel_rfl
theorem go69 {args : List AV} {H : AHeap} {Kk : AV → AHeap → Prop} (hn : args.length = 3) (h : AGo ⟨Tryz.prog, K69, [], 20, none⟩ H.length [.code c69] (RetP [.cell (.g 6) (some 6)] H.length Kk) ⟨[], argsG 0 args⟩ H) : ACalls Tryz.prog 69 args H Kk :=
  ACalls_of Tryz.func69 (c := b69) rfl (by kernel_rfl) t69 (rs := [.cell (.g 6) (some 6)]) (by kernel_rfl) (by rw [hn]; exact Nat.le_of_ble_eq_true rfl) (by rw [hn]; rfl) (h.weaken (fun _ _ => RetP.hands) (by simp))
/-- (sastrugi/convoy.ride).stop -/
def c89 : ACode :=
  (.seq
(.reg [
.g 2 (.box (.g 0)),
.g 4 (.mv (.i 0))])
(.seq
(.seq
(.reg [
.l 7 (.fa (.g 2) 0),
.l 8 (.fa (.l 7) 4),
.g 9 (.ld none (.l 8)),
.g 10 (.len (.g 9)),
.g 11 (.mv (.i 0))])
(.block 0
(.loop
(.seq
(.reg [
.g 12 (.bin .lss (.g 11) (.g 10))])
(.seq
(.cond (.g 12)
.skip
(.exit 0))
(.seq
(.block 1
(.seq
(.reg [
.l 13 (.ia 2 (.g 9) (.g 11)),
.l 14 (.ld (some 2) (.l 13)),
.g 6 (.new [.int .i64 0, .int .i64 0]),
.n (.st 2 (.g 6) (.l 14))])
(.seq
(.reg [
.l 15 (.fa (.g 6) 1),
.l 16 (.ld none (.l 15)),
.l 17 (.mv (.g 1)),
.g 18 (.bin .gtr (.l 16) (.l 17))])
(.cond (.g 18)
(.seq
(.reg [
.l 19 (.ld (some 6) (.g 2)),
.l 20 (.fa (.g 6) 0),
.l 21 (.ld none (.l 20)),
.l 22 (.call (.c (.fn 67 [])) [.l 19, .l 21]),
.g 4 (.mv (.l 22))])
.ret)
.skip))))
(.reg [
.l 23 (.bin .add (.g 11) (.i 1)),
.g 11 (.mv (.l 23))])))))))
(.seq
(.reg [
.l 24 (.fa (.g 2) 5),
.l 25 (.ld none (.l 24)),
.g 4 (.mv (.l 25))])
.ret)))
def K89 : List Nat := [0, 1, 12, 18, 4, 2, 9, 10, 11, 6]
noncomputable def b89 : Code := match Tryz.f89.body with | some c => c | none => .skip
theorem t89 : trCode ⟨Tryz.prog, K89, [], 26, none⟩ b89 = some c89 := by kernel_rfl
theorem go89 {args : List AV} {H : AHeap} {Kk : AV → AHeap → Prop} (hn : args.length = 2) (h : AGo ⟨Tryz.prog, K89, [], 26, none⟩ H.length [.code c89] (RetP [.t (.g 4)] H.length Kk) ⟨[], argsG 0 args⟩ H) : ACalls Tryz.prog 89 args H Kk :=
  ACalls_of Tryz.func89 (c := b89) rfl (by kernel_rfl) t89 (rs := [.t (.g 4)]) (by kernel_rfl) (by rw [hn]; exact Nat.le_of_ble_eq_true rfl) (by rw [hn]; rfl) (h.weaken (fun _ _ => RetP.hands) (by simp))
/-- sastrugi/convoy.trackOf -/
def c68 : ACode :=
  (.seq
(.reg [
.g 1 (.box (.g 0)),
.g 2 (.new [.int .i64 0, .int .i64 0, .int .i64 0, .int .i64 0, .slice none 0 0, .int .i64 0, .slice none 0 0])])
(.seq
(.reg [
.l 6 (.ld (some 6) (.g 1)),
.l 7 (.mk [.int .i64 0, .int .i64 0, .int .i64 0, .int .i64 0, .slice none 0 0, .int .i64 0, .slice none 0 0] [(0, 6, .l 6)]),
.g 3 (.new [.int .i64 0, .int .i64 0, .int .i64 0, .int .i64 0, .slice none 0 0, .int .i64 0, .slice none 0 0]),
.n (.st 7 (.g 3) (.l 7))])
(.seq
(.seq
(.reg [
.l 8 (.ld (some 6) (.g 1)),
.g 9 (.call (.c (.fn 79 [])) [.l 8])])
(.block 0
(.rng (.g 9) [10, 11]
(.reg [
.g 5 (.new [.int .i64 0, .int .i64 0]),
.n (.st 2 (.g 5) (.g 11))])
(.block 1
(.reg [
.l 12 (.fa (.g 3) 6),
.l 13 (.ld none (.l 12)),
.l 14 (.ld (some 2) (.g 5)),
.l 15 (.mks false 2 [.l 14]),
.l 16 (.app 2 16 (.l 13) (.l 15)),
.l 17 (.fa (.g 3) 6),
.n (.st 1 (.l 17) (.l 16))])))))
(.seq
(.reg [
.l 18 (.ld (some 7) (.g 3)),
.n (.st 7 (.g 2) (.l 18))])
.ret))))
def K68 : List Nat := [0, 9, 10, 11, 2, 1, 3, 5]
noncomputable def b68 : Code := match Tryz.f68.body with | some c => c | none => .skip
theorem t68 : trCode ⟨Tryz.prog, K68, [], 19, none⟩ b68 = some c68 := by kernel_rfl
theorem go68 {args : List AV} {H : AHeap} {Kk : AV → AHeap → Prop} (hn : args.length = 1) (h : AGo ⟨Tryz.prog, K68, [], 19, none⟩ H.length [.code c68] (RetP [.cell (.g 2) (some 7)] H.length Kk) ⟨[], argsG 0 args⟩ H) : ACalls Tryz.prog 68 args H Kk :=
  ACalls_of Tryz.func68 (c := b68) rfl (by kernel_rfl) t68 (rs := [.cell (.g 2) (some 7)]) (by kernel_rfl) (by rw [hn]; exact Nat.le_of_ble_eq_true rfl) (by rw [hn]; rfl) (h.weaken (fun _ _ => RetP.hands) (by simp))
/-- (sastrugi/convoy.ride).minutes -/
def c79 : ACode :=
  (.seq
(.reg [
.g 1 (.box (.g 0)),
.g 2 (.mv (.c (.lit (.nilFunc))))])
(.seq
(.reg [
.l 3 (.mkf 88 [.g 1]),
.g 2 (.mv (.l 3))])
.ret))
def K79 : List Nat := [0, 2, 1]
noncomputable def b79 : Code := match Tryz.f79.body with | some c => c | none => .skip
theorem t79 : trCode ⟨Tryz.prog, K79, [], 4, none⟩ b79 = some c79 := by kernel_rfl
theorem go79 {args : List AV} {H : AHeap} {Kk : AV → AHeap → Prop} (hn : args.length = 1) (h : AGo ⟨Tryz.prog, K79, [], 4, none⟩ H.length [.code c79] (RetP [.t (.g 2)] H.length Kk) ⟨[], argsG 0 args⟩ H) : ACalls Tryz.prog 79 args H Kk :=
  ACalls_of Tryz.func79 (c := b79) rfl (by kernel_rfl) t79 (rs := [.t (.g 2)]) (by kernel_rfl) (by rw [hn]; exact Nat.le_of_ble_eq_true rfl) (by rw [hn]; rfl) (h.weaken (fun _ _ => RetP.hands) (by simp))
/-- (sastrugi/convoy.ride).minutes$1 -/
def c88 : ACode :=
  (.seq
(.reg [
.g 3 (.new [.int .i64 0, .int .i64 0])])
(.seq
(.reg [
.l 6 (.fa (.g 1) 0),
.l 7 (.fa (.l 6) 1),
.l 8 (.ld none (.l 7)),
.g 4 (.mv (.l 8))])
(.block 0
(.loop
(.seq
(.seq
(.reg [
.l 9 (.mv (.g 0)),
.l 10 (.mv (.g 4)),
.l 11 (.ld (some 2) (.g 3)),
.l 12 (.call (.l 9) [.l 10, .l 11]),
.l 13 (.mv (.l 12)),
.lw 14 (.fa (.g 3) 0) (.l 13) true,
.lw 15 (.ld none (.l 14)) (.l 13) true,
.lw 16 (.fa (.g 1) 5) (.l 13) true,
.lw 17 (.ld none (.l 16)) (.l 13) true,
.lw 18 (.bin .lss (.l 15) (.l 17)) (.l 13) true,
.g 19 (.pick (.l 13) (.l 18) (.b false))])
(.cond (.g 19)
.skip
(.exit 0)))
(.seq
(.block 1
(.seq
(.reg [
.l 22 (.ld (some 6) (.g 1)),
.l 23 (.mv (.g 4)),
.l 24 (.call (.c (.fn 89 [])) [.l 22, .l 23]),
.g 5 (.mv (.l 24))])
(.reg [
.l 25 (.fa (.g 3) 0),
.l 26 (.ld none (.l 25)),
.l 27 (.fa (.g 1) 0),
.l 28 (.fa (.l 27) 2),
.l 29 (.fa (.l 28) 0),
.l 30 (.ld none (.l 29)),
.l 31 (.bin .add (.l 26) (.l 30)),
.l 32 (.mv (.g 5)),
.l 33 (.mn [.l 31, .l 32]),
.l 34 (.fa (.g 3) 1),
.l 35 (.ld none (.l 34)),
.l 36 (.fa (.g 1) 0),
.l 37 (.fa (.l 36) 2),
.l 38 (.fa (.l 37) 1),
.l 39 (.ld none (.l 38)),
.l 40 (.bin .add (.l 35) (.l 39)),
.l 41 (.mv (.g 5)),
.l 42 (.mn [.l 40, .l 41]),
.l 43 (.mk [.int .i64 0, .int .i64 0] [(0, 1, .l 33), (1, 1, .l 42)]),
.n (.st 2 (.g 3) (.l 43))])))
(.reg [
.l 20 (.mv (.g 4)),
.l 21 (.bin .add (.l 20) (.i 1)),
.g 4 (.mv (.l 21))])))))))
def K88 : List Nat := [0, 1, 19, 3, 4, 5]
noncomputable def b88 : Code := match Tryz.f88.body with | some c => c | none => .skip
theorem t88 : trCode ⟨Tryz.prog, K88, [], 44, none⟩ b88 = some c88 := by kernel_rfl
theorem go88 {args : List AV} {H : AHeap} {Kk : AV → AHeap → Prop} (hn : args.length = 2) (h : AGo ⟨Tryz.prog, K88, [], 44, none⟩ H.length [.code c88] (RetP [] H.length Kk) ⟨[], argsG 0 args⟩ H) : ACalls Tryz.prog 88 args H Kk :=
  ACalls_of Tryz.func88 (c := b88) rfl (by kernel_rfl) t88 (rs := []) (by kernel_rfl) (by rw [hn]; exact Nat.le_of_ble_eq_true rfl) (by rw [hn]; rfl) (h.weaken (fun _ _ => RetP.hands) (by simp))
/-- (sastrugi/convoy.track).at -/
def c90 : ACode :=
  (.seq
(.reg [
.g 2 (.box (.g 0)),
.g 4 (.new [.int .i64 0, .int .i64 0])])
(.seq
(.reg [
.l 6 (.mv (.g 1)),
.l 7 (.fa (.g 2) 0),
.l 8 (.fa (.l 7) 0),
.l 9 (.fa (.l 8) 1),
.l 10 (.ld none (.l 9)),
.l 11 (.bin .sub (.l 6) (.l 10)),
.l 12 (.fa (.g 2) 6),
.l 13 (.ld none (.l 12)),
.l 14 (.len (.l 13)),
.l 15 (.bin .sub (.l 14) (.i 1)),
.l 16 (.mn [.l 11, .l 15]),
.g 5 (.mv (.l 16))])
(.seq
(.seq
(.reg [
.l 17 (.mv (.g 5)),
.g 18 (.bin .lss (.l 17) (.i 0))])
(.cond (.g 18)
(.seq
(.reg [
.l 19 (.mk [.int .i64 0, .int .i64 0] []),
.n (.st 2 (.g 4) (.l 19))])
.ret)
.skip))
(.seq
(.reg [
.l 20 (.fa (.g 2) 6),
.l 21 (.ld none (.l 20)),
.l 22 (.mv (.g 5)),
.l 23 (.ia 2 (.l 21) (.l 22)),
.l 24 (.ld (some 2) (.l 23)),
.n (.st 2 (.g 4) (.l 24))])
.ret))))
def K90 : List Nat := [0, 1, 18, 4, 2, 5]
noncomputable def b90 : Code := match Tryz.f90.body with | some c => c | none => .skip
theorem t90 : trCode ⟨Tryz.prog, K90, [], 25, none⟩ b90 = some c90 := by kernel_rfl
theorem go90 {args : List AV} {H : AHeap} {Kk : AV → AHeap → Prop} (hn : args.length = 2) (h : AGo ⟨Tryz.prog, K90, [], 25, none⟩ H.length [.code c90] (RetP [.cell (.g 4) (some 2)] H.length Kk) ⟨[], argsG 0 args⟩ H) : ACalls Tryz.prog 90 args H Kk :=
  ACalls_of Tryz.func90 (c := b90) rfl (by kernel_rfl) t90 (rs := [.cell (.g 4) (some 2)]) (by kernel_rfl) (by rw [hn]; exact Nat.le_of_ble_eq_true rfl) (by rw [hn]; rfl) (h.weaken (fun _ _ => RetP.hands) (by simp))
/-- (sastrugi/convoy.track).road -/
def c91 : ACode :=
  (.seq
(.reg [
.g 2 (.box (.g 0)),
.g 3 (.box (.g 1)),
.g 4 (.new [.int .i64 0, .int .i64 0])])
(.seq
(.draw [
.l 7 (.fa (.g 2) 0) 0,
.l 8 (.ld (some 6) (.l 7)) 1,
.l 9 (.fa (.g 3) 0) 2,
.l 10 (.ld none (.l 9)) 3,
.l 12 (.fa (.g 2) 0) 5,
.l 13 (.ld (some 6) (.l 12)) 6,
.l 14 (.fa (.g 3) 1) 7,
.l 15 (.ld none (.l 14)) 8,
.lf 11 (.call (.c (.fn 67 [])) [.l 8, .l 10]) 4,
.lf 16 (.call (.c (.fn 67 [])) [.l 13, .l 15]) 9,
.g 5 (.mv (.l 11)) 10,
.g 6 (.mv (.l 16)) 11])
(.seq
(.reg [
.l 17 (.mv (.g 5)),
.l 18 (.mv (.g 6)),
.l 19 (.mn [.l 17, .l 18]),
.l 20 (.mv (.g 5)),
.l 21 (.mv (.g 6)),
.l 22 (.mx [.l 20, .l 21]),
.l 23 (.mk [.int .i64 0, .int .i64 0] [(0, 1, .l 19), (1, 1, .l 22)]),
.n (.st 2 (.g 4) (.l 23))])
.ret)))
def K91 : List Nat := [0, 1, 4, 2, 3, 5, 6]
noncomputable def b91 : Code := match Tryz.f91.body with | some c => c | none => .skip
theorem t91 : trCode ⟨Tryz.prog, K91, [], 24, none⟩ b91 = some c91 := by kernel_rfl
theorem go91 {args : List AV} {H : AHeap} {Kk : AV → AHeap → Prop} (hn : args.length = 2) (h : AGo ⟨Tryz.prog, K91, [], 24, none⟩ H.length [.code c91] (RetP [.cell (.g 4) (some 2)] H.length Kk) ⟨[], argsG 0 args⟩ H) : ACalls Tryz.prog 91 args H Kk :=
  ACalls_of Tryz.func91 (c := b91) rfl (by kernel_rfl) t91 (rs := [.cell (.g 4) (some 2)]) (by kernel_rfl) (by rw [hn]; exact Nat.le_of_ble_eq_true rfl) (by rw [hn]; rfl) (h.weaken (fun _ _ => RetP.hands) (by simp))
/-- (sastrugi/convoy.track).lane -/
def c80 : ACode :=
  (.seq
(.reg [
.g 2 (.box (.g 0)),
.g 4 (.new [.int .i64 0, .int .i64 0]),
.g 5 (.mv (.i 0))])
(.seq
(.seq
(.reg [
.l 8 (.mv (.g 1)),
.l 9 (.fa (.g 2) 0),
.l 10 (.fa (.l 9) 0),
.l 11 (.fa (.l 10) 1),
.l 12 (.ld none (.l 11)),
.g 13 (.bin .lss (.l 8) (.l 12))])
(.cond (.g 13)
(.seq
(.reg [
.l 14 (.mk [.int .i64 0, .int .i64 0] []),
.n (.st 2 (.g 4) (.l 14)),
.g 5 (.mv (.i 2))])
.ret)
.skip))
(.seq
(.draw [
.l 15 (.ld (some 7) (.g 2)) 0,
.l 16 (.mv (.g 1)) 1,
.lf 18 (.fa (.g 2) 0) 3,
.l 19 (.ld (some 6) (.l 18)) 4,
.l 20 (.mv (.g 1)) 5,
.g 6 (.new [.int .i64 0, .int .i64 0]) 7,
.lf 17 (.call (.c (.fn 90 [])) [.l 15, .l 16]) 2,
.lf 21 (.call (.c (.fn 89 [])) [.l 19, .l 20]) 6,
.nx (.st 2 (.g 6) (.l 17)) 8 false [7],
.gx 7 (.mv (.l 21)) 9 false [7]])
(.seq
(.block 0
(.seq
(.reg [
.l 23 (.fa (.g 6) 1),
.l 24 (.ld none (.l 23)),
.l 25 (.mv (.g 7)),
.l 26 (.bin .lss (.l 24) (.l 25)),
.g 22 (.mv (.l 26))])
(.cond (.g 22)
(.seq
(.reg [
.l 27 (.ld (some 7) (.g 2)),
.l 28 (.ld (some 2) (.g 6)),
.l 29 (.call (.c (.fn 91 [])) [.l 27, .l 28]),
.n (.st 2 (.g 4) (.l 29)),
.g 5 (.mv (.i 1))])
.ret)
(.seq
(.reg [
.l 31 (.fa (.g 6) 0),
.l 32 (.ld none (.l 31)),
.l 33 (.mv (.g 7)),
.l 34 (.bin .geq (.l 32) (.l 33)),
.g 30 (.mv (.l 34))])
(.cond (.g 30)
(.seq
(.reg [
.l 35 (.mk [.int .i64 0, .int .i64 0] []),
.n (.st 2 (.g 4) (.l 35)),
.g 5 (.mv (.i 2))])
.ret)
.skip)))))
(.seq
(.reg [
.l 36 (.ld (some 7) (.g 2)),
.l 37 (.fa (.g 6) 0),
.l 38 (.ld none (.l 37)),
.l 39 (.mv (.g 7)),
.l 40 (.bin .sub (.l 39) (.i 1)),
.l 41 (.mk [.int .i64 0, .int .i64 0] [(0, 1, .l 38), (1, 1, .l 40)]),
.l 42 (.call (.c (.fn 91 [])) [.l 36, .l 41]),
.n (.st 2 (.g 4) (.l 42)),
.g 5 (.mv (.i 3))])
.ret)))))
def K80 : List Nat := [0, 1, 13, 22, 30, 4, 5, 2, 6, 7]
noncomputable def b80 : Code := match Tryz.f80.body with | some c => c | none => .skip
theorem t80 : trCode ⟨Tryz.prog, K80, [], 43, none⟩ b80 = some c80 := by kernel_rfl
theorem go80 {args : List AV} {H : AHeap} {Kk : AV → AHeap → Prop} (hn : args.length = 2) (h : AGo ⟨Tryz.prog, K80, [], 43, none⟩ H.length [.code c80] (RetP [.cell (.g 4) (some 2), .t (.g 5)] H.length Kk) ⟨[], argsG 0 args⟩ H) : ACalls Tryz.prog 80 args H Kk :=
  ACalls_of Tryz.func80 (c := b80) rfl (by kernel_rfl) t80 (rs := [.cell (.g 4) (some 2), .t (.g 5)]) (by kernel_rfl) (by rw [hn]; exact Nat.le_of_ble_eq_true rfl) (by rw [hn]; rfl) (h.weaken (fun _ _ => RetP.hands) (by simp))
/-- (sastrugi/convoy.nearness).near -/
def c70 : ACode :=
  (.seq
(.reg [
.g 4 (.box (.g 0)),
.g 5 (.box (.g 1)),
.g 6 (.box (.g 2)),
.g 8 (.mv (.i 0)),
.g 9 (.mv (.i 0)),
.g 10 (.mv (.b false))])
(.seq
(.reg [
.l 16 (.ld (some 7) (.g 5)),
.l 17 (.mv (.g 3)),
.l 18 (.call (.c (.fn 80 [])) [.l 16, .l 17]),
.l 15 (.mv (.l 18)),
.l 19 (.ex (.l 15) 0),
.l 20 (.ex (.l 15) 1),
.g 11 (.new [.int .i64 0, .int .i64 0]),
.n (.st 2 (.g 11) (.l 19)),
.g 12 (.mv (.l 20))])
(.seq
(.reg [
.l 22 (.ld (some 7) (.g 6)),
.l 23 (.mv (.g 3)),
.l 24 (.call (.c (.fn 80 [])) [.l 22, .l 23]),
.l 21 (.mv (.l 24)),
.l 25 (.ex (.l 21) 0),
.l 26 (.ex (.l 21) 1),
.g 13 (.new [.int .i64 0, .int .i64 0]),
.n (.st 2 (.g 13) (.l 25)),
.g 14 (.mv (.l 26))])
(.seq
(.seq
(.reg [
.l 27 (.mv (.g 12)),
.l 28 (.bin .eql (.l 27) (.i 2)),
.l 29 (.mv (.l 28)),
.lw 30 (.mv (.g 14)) (.l 29) false,
.lw 31 (.bin .eql (.l 30) (.i 2)) (.l 29) false,
.g 32 (.pick (.l 29) (.b true) (.l 31))])
(.cond (.g 32)
(.seq
(.reg [
.g 8 (.mv (.i 0)),
.g 9 (.mv (.i 0)),
.g 10 (.mv (.b false))])
.ret)
.skip))
(.seq
(.reg [
.l 33 (.fa (.g 11) 0),
.l 34 (.ld none (.l 33)),
.l 35 (.fa (.g 13) 0),
.l 36 (.ld none (.l 35)),
.l 37 (.fa (.g 4) 0),
.l 38 (.ld none (.l 37)),
.l 39 (.bin .sub (.l 36) (.l 38)),
.l 40 (.bin .add (.l 39) (.i 1)),
.l 41 (.mx [.l 34, .l 40]),
.g 8 (.mv (.l 41))])
(.seq
(.reg [
.l 42 (.fa (.g 13) 0),
.l 43 (.ld none (.l 42)),
.l 44 (.mv (.g 8)),
.l 45 (.fa (.g 4) 0),
.l 46 (.ld none (.l 45)),
.l 47 (.bin .sub (.l 44) (.l 46)),
.l 48 (.bin .add (.l 47) (.i 1)),
.l 49 (.mx [.l 43, .l 48]),
.g 9 (.mv (.l 49))])
(.seq
(.draw [
.l 50 (.mv (.g 8)) 0,
.l 51 (.mv (.g 9)) 1,
.l 52 (.mv (.g 8)) 2,
.l 53 (.fa (.g 11) 1) 3,
.l 54 (.ld none (.l 53)) 4,
.l 55 (.bin .leq (.l 52) (.l 54)) 5,
.l 56 (.mv (.l 55)) 6,
.lw 57 (.mv (.g 9)) (.l 56) true 7,
.lw 58 (.fa (.g 13) 1) (.l 56) true 8,
.lw 59 (.ld none (.l 58)) (.l 56) true 9,
.lw 60 (.bin .leq (.l 57) (.l 59)) (.l 56) true 10,
.l 61 (.pick (.l 56) (.l 60) (.b false)) 11,
.g 8 (.mv (.l 50)) 12,
.g 9 (.mv (.l 51)) 13,
.g 10 (.mv (.l 61)) 14])
.ret)))))))
def K70 : List Nat := [0, 1, 2, 3, 32, 8, 9, 10, 4, 5, 6, 11, 12, 13, 14]
noncomputable def b70 : Code := match Tryz.f70.body with | some c => c | none => .skip
theorem t70 : trCode ⟨Tryz.prog, K70, [], 62, none⟩ b70 = some c70 := by kernel_rfl
theorem go70 {args : List AV} {H : AHeap} {Kk : AV → AHeap → Prop} (hn : args.length = 4) (h : AGo ⟨Tryz.prog, K70, [], 62, none⟩ H.length [.code c70] (RetP [.t (.g 8), .t (.g 9), .t (.g 10)] H.length Kk) ⟨[], argsG 0 args⟩ H) : ACalls Tryz.prog 70 args H Kk :=
  ACalls_of Tryz.func70 (c := b70) rfl (by kernel_rfl) t70 (rs := [.t (.g 8), .t (.g 9), .t (.g 10)]) (by kernel_rfl) (by rw [hn]; exact Nat.le_of_ble_eq_true rfl) (by rw [hn]; rfl) (h.weaken (fun _ _ => RetP.hands) (by simp))
/-- (sastrugi/convoy.nearness).meets -/
def c51 : ACode :=
  (.seq
(.reg [
.g 4 (.box (.g 0)),
.g 5 (.box (.g 1)),
.g 6 (.box (.g 2)),
.g 8 (.new [.int .i64 0, .int .i64 0, .int .i64 0, .bool false, .bool false, .int .i64 0, .int .i64 0]),
.g 9 (.mv (.b false))])
(.seq
(.seq
(.reg [
.g 15 (.ld (some 8) (.c (.lit (.pointer (some ⟨0, 0, none⟩))))),
.g 16 (.mv (.i 0))])
(.block 0
(.loop
(.seq
(.reg [
.g 17 (.bin .lss (.g 16) (.i 4))])
(.seq
(.cond (.g 17)
.skip
(.exit 0))
(.seq
(.block 1
(.seq
(.reg [
.l 18 (.ix 4 2 (some 2) (.g 15) (.g 16)),
.g 11 (.new [.int .i64 0, .int .i64 0]),
.n (.st 2 (.g 11) (.l 18))])
(.seq
(.seq
(.reg [
.l 19 (.iaa 2 1 (.g 11) (.i 0)),
.l 20 (.ld none (.l 19)),
.l 21 (.iaa 2 1 (.g 11) (.i 1)),
.l 22 (.ld none (.l 21)),
.l 23 (.bin .add (.l 20) (.l 22)),
.l 24 (.fa (.g 4) 1),
.l 25 (.ld none (.l 24)),
.g 26 (.bin .gtr (.l 23) (.l 25))])
(.cond (.g 26)
(.exit 1)
.skip))
(.seq
(.draw [
.l 28 (.ld (some 2) (.g 4)) 0,
.l 29 (.iaa 2 1 (.g 11) (.i 0)) 1,
.l 30 (.ld none (.l 29)) 2,
.l 31 (.iaa 2 7 (.g 5) (.l 30)) 3,
.l 32 (.ld (some 7) (.l 31)) 4,
.l 33 (.iaa 2 1 (.g 11) (.i 1)) 5,
.l 34 (.ld none (.l 33)) 6,
.l 35 (.iaa 2 7 (.g 6) (.l 34)) 7,
.l 36 (.ld (some 7) (.l 35)) 8,
.l 37 (.mv (.g 3)) 9,
.lf 38 (.call (.c (.fn 70 [])) [.l 28, .l 32, .l 36, .l 37]) 10,
.l 27 (.mv (.l 38)) 11,
.l 39 (.ex (.l 27) 0) 12,
.l 40 (.ex (.l 27) 1) 13,
.l 41 (.ex (.l 27) 2) 14,
.g 12 (.mv (.l 39)) 15,
.g 13 (.mv (.l 40)) 16,
.g 14 (.mv (.l 41)) 17])
(.seq
(.reg [
.g 42 (.mv (.g 14))])
(.cond (.g 42)
(.seq
(.reg [
.l 43 (.mv (.g 3)),
.l 44 (.iaa 2 1 (.g 11) (.i 0)),
.l 45 (.ld none (.l 44)),
.l 46 (.bin .eql (.l 45) (.i 1)),
.l 47 (.iaa 2 1 (.g 11) (.i 1)),
.l 48 (.ld none (.l 47)),
.l 49 (.bin .eql (.l 48) (.i 1)),
.l 50 (.mv (.g 12)),
.l 51 (.mv (.g 13)),
.l 52 (.mk [.int .i64 0, .int .i64 0, .int .i64 0, .bool false, .bool false, .int .i64 0, .int .i64 0] [(0, 1, .l 43), (3, 1, .l 46), (4, 1, .l 49), (5, 1, .l 50), (6, 1, .l 51)]),
.n (.st 7 (.g 8) (.l 52)),
.g 9 (.mv (.b true))])
.ret)
.skip))))))
(.reg [
.l 53 (.bin .add (.g 16) (.i 1)),
.g 16 (.mv (.l 53))])))))))
(.seq
(.reg [
.l 54 (.mk [.int .i64 0, .int .i64 0, .int .i64 0, .bool false, .bool false, .int .i64 0, .int .i64 0] []),
.n (.st 7 (.g 8) (.l 54)),
.g 9 (.mv (.b false))])
.ret)))
def K51 : List Nat := [0, 1, 2, 3, 17, 26, 42, 8, 9, 4, 5, 6, 15, 16, 11, 12, 13, 14]
noncomputable def b51 : Code := match Tryz.f51.body with | some c => c | none => .skip
theorem t51 : trCode ⟨Tryz.prog, K51, [], 55, none⟩ b51 = some c51 := by kernel_rfl
theorem go51 {args : List AV} {H : AHeap} {Kk : AV → AHeap → Prop} (hn : args.length = 4) (h : AGo ⟨Tryz.prog, K51, [], 55, none⟩ H.length [.code c51] (RetP [.cell (.g 8) (some 7), .t (.g 9)] H.length Kk) ⟨[], argsG 0 args⟩ H) : ACalls Tryz.prog 51 args H Kk :=
  ACalls_of Tryz.func51 (c := b51) rfl (by kernel_rfl) t51 (rs := [.cell (.g 8) (some 7), .t (.g 9)]) (by kernel_rfl) (by rw [hn]; exact Nat.le_of_ble_eq_true rfl) (by rw [hn]; rfl) (h.weaken (fun _ _ => RetP.hands) (by simp))
/-- sastrugi/convoy.lanesOf -/
def c50 : ACode :=
  (.seq
(.reg [
.g 1 (.box (.g 0)),
.g 2 (.mv (.c (.lit (.slice none 0 0))))])
(.seq
(.reg [
.g 3 (.mv (.c (.lit (.slice none 0 0))))])
(.seq
(.seq
(.reg [
.l 5 (.fa (.g 1) 3),
.l 6 (.ld none (.l 5)),
.g 7 (.len (.l 6)),
.g 8 (.mv (.i 0))])
(.block 0
(.loop
(.seq
(.reg [
.g 9 (.bin .lss (.g 8) (.g 7))])
(.seq
(.cond (.g 9)
.skip
(.exit 0))
(.seq
(.block 1
(.seq
(.reg [
.l 10 (.mv (.g 8)),
.g 4 (.mv (.l 10))])
(.draw [
.l 11 (.mv (.g 3)) 0,
.l 12 (.ld (some 4) (.g 1)) 1,
.l 13 (.mv (.g 4)) 2,
.l 16 (.ld (some 4) (.g 1)) 5,
.l 17 (.mv (.g 4)) 6,
.lf 14 (.call (.c (.fn 69 [])) [.l 12, .l 13, .b false]) 3,
.lf 15 (.call (.c (.fn 68 [])) [.l 14]) 4,
.lf 18 (.call (.c (.fn 69 [])) [.l 16, .l 17, .b true]) 7,
.lf 19 (.call (.c (.fn 68 [])) [.l 18]) 8,
.l 20 (.mk [.int .i64 0, .int .i64 0, .int .i64 0, .int .i64 0, .slice none 0 0, .int .i64 0, .slice none 0 0, .int .i64 0, .int .i64 0, .int .i64 0, .int .i64 0, .slice none 0 0, .int .i64 0, .slice none 0 0] [(0, 7, .l 15), (7, 7, .l 19)]) 9,
.l 21 (.mks false 14 [.l 20]) 10,
.lf 22 (.app 14 176 (.l 11) (.l 21)) 11,
.g 3 (.mv (.l 22)) 12])))
(.reg [
.l 23 (.bin .add (.g 8) (.i 1)),
.g 8 (.mv (.l 23))])))))))
(.seq
(.reg [
.l 24 (.mv (.g 3)),
.g 2 (.mv (.l 24))])
.ret))))
def K50 : List Nat := [0, 9, 2, 1, 3, 7, 8, 4]
noncomputable def b50 : Code := match Tryz.f50.body with | some c => c | none => .skip
theorem t50 : trCode ⟨Tryz.prog, K50, [], 25, none⟩ b50 = some c50 := by kernel_rfl
theorem go50 {args : List AV} {H : AHeap} {Kk : AV → AHeap → Prop} (hn : args.length = 1) (h : AGo ⟨Tryz.prog, K50, [], 25, none⟩ H.length [.code c50] (RetP [.t (.g 2)] H.length Kk) ⟨[], argsG 0 args⟩ H) : ACalls Tryz.prog 50 args H Kk :=
  ACalls_of Tryz.func50 (c := b50) rfl (by kernel_rfl) t50 (rs := [.t (.g 2)]) (by kernel_rfl) (by rw [hn]; exact Nat.le_of_ble_eq_true rfl) (by rw [hn]; rfl) (h.weaken (fun _ _ => RetP.hands) (by simp))
/-- (sastrugi/convoy.track).end -/
def c52 : ACode :=
  (.seq
(.reg [
.g 1 (.box (.g 0)),
.g 2 (.mv (.i 0))])
(.seq
(.reg [
.l 3 (.fa (.g 1) 0),
.l 4 (.fa (.l 3) 0),
.l 5 (.fa (.l 4) 1),
.l 6 (.ld none (.l 5)),
.l 7 (.fa (.g 1) 6),
.l 8 (.ld none (.l 7)),
.l 9 (.len (.l 8)),
.l 10 (.bin .add (.l 6) (.l 9)),
.l 11 (.bin .sub (.l 10) (.i 1)),
.g 2 (.mv (.l 11))])
.ret))
def K52 : List Nat := [0, 2, 1]
noncomputable def b52 : Code := match Tryz.f52.body with | some c => c | none => .skip
theorem t52 : trCode ⟨Tryz.prog, K52, [], 12, none⟩ b52 = some c52 := by kernel_rfl
theorem go52 {args : List AV} {H : AHeap} {Kk : AV → AHeap → Prop} (hn : args.length = 1) (h : AGo ⟨Tryz.prog, K52, [], 12, none⟩ H.length [.code c52] (RetP [.t (.g 2)] H.length Kk) ⟨[], argsG 0 args⟩ H) : ACalls Tryz.prog 52 args H Kk :=
  ACalls_of Tryz.func52 (c := b52) rfl (by kernel_rfl) t52 (rs := [.t (.g 2)]) (by kernel_rfl) (by rw [hn]; exact Nat.le_of_ble_eq_true rfl) (by rw [hn]; rfl) (h.weaken (fun _ _ => RetP.hands) (by simp))
/-- sastrugi/convoy.meeting -/
def c26 : ACode :=
  (.seq
(.reg [
.g 1 (.box (.g 0)),
.g 2 (.new [.int .i64 0, .int .i64 0, .int .i64 0, .bool false, .bool false, .int .i64 0, .int .i64 0]),
.g 3 (.mv (.b false))])
(.seq
(.reg [
.l 15 (.ld (some 4) (.g 1)),
.l 16 (.call (.c (.fn 50 [])) [.l 15]),
.g 4 (.mv (.l 16))])
(.seq
(.reg [
.l 17 (.fa (.g 1) 1),
.l 18 (.ld none (.l 17)),
.l 19 (.fa (.g 1) 2),
.l 20 (.ld none (.l 19)),
.l 21 (.mk [.int .i64 0, .int .i64 0] [(0, 1, .l 18), (1, 1, .l 20)]),
.g 5 (.new [.int .i64 0, .int .i64 0]),
.n (.st 2 (.g 5) (.l 21))])
(.seq
(.reg [
.l 22 (.ld (some 2) (.g 5)),
.l 23 (.mkf 1051 [.l 22]),
.g 6 (.mv (.l 23))])
(.seq
(.reg [
.g 7 (.mv (.i 0))])
(.seq
(.seq
(.reg [
.g 24 (.mv (.g 4)),
.g 25 (.len (.g 24)),
.g 26 (.mv (.i 0))])
(.block 0
(.loop
(.seq
(.reg [
.g 27 (.bin .lss (.g 26) (.g 25))])
(.seq
(.cond (.g 27)
.skip
(.exit 0))
(.seq
(.block 1
(.seq
(.reg [
.l 28 (.ia 14 (.g 24) (.g 26)),
.l 29 (.ld (some 14) (.l 28)),
.g 9 (.new [.int .i64 0, .int .i64 0, .int .i64 0, .int .i64 0, .slice none 0 0, .int .i64 0, .slice none 0 0, .int .i64 0, .int .i64 0, .int .i64 0, .int .i64 0, .slice none 0 0, .int .i64 0, .slice none 0 0]),
.n (.st 14 (.g 9) (.l 29))])
(.reg [
.l 30 (.mv (.g 7)),
.l 31 (.iaa 2 7 (.g 9) (.i 0)),
.l 32 (.ld (some 7) (.l 31)),
.l 33 (.call (.c (.fn 52 [])) [.l 32]),
.l 34 (.mx [.l 30, .l 33]),
.g 7 (.mv (.l 34))])))
(.reg [
.l 35 (.bin .add (.g 26) (.i 1)),
.g 26 (.mv (.l 35))])))))))
(.seq
(.seq
(.reg [
.g 10 (.mv (.i 0))])
(.block 2
(.loop
(.seq
(.seq
(.reg [
.l 36 (.mv (.g 10)),
.l 37 (.mv (.g 7)),
.g 38 (.bin .leq (.l 36) (.l 37))])
(.cond (.g 38)
.skip
(.exit 2)))
(.seq
(.block 3
(.seq
(.reg [
.l 41 (.mv (.g 4)),
.g 42 (.len (.l 41)),
.g 43 (.mv (.i 0))])
(.block 4
(.loop
(.seq
(.reg [
.g 44 (.bin .lss (.g 43) (.g 42))])
(.seq
(.cond (.g 44)
.skip
(.exit 4))
(.seq
(.block 5
(.seq
(.reg [
.l 45 (.mv (.g 43)),
.g 11 (.mv (.l 45))])
(.seq
(.reg [
.l 46 (.mv (.g 11)),
.l 47 (.bin .add (.l 46) (.i 1)),
.g 12 (.mv (.l 47))])
(.block 6
(.loop
(.seq
(.seq
(.reg [
.l 48 (.mv (.g 12)),
.l 49 (.mv (.g 4)),
.l 50 (.len (.l 49)),
.g 51 (.bin .lss (.l 48) (.l 50))])
(.cond (.g 51)
.skip
(.exit 6)))
(.seq
(.block 7
(.seq
(.draw [
.l 55 (.mv (.g 6)) 0,
.l 56 (.mv (.g 4)) 1,
.l 57 (.mv (.g 11)) 2,
.l 58 (.ia 14 (.l 56) (.l 57)) 3,
.l 59 (.ld (some 14) (.l 58)) 4,
.l 60 (.mv (.g 4)) 5,
.l 61 (.mv (.g 12)) 6,
.l 62 (.ia 14 (.l 60) (.l 61)) 7,
.l 63 (.ld (some 14) (.l 62)) 8,
.l 64 (.mv (.g 10)) 9,
.g 13 (.new [.int .i64 0, .int .i64 0, .int .i64 0, .bool false, .bool false, .int .i64 0, .int .i64 0]) 14,
.lf 65 (.call (.l 55) [.l 59, .l 63, .l 64]) 10,
.l 54 (.mv (.l 65)) 11,
.l 66 (.ex (.l 54) 0) 12,
.lf 67 (.ex (.l 54) 1) 13,
.nx (.st 7 (.g 13) (.l 66)) 15 false [14],
.gx 14 (.mv (.l 67)) 16 false [14]])
(.seq
(.reg [
.g 68 (.mv (.g 14))])
(.cond (.g 68)
(.seq
(.reg [
.l 69 (.mv (.g 11)),
.l 70 (.mv (.g 12)),
.l 71 (.fa (.g 13) 1),
.n (.st 1 (.l 71) (.l 69)),
.l 72 (.fa (.g 13) 2),
.n (.st 1 (.l 72) (.l 70))])
(.seq
(.reg [
.l 73 (.ld (some 7) (.g 13)),
.n (.st 7 (.g 2) (.l 73)),
.g 3 (.mv (.b true))])
.ret))
.skip))))
(.reg [
.l 52 (.mv (.g 12)),
.l 53 (.bin .add (.l 52) (.i 1)),
.g 12 (.mv (.l 53))]))))))))
(.reg [
.l 74 (.bin .add (.g 43) (.i 1)),
.g 43 (.mv (.l 74))]))))))))
(.reg [
.l 39 (.mv (.g 10)),
.l 40 (.bin .add (.l 39) (.i 1)),
.g 10 (.mv (.l 40))]))))))
(.seq
(.reg [
.l 75 (.mk [.int .i64 0, .int .i64 0, .int .i64 0, .bool false, .bool false, .int .i64 0, .int .i64 0] []),
.n (.st 7 (.g 2) (.l 75)),
.g 3 (.mv (.b false))])
.ret))))))))
def K26 : List Nat := [0, 27, 38, 44, 51, 68, 2, 3, 1, 4, 5, 6, 7, 24, 25, 26, 9, 10, 42, 43, 11, 12, 13, 14]
noncomputable def b26 : Code := match Tryz.f26.body with | some c => c | none => .skip
theorem t26 : trCode ⟨Tryz.prog, K26, [], 76, none⟩ b26 = some c26 := by kernel_rfl
theorem go26 {args : List AV} {H : AHeap} {Kk : AV → AHeap → Prop} (hn : args.length = 1) (h : AGo ⟨Tryz.prog, K26, [], 76, none⟩ H.length [.code c26] (RetP [.cell (.g 2) (some 7), .t (.g 3)] H.length Kk) ⟨[], argsG 0 args⟩ H) : ACalls Tryz.prog 26 args H Kk :=
  ACalls_of Tryz.func26 (c := b26) rfl (by kernel_rfl) t26 (rs := [.cell (.g 2) (some 7), .t (.g 3)]) (by kernel_rfl) (by rw [hn]; exact Nat.le_of_ble_eq_true rfl) (by rw [hn]; rfl) (h.weaken (fun _ _ => RetP.hands) (by simp))
/-- sastrugi/convoy.Meets -/
def c9 : ACode :=
  (.seq
(.reg [
.g 1 (.box (.g 0)),
.g 2 (.new [.int .i64 0, .int .i64 0, .int .i64 0, .bool false, .bool false, .int .i64 0, .int .i64 0]),
.g 3 (.mv (.i 0))])
(.seq
(.seq
(.reg [
.l 7 (.ld (some 4) (.g 1)),
.l 8 (.call (.c (.fn 25 [])) [.l 7]),
.g 4 (.mv (.l 8))])
(.seq
(.reg [
.l 9 (.mv (.g 4)),
.g 10 (.bin .neq (.l 9) (.i 0))])
(.cond (.g 10)
(.seq
(.reg [
.l 11 (.mk [.int .i64 0, .int .i64 0, .int .i64 0, .bool false, .bool false, .int .i64 0, .int .i64 0] []),
.l 12 (.mv (.g 4)),
.n (.st 7 (.g 2) (.l 11)),
.g 3 (.mv (.l 12))])
.ret)
.skip)))
(.seq
(.reg [
.l 14 (.ld (some 4) (.g 1)),
.l 15 (.call (.c (.fn 26 [])) [.l 14]),
.l 13 (.mv (.l 15)),
.l 16 (.ex (.l 13) 0),
.l 17 (.ex (.l 13) 1),
.g 5 (.new [.int .i64 0, .int .i64 0, .int .i64 0, .bool false, .bool false, .int .i64 0, .int .i64 0]),
.n (.st 7 (.g 5) (.l 16)),
.g 6 (.mv (.l 17))])
(.seq
(.seq
(.reg [
.l 18 (.mv (.g 6)),
.g 19 (.un .not (.l 18))])
(.cond (.g 19)
(.seq
(.reg [
.l 20 (.mk [.int .i64 0, .int .i64 0, .int .i64 0, .bool false, .bool false, .int .i64 0, .int .i64 0] []),
.n (.st 7 (.g 2) (.l 20)),
.g 3 (.mv (.i 7))])
.ret)
.skip))
(.seq
(.reg [
.l 21 (.ld (some 7) (.g 5)),
.n (.st 7 (.g 2) (.l 21)),
.g 3 (.mv (.i 0))])
.ret)))))
def K9 : List Nat := [0, 10, 19, 2, 3, 1, 4, 5, 6]
noncomputable def b9 : Code := match Tryz.f9.body with | some c => c | none => .skip
theorem t9 : trCode ⟨Tryz.prog, K9, [], 22, none⟩ b9 = some c9 := by kernel_rfl
theorem go9 {args : List AV} {H : AHeap} {Kk : AV → AHeap → Prop} (hn : args.length = 1) (h : AGo ⟨Tryz.prog, K9, [], 22, none⟩ H.length [.code c9] (RetP [.cell (.g 2) (some 7), .t (.g 3)] H.length Kk) ⟨[], argsG 0 args⟩ H) : ACalls Tryz.prog 9 args H Kk :=
  ACalls_of Tryz.func9 (c := b9) rfl (by kernel_rfl) t9 (rs := [.cell (.g 2) (some 7), .t (.g 3)]) (by kernel_rfl) (by rw [hn]; exact Nat.le_of_ble_eq_true rfl) (by rw [hn]; rfl) (h.weaken (fun _ _ => RetP.hands) (by simp))
end Go.Sas
