/-
The code of some functions with its types resolved, printed by a program; that it is the code is checked by the kernel.
Conditions: none.
-/
import Derived.Test.YtndnjmpebpampaaGreatDoorP4
import Derived.Test.YtndnjmpebpampaaGreatDoorProg
set_option linter.unusedVariables false
set_option linter.unusedSimpArgs false
namespace Go.Sas
open Go.Proofs
set_option maxRecDepth 100000
/-- sastrugi/sastrugiref04.Check -/
def c41 : ACode :=
  (.seq
(.reg [
.g 1 (.box (.g 0)),
.g 2 (.mv (.i 0))])
(.seq
(.seq
(.reg [
.l 5 (.fa (.g 1) 0),
.l 6 (.ld none (.l 5)),
.l 7 (.call (.c (.fn 64 [])) [.l 6, .i 1, .i 100000]),
.l 8 (.un .not (.l 7)),
.l 9 (.mv (.l 8)),
.lw 10 (.fa (.g 1) 1) (.l 9) false,
.lw 11 (.ld none (.l 10)) (.l 9) false,
.lw 12 (.call (.c (.fn 64 [])) [.l 11, .i 1, .i 100000]) (.l 9) false,
.lw 13 (.un .not (.l 12)) (.l 9) false,
.l 14 (.pick (.l 9) (.b true) (.l 13)),
.l 15 (.mv (.l 14)),
.lw 16 (.fa (.g 1) 2) (.l 15) false,
.lw 17 (.ld none (.l 16)) (.l 15) false,
.lw 18 (.call (.c (.fn 64 [])) [.l 17, .i 0, .i 20]) (.l 15) false,
.lw 19 (.un .not (.l 18)) (.l 15) false,
.g 20 (.pick (.l 15) (.b true) (.l 19))])
(.cond (.g 20)
(.seq
(.reg [
.g 2 (.mv (.i 2))])
.ret)
.skip))
(.seq
(.seq
(.reg [
.l 21 (.fa (.g 1) 3),
.l 22 (.ld none (.l 21)),
.l 23 (.len (.l 22)),
.g 24 (.bin .gtr (.l 23) (.i 20))])
(.cond (.g 24)
(.seq
(.reg [
.g 2 (.mv (.i 8))])
.ret)
.skip))
(.seq
(.seq
(.reg [
.g 3 (.mv (.i 0))])
(.block 0
(.loop
(.seq
(.seq
(.reg [
.l 25 (.mv (.g 3)),
.l 26 (.fa (.g 1) 3),
.l 27 (.ld none (.l 26)),
.l 28 (.len (.l 27)),
.g 29 (.bin .lss (.l 25) (.l 28))])
(.cond (.g 29)
.skip
(.exit 0)))
(.seq
(.block 1
(.seq
(.draw [
.l 32 (.ld (some 4) (.g 1)) 0,
.l 33 (.fa (.g 1) 3) 1,
.l 34 (.ld none (.l 33)) 2,
.l 35 (.mv (.g 3)) 3,
.l 36 (.ia 5 (.l 34) (.l 35)) 4,
.l 37 (.ld (some 5) (.l 36)) 5,
.lf 38 (.call (.c (.fn 65 [])) [.l 32, .l 37]) 6,
.g 4 (.mv (.l 38)) 7])
(.seq
(.reg [
.l 39 (.mv (.g 4)),
.g 40 (.bin .neq (.l 39) (.i 0))])
(.cond (.g 40)
(.seq
(.reg [
.l 41 (.mv (.g 4)),
.g 2 (.mv (.l 41))])
.ret)
.skip))))
(.reg [
.l 30 (.mv (.g 3)),
.l 31 (.bin .add (.l 30) (.i 1)),
.g 3 (.mv (.l 31))]))))))
(.seq
(.reg [
.g 2 (.mv (.i 0))])
.ret)))))
def K41 : List Nat := [0, 20, 24, 29, 40, 2, 1, 3, 4]
noncomputable def b41 : Code := match Tryz.f41.body with | some c => c | none => .skip
theorem t41 : trCode ⟨Tryz.prog, K41, [], 42, none⟩ b41 = some c41 := by kernel_rfl
theorem go41 {args : List AV} {H : AHeap} {Kk : AV → AHeap → Prop} (hn : args.length = 1) (h : AGo ⟨Tryz.prog, K41, [], 42, none⟩ H.length [.code c41] (RetP [.t (.g 2)] H.length Kk) ⟨[], argsG 0 args⟩ H) : ACalls Tryz.prog 41 args H Kk :=
  ACalls_of Tryz.func41 (c := b41) rfl (by kernel_rfl) t41 (rs := [.t (.g 2)]) (by kernel_rfl) (by rw [hn]; exact Nat.le_of_ble_eq_true rfl) (by rw [hn]; rfl) (h.weaken (fun _ _ => RetP.hands) (by simp))
/-- sastrugi/sastrugiref04.checkTruck -/
def c65 : ACode :=
  (.seq
(.reg [
.g 2 (.box (.g 0)),
.g 3 (.box (.g 1)),
.g 4 (.mv (.i 0))])
(.seq
(.block 0
(.seq
(.reg [
.l 8 (.fa (.g 3) 0),
.l 9 (.ld none (.l 8)),
.l 10 (.bin .neq (.l 9) (.i 1)),
.l 11 (.mv (.l 10)),
.lw 12 (.fa (.g 3) 0) (.l 11) true,
.lw 13 (.ld none (.l 12)) (.l 11) true,
.lw 14 (.bin .neq (.l 13) (.i 2)) (.l 11) true,
.l 15 (.pick (.l 11) (.l 14) (.b false)),
.g 7 (.mv (.l 15))])
(.cond (.g 7)
(.seq
(.reg [
.g 4 (.mv (.i 4))])
.ret)
(.seq
(.reg [
.l 17 (.fa (.g 3) 1),
.l 18 (.ld none (.l 17)),
.l 19 (.call (.c (.fn 64 [])) [.l 18, .i 0, .i 10000]),
.l 20 (.un .not (.l 19)),
.l 21 (.mv (.l 20)),
.lw 22 (.fa (.g 3) 2) (.l 21) false,
.lw 23 (.fa (.l 22) 0) (.l 21) false,
.lw 24 (.ld none (.l 23)) (.l 21) false,
.lw 25 (.call (.c (.fn 64 [])) [.l 24, .i 1, .i 1000]) (.l 21) false,
.lw 26 (.un .not (.l 25)) (.l 21) false,
.l 27 (.pick (.l 21) (.b true) (.l 26)),
.l 28 (.mv (.l 27)),
.lw 29 (.fa (.g 3) 2) (.l 28) false,
.lw 30 (.fa (.l 29) 1) (.l 28) false,
.lw 31 (.ld none (.l 30)) (.l 28) false,
.lw 32 (.call (.c (.fn 64 [])) [.l 31, .i 1, .i 1000]) (.l 28) false,
.lw 33 (.un .not (.l 32)) (.l 28) false,
.l 34 (.pick (.l 28) (.b true) (.l 33)),
.g 16 (.mv (.l 34))])
(.cond (.g 16)
(.seq
(.reg [
.g 4 (.mv (.i 2))])
.ret)
(.seq
(.reg [
.l 36 (.fa (.g 3) 2),
.l 37 (.fa (.l 36) 0),
.l 38 (.ld none (.l 37)),
.l 39 (.fa (.g 3) 2),
.l 40 (.fa (.l 39) 1),
.l 41 (.ld none (.l 40)),
.l 42 (.bin .gtr (.l 38) (.l 41)),
.g 35 (.mv (.l 42))])
(.cond (.g 35)
(.seq
(.reg [
.g 4 (.mv (.i 11))])
.ret)
(.seq
(.reg [
.l 44 (.fa (.g 2) 0),
.l 45 (.ld none (.l 44)),
.l 46 (.fa (.g 3) 2),
.l 47 (.fa (.l 46) 0),
.l 48 (.ld none (.l 47)),
.l 49 (.bin .mul (.i 1000) (.l 48)),
.l 50 (.bin .gtr (.l 45) (.l 49)),
.g 43 (.mv (.l 50))])
(.cond (.g 43)
(.seq
(.reg [
.g 4 (.mv (.i 13))])
.ret)
(.seq
(.reg [
.l 52 (.fa (.g 2) 1),
.l 53 (.ld none (.l 52)),
.l 54 (.fa (.g 3) 2),
.l 55 (.fa (.l 54) 1),
.l 56 (.ld none (.l 55)),
.l 57 (.bin .mul (.i 2) (.l 56)),
.l 58 (.bin .lss (.l 53) (.l 57)),
.g 51 (.mv (.l 58))])
(.cond (.g 51)
(.seq
(.reg [
.g 4 (.mv (.i 12))])
.ret)
(.seq
(.reg [
.l 60 (.fa (.g 3) 4),
.l 61 (.ld none (.l 60)),
.l 62 (.len (.l 61)),
.l 63 (.bin .gtr (.l 62) (.i 8)),
.g 59 (.mv (.l 63))])
(.cond (.g 59)
(.seq
(.reg [
.g 4 (.mv (.i 8))])
.ret)
.skip)))))))))))))
(.seq
(.seq
(.reg [
.g 5 (.mv (.i 0))])
(.block 1
(.loop
(.seq
(.seq
(.reg [
.l 64 (.mv (.g 5)),
.l 65 (.fa (.g 3) 4),
.l 66 (.ld none (.l 65)),
.l 67 (.len (.l 66)),
.g 68 (.bin .lss (.l 64) (.l 67))])
(.cond (.g 68)
.skip
(.exit 1)))
(.seq
(.block 2
(.seq
(.reg [
.l 71 (.fa (.g 3) 4),
.l 72 (.ld none (.l 71)),
.l 73 (.mv (.g 5)),
.l 74 (.ia 2 (.l 72) (.l 73)),
.l 75 (.ld (some 2) (.l 74)),
.g 6 (.new [.int .i64 0, .int .i64 0]),
.n (.st 2 (.g 6) (.l 75))])
(.seq
(.seq
(.reg [
.l 76 (.fa (.g 6) 0),
.l 77 (.ld none (.l 76)),
.l 78 (.fa (.g 2) 0),
.l 79 (.ld none (.l 78)),
.l 80 (.bin .sub (.l 79) (.i 1)),
.l 81 (.call (.c (.fn 64 [])) [.l 77, .i 1, .l 80]),
.l 82 (.un .not (.l 81)),
.l 83 (.mv (.l 82)),
.lw 84 (.fa (.g 6) 1) (.l 83) false,
.lw 85 (.ld none (.l 84)) (.l 83) false,
.lw 86 (.call (.c (.fn 64 [])) [.l 85, .i 0, .i 10000]) (.l 83) false,
.lw 87 (.un .not (.l 86)) (.l 83) false,
.g 88 (.pick (.l 83) (.b true) (.l 87))])
(.cond (.g 88)
(.seq
(.reg [
.g 4 (.mv (.i 2))])
.ret)
.skip))
(.seq
(.draw [
.l 89 (.mv (.g 5)) 0,
.l 90 (.bin .gtr (.l 89) (.i 0)) 1,
.l 91 (.mv (.l 90)) 2,
.lw 92 (.ld (some 4) (.g 2)) (.l 91) true 3,
.lw 93 (.ld (some 5) (.g 3)) (.l 91) true 4,
.lw 94 (.ld (some 2) (.g 6)) (.l 91) true 5,
.lw 96 (.ld (some 4) (.g 2)) (.l 91) true 7,
.lw 97 (.ld (some 5) (.g 3)) (.l 91) true 8,
.lw 98 (.fa (.g 3) 4) (.l 91) true 9,
.lw 99 (.ld none (.l 98)) (.l 91) true 10,
.lw 100 (.mv (.g 5)) (.l 91) true 11,
.lw 101 (.bin .sub (.l 100) (.i 1)) (.l 91) true 12,
.lw 102 (.ia 2 (.l 99) (.l 101)) (.l 91) true 13,
.lw 103 (.ld (some 2) (.l 102)) (.l 91) true 14,
.lwf 95 (.call (.c (.fn 62 [])) [.l 92, .l 93, .l 94]) (.l 91) true 6,
.lwf 104 (.call (.c (.fn 62 [])) [.l 96, .l 97, .l 103]) (.l 91) true 15,
.lw 105 (.bin .leq (.l 95) (.l 104)) (.l 91) true 16,
.g 106 (.pick (.l 91) (.l 105) (.b false)) 17])
(.cond (.g 106)
(.seq
(.reg [
.g 4 (.mv (.i 11))])
.ret)
.skip)))))
(.reg [
.l 69 (.mv (.g 5)),
.l 70 (.bin .add (.l 69) (.i 1)),
.g 5 (.mv (.l 70))]))))))
(.seq
(.reg [
.g 4 (.mv (.i 0))])
.ret))))
def K65 : List Nat := [0, 1, 7, 16, 35, 43, 51, 59, 68, 88, 106, 4, 2, 3, 5, 6]
noncomputable def b65 : Code := match Tryz.f65.body with | some c => c | none => .skip
theorem t65 : trCode ⟨Tryz.prog, K65, [], 107, none⟩ b65 = some c65 := by kernel_rfl
theorem go65 {args : List AV} {H : AHeap} {Kk : AV → AHeap → Prop} (hn : args.length = 2) (h : AGo ⟨Tryz.prog, K65, [], 107, none⟩ H.length [.code c65] (RetP [.t (.g 4)] H.length Kk) ⟨[], argsG 0 args⟩ H) : ACalls Tryz.prog 65 args H Kk :=
  ACalls_of Tryz.func65 (c := b65) rfl (by kernel_rfl) t65 (rs := [.t (.g 4)]) (by kernel_rfl) (by rw [hn]; exact Nat.le_of_ble_eq_true rfl) (by rw [hn]; rfl) (h.weaken (fun _ _ => RetP.hands) (by simp))
/-- sastrugi/sastrugiref04.within -/
def c64 : ACode :=
  (.seq
(.reg [
.g 6 (.mv (.b false))])
(.seq
(.reg [
.l 7 (.mv (.g 0)),
.l 8 (.mv (.g 1)),
.l 9 (.bin .geq (.l 7) (.l 8)),
.l 10 (.mv (.l 9)),
.lw 11 (.mv (.g 0)) (.l 10) true,
.lw 12 (.mv (.g 2)) (.l 10) true,
.lw 13 (.bin .leq (.l 11) (.l 12)) (.l 10) true,
.l 14 (.pick (.l 10) (.l 13) (.b false)),
.g 6 (.mv (.l 14))])
.ret))
def K64 : List Nat := [0, 1, 2, 6]
noncomputable def b64 : Code := match Tryz.f64.body with | some c => c | none => .skip
theorem t64 : trCode ⟨Tryz.prog, K64, [], 15, none⟩ b64 = some c64 := by kernel_rfl
theorem go64 {args : List AV} {H : AHeap} {Kk : AV → AHeap → Prop} (hn : args.length = 3) (h : AGo ⟨Tryz.prog, K64, [], 15, none⟩ H.length [.code c64] (RetP [.t (.g 6)] H.length Kk) ⟨[], argsG 0 args⟩ H) : ACalls Tryz.prog 64 args H Kk :=
  ACalls_of Tryz.func64 (c := b64) rfl (by kernel_rfl) t64 (rs := [.t (.g 6)]) (by kernel_rfl) (by rw [hn]; exact Nat.le_of_ble_eq_true rfl) (by rw [hn]; rfl) (h.weaken (fun _ _ => RetP.hands) (by simp))
/-- sastrugi/sastrugiref04.along -/
def c62 : ACode :=
  (.seq
(.reg [
.g 3 (.box (.g 0)),
.g 4 (.box (.g 1)),
.g 5 (.box (.g 2)),
.g 6 (.mv (.i 0))])
(.seq
(.seq
(.reg [
.l 7 (.fa (.g 4) 0),
.l 8 (.ld none (.l 7)),
.g 9 (.bin .eql (.l 8) (.i 2))])
(.cond (.g 9)
(.seq
(.reg [
.l 10 (.fa (.g 3) 0),
.l 11 (.ld none (.l 10)),
.l 12 (.fa (.g 5) 0),
.l 13 (.ld none (.l 12)),
.l 14 (.bin .sub (.l 11) (.l 13)),
.g 6 (.mv (.l 14))])
.ret)
.skip))
(.seq
(.reg [
.l 15 (.fa (.g 5) 0),
.l 16 (.ld none (.l 15)),
.g 6 (.mv (.l 16))])
.ret)))
def K62 : List Nat := [0, 1, 2, 9, 6, 3, 4, 5]
noncomputable def b62 : Code := match Tryz.f62.body with | some c => c | none => .skip
theorem t62 : trCode ⟨Tryz.prog, K62, [], 17, none⟩ b62 = some c62 := by kernel_rfl
theorem go62 {args : List AV} {H : AHeap} {Kk : AV → AHeap → Prop} (hn : args.length = 3) (h : AGo ⟨Tryz.prog, K62, [], 17, none⟩ H.length [.code c62] (RetP [.t (.g 6)] H.length Kk) ⟨[], argsG 0 args⟩ H) : ACalls Tryz.prog 62 args H Kk :=
  ACalls_of Tryz.func62 (c := b62) rfl (by kernel_rfl) t62 (rs := [.t (.g 6)]) (by kernel_rfl) (by rw [hn]; exact Nat.le_of_ble_eq_true rfl) (by rw [hn]; rfl) (h.weaken (fun _ _ => RetP.hands) (by simp))
/-- sastrugi/sastrugiref04.stop -/
def c61 : ACode :=
  (.seq
(.reg [
.g 4 (.box (.g 0)),
.g 5 (.box (.g 1)),
.g 8 (.mv (.i 0))])
(.seq
(.seq
(.reg [
.g 9 (.mv (.i 0))])
(.block 0
(.loop
(.seq
(.seq
(.reg [
.l 10 (.mv (.g 9)),
.l 11 (.fa (.g 5) 4),
.l 12 (.ld none (.l 11)),
.l 13 (.len (.l 12)),
.g 14 (.bin .lss (.l 10) (.l 13))])
(.cond (.g 14)
.skip
(.exit 0)))
(.seq
(.block 1
(.seq
(.draw [
.l 17 (.ld (some 4) (.g 4)) 0,
.l 18 (.ld (some 5) (.g 5)) 1,
.l 19 (.fa (.g 5) 4) 2,
.l 20 (.ld none (.l 19)) 3,
.l 21 (.mv (.g 9)) 4,
.l 22 (.ia 2 (.l 20) (.l 21)) 5,
.l 23 (.ld (some 2) (.l 22)) 6,
.l 25 (.mv (.g 2)) 8,
.lf 24 (.call (.c (.fn 62 [])) [.l 17, .l 18, .l 23]) 7,
.l 26 (.bin .geq (.l 24) (.l 25)) 9,
.l 27 (.mv (.l 26)) 10,
.lw 28 (.fa (.g 5) 4) (.l 27) true 11,
.lw 29 (.ld none (.l 28)) (.l 27) true 12,
.lw 30 (.mv (.g 9)) (.l 27) true 13,
.lw 31 (.ia 2 (.l 29) (.l 30)) (.l 27) true 14,
.lw 32 (.fa (.l 31) 1) (.l 27) true 15,
.lw 33 (.ld none (.l 32)) (.l 27) true 16,
.lw 34 (.mv (.g 3)) (.l 27) true 17,
.lw 35 (.bin .gtr (.l 33) (.l 34)) (.l 27) true 18,
.g 36 (.pick (.l 27) (.l 35) (.b false)) 19])
(.cond (.g 36)
(.seq
(.draw [
.l 37 (.ld (some 4) (.g 4)) 0,
.l 38 (.ld (some 5) (.g 5)) 1,
.l 39 (.fa (.g 5) 4) 2,
.l 40 (.ld none (.l 39)) 3,
.l 41 (.mv (.g 9)) 4,
.l 42 (.ia 2 (.l 40) (.l 41)) 5,
.l 43 (.ld (some 2) (.l 42)) 6,
.lf 44 (.call (.c (.fn 62 [])) [.l 37, .l 38, .l 43]) 7,
.g 8 (.mv (.l 44)) 8])
.ret)
.skip)))
(.reg [
.l 15 (.mv (.g 9)),
.l 16 (.bin .add (.l 15) (.i 1)),
.g 9 (.mv (.l 16))]))))))
(.seq
(.reg [
.l 45 (.fa (.g 4) 0),
.l 46 (.ld none (.l 45)),
.g 8 (.mv (.l 46))])
.ret)))
def K61 : List Nat := [0, 1, 2, 3, 14, 36, 8, 4, 5, 9]
noncomputable def b61 : Code := match Tryz.f61.body with | some c => c | none => .skip
theorem t61 : trCode ⟨Tryz.prog, K61, [], 47, none⟩ b61 = some c61 := by kernel_rfl
theorem go61 {args : List AV} {H : AHeap} {Kk : AV → AHeap → Prop} (hn : args.length = 4) (h : AGo ⟨Tryz.prog, K61, [], 47, none⟩ H.length [.code c61] (RetP [.t (.g 8)] H.length Kk) ⟨[], argsG 0 args⟩ H) : ACalls Tryz.prog 61 args H Kk :=
  ACalls_of Tryz.func61 (c := b61) rfl (by kernel_rfl) t61 (rs := [.t (.g 8)]) (by kernel_rfl) (by rw [hn]; exact Nat.le_of_ble_eq_true rfl) (by rw [hn]; rfl) (h.weaken (fun _ _ => RetP.hands) (by simp))
/-- sastrugi/sastrugiref04.Next -/
def c36 : ACode :=
  (.seq
(.reg [
.g 5 (.box (.g 0)),
.g 6 (.box (.g 1)),
.g 10 (.mv (.i 0))])
(.seq
(.reg [
.l 11 (.mv (.g 2)),
.l 12 (.mv (.g 4)),
.l 13 (.bin .add (.l 11) (.l 12)),
.l 14 (.ld (some 4) (.g 5)),
.l 15 (.ld (some 5) (.g 6)),
.l 16 (.mv (.g 2)),
.l 17 (.mv (.g 3)),
.l 18 (.call (.c (.fn 61 [])) [.l 14, .l 15, .l 16, .l 17]),
.l 19 (.mn [.l 13, .l 18]),
.g 10 (.mv (.l 19))])
.ret))
def K36 : List Nat := [0, 1, 2, 3, 4, 10, 5, 6]
noncomputable def b36 : Code := match Tryz.f36.body with | some c => c | none => .skip
theorem t36 : trCode ⟨Tryz.prog, K36, [], 20, none⟩ b36 = some c36 := by kernel_rfl
theorem go36 {args : List AV} {H : AHeap} {Kk : AV → AHeap → Prop} (hn : args.length = 5) (h : AGo ⟨Tryz.prog, K36, [], 20, none⟩ H.length [.code c36] (RetP [.t (.g 10)] H.length Kk) ⟨[], argsG 0 args⟩ H) : ACalls Tryz.prog 36 args H Kk :=
  ACalls_of Tryz.func36 (c := b36) rfl (by kernel_rfl) t36 (rs := [.t (.g 10)]) (by kernel_rfl) (by rw [hn]; exact Nat.le_of_ble_eq_true rfl) (by rw [hn]; rfl) (h.weaken (fun _ _ => RetP.hands) (by simp))
/-- sastrugi/sastrugiref04.Lane -/
def c37 : ACode :=
  (.seq
(.reg [
.g 4 (.box (.g 0)),
.g 5 (.box (.g 1)),
.g 8 (.mv (.b false))])
(.seq
(.seq
(.reg [
.l 10 (.mv (.g 3)),
.l 11 (.fa (.g 5) 1),
.l 12 (.ld none (.l 11)),
.l 13 (.bin .lss (.l 10) (.l 12)),
.l 14 (.mv (.l 13)),
.lw 15 (.mv (.g 2)) (.l 14) false,
.lw 16 (.fa (.g 4) 0) (.l 14) false,
.lw 17 (.ld none (.l 16)) (.l 14) false,
.lw 18 (.bin .geq (.l 15) (.l 17)) (.l 14) false,
.g 19 (.pick (.l 14) (.b true) (.l 18))])
(.cond (.g 19)
(.seq
(.reg [
.g 8 (.mv (.b false))])
.ret)
.skip))
(.seq
(.seq
(.reg [
.g 9 (.mv (.i 0))])
(.block 0
(.loop
(.seq
(.seq
(.reg [
.l 20 (.mv (.g 9)),
.l 21 (.fa (.g 5) 4),
.l 22 (.ld none (.l 21)),
.l 23 (.len (.l 22)),
.g 24 (.bin .lss (.l 20) (.l 23))])
(.cond (.g 24)
.skip
(.exit 0)))
(.seq
(.block 1
(.seq
(.draw [
.l 27 (.ld (some 4) (.g 4)) 0,
.l 28 (.ld (some 5) (.g 5)) 1,
.l 29 (.fa (.g 5) 4) 2,
.l 30 (.ld none (.l 29)) 3,
.l 31 (.mv (.g 9)) 4,
.l 32 (.ia 2 (.l 30) (.l 31)) 5,
.l 33 (.ld (some 2) (.l 32)) 6,
.l 35 (.mv (.g 2)) 8,
.lf 34 (.call (.c (.fn 62 [])) [.l 27, .l 28, .l 33]) 7,
.l 36 (.bin .eql (.l 34) (.l 35)) 9,
.l 37 (.mv (.l 36)) 10,
.lw 38 (.fa (.g 5) 4) (.l 37) true 11,
.lw 39 (.ld none (.l 38)) (.l 37) true 12,
.lw 40 (.mv (.g 9)) (.l 37) true 13,
.lw 41 (.ia 2 (.l 39) (.l 40)) (.l 37) true 14,
.lw 42 (.fa (.l 41) 1) (.l 37) true 15,
.lw 43 (.ld none (.l 42)) (.l 37) true 16,
.lw 44 (.mv (.g 3)) (.l 37) true 17,
.lw 45 (.bin .gtr (.l 43) (.l 44)) (.l 37) true 18,
.g 46 (.pick (.l 37) (.l 45) (.b false)) 19])
(.cond (.g 46)
(.seq
(.reg [
.g 8 (.mv (.b false))])
.ret)
.skip)))
(.reg [
.l 25 (.mv (.g 9)),
.l 26 (.bin .add (.l 25) (.i 1)),
.g 9 (.mv (.l 26))]))))))
(.seq
(.reg [
.g 8 (.mv (.b true))])
.ret))))
def K37 : List Nat := [0, 1, 2, 3, 19, 24, 46, 8, 4, 5, 9]
noncomputable def b37 : Code := match Tryz.f37.body with | some c => c | none => .skip
theorem t37 : trCode ⟨Tryz.prog, K37, [], 47, none⟩ b37 = some c37 := by kernel_rfl
theorem go37 {args : List AV} {H : AHeap} {Kk : AV → AHeap → Prop} (hn : args.length = 4) (h : AGo ⟨Tryz.prog, K37, [], 47, none⟩ H.length [.code c37] (RetP [.t (.g 8)] H.length Kk) ⟨[], argsG 0 args⟩ H) : ACalls Tryz.prog 37 args H Kk :=
  ACalls_of Tryz.func37 (c := b37) rfl (by kernel_rfl) t37 (rs := [.t (.g 8)]) (by kernel_rfl) (by rw [hn]; exact Nat.le_of_ble_eq_true rfl) (by rw [hn]; rfl) (h.weaken (fun _ _ => RetP.hands) (by simp))
/-- sastrugi/sastrugiref04.ways -/
def c43 : ACode :=
  (.seq
(.reg [
.g 3 (.box (.g 0)),
.g 4 (.box (.g 1)),
.g 6 (.mv (.c (.lit (.slice none 0 0))))])
(.seq
(.reg [
.g 7 (.mv (.c (.lit (.slice none 0 0))))])
(.seq
(.reg [
.g 8 (.new [.int .i64 0, .int .i64 0])])
(.seq
(.seq
(.reg [
.g 9 (.mv (.i 0))])
(.block 0
(.loop
(.seq
(.seq
(.reg [
.l 10 (.mv (.g 9)),
.l 11 (.mv (.g 2)),
.g 12 (.bin .leq (.l 10) (.l 11))])
(.cond (.g 12)
.skip
(.exit 0)))
(.seq
(.block 1
(.seq
(.seq
(.reg [
.l 15 (.mv (.g 9)),
.l 16 (.fa (.g 4) 1),
.l 17 (.ld none (.l 16)),
.g 18 (.bin .gtr (.l 15) (.l 17))])
(.cond (.g 18)
(.draw [
.l 19 (.ld (some 4) (.g 3)) 0,
.l 20 (.ld (some 5) (.g 4)) 1,
.l 21 (.fa (.g 8) 0) 2,
.l 22 (.ld none (.l 21)) 3,
.l 23 (.mv (.g 9)) 4,
.l 24 (.bin .sub (.l 23) (.i 1)) 5,
.l 25 (.fa (.g 4) 2) 6,
.l 26 (.fa (.l 25) 0) 7,
.l 27 (.ld none (.l 26)) 8,
.l 29 (.ld (some 4) (.g 3)) 10,
.l 30 (.ld (some 5) (.g 4)) 11,
.l 31 (.fa (.g 8) 1) 12,
.l 32 (.ld none (.l 31)) 13,
.l 33 (.mv (.g 9)) 14,
.l 34 (.bin .sub (.l 33) (.i 1)) 15,
.l 35 (.fa (.g 4) 2) 16,
.l 36 (.fa (.l 35) 1) 17,
.l 37 (.ld none (.l 36)) 18,
.lf 28 (.call (.c (.fn 36 [])) [.l 19, .l 20, .l 22, .l 24, .l 27]) 9,
.lf 38 (.call (.c (.fn 36 [])) [.l 29, .l 30, .l 32, .l 34, .l 37]) 19,
.l 39 (.mk [.int .i64 0, .int .i64 0] [(0, 1, .l 28), (1, 1, .l 38)]) 20,
.n (.st 2 (.g 8) (.l 39)) 21])
.skip))
(.reg [
.l 40 (.mv (.g 7)),
.l 41 (.ld (some 2) (.g 8)),
.l 42 (.mks false 2 [.l 41]),
.l 43 (.app 2 16 (.l 40) (.l 42)),
.g 7 (.mv (.l 43))])))
(.reg [
.l 13 (.mv (.g 9)),
.l 14 (.bin .add (.l 13) (.i 1)),
.g 9 (.mv (.l 14))]))))))
(.seq
(.reg [
.l 44 (.mv (.g 7)),
.g 6 (.mv (.l 44))])
.ret)))))
def K43 : List Nat := [0, 1, 2, 12, 18, 6, 3, 4, 7, 8, 9]
noncomputable def b43 : Code := match Tryz.f43.body with | some c => c | none => .skip
theorem t43 : trCode ⟨Tryz.prog, K43, [], 45, none⟩ b43 = some c43 := by kernel_rfl
theorem go43 {args : List AV} {H : AHeap} {Kk : AV → AHeap → Prop} (hn : args.length = 3) (h : AGo ⟨Tryz.prog, K43, [], 45, none⟩ H.length [.code c43] (RetP [.t (.g 6)] H.length Kk) ⟨[], argsG 0 args⟩ H) : ACalls Tryz.prog 43 args H Kk :=
  ACalls_of Tryz.func43 (c := b43) rfl (by kernel_rfl) t43 (rs := [.t (.g 6)]) (by kernel_rfl) (by rw [hn]; exact Nat.le_of_ble_eq_true rfl) (by rw [hn]; rfl) (h.weaken (fun _ _ => RetP.hands) (by simp))
/-- sastrugi/sastrugiref04.free -/
def c44 : ACode :=
  (.seq
(.reg [
.g 2 (.box (.g 0)),
.g 4 (.new [.int .i64 0, .int .i64 0, .int .i64 0, .int .i64 0, .slice none 0 0])])
(.seq
(.seq
(.reg [
.g 5 (.mv (.g 1))])
(.cond (.g 5)
(.reg [
.l 6 (.fa (.g 2) 4),
.n (.st 1 (.l 6) (.c (.lit (.slice none 0 0))))])
.skip))
(.seq
(.reg [
.l 7 (.ld (some 5) (.g 2)),
.n (.st 5 (.g 4) (.l 7))])
.ret)))
def K44 : List Nat := [0, 1, 5, 4, 2]
noncomputable def b44 : Code := match Tryz.f44.body with | some c => c | none => .skip
theorem t44 : trCode ⟨Tryz.prog, K44, [], 8, none⟩ b44 = some c44 := by kernel_rfl
theorem go44 {args : List AV} {H : AHeap} {Kk : AV → AHeap → Prop} (hn : args.length = 2) (h : AGo ⟨Tryz.prog, K44, [], 8, none⟩ H.length [.code c44] (RetP [.cell (.g 4) (some 5)] H.length Kk) ⟨[], argsG 0 args⟩ H) : ACalls Tryz.prog 44 args H Kk :=
  ACalls_of Tryz.func44 (c := b44) rfl (by kernel_rfl) t44 (rs := [.cell (.g 4) (some 5)]) (by kernel_rfl) (by rw [hn]; exact Nat.le_of_ble_eq_true rfl) (by rw [hn]; rfl) (h.weaken (fun _ _ => RetP.hands) (by simp))
/-- sastrugi/sastrugiref04.onLane -/
def c45 : ACode :=
  (.seq
(.reg [
.g 4 (.box (.g 0)),
.g 5 (.box (.g 1)),
.g 6 (.box (.g 2)),
.g 8 (.new [.int .i64 0, .int .i64 0]),
.g 9 (.mv (.b false))])
(.seq
(.seq
(.reg [
.l 10 (.ld (some 4) (.g 4)),
.l 11 (.ld (some 5) (.g 5)),
.l 12 (.fa (.g 6) 1),
.l 13 (.ld none (.l 12)),
.l 14 (.mv (.g 3)),
.l 15 (.call (.c (.fn 37 [])) [.l 10, .l 11, .l 13, .l 14]),
.g 16 (.un .not (.l 15))])
(.cond (.g 16)
(.reg [
.l 17 (.fa (.g 6) 1),
.l 18 (.ld none (.l 17)),
.l 19 (.bin .sub (.l 18) (.i 1)),
.l 20 (.fa (.g 6) 1),
.n (.st 1 (.l 20) (.l 19))])
.skip))
(.seq
(.draw [
.l 21 (.ld (some 2) (.g 6)) 0,
.lf 22 (.mv (.g 3)) 1,
.lf 23 (.fa (.g 5) 1) 2,
.lf 24 (.ld none (.l 23)) 3,
.l 25 (.bin .geq (.l 22) (.l 24)) 4,
.l 26 (.mv (.l 25)) 5,
.lwf 27 (.fa (.g 6) 0) (.l 26) true 6,
.lwf 28 (.ld none (.l 27)) (.l 26) true 7,
.lwf 29 (.fa (.g 6) 1) (.l 26) true 8,
.lwf 30 (.ld none (.l 29)) (.l 26) true 9,
.lwf 31 (.bin .leq (.l 28) (.l 30)) (.l 26) true 10,
.lf 32 (.pick (.l 26) (.l 31) (.b false)) 11,
.nf (.st 2 (.g 8) (.l 21)) 12,
.gf 9 (.mv (.l 32)) 13])
.ret)))
def K45 : List Nat := [0, 1, 2, 3, 16, 8, 9, 4, 5, 6]
noncomputable def b45 : Code := match Tryz.f45.body with | some c => c | none => .skip
theorem t45 : trCode ⟨Tryz.prog, K45, [], 33, none⟩ b45 = some c45 := by kernel_rfl
theorem go45 {args : List AV} {H : AHeap} {Kk : AV → AHeap → Prop} (hn : args.length = 4) (h : AGo ⟨Tryz.prog, K45, [], 33, none⟩ H.length [.code c45] (RetP [.cell (.g 8) (some 2), .t (.g 9)] H.length Kk) ⟨[], argsG 0 args⟩ H) : ACalls Tryz.prog 45 args H Kk :=
  ACalls_of Tryz.func45 (c := b45) rfl (by kernel_rfl) t45 (rs := [.cell (.g 8) (some 2), .t (.g 9)]) (by kernel_rfl) (by rw [hn]; exact Nat.le_of_ble_eq_true rfl) (by rw [hn]; rfl) (h.weaken (fun _ _ => RetP.hands) (by simp))
/-- sastrugi/sastrugiref04.near -/
def c46 : ACode :=
  (.seq
(.reg [
.g 3 (.box (.g 0)),
.g 4 (.box (.g 1)),
.g 6 (.mv (.i 0)),
.g 7 (.mv (.i 0)),
.g 8 (.mv (.b false))])
(.seq
(.reg [
.l 11 (.fa (.g 3) 0),
.l 12 (.ld none (.l 11)),
.l 13 (.fa (.g 4) 0),
.l 14 (.ld none (.l 13)),
.l 15 (.mv (.g 2)),
.l 16 (.bin .sub (.l 14) (.l 15)),
.l 17 (.bin .add (.l 16) (.i 1)),
.l 18 (.mx [.l 12, .l 17]),
.g 9 (.mv (.l 18))])
(.seq
(.reg [
.l 19 (.fa (.g 4) 0),
.l 20 (.ld none (.l 19)),
.l 21 (.mv (.g 9)),
.l 22 (.mv (.g 2)),
.l 23 (.bin .sub (.l 21) (.l 22)),
.l 24 (.bin .add (.l 23) (.i 1)),
.l 25 (.mx [.l 20, .l 24]),
.g 10 (.mv (.l 25))])
(.seq
(.reg [
.l 26 (.mv (.g 9)),
.l 27 (.mv (.g 10)),
.l 28 (.mv (.g 9)),
.l 29 (.fa (.g 3) 1),
.l 30 (.ld none (.l 29)),
.l 31 (.bin .leq (.l 28) (.l 30)),
.l 32 (.mv (.l 31)),
.lw 33 (.mv (.g 10)) (.l 32) true,
.lw 34 (.fa (.g 4) 1) (.l 32) true,
.lw 35 (.ld none (.l 34)) (.l 32) true,
.lw 36 (.bin .leq (.l 33) (.l 35)) (.l 32) true,
.l 37 (.pick (.l 32) (.l 36) (.b false)),
.l 38 (.mv (.l 37)),
.lw 39 (.mv (.g 10)) (.l 38) true,
.lw 40 (.mv (.g 9)) (.l 38) true,
.lw 41 (.bin .sub (.l 39) (.l 40)) (.l 38) true,
.lw 42 (.mv (.g 2)) (.l 38) true,
.lw 43 (.bin .lss (.l 41) (.l 42)) (.l 38) true,
.l 44 (.pick (.l 38) (.l 43) (.b false)),
.g 6 (.mv (.l 26)),
.g 7 (.mv (.l 27)),
.g 8 (.mv (.l 44))])
.ret))))
def K46 : List Nat := [0, 1, 2, 6, 7, 8, 3, 4, 9, 10]
noncomputable def b46 : Code := match Tryz.f46.body with | some c => c | none => .skip
theorem t46 : trCode ⟨Tryz.prog, K46, [], 45, none⟩ b46 = some c46 := by kernel_rfl
theorem go46 {args : List AV} {H : AHeap} {Kk : AV → AHeap → Prop} (hn : args.length = 3) (h : AGo ⟨Tryz.prog, K46, [], 45, none⟩ H.length [.code c46] (RetP [.t (.g 6), .t (.g 7), .t (.g 8)] H.length Kk) ⟨[], argsG 0 args⟩ H) : ACalls Tryz.prog 46 args H Kk :=
  ACalls_of Tryz.func46 (c := b46) rfl (by kernel_rfl) t46 (rs := [.t (.g 6), .t (.g 7), .t (.g 8)]) (by kernel_rfl) (by rw [hn]; exact Nat.le_of_ble_eq_true rfl) (by rw [hn]; rfl) (h.weaken (fun _ _ => RetP.hands) (by simp))
/-- sastrugi/sastrugiref04.road -/
def c47 : ACode :=
  (.seq
(.reg [
.g 3 (.box (.g 0)),
.g 4 (.box (.g 1)),
.g 5 (.box (.g 2)),
.g 6 (.new [.int .i64 0, .int .i64 0])])
(.seq
(.seq
(.reg [
.l 7 (.fa (.g 4) 0),
.l 8 (.ld none (.l 7)),
.g 9 (.bin .eql (.l 8) (.i 2))])
(.cond (.g 9)
(.seq
(.reg [
.l 10 (.fa (.g 3) 0),
.l 11 (.ld none (.l 10)),
.l 12 (.fa (.g 5) 1),
.l 13 (.ld none (.l 12)),
.l 14 (.bin .sub (.l 11) (.l 13)),
.l 15 (.fa (.g 3) 0),
.l 16 (.ld none (.l 15)),
.l 17 (.fa (.g 5) 0),
.l 18 (.ld none (.l 17)),
.l 19 (.bin .sub (.l 16) (.l 18)),
.l 20 (.mk [.int .i64 0, .int .i64 0] [(0, 1, .l 14), (1, 1, .l 19)]),
.n (.st 2 (.g 6) (.l 20))])
.ret)
.skip))
(.seq
(.reg [
.l 21 (.ld (some 2) (.g 5)),
.n (.st 2 (.g 6) (.l 21))])
.ret)))
def K47 : List Nat := [0, 1, 2, 9, 6, 3, 4, 5]
noncomputable def b47 : Code := match Tryz.f47.body with | some c => c | none => .skip
theorem t47 : trCode ⟨Tryz.prog, K47, [], 22, none⟩ b47 = some c47 := by kernel_rfl
theorem go47 {args : List AV} {H : AHeap} {Kk : AV → AHeap → Prop} (hn : args.length = 3) (h : AGo ⟨Tryz.prog, K47, [], 22, none⟩ H.length [.code c47] (RetP [.cell (.g 6) (some 2)] H.length Kk) ⟨[], argsG 0 args⟩ H) : ACalls Tryz.prog 47 args H Kk :=
  ACalls_of Tryz.func47 (c := b47) rfl (by kernel_rfl) t47 (rs := [.cell (.g 6) (some 2)]) (by kernel_rfl) (by rw [hn]; exact Nat.le_of_ble_eq_true rfl) (by rw [hn]; rfl) (h.weaken (fun _ _ => RetP.hands) (by simp))
/-- sastrugi/sastrugiref04.arrives -/
def c66 : ACode :=
  (.seq
(.reg [
.g 2 (.box (.g 0)),
.g 3 (.box (.g 1)),
.g 4 (.new [.int .i64 0, .int .i64 0])])
(.seq
(.reg [
.l 8 (.mk [.int .i64 0, .int .i64 0] [(0, 1, .i (-1)), (1, 1, .i (-1))]),
.g 5 (.new [.int .i64 0, .int .i64 0]),
.n (.st 2 (.g 5) (.l 8))])
(.seq
(.reg [
.g 6 (.new [.int .i64 0, .int .i64 0])])
(.seq
(.seq
(.reg [
.l 9 (.fa (.g 3) 1),
.l 10 (.ld none (.l 9)),
.g 7 (.mv (.l 10))])
(.block 0
(.loop
(.seq
(.seq
(.reg [
.l 11 (.fa (.g 5) 1),
.l 12 (.ld none (.l 11)),
.g 13 (.bin .lss (.l 12) (.i 0))])
(.cond (.g 13)
.skip
(.exit 0)))
(.seq
(.block 1
(.seq
(.seq
(.reg [
.l 16 (.mv (.g 7)),
.l 17 (.fa (.g 3) 1),
.l 18 (.ld none (.l 17)),
.g 19 (.bin .gtr (.l 16) (.l 18))])
(.cond (.g 19)
(.draw [
.l 20 (.ld (some 4) (.g 2)) 0,
.l 21 (.ld (some 5) (.g 3)) 1,
.l 22 (.fa (.g 6) 0) 2,
.l 23 (.ld none (.l 22)) 3,
.l 24 (.mv (.g 7)) 4,
.l 25 (.bin .sub (.l 24) (.i 1)) 5,
.l 26 (.fa (.g 3) 2) 6,
.l 27 (.fa (.l 26) 0) 7,
.l 28 (.ld none (.l 27)) 8,
.l 30 (.ld (some 4) (.g 2)) 10,
.l 31 (.ld (some 5) (.g 3)) 11,
.l 32 (.fa (.g 6) 1) 12,
.l 33 (.ld none (.l 32)) 13,
.l 34 (.mv (.g 7)) 14,
.l 35 (.bin .sub (.l 34) (.i 1)) 15,
.l 36 (.fa (.g 3) 2) 16,
.l 37 (.fa (.l 36) 1) 17,
.l 38 (.ld none (.l 37)) 18,
.lf 29 (.call (.c (.fn 36 [])) [.l 20, .l 21, .l 23, .l 25, .l 28]) 9,
.lf 39 (.call (.c (.fn 36 [])) [.l 30, .l 31, .l 33, .l 35, .l 38]) 19,
.l 40 (.mk [.int .i64 0, .int .i64 0] [(0, 1, .l 29), (1, 1, .l 39)]) 20,
.n (.st 2 (.g 6) (.l 40)) 21])
.skip))
(.seq
(.seq
(.reg [
.l 41 (.fa (.g 6) 1),
.l 42 (.ld none (.l 41)),
.l 43 (.fa (.g 2) 0),
.l 44 (.ld none (.l 43)),
.l 45 (.bin .eql (.l 42) (.l 44)),
.l 46 (.mv (.l 45)),
.lw 47 (.fa (.g 5) 0) (.l 46) true,
.lw 48 (.ld none (.l 47)) (.l 46) true,
.lw 49 (.bin .lss (.l 48) (.i 0)) (.l 46) true,
.g 50 (.pick (.l 46) (.l 49) (.b false))])
(.cond (.g 50)
(.reg [
.l 51 (.mv (.g 7)),
.l 52 (.fa (.g 5) 0),
.n (.st 1 (.l 52) (.l 51))])
.skip))
(.seq
(.reg [
.l 53 (.fa (.g 6) 0),
.l 54 (.ld none (.l 53)),
.l 55 (.fa (.g 2) 0),
.l 56 (.ld none (.l 55)),
.g 57 (.bin .eql (.l 54) (.l 56))])
(.cond (.g 57)
(.reg [
.l 58 (.mv (.g 7)),
.l 59 (.fa (.g 5) 1),
.n (.st 1 (.l 59) (.l 58))])
.skip)))))
(.reg [
.l 14 (.mv (.g 7)),
.l 15 (.bin .add (.l 14) (.i 1)),
.g 7 (.mv (.l 15))]))))))
(.seq
(.reg [
.l 60 (.ld (some 2) (.g 5)),
.n (.st 2 (.g 4) (.l 60))])
.ret)))))
def K66 : List Nat := [0, 1, 13, 19, 50, 57, 4, 2, 3, 5, 6, 7]
noncomputable def b66 : Code := match Tryz.f66.body with | some c => c | none => .skip
theorem t66 : trCode ⟨Tryz.prog, K66, [], 61, none⟩ b66 = some c66 := by kernel_rfl
theorem go66 {args : List AV} {H : AHeap} {Kk : AV → AHeap → Prop} (hn : args.length = 2) (h : AGo ⟨Tryz.prog, K66, [], 61, none⟩ H.length [.code c66] (RetP [.cell (.g 4) (some 2)] H.length Kk) ⟨[], argsG 0 args⟩ H) : ACalls Tryz.prog 66 args H Kk :=
  ACalls_of Tryz.func66 (c := b66) rfl (by kernel_rfl) t66 (rs := [.cell (.g 4) (some 2)]) (by kernel_rfl) (by rw [hn]; exact Nat.le_of_ble_eq_true rfl) (by rw [hn]; rfl) (h.weaken (fun _ _ => RetP.hands) (by simp))
/-- sastrugi/sastrugiref04.last -/
def c42 : ACode :=
  (.seq
(.reg [
.g 1 (.box (.g 0)),
.g 2 (.mv (.i 0))])
(.seq
(.reg [
.g 3 (.mv (.i 0))])
(.seq
(.seq
(.reg [
.g 4 (.mv (.i 0))])
(.block 0
(.loop
(.seq
(.seq
(.reg [
.l 5 (.mv (.g 4)),
.l 6 (.fa (.g 1) 3),
.l 7 (.ld none (.l 6)),
.l 8 (.len (.l 7)),
.g 9 (.bin .lss (.l 5) (.l 8))])
(.cond (.g 9)
.skip
(.exit 0)))
(.seq
(.block 1
(.draw [
.l 12 (.mv (.g 3)) 0,
.l 13 (.ld (some 4) (.g 1)) 1,
.l 14 (.fa (.g 1) 3) 2,
.l 15 (.ld none (.l 14)) 3,
.l 16 (.mv (.g 4)) 4,
.l 17 (.ia 5 (.l 15) (.l 16)) 5,
.l 18 (.ld (some 5) (.l 17)) 6,
.lf 19 (.call (.c (.fn 66 [])) [.l 13, .l 18]) 7,
.l 20 (.fd none (.l 19) 1) 8,
.l 21 (.mx [.l 12, .l 20]) 9,
.g 3 (.mv (.l 21)) 10]))
(.reg [
.l 10 (.mv (.g 4)),
.l 11 (.bin .add (.l 10) (.i 1)),
.g 4 (.mv (.l 11))]))))))
(.seq
(.reg [
.l 22 (.mv (.g 3)),
.g 2 (.mv (.l 22))])
.ret))))
def K42 : List Nat := [0, 9, 2, 1, 3, 4]
noncomputable def b42 : Code := match Tryz.f42.body with | some c => c | none => .skip
theorem t42 : trCode ⟨Tryz.prog, K42, [], 23, none⟩ b42 = some c42 := by kernel_rfl
theorem go42 {args : List AV} {H : AHeap} {Kk : AV → AHeap → Prop} (hn : args.length = 1) (h : AGo ⟨Tryz.prog, K42, [], 23, none⟩ H.length [.code c42] (RetP [.t (.g 2)] H.length Kk) ⟨[], argsG 0 args⟩ H) : ACalls Tryz.prog 42 args H Kk :=
  ACalls_of Tryz.func42 (c := b42) rfl (by kernel_rfl) t42 (rs := [.t (.g 2)]) (by kernel_rfl) (by rw [hn]; exact Nat.le_of_ble_eq_true rfl) (by rw [hn]; rfl) (h.weaken (fun _ _ => RetP.hands) (by simp))
/-- sastrugi/sastrugiref04.Meets -/
def c21 : ACode :=
  (.seq
(.reg [
.g 1 (.box (.g 0)),
.g 2 (.new [.int .i64 0, .int .i64 0, .int .i64 0, .bool false, .bool false, .int .i64 0, .int .i64 0]),
.g 3 (.mv (.i 0))])
(.seq
(.seq
(.reg [
.l 25 (.ld (some 4) (.g 1)),
.l 26 (.call (.c (.fn 41 [])) [.l 25]),
.g 4 (.mv (.l 26))])
(.seq
(.reg [
.l 27 (.mv (.g 4)),
.g 28 (.bin .neq (.l 27) (.i 0))])
(.cond (.g 28)
(.seq
(.reg [
.l 29 (.mk [.int .i64 0, .int .i64 0, .int .i64 0, .bool false, .bool false, .int .i64 0, .int .i64 0] []),
.l 30 (.mv (.g 4)),
.n (.st 7 (.g 2) (.l 29)),
.g 3 (.mv (.l 30))])
.ret)
.skip)))
(.seq
(.reg [
.l 31 (.ld (some 4) (.g 1)),
.l 32 (.call (.c (.fn 42 [])) [.l 31]),
.g 5 (.mv (.l 32))])
(.seq
(.reg [
.g 6 (.mv (.c (.lit (.slice none 0 0))))])
(.seq
(.seq
(.reg [
.g 7 (.mv (.i 0))])
(.block 0
(.loop
(.seq
(.seq
(.reg [
.l 33 (.mv (.g 7)),
.l 34 (.fa (.g 1) 3),
.l 35 (.ld none (.l 34)),
.l 36 (.len (.l 35)),
.g 37 (.bin .lss (.l 33) (.l 36))])
(.cond (.g 37)
.skip
(.exit 0)))
(.seq
(.block 1
(.seq
(.reg [
.l 40 (.fa (.g 1) 3),
.l 41 (.ld none (.l 40)),
.l 42 (.mv (.g 7)),
.l 43 (.ia 5 (.l 41) (.l 42)),
.l 44 (.ld (some 5) (.l 43)),
.g 8 (.new [.int .i64 0, .int .i64 0, .int .i64 0, .int .i64 0, .slice none 0 0]),
.n (.st 5 (.g 8) (.l 44))])
(.draw [
.l 45 (.mv (.g 6)) 0,
.l 46 (.ld (some 4) (.g 1)) 1,
.l 47 (.ld (some 5) (.g 8)) 2,
.l 48 (.mv (.g 5)) 3,
.l 50 (.ld (some 4) (.g 1)) 5,
.l 51 (.ld (some 5) (.g 8)) 6,
.l 53 (.mv (.g 5)) 8,
.lf 49 (.call (.c (.fn 43 [])) [.l 46, .l 47, .l 48]) 4,
.lf 52 (.call (.c (.fn 44 [])) [.l 51, .b true]) 7,
.lf 54 (.call (.c (.fn 43 [])) [.l 50, .l 52, .l 53]) 9,
.l 55 (.mk [.slice none 0 0, .slice none 0 0] [(0, 1, .l 49), (1, 1, .l 54)]) 10,
.l 56 (.mks false 2 [.l 55]) 11,
.lf 57 (.app 2 48 (.l 45) (.l 56)) 12,
.g 6 (.mv (.l 57)) 13])))
(.reg [
.l 38 (.mv (.g 7)),
.l 39 (.bin .add (.l 38) (.i 1)),
.g 7 (.mv (.l 39))]))))))
(.seq
(.reg [
.l 58 (.mk [.int .i64 0, .int .i64 0] [(0, 1, .i 0), (1, 1, .i 0)]),
.l 59 (.mk [.int .i64 0, .int .i64 0] [(0, 1, .i 1), (1, 1, .i 0)]),
.l 60 (.mk [.int .i64 0, .int .i64 0] [(0, 1, .i 0), (1, 1, .i 1)]),
.l 61 (.mk [.int .i64 0, .int .i64 0] [(0, 1, .i 1), (1, 1, .i 1)]),
.l 62 (.mk [.int .i64 0, .int .i64 0, .int .i64 0, .int .i64 0, .int .i64 0, .int .i64 0, .int .i64 0, .int .i64 0] [(0, 2, .l 58), (2, 2, .l 59), (4, 2, .l 60), (6, 2, .l 61)]),
.g 9 (.new [.int .i64 0, .int .i64 0, .int .i64 0, .int .i64 0, .int .i64 0, .int .i64 0, .int .i64 0, .int .i64 0]),
.n (.st 8 (.g 9) (.l 62))])
(.seq
(.seq
(.reg [
.g 10 (.mv (.i 0))])
(.block 2
(.loop
(.seq
(.seq
(.reg [
.l 63 (.mv (.g 10)),
.l 64 (.mv (.g 5)),
.g 65 (.bin .leq (.l 63) (.l 64))])
(.cond (.g 65)
.skip
(.exit 2)))
(.seq
(.block 3
(.seq
(.reg [
.g 11 (.mv (.i 0))])
(.block 4
(.loop
(.seq
(.seq
(.reg [
.l 68 (.mv (.g 11)),
.l 69 (.fa (.g 1) 3),
.l 70 (.ld none (.l 69)),
.l 71 (.len (.l 70)),
.g 72 (.bin .lss (.l 68) (.l 71))])
(.cond (.g 72)
.skip
(.exit 4)))
(.seq
(.block 5
(.seq
(.reg [
.l 75 (.mv (.g 11)),
.l 76 (.bin .add (.l 75) (.i 1)),
.g 12 (.mv (.l 76))])
(.block 6
(.loop
(.seq
(.seq
(.reg [
.l 77 (.mv (.g 12)),
.l 78 (.fa (.g 1) 3),
.l 79 (.ld none (.l 78)),
.l 80 (.len (.l 79)),
.g 81 (.bin .lss (.l 77) (.l 80))])
(.cond (.g 81)
.skip
(.exit 6)))
(.seq
(.block 7
(.seq
(.reg [
.g 13 (.mv (.i 0))])
(.block 8
(.loop
(.seq
(.seq
(.reg [
.l 84 (.mv (.g 13)),
.g 85 (.bin .lss (.l 84) (.i 4))])
(.cond (.g 85)
.skip
(.exit 8)))
(.seq
(.block 9
(.seq
(.draw [
.l 88 (.mv (.g 13)) 0,
.l 89 (.iaa 4 2 (.g 9) (.l 88)) 1,
.l 90 (.iaa 2 1 (.l 89) (.i 0)) 2,
.l 91 (.ld none (.l 90)) 3,
.l 92 (.mv (.g 13)) 4,
.l 93 (.iaa 4 2 (.g 9) (.l 92)) 5,
.l 94 (.iaa 2 1 (.l 93) (.i 1)) 6,
.l 95 (.ld none (.l 94)) 7,
.g 14 (.mv (.l 91)) 8,
.g 15 (.mv (.l 95)) 9])
(.seq
(.seq
(.reg [
.l 96 (.mv (.g 14)),
.l 97 (.mv (.g 15)),
.l 98 (.bin .add (.l 96) (.l 97)),
.l 99 (.fa (.g 1) 2),
.l 100 (.ld none (.l 99)),
.g 101 (.bin .gtr (.l 98) (.l 100))])
(.cond (.g 101)
(.exit 9)
.skip))
(.seq
(.draw [
.l 102 (.fa (.g 1) 3) 0,
.l 103 (.ld none (.l 102)) 1,
.l 104 (.mv (.g 11)) 2,
.l 105 (.ia 5 (.l 103) (.l 104)) 3,
.l 106 (.ld (some 5) (.l 105)) 4,
.l 107 (.mv (.g 14)) 5,
.l 108 (.bin .eql (.l 107) (.i 1)) 6,
.lf 110 (.fa (.g 1) 3) 8,
.lf 111 (.ld none (.l 110)) 9,
.lf 112 (.mv (.g 12)) 10,
.lf 113 (.ia 5 (.l 111) (.l 112)) 11,
.l 114 (.ld (some 5) (.l 113)) 12,
.lf 115 (.mv (.g 15)) 13,
.l 116 (.bin .eql (.l 115) (.i 1)) 14,
.g 16 (.new [.int .i64 0, .int .i64 0, .int .i64 0, .int .i64 0, .slice none 0 0]) 16,
.g 17 (.new [.int .i64 0, .int .i64 0, .int .i64 0, .int .i64 0, .slice none 0 0]) 17,
.lf 109 (.call (.c (.fn 44 [])) [.l 106, .l 108]) 7,
.lf 117 (.call (.c (.fn 44 [])) [.l 114, .l 116]) 15,
.nx (.st 5 (.g 16) (.l 109)) 18 false [16, 17],
.nx (.st 5 (.g 17) (.l 117)) 19 true [16, 17]])
(.seq
(.draw [
.l 119 (.ld (some 4) (.g 1)) 0,
.l 120 (.ld (some 5) (.g 16)) 1,
.l 121 (.mv (.g 6)) 2,
.l 122 (.mv (.g 11)) 3,
.l 123 (.mv (.g 14)) 4,
.l 124 (.ia 2 (.l 121) (.l 122)) 5,
.l 125 (.iaa 2 1 (.l 124) (.l 123)) 6,
.l 126 (.ld none (.l 125)) 7,
.l 127 (.mv (.g 10)) 8,
.l 128 (.ia 2 (.l 126) (.l 127)) 9,
.l 129 (.ld (some 2) (.l 128)) 10,
.l 130 (.mv (.g 10)) 11,
.g 18 (.new [.int .i64 0, .int .i64 0]) 16,
.lf 131 (.call (.c (.fn 45 [])) [.l 119, .l 120, .l 129, .l 130]) 12,
.l 118 (.mv (.l 131)) 13,
.l 132 (.ex (.l 118) 0) 14,
.lf 133 (.ex (.l 118) 1) 15,
.nx (.st 2 (.g 18) (.l 132)) 17 false [16],
.gx 19 (.mv (.l 133)) 18 false [16]])
(.seq
(.draw [
.l 135 (.ld (some 4) (.g 1)) 0,
.l 136 (.ld (some 5) (.g 17)) 1,
.l 137 (.mv (.g 6)) 2,
.l 138 (.mv (.g 12)) 3,
.l 139 (.mv (.g 15)) 4,
.l 140 (.ia 2 (.l 137) (.l 138)) 5,
.l 141 (.iaa 2 1 (.l 140) (.l 139)) 6,
.l 142 (.ld none (.l 141)) 7,
.l 143 (.mv (.g 10)) 8,
.l 144 (.ia 2 (.l 142) (.l 143)) 9,
.l 145 (.ld (some 2) (.l 144)) 10,
.l 146 (.mv (.g 10)) 11,
.g 20 (.new [.int .i64 0, .int .i64 0]) 16,
.lf 147 (.call (.c (.fn 45 [])) [.l 135, .l 136, .l 145, .l 146]) 12,
.l 134 (.mv (.l 147)) 13,
.l 148 (.ex (.l 134) 0) 14,
.lf 149 (.ex (.l 134) 1) 15,
.nx (.st 2 (.g 20) (.l 148)) 17 false [16],
.gx 21 (.mv (.l 149)) 18 false [16]])
(.seq
(.seq
(.reg [
.l 150 (.mv (.g 19)),
.l 151 (.un .not (.l 150)),
.l 152 (.mv (.l 151)),
.lw 153 (.mv (.g 21)) (.l 152) false,
.lw 154 (.un .not (.l 153)) (.l 152) false,
.g 155 (.pick (.l 152) (.b true) (.l 154))])
(.cond (.g 155)
(.exit 9)
.skip))
(.seq
(.draw [
.l 157 (.ld (some 4) (.g 1)) 0,
.l 158 (.ld (some 5) (.g 16)) 1,
.l 159 (.ld (some 2) (.g 18)) 2,
.l 161 (.ld (some 4) (.g 1)) 4,
.l 162 (.ld (some 5) (.g 17)) 5,
.l 163 (.ld (some 2) (.g 20)) 6,
.l 165 (.fa (.g 1) 1) 8,
.l 166 (.ld none (.l 165)) 9,
.lf 160 (.call (.c (.fn 47 [])) [.l 157, .l 158, .l 159]) 3,
.lf 164 (.call (.c (.fn 47 [])) [.l 161, .l 162, .l 163]) 7,
.lf 167 (.call (.c (.fn 46 [])) [.l 160, .l 164, .l 166]) 10,
.l 156 (.mv (.l 167)) 11,
.l 168 (.ex (.l 156) 0) 12,
.l 169 (.ex (.l 156) 1) 13,
.l 170 (.ex (.l 156) 2) 14,
.g 22 (.mv (.l 168)) 15,
.g 23 (.mv (.l 169)) 16,
.g 24 (.mv (.l 170)) 17])
(.seq
(.reg [
.g 171 (.mv (.g 24))])
(.cond (.g 171)
(.seq
(.reg [
.l 172 (.mv (.g 10)),
.l 173 (.mv (.g 11)),
.l 174 (.mv (.g 12)),
.l 175 (.mv (.g 14)),
.l 176 (.bin .eql (.l 175) (.i 1)),
.l 177 (.mv (.g 15)),
.l 178 (.bin .eql (.l 177) (.i 1)),
.l 179 (.mv (.g 22)),
.l 180 (.mv (.g 23)),
.l 181 (.mk [.int .i64 0, .int .i64 0, .int .i64 0, .bool false, .bool false, .int .i64 0, .int .i64 0] [(0, 1, .l 172), (1, 1, .l 173), (2, 1, .l 174), (3, 1, .l 176), (4, 1, .l 178), (5, 1, .l 179), (6, 1, .l 180)]),
.n (.st 7 (.g 2) (.l 181)),
.g 3 (.mv (.i 0))])
.ret)
.skip))))))))))
(.reg [
.l 86 (.mv (.g 13)),
.l 87 (.bin .add (.l 86) (.i 1)),
.g 13 (.mv (.l 87))])))))))
(.reg [
.l 82 (.mv (.g 12)),
.l 83 (.bin .add (.l 82) (.i 1)),
.g 12 (.mv (.l 83))])))))))
(.reg [
.l 73 (.mv (.g 11)),
.l 74 (.bin .add (.l 73) (.i 1)),
.g 11 (.mv (.l 74))])))))))
(.reg [
.l 66 (.mv (.g 10)),
.l 67 (.bin .add (.l 66) (.i 1)),
.g 10 (.mv (.l 67))]))))))
(.seq
(.reg [
.l 182 (.mk [.int .i64 0, .int .i64 0, .int .i64 0, .bool false, .bool false, .int .i64 0, .int .i64 0] []),
.n (.st 7 (.g 2) (.l 182)),
.g 3 (.mv (.i 7))])
.ret))))))))
def K21 : List Nat := [0, 28, 37, 65, 72, 81, 85, 101, 155, 171, 2, 3, 1, 4, 5, 6, 7, 8, 9, 10, 11, 12, 13, 14, 15, 16, 17, 18, 19, 20, 21, 22, 23, 24]
noncomputable def b21 : Code := match Tryz.f21.body with | some c => c | none => .skip
theorem t21 : trCode ⟨Tryz.prog, K21, [], 183, none⟩ b21 = some c21 := by kernel_rfl
theorem go21 {args : List AV} {H : AHeap} {Kk : AV → AHeap → Prop} (hn : args.length = 1) (h : AGo ⟨Tryz.prog, K21, [], 183, none⟩ H.length [.code c21] (RetP [.cell (.g 2) (some 7), .t (.g 3)] H.length Kk) ⟨[], argsG 0 args⟩ H) : ACalls Tryz.prog 21 args H Kk :=
  ACalls_of Tryz.func21 (c := b21) rfl (by kernel_rfl) t21 (rs := [.cell (.g 2) (some 7), .t (.g 3)]) (by kernel_rfl) (by rw [hn]; exact Nat.le_of_ble_eq_true rfl) (by rw [hn]; rfl) (h.weaken (fun _ _ => RetP.hands) (by simp))
end Go.Sas
