/-
The code of some functions with its types resolved, printed by a program; that it is the code is checked by the kernel.
Conditions: none.
-/
import Derived.Test.YtndnjmpebpampaaGreatDoorP4
import Derived.Test.YtndnjmpebpampaaGreatDoorProg
set_option linter.unusedVariables false
set_option linter.unusedSimpArgs false
namespace Go.Sas
open Go.Proofs
set_option maxRecDepth 100000
/-- sastrugi/sastrugikit.AcceptedOf -/
def c5 : ACode :=
  (.seq
(.reg [
.g 4 (.new [.int .i64 0, .int .i64 0, .int .i64 0, .slice none 0 0])])
(.seq
(.reg [
.l 12 (.mv (.g 0)),
.l 13 (.call (.c (.fn 7 [])) [.l 12, .i 60, .i 300]),
.l 14 (.mv (.g 0)),
.l 15 (.call (.c (.fn 8 [])) [.l 14, .i 3]),
.l 16 (.mk [.int .i64 0, .int .i64 0, .int .i64 0, .slice none 0 0] [(0, 1, .l 13), (1, 1, .i 70), (2, 1, .l 15)]),
.g 5 (.new [.int .i64 0, .int .i64 0, .int .i64 0, .slice none 0 0]),
.n (.st 4 (.g 5) (.l 16))])
(.seq
(.seq
(.reg [
.l 17 (.mv (.g 0)),
.l 18 (.mv (.g 1)),
.l 19 (.bin .add (.l 18) (.i 1)),
.l 20 (.call (.c (.fn 8 [])) [.l 17, .l 19]),
.g 6 (.mv (.l 20))])
(.block 0
(.loop
(.seq
(.seq
(.reg [
.l 21 (.mv (.g 6)),
.g 22 (.bin .gtr (.l 21) (.i 0))])
(.cond (.g 22)
.skip
(.exit 0)))
(.seq
(.block 1
(.seq
(.reg [
.l 25 (.mv (.g 0)),
.l 26 (.fa (.g 5) 0),
.l 27 (.ld none (.l 26)),
.l 28 (.call (.c (.fn 19 [])) [.l 25, .l 27, .i 2]),
.g 7 (.new [.int .i64 0, .int .i64 0, .int .i64 0, .int .i64 0, .slice none 0 0]),
.n (.st 5 (.g 7) (.l 28))])
(.seq
(.seq
(.reg [
.l 29 (.mv (.g 0)),
.g 30 (.call (.c (.fn 20 [])) [.l 29, .i 2])])
(.cond (.g 30)
(.reg [
.l 31 (.fa (.g 7) 4),
.n (.st 1 (.l 31) (.c (.lit (.slice none 0 0))))])
.skip))
(.seq
(.reg [
.g 8 (.mv (.i 0))])
(.block 2
(.loop
(.seq
(.seq
(.reg [
.l 32 (.mv (.g 8)),
.g 33 (.bin .lss (.l 32) (.i 12))])
(.cond (.g 33)
.skip
(.exit 2)))
(.seq
(.block 3
(.seq
(.reg [
.l 36 (.mv (.g 0)),
.l 37 (.mv (.g 8)),
.l 38 (.bin .add (.l 37) (.i 1)),
.l 39 (.bin .mul (.i 40) (.l 38)),
.l 40 (.call (.c (.fn 8 [])) [.l 36, .l 39]),
.l 41 (.fa (.g 7) 1),
.n (.st 1 (.l 41) (.l 40))])
(.seq
(.reg [
.l 42 (.ld (some 4) (.g 5)),
.g 9 (.new [.int .i64 0, .int .i64 0, .int .i64 0, .slice none 0 0]),
.n (.st 4 (.g 9) (.l 42))])
(.seq
(.draw [
.l 43 (.mks false 5 []) 0,
.l 44 (.fa (.g 5) 3) 1,
.l 45 (.ld none (.l 44)) 2,
.l 47 (.ld (some 5) (.g 7)) 4,
.l 48 (.mks false 5 [.l 47]) 5,
.lf 46 (.app 5 56 (.l 43) (.l 45)) 3,
.lf 49 (.app 5 56 (.l 46) (.l 48)) 6,
.l 50 (.fa (.g 9) 3) 7,
.n (.st 1 (.l 50) (.l 49)) 8])
(.seq
(.reg [
.l 52 (.ld (some 4) (.g 9)),
.l 53 (.call (.c (.fn 21 [])) [.l 52]),
.l 51 (.mv (.l 53)),
.l 54 (.ex (.l 51) 0),
.l 55 (.ex (.l 51) 1),
.l 10 (.new [.int .i64 0, .int .i64 0, .int .i64 0, .bool false, .bool false, .int .i64 0, .int .i64 0]),
.n (.st 7 (.l 10) (.l 54)),
.g 11 (.mv (.l 55))])
(.seq
(.reg [
.l 56 (.mv (.g 11)),
.g 57 (.bin .eql (.l 56) (.i 7))])
(.cond (.g 57)
(.seq
(.reg [
.l 58 (.ld (some 4) (.g 9)),
.n (.st 4 (.g 5) (.l 58))])
(.exit 2))
.skip)))))))
(.reg [
.l 34 (.mv (.g 8)),
.l 35 (.bin .add (.l 34) (.i 1)),
.g 8 (.mv (.l 35))])))))))))
(.reg [
.l 23 (.mv (.g 6)),
.l 24 (.bin .sub (.l 23) (.i 1)),
.g 6 (.mv (.l 24))]))))))
(.seq
(.reg [
.l 59 (.ld (some 4) (.g 5)),
.n (.st 4 (.g 4) (.l 59))])
.ret))))
def K5 : List Nat := [0, 1, 22, 30, 33, 57, 4, 5, 6, 7, 8, 9, 11]
noncomputable def b5 : Code := match Tryz.f5.body with | some c => c | none => .skip
theorem t5 : trCode ⟨Tryz.prog, K5, [], 60, none⟩ b5 = some c5 := by kernel_rfl
theorem go5 {args : List AV} {H : AHeap} {Kk : AV → AHeap → Prop} (hn : args.length = 2) (h : AGo ⟨Tryz.prog, K5, [], 60, none⟩ H.length [.code c5] (RetP [.cell (.g 4) (some 4)] H.length Kk) ⟨[], argsG 0 args⟩ H) : ACalls Tryz.prog 5 args H Kk :=
  ACalls_of Tryz.func5 (c := b5) rfl (by kernel_rfl) t5 (rs := [.cell (.g 4) (some 4)]) (by kernel_rfl) (by rw [hn]; exact Nat.le_of_ble_eq_true rfl) (by rw [hn]; rfl) (h.weaken (fun _ _ => RetP.hands) (by simp))
/-- sastrugi/sastrugikit.TruckOf -/
def c19 : ACode :=
  (.seq
(.reg [
.g 6 (.new [.int .i64 0, .int .i64 0, .int .i64 0, .int .i64 0, .slice none 0 0])])
(.seq
(.reg [
.l 11 (.mv (.g 0)),
.l 12 (.call (.c (.fn 7 [])) [.l 11, .i 1, .i 2]),
.l 13 (.mv (.g 0)),
.l 14 (.mv (.g 0)),
.l 15 (.call (.c (.fn 8 [])) [.l 14, .i 60]),
.l 16 (.mv (.g 0)),
.l 17 (.call (.c (.fn 8 [])) [.l 16, .i 200]),
.l 18 (.mks false 1 [.i 0, .l 15, .l 17]),
.l 19 (.call (.c (.fn 23 [])) [.l 13, .l 18]),
.l 20 (.mk [.int .i64 0, .int .i64 0, .int .i64 0, .int .i64 0, .slice none 0 0] [(0, 1, .l 12), (1, 1, .l 19)]),
.g 7 (.new [.int .i64 0, .int .i64 0, .int .i64 0, .int .i64 0, .slice none 0 0]),
.n (.st 5 (.g 7) (.l 20))])
(.seq
(.reg [
.l 21 (.mv (.g 0)),
.l 22 (.call (.c (.fn 7 [])) [.l 21, .i 5, .i 25]),
.l 23 (.fa (.g 7) 2),
.l 24 (.fa (.l 23) 0),
.n (.st 1 (.l 24) (.l 22))])
(.seq
(.draw [
.l 25 (.fa (.g 7) 2) 0,
.l 26 (.fa (.l 25) 0) 1,
.l 27 (.ld none (.l 26)) 2,
.l 28 (.mv (.g 0)) 3,
.l 29 (.mv (.g 0)) 4,
.lf 30 (.call (.c (.fn 8 [])) [.l 29, .i 8]) 5,
.l 31 (.mks false 1 [.i 0, .l 30]) 6,
.lf 32 (.call (.c (.fn 23 [])) [.l 28, .l 31]) 7,
.l 33 (.bin .add (.l 27) (.l 32)) 8,
.l 34 (.fa (.g 7) 2) 9,
.l 35 (.fa (.l 34) 1) 10,
.n (.st 1 (.l 35) (.l 33)) 11])
(.seq
(.reg [
.g 8 (.mv (.i 0))])
(.seq
(.seq
(.reg [
.l 36 (.mv (.g 0)),
.l 37 (.mv (.g 2)),
.l 38 (.bin .add (.l 37) (.i 1)),
.l 39 (.call (.c (.fn 8 [])) [.l 36, .l 38]),
.g 9 (.mv (.l 39))])
(.block 0
(.loop
(.seq
(.seq
(.reg [
.l 40 (.mv (.g 9)),
.l 41 (.bin .gtr (.l 40) (.i 0)),
.l 42 (.mv (.l 41)),
.lw 43 (.mv (.g 8)) (.l 42) true,
.lw 44 (.mv (.g 1)) (.l 42) true,
.lw 45 (.bin .sub (.l 44) (.i 1)) (.l 42) true,
.lw 46 (.bin .lss (.l 43) (.l 45)) (.l 42) true,
.g 47 (.pick (.l 42) (.l 46) (.b false))])
(.cond (.g 47)
.skip
(.exit 0)))
(.seq
(.block 1
(.seq
(.reg [
.l 50 (.mv (.g 0)),
.l 51 (.mv (.g 8)),
.l 52 (.bin .add (.l 51) (.i 1)),
.l 53 (.mv (.g 1)),
.l 54 (.bin .sub (.l 53) (.i 1)),
.l 55 (.call (.c (.fn 7 [])) [.l 50, .l 52, .l 54]),
.g 8 (.mv (.l 55))])
(.seq
(.reg [
.l 56 (.mv (.g 8)),
.l 57 (.mv (.g 0)),
.l 58 (.call (.c (.fn 8 [])) [.l 57, .i 150]),
.l 59 (.mk [.int .i64 0, .int .i64 0] [(0, 1, .l 56), (1, 1, .l 58)]),
.g 10 (.new [.int .i64 0, .int .i64 0]),
.n (.st 2 (.g 10) (.l 59))])
(.seq
(.seq
(.reg [
.l 60 (.fa (.g 7) 0),
.l 61 (.ld none (.l 60)),
.g 62 (.bin .eql (.l 61) (.i 2))])
(.cond (.g 62)
(.reg [
.l 63 (.mv (.g 1)),
.l 64 (.mv (.g 8)),
.l 65 (.bin .sub (.l 63) (.l 64)),
.l 66 (.fa (.g 10) 0),
.n (.st 1 (.l 66) (.l 65))])
.skip))
(.reg [
.l 67 (.fa (.g 7) 4),
.l 68 (.ld none (.l 67)),
.l 69 (.ld (some 2) (.g 10)),
.l 70 (.mks false 2 [.l 69]),
.l 71 (.app 2 16 (.l 68) (.l 70)),
.l 72 (.fa (.g 7) 4),
.n (.st 1 (.l 72) (.l 71))])))))
(.reg [
.l 48 (.mv (.g 9)),
.l 49 (.bin .sub (.l 48) (.i 1)),
.g 9 (.mv (.l 49))]))))))
(.seq
(.reg [
.l 73 (.ld (some 5) (.g 7)),
.n (.st 5 (.g 6) (.l 73))])
.ret)))))))
def K19 : List Nat := [0, 1, 2, 47, 62, 6, 7, 8, 9, 10]
noncomputable def b19 : Code := match Tryz.f19.body with | some c => c | none => .skip
theorem t19 : trCode ⟨Tryz.prog, K19, [], 74, none⟩ b19 = some c19 := by kernel_rfl
theorem go19 {args : List AV} {H : AHeap} {Kk : AV → AHeap → Prop} (hn : args.length = 3) (h : AGo ⟨Tryz.prog, K19, [], 74, none⟩ H.length [.code c19] (RetP [.cell (.g 6) (some 5)] H.length Kk) ⟨[], argsG 0 args⟩ H) : ACalls Tryz.prog 19 args H Kk :=
  ACalls_of Tryz.func19 (c := b19) rfl (by kernel_rfl) t19 (rs := [.cell (.g 6) (some 5)]) (by kernel_rfl) (by rw [hn]; exact Nat.le_of_ble_eq_true rfl) (by rw [hn]; rfl) (h.weaken (fun _ _ => RetP.hands) (by simp))
/-- sastrugi/sastrugikit.FailingOf -/
def c13 : ACode :=
  (.seq
(.reg [
.g 6 (.mv (.c (.lit (.slice none 0 0))))])
(.seq
(.reg [
.l 9 (.mv (.g 1)),
.l 10 (.mksl 1 1 [.bool false] (.l 9) (.l 9)),
.g 7 (.mv (.l 10))])
(.seq
(.seq
(.reg [
.g 8 (.mv (.i 0))])
(.block 0
(.loop
(.seq
(.seq
(.reg [
.l 11 (.mv (.g 8)),
.l 12 (.mv (.g 2)),
.l 13 (.bin .lss (.l 11) (.l 12)),
.l 14 (.mv (.l 13)),
.lw 15 (.mv (.g 1)) (.l 14) true,
.lw 16 (.bin .gtr (.l 15) (.i 0)) (.l 14) true,
.g 17 (.pick (.l 14) (.l 16) (.b false))])
(.cond (.g 17)
.skip
(.exit 0)))
(.seq
(.block 1
(.reg [
.l 20 (.mv (.g 7)),
.l 21 (.mv (.g 0)),
.l 22 (.mv (.g 1)),
.l 23 (.call (.c (.fn 8 [])) [.l 21, .l 22]),
.l 24 (.ia 1 (.l 20) (.l 23)),
.n (.st 1 (.l 24) (.b true))]))
(.reg [
.l 18 (.mv (.g 8)),
.l 19 (.bin .add (.l 18) (.i 1)),
.g 8 (.mv (.l 19))]))))))
(.seq
(.reg [
.l 25 (.mv (.g 7)),
.g 6 (.mv (.l 25))])
.ret))))
def K13 : List Nat := [0, 1, 2, 17, 6, 7, 8]
noncomputable def b13 : Code := match Tryz.f13.body with | some c => c | none => .skip
theorem t13 : trCode ⟨Tryz.prog, K13, [], 26, none⟩ b13 = some c13 := by kernel_rfl
theorem go13 {args : List AV} {H : AHeap} {Kk : AV → AHeap → Prop} (hn : args.length = 3) (h : AGo ⟨Tryz.prog, K13, [], 26, none⟩ H.length [.code c13] (RetP [.t (.g 6)] H.length Kk) ⟨[], argsG 0 args⟩ H) : ACalls Tryz.prog 13 args H Kk :=
  ACalls_of Tryz.func13 (c := b13) rfl (by kernel_rfl) t13 (rs := [.t (.g 6)]) (by kernel_rfl) (by rw [hn]; exact Nat.le_of_ble_eq_true rfl) (by rw [hn]; rfl) (h.weaken (fun _ _ => RetP.hands) (by simp))
/-- sastrugi/sastrugikit.Drive -/
def c14 : ACode :=
  (.seq
(.reg [
.g 6 (.box (.g 1)),
.g 7 (.box (.g 2)),
.g 10 (.mv (.c (.lit (.slice none 0 0))))])
(.seq
(.seq
(.reg [
.g 16 (.mv (.g 3))])
(.cond (.g 16)
(.reg [
.l 17 (.fa (.g 7) 4),
.n (.st 1 (.l 17) (.c (.lit (.slice none 0 0))))])
.skip))
(.seq
(.reg [
.g 11 (.mv (.c (.lit (.slice none 0 0))))])
(.seq
(.reg [
.l 18 (.mv (.g 0)),
.l 19 (.call (.c (.fn 8 [])) [.l 18, .i 4]),
.g 12 (.mv (.i 0)),
.g 13 (.mv (.l 19))])
(.seq
(.seq
(.reg [
.g 14 (.mv (.i 0))])
(.block 0
(.loop
(.seq
(.seq
(.reg [
.l 20 (.mv (.g 14)),
.l 21 (.mv (.g 4)),
.g 22 (.bin .leq (.l 20) (.l 21))])
(.cond (.g 22)
.skip
(.exit 0)))
(.seq
(.block 1
(.seq
(.seq
(.reg [
.l 25 (.mv (.g 14)),
.l 26 (.fa (.g 7) 1),
.l 27 (.ld none (.l 26)),
.g 28 (.bin .gtr (.l 25) (.l 27))])
(.cond (.g 28)
(.seq
(.reg [
.l 29 (.mv (.g 0)),
.l 30 (.fa (.g 7) 2),
.l 31 (.fa (.l 30) 0),
.l 32 (.ld none (.l 31)),
.l 33 (.fa (.g 7) 2),
.l 34 (.fa (.l 33) 1),
.l 35 (.ld none (.l 34)),
.l 36 (.call (.c (.fn 7 [])) [.l 29, .l 32, .l 35]),
.g 15 (.mv (.l 36))])
(.seq
(.seq
(.reg [
.g 37 (.mv (.g 13))])
(.block 2
(.seq
(.reg [
.l 39 (.bin .eql (.g 37) (.i 0)),
.g 38 (.mv (.l 39))])
(.cond (.g 38)
(.reg [
.l 40 (.fa (.g 7) 2),
.l 41 (.fa (.l 40) 0),
.l 42 (.ld none (.l 41)),
.g 15 (.mv (.l 42))])
(.seq
(.reg [
.l 44 (.bin .eql (.g 37) (.i 1)),
.g 43 (.mv (.l 44))])
(.cond (.g 43)
(.reg [
.l 45 (.fa (.g 7) 2),
.l 46 (.fa (.l 45) 1),
.l 47 (.ld none (.l 46)),
.g 15 (.mv (.l 47))])
.skip))))))
(.reg [
.l 48 (.ld (some 4) (.g 6)),
.l 49 (.ld (some 5) (.g 7)),
.l 50 (.mv (.g 12)),
.l 51 (.mv (.g 14)),
.l 52 (.bin .sub (.l 51) (.i 1)),
.l 53 (.mv (.g 15)),
.l 54 (.call (.c (.fn 36 [])) [.l 48, .l 49, .l 50, .l 52, .l 53]),
.g 12 (.mv (.l 54))])))
.skip))
(.reg [
.l 55 (.mv (.g 11)),
.l 56 (.mv (.g 12)),
.l 57 (.mks false 1 [.l 56]),
.l 58 (.app 1 8 (.l 55) (.l 57)),
.g 11 (.mv (.l 58))])))
(.reg [
.l 23 (.mv (.g 14)),
.l 24 (.bin .add (.l 23) (.i 1)),
.g 14 (.mv (.l 24))]))))))
(.seq
(.reg [
.l 59 (.mv (.g 11)),
.g 10 (.mv (.l 59))])
.ret))))))
def K14 : List Nat := [0, 1, 2, 3, 4, 16, 22, 28, 38, 43, 10, 6, 7, 11, 12, 13, 14, 15, 37]
noncomputable def b14 : Code := match Tryz.f14.body with | some c => c | none => .skip
theorem t14 : trCode ⟨Tryz.prog, K14, [], 60, none⟩ b14 = some c14 := by kernel_rfl
theorem go14 {args : List AV} {H : AHeap} {Kk : AV → AHeap → Prop} (hn : args.length = 5) (h : AGo ⟨Tryz.prog, K14, [], 60, none⟩ H.length [.code c14] (RetP [.t (.g 10)] H.length Kk) ⟨[], argsG 0 args⟩ H) : ACalls Tryz.prog 14 args H Kk :=
  ACalls_of Tryz.func14 (c := b14) rfl (by kernel_rfl) t14 (rs := [.t (.g 10)]) (by kernel_rfl) (by rw [hn]; exact Nat.le_of_ble_eq_true rfl) (by rw [hn]; rfl) (h.weaken (fun _ _ => RetP.hands) (by simp))
/-- sastrugi/sastrugikit.OnLane -/
def c15 : ACode :=
  (.seq
(.reg [
.g 5 (.box (.g 0)),
.g 6 (.box (.g 1)),
.g 10 (.mv (.b false))])
(.seq
(.seq
(.reg [
.g 11 (.mv (.g 2))])
(.cond (.g 11)
(.reg [
.l 12 (.fa (.g 6) 4),
.n (.st 1 (.l 12) (.c (.lit (.slice none 0 0))))])
.skip))
(.seq
(.reg [
.l 13 (.ld (some 4) (.g 5)),
.l 14 (.ld (some 5) (.g 6)),
.l 15 (.mv (.g 3)),
.l 16 (.mv (.g 4)),
.l 17 (.call (.c (.fn 37 [])) [.l 13, .l 14, .l 15, .l 16]),
.g 10 (.mv (.l 17))])
.ret)))
def K15 : List Nat := [0, 1, 2, 3, 4, 11, 10, 5, 6]
noncomputable def b15 : Code := match Tryz.f15.body with | some c => c | none => .skip
theorem t15 : trCode ⟨Tryz.prog, K15, [], 18, none⟩ b15 = some c15 := by kernel_rfl
theorem go15 {args : List AV} {H : AHeap} {Kk : AV → AHeap → Prop} (hn : args.length = 5) (h : AGo ⟨Tryz.prog, K15, [], 18, none⟩ H.length [.code c15] (RetP [.t (.g 10)] H.length Kk) ⟨[], argsG 0 args⟩ H) : ACalls Tryz.prog 15 args H Kk :=
  ACalls_of Tryz.func15 (c := b15) rfl (by kernel_rfl) t15 (rs := [.t (.g 10)]) (by kernel_rfl) (by rw [hn]; exact Nat.le_of_ble_eq_true rfl) (by rw [hn]; rfl) (h.weaken (fun _ _ => RetP.hands) (by simp))
/-- sastrugi/sastrugikit.OnRoad -/
def c16 : ACode :=
  (.seq
(.reg [
.g 3 (.box (.g 0)),
.g 4 (.box (.g 1)),
.g 6 (.mv (.i 0))])
(.seq
(.seq
(.reg [
.l 7 (.fa (.g 4) 0),
.l 8 (.ld none (.l 7)),
.g 9 (.bin .eql (.l 8) (.i 2))])
(.cond (.g 9)
(.seq
(.reg [
.l 10 (.fa (.g 3) 0),
.l 11 (.ld none (.l 10)),
.l 12 (.mv (.g 2)),
.l 13 (.bin .sub (.l 11) (.l 12)),
.g 6 (.mv (.l 13))])
.ret)
.skip))
(.seq
(.reg [
.l 14 (.mv (.g 2)),
.g 6 (.mv (.l 14))])
.ret)))
def K16 : List Nat := [0, 1, 2, 9, 6, 3, 4]
noncomputable def b16 : Code := match Tryz.f16.body with | some c => c | none => .skip
theorem t16 : trCode ⟨Tryz.prog, K16, [], 15, none⟩ b16 = some c16 := by kernel_rfl
theorem go16 {args : List AV} {H : AHeap} {Kk : AV → AHeap → Prop} (hn : args.length = 3) (h : AGo ⟨Tryz.prog, K16, [], 15, none⟩ H.length [.code c16] (RetP [.t (.g 6)] H.length Kk) ⟨[], argsG 0 args⟩ H) : ACalls Tryz.prog 16 args H Kk :=
  ACalls_of Tryz.func16 (c := b16) rfl (by kernel_rfl) t16 (rs := [.t (.g 6)]) (by kernel_rfl) (by rw [hn]; exact Nat.le_of_ble_eq_true rfl) (by rw [hn]; rfl) (h.weaken (fun _ _ => RetP.hands) (by simp))
/-- sastrugi/sastrugitop.TopLane -/
def c3 : ACode :=
  (.seq
(.reg [
.g 2 (.mv (.b false))])
(.seq
(.reg [
.l 26 (.mv (.g 0)),
.l 27 (.call (.c (.fn 4 [])) [.l 26]),
.g 3 (.mv (.l 27))])
(.seq
(.reg [
.l 28 (.mv (.g 3)),
.l 29 (.call (.c (.fn 5 [])) [.l 28, .i 5]),
.g 4 (.new [.int .i64 0, .int .i64 0, .int .i64 0, .slice none 0 0]),
.n (.st 4 (.g 4) (.l 29))])
(.seq
(.reg [
.l 30 (.mv (.g 3)),
.l 31 (.call (.c (.fn 6 [])) [.l 30]),
.l 32 (.mv (.g 3)),
.l 33 (.call (.c (.fn 7 [])) [.l 32, .i 200, .i 1200]),
.l 34 (.mv (.g 3)),
.l 35 (.call (.c (.fn 8 [])) [.l 34, .i 12000]),
.g 5 (.new [.int .i64 0, .int .i64 0, .slice none 0 0, .slice none 0 0, .int .i64 0, .int .i64 0, .int .i64 0, .int .i64 0, .int .i64 0, .int .i64 0, .int .i64 0]),
.n (.st 11 (.g 5) (.l 31)),
.g 6 (.mv (.l 33)),
.g 7 (.mv (.l 35))])
(.seq
(.seq
(.reg [
.l 37 (.ld (some 4) (.g 4)),
.l 38 (.call (.c (.fn 9 [])) [.l 37]),
.l 36 (.mv (.l 38)),
.l 39 (.ex (.l 36) 0),
.l 40 (.ex (.l 36) 1),
.l 8 (.new [.int .i64 0, .int .i64 0, .int .i64 0, .bool false, .bool false, .int .i64 0, .int .i64 0]),
.n (.st 7 (.l 8) (.l 39)),
.g 9 (.mv (.l 40))])
(.seq
(.reg [
.l 41 (.mv (.g 9)),
.g 42 (.bin .neq (.l 41) (.i 7))])
(.cond (.g 42)
(.seq
(.reg [
.g 2 (.mv (.b false))])
.ret)
.skip)))
(.seq
(.reg [
.g 10 (.mv (.c (.lit (.slice none 0 0))))])
(.seq
(.seq
(.reg [
.g 11 (.mv (.i 0))])
(.block 0
(.loop
(.seq
(.seq
(.reg [
.l 43 (.mv (.g 11)),
.l 44 (.fa (.g 4) 3),
.l 45 (.ld none (.l 44)),
.l 46 (.len (.l 45)),
.g 47 (.bin .lss (.l 43) (.l 46))])
(.cond (.g 47)
.skip
(.exit 0)))
(.seq
(.block 1
(.reg [
.l 50 (.mv (.g 10)),
.l 51 (.mv (.g 7)),
.l 52 (.call (.c (.fn 10 [])) [.l 51]),
.l 53 (.mks false 2 [.l 52]),
.l 54 (.app 2 16 (.l 50) (.l 53)),
.g 10 (.mv (.l 54))]))
(.reg [
.l 48 (.mv (.g 11)),
.l 49 (.bin .add (.l 48) (.i 1)),
.g 11 (.mv (.l 49))]))))))
(.seq
(.reg [
.l 56 (.ld (some 11) (.g 5)),
.l 57 (.mv (.g 6)),
.l 58 (.mv (.g 10)),
.l 59 (.call (.c (.fn 11 [])) [.l 56, .l 57, .l 58]),
.l 55 (.mv (.l 59)),
.l 60 (.ex (.l 55) 0),
.l 61 (.ex (.l 55) 1),
.g 12 (.mv (.l 60)),
.g 13 (.mv (.l 61))])
(.seq
(.seq
(.reg [
.l 62 (.mv (.g 13)),
.g 63 (.bin .neq (.l 62) (.i 0))])
(.cond (.g 63)
(.seq
(.reg [
.g 2 (.mv (.b false))])
.ret)
.skip))
(.seq
(.seq
(.reg [
.l 64 (.mv (.g 12)),
.l 65 (.bin .lss (.l 64) (.i 0)),
.l 66 (.mv (.l 65)),
.lw 67 (.mv (.g 12)) (.l 66) false,
.lw 68 (.fa (.g 4) 1) (.l 66) false,
.lw 69 (.ld none (.l 68)) (.l 66) false,
.lw 70 (.bin .gtr (.l 67) (.l 69)) (.l 66) false,
.g 71 (.pick (.l 66) (.b true) (.l 70))])
(.cond (.g 71)
(.seq
(.reg [
.l 72 (.call (.c (.fn 12 [])) []),
.g 2 (.mv (.l 72))])
.ret)
.skip))
(.seq
(.reg [
.g 14 (.mv (.c (.lit (.slice none 0 0))))])
(.seq
(.seq
(.reg [
.g 15 (.mv (.i 0))])
(.block 2
(.loop
(.seq
(.seq
(.reg [
.l 73 (.mv (.g 15)),
.l 74 (.fa (.g 4) 0),
.l 75 (.ld none (.l 74)),
.l 76 (.bin .quo (.l 75) (.i 100)),
.g 77 (.bin .leq (.l 73) (.l 76))])
(.cond (.g 77)
.skip
(.exit 2)))
(.seq
(.block 3
(.reg [
.l 80 (.mv (.g 14)),
.l 81 (.mv (.g 6)),
.l 82 (.call (.c (.fn 10 [])) [.l 81]),
.l 83 (.mks false 2 [.l 82]),
.l 84 (.app 2 16 (.l 80) (.l 83)),
.g 14 (.mv (.l 84))]))
(.reg [
.l 78 (.mv (.g 15)),
.l 79 (.bin .add (.l 78) (.i 1)),
.g 15 (.mv (.l 79))]))))))
(.seq
(.reg [
.g 16 (.mv (.i 700))])
(.seq
(.reg [
.l 85 (.mv (.g 3)),
.l 86 (.fa (.g 4) 3),
.l 87 (.ld none (.l 86)),
.l 88 (.len (.l 87)),
.l 89 (.fa (.g 4) 2),
.l 90 (.ld none (.l 89)),
.l 91 (.call (.c (.fn 13 [])) [.l 85, .l 88, .l 90]),
.g 17 (.mv (.l 91))])
(.seq
(.reg [
.g 18 (.mv (.c (.lit (.slice none 0 0))))])
(.seq
(.seq
(.reg [
.g 19 (.mv (.i 0))])
(.block 4
(.loop
(.seq
(.seq
(.reg [
.l 92 (.mv (.g 19)),
.l 93 (.fa (.g 4) 3),
.l 94 (.ld none (.l 93)),
.l 95 (.len (.l 94)),
.g 96 (.bin .lss (.l 92) (.l 95))])
(.cond (.g 96)
.skip
(.exit 4)))
(.seq
(.block 5
(.draw [
.l 99 (.mv (.g 18)) 0,
.l 100 (.mv (.g 3)) 1,
.l 101 (.ld (some 4) (.g 4)) 2,
.l 102 (.fa (.g 4) 3) 3,
.l 103 (.ld none (.l 102)) 4,
.l 104 (.mv (.g 19)) 5,
.l 105 (.ia 5 (.l 103) (.l 104)) 6,
.l 106 (.ld (some 5) (.l 105)) 7,
.l 107 (.mv (.g 17)) 8,
.l 108 (.mv (.g 19)) 9,
.l 109 (.ia 1 (.l 107) (.l 108)) 10,
.l 110 (.ld none (.l 109)) 11,
.l 111 (.mv (.g 16)) 12,
.lf 112 (.call (.c (.fn 14 [])) [.l 100, .l 101, .l 106, .l 110, .l 111]) 13,
.l 113 (.mks false 1 [.l 112]) 14,
.lf 114 (.app 1 24 (.l 99) (.l 113)) 15,
.g 18 (.mv (.l 114)) 16]))
(.reg [
.l 97 (.mv (.g 19)),
.l 98 (.bin .add (.l 97) (.i 1)),
.g 19 (.mv (.l 98))]))))))
(.seq
(.seq
(.reg [
.g 20 (.mv (.i 0))])
(.block 6
(.loop
(.seq
(.seq
(.reg [
.l 115 (.mv (.g 20)),
.l 116 (.mv (.g 16)),
.g 117 (.bin .leq (.l 115) (.l 116))])
(.cond (.g 117)
.skip
(.exit 6)))
(.seq
(.block 7
(.seq
(.reg [
.g 21 (.mv (.c (.lit (.slice none 0 0))))])
(.seq
(.seq
(.reg [
.g 22 (.mv (.i 0))])
(.block 8
(.loop
(.seq
(.seq
(.reg [
.l 120 (.mv (.g 22)),
.l 121 (.fa (.g 4) 3),
.l 122 (.ld none (.l 121)),
.l 123 (.len (.l 122)),
.g 124 (.bin .lss (.l 120) (.l 123))])
(.cond (.g 124)
.skip
(.exit 8)))
(.seq
(.block 9
(.seq
(.draw [
.l 127 (.mv (.g 20)) 0,
.l 128 (.fa (.g 4) 3) 1,
.l 129 (.ld none (.l 128)) 2,
.l 130 (.mv (.g 22)) 3,
.l 131 (.ia 5 (.l 129) (.l 130)) 4,
.l 132 (.fa (.l 131) 1) 5,
.l 133 (.ld none (.l 132)) 6,
.l 134 (.bin .geq (.l 127) (.l 133)) 7,
.l 135 (.mv (.l 134)) 8,
.lw 136 (.ld (some 4) (.g 4)) (.l 135) true 9,
.lw 137 (.fa (.g 4) 3) (.l 135) true 10,
.lw 138 (.ld none (.l 137)) (.l 135) true 11,
.lw 139 (.mv (.g 22)) (.l 135) true 12,
.lw 140 (.ia 5 (.l 138) (.l 139)) (.l 135) true 13,
.lw 141 (.ld (some 5) (.l 140)) (.l 135) true 14,
.lw 142 (.mv (.g 17)) (.l 135) true 15,
.lw 143 (.mv (.g 22)) (.l 135) true 16,
.lw 144 (.ia 1 (.l 142) (.l 143)) (.l 135) true 17,
.lw 145 (.ld none (.l 144)) (.l 135) true 18,
.lw 146 (.mv (.g 18)) (.l 135) true 19,
.lw 147 (.mv (.g 22)) (.l 135) true 20,
.lw 148 (.ia 1 (.l 146) (.l 147)) (.l 135) true 21,
.lw 149 (.ld none (.l 148)) (.l 135) true 22,
.lw 150 (.mv (.g 20)) (.l 135) true 23,
.lw 151 (.ia 1 (.l 149) (.l 150)) (.l 135) true 24,
.lw 152 (.ld none (.l 151)) (.l 135) true 25,
.lw 153 (.mv (.g 20)) (.l 135) true 26,
.lwf 154 (.call (.c (.fn 15 [])) [.l 136, .l 141, .l 145, .l 152, .l 153]) (.l 135) true 27,
.g 155 (.pick (.l 135) (.l 154) (.b false)) 28])
(.cond (.g 155)
(.draw [
.l 156 (.mv (.g 21)) 0,
.l 157 (.ld (some 4) (.g 4)) 1,
.l 158 (.fa (.g 4) 3) 2,
.l 159 (.ld none (.l 158)) 3,
.l 160 (.mv (.g 22)) 4,
.l 161 (.ia 5 (.l 159) (.l 160)) 5,
.l 162 (.ld (some 5) (.l 161)) 6,
.l 163 (.mv (.g 18)) 7,
.l 164 (.mv (.g 22)) 8,
.l 165 (.ia 1 (.l 163) (.l 164)) 9,
.l 166 (.ld none (.l 165)) 10,
.l 167 (.mv (.g 20)) 11,
.l 168 (.ia 1 (.l 166) (.l 167)) 12,
.l 169 (.ld none (.l 168)) 13,
.l 171 (.mv (.g 3)) 15,
.l 172 (.mv (.g 7)) 16,
.lf 170 (.call (.c (.fn 16 [])) [.l 157, .l 162, .l 169]) 14,
.lf 173 (.call (.c (.fn 7 [])) [.l 171, .i 0, .l 172]) 17,
.lf 174 (.call (.c (.fn 10 [])) [.l 173]) 18,
.l 175 (.mk [.int .i64 0, .int .i64 0, .int .i64 0, .int .i64 0] [(0, 1, .l 170), (1, 2, .l 174)]) 19,
.l 176 (.mks false 4 [.l 175]) 20,
.lf 177 (.app 4 32 (.l 156) (.l 176)) 21,
.g 21 (.mv (.l 177)) 22])
.skip)))
(.reg [
.l 125 (.mv (.g 22)),
.l 126 (.bin .add (.l 125) (.i 1)),
.g 22 (.mv (.l 126))]))))))
(.seq
(.reg [
.l 179 (.ld (some 11) (.g 5)),
.l 180 (.mv (.g 14)),
.l 181 (.mv (.g 21)),
.l 182 (.call (.c (.fn 17 [])) [.l 179, .l 180, .c (.lit (.slice none 0 0)), .l 181]),
.l 178 (.mv (.l 182)),
.l 183 (.ex (.l 178) 0),
.l 184 (.ex (.l 178) 1),
.g 23 (.mv (.l 183)),
.g 24 (.mv (.l 184))])
(.seq
(.seq
(.reg [
.l 185 (.mv (.g 24)),
.l 186 (.bin .neq (.l 185) (.i 0)),
.l 187 (.mv (.l 186)),
.lw 188 (.mv (.g 23)) (.l 187) false,
.lw 189 (.len (.l 188)) (.l 187) false,
.lw 190 (.mv (.g 21)) (.l 187) false,
.lw 191 (.len (.l 190)) (.l 187) false,
.lw 192 (.bin .neq (.l 189) (.l 191)) (.l 187) false,
.g 193 (.pick (.l 187) (.b true) (.l 192))])
(.cond (.g 193)
(.seq
(.reg [
.g 2 (.mv (.b false))])
.ret)
.skip))
(.seq
(.reg [
.g 25 (.mv (.i 0))])
(.block 10
(.loop
(.seq
(.seq
(.reg [
.l 194 (.mv (.g 25)),
.l 195 (.mv (.g 23)),
.l 196 (.len (.l 195)),
.g 197 (.bin .lss (.l 194) (.l 196))])
(.cond (.g 197)
.skip
(.exit 10)))
(.seq
(.block 11
(.seq
(.reg [
.l 200 (.mv (.g 23)),
.l 201 (.mv (.g 25)),
.l 202 (.ia 1 (.l 200) (.l 201)),
.l 203 (.ld none (.l 202)),
.g 204 (.bin .neq (.l 203) (.i 1))])
(.cond (.g 204)
(.seq
(.reg [
.g 2 (.mv (.b false))])
.ret)
.skip)))
(.reg [
.l 198 (.mv (.g 25)),
.l 199 (.bin .add (.l 198) (.i 1)),
.g 25 (.mv (.l 199))])))))))))))
(.reg [
.l 118 (.mv (.g 20)),
.l 119 (.bin .add (.l 118) (.i 1)),
.g 20 (.mv (.l 119))]))))))
(.seq
(.reg [
.l 205 (.call (.c (.fn 12 [])) []),
.g 2 (.mv (.l 205))])
.ret))))))))))))))))))
def K3 : List Nat := [0, 42, 47, 63, 71, 77, 96, 117, 124, 155, 193, 197, 204, 2, 3, 4, 5, 6, 7, 9, 10, 11, 12, 13, 14, 15, 16, 17, 18, 19, 20, 21, 22, 23, 24, 25]
noncomputable def b3 : Code := match Tryz.f3.body with | some c => c | none => .skip
theorem t3 : trCode ⟨Tryz.prog, K3, [], 206, none⟩ b3 = some c3 := by kernel_rfl
theorem go3 {args : List AV} {H : AHeap} {Kk : AV → AHeap → Prop} (hn : args.length = 1) (h : AGo ⟨Tryz.prog, K3, [], 206, none⟩ H.length [.code c3] (RetP [.t (.g 2)] H.length Kk) ⟨[], argsG 0 args⟩ H) : ACalls Tryz.prog 3 args H Kk :=
  ACalls_of Tryz.func3 (c := b3) rfl (by kernel_rfl) t3 (rs := [.t (.g 2)]) (by kernel_rfl) (by rw [hn]; exact Nat.le_of_ble_eq_true rfl) (by rw [hn]; rfl) (h.weaken (fun _ _ => RetP.hands) (by simp))
end Go.Sas
