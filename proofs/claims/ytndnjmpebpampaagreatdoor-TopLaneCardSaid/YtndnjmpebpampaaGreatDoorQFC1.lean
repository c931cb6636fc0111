/-
The code of some functions with its types resolved, printed by a program; that it is the code is checked by the kernel.
Conditions: none.
-/
import Derived.Test.YtndnjmpebpampaaGreatDoorP4
import Derived.Test.YtndnjmpebpampaaGreatDoorP4
import Derived.Test.YtndnjmpebpampaaGreatDoorProg
set_option linter.unusedVariables false
set_option linter.unusedSimpArgs false
namespace Go.Sas
open Go.Proofs
set_option maxRecDepth 100000
/-- sastrugi/sastrugitop.awake3 -/
def c35 : ACode :=
  (.seq
(.reg [
.g 0 (.mv (.b false))])
(.seq
(.reg [
.l 4 (.mk [.int .i64 0, .int .i64 0] [(0, 1, .i 40000), (1, 1, .i 50000)]),
.l 5 (.mk [.int .i64 0, .int .i64 0] [(1, 1, .i 1000000)]),
.l 6 (.mks false 2 [.l 5]),
.l 7 (.mk [.int .i64 0, .int .i64 0] [(1, 1, .i 1000000)]),
.l 8 (.mks false 2 [.l 7]),
.l 9 (.mk [.int .i64 0, .int .i64 0, .slice none 0 0, .slice none 0 0, .int .i64 0, .int .i64 0, .int .i64 0, .int .i64 0, .int .i64 0, .int .i64 0, .int .i64 0] [(0, 2, .l 4), (2, 1, .l 6), (3, 1, .l 8), (6, 1, .i 98), (7, 1, .i 640000), (8, 1, .i 1440000)]),
.g 1 (.new [.int .i64 0, .int .i64 0, .slice none 0 0, .slice none 0 0, .int .i64 0, .int .i64 0, .int .i64 0, .int .i64 0, .int .i64 0, .int .i64 0, .int .i64 0]),
.n (.st 11 (.g 1) (.l 9))])
(.seq
(.reg [
.l 11 (.ld (some 11) (.g 1)),
.l 12 (.call (.c (.fn 59 [])) [.l 11, .i 500, .i 0]),
.l 10 (.mv (.l 12)),
.l 13 (.ex (.l 10) 0),
.l 14 (.ex (.l 10) 1),
.g 2 (.mv (.l 13)),
.g 3 (.mv (.l 14))])
(.seq
(.reg [
.l 15 (.mv (.g 3)),
.l 16 (.bin .eql (.l 15) (.i 0)),
.l 17 (.mv (.l 16)),
.lw 18 (.mv (.g 2)) (.l 17) true,
.lw 19 (.bin .eql (.l 18) (.i 10000)) (.l 17) true,
.l 20 (.pick (.l 17) (.l 19) (.b false)),
.l 21 (.mv (.l 20)),
.lw 22 (.call (.c (.fn 60 [])) []) (.l 21) true,
.l 23 (.pick (.l 21) (.l 22) (.b false)),
.g 0 (.mv (.l 23))])
.ret))))
def K35 : List Nat := [0, 1, 2, 3]
noncomputable def b35 : Code := match Tryz.f35.body with | some c => c | none => .skip
theorem t35 : trCode ⟨Tryz.prog, K35, [], 24, none⟩ b35 = some c35 := by kernel_rfl
theorem go35 {args : List AV} {H : AHeap} {Kk : AV → AHeap → Prop} (hn : args.length = 0) (h : AGo ⟨Tryz.prog, K35, [], 24, none⟩ H.length [.code c35] (RetP [.t (.g 0)] H.length Kk) ⟨[], argsG 0 args⟩ H) : ACalls Tryz.prog 35 args H Kk :=
  ACalls_of Tryz.func35 (c := b35) rfl (by kernel_rfl) t35 (rs := [.t (.g 0)]) (by kernel_rfl) (by rw [hn]; exact Nat.le_of_ble_eq_true rfl) (by rw [hn]; rfl) (h.weaken (fun _ _ => RetP.hands) (by simp))

/-- sastrugi/sastrugitop.one -/
def c10 : ACode :=
  (.seq
(.reg [
.g 2 (.new [.int .i64 0, .int .i64 0])])
(.seq
(.reg [
.l 3 (.mv (.g 0)),
.l 4 (.mv (.g 0)),
.l 5 (.mk [.int .i64 0, .int .i64 0] [(0, 1, .l 3), (1, 1, .l 4)]),
.n (.st 2 (.g 2) (.l 5))])
.ret))
def K10 : List Nat := [0, 2]
noncomputable def b10 : Code := match Tryz.f10.body with | some c => c | none => .skip
theorem t10 : trCode ⟨Tryz.prog, K10, [], 6, none⟩ b10 = some c10 := by kernel_rfl
theorem go10 {args : List AV} {H : AHeap} {Kk : AV → AHeap → Prop} (hn : args.length = 1) (h : AGo ⟨Tryz.prog, K10, [], 6, none⟩ H.length [.code c10] (RetP [.cell (.g 2) (some 2)] H.length Kk) ⟨[], argsG 0 args⟩ H) : ACalls Tryz.prog 10 args H Kk :=
  ACalls_of Tryz.func10 (c := b10) rfl (by kernel_rfl) t10 (rs := [.cell (.g 2) (some 2)]) (by kernel_rfl) (by rw [hn]; exact Nat.le_of_ble_eq_true rfl) (by rw [hn]; rfl) (h.weaken (fun _ _ => RetP.hands) (by simp))

/-- sastrugi/frost.checkAll -/
def c83 : ACode :=
  (.seq
(.reg [
.g 3 (.box (.g 0)),
.g 4 (.box (.g 1)),
.g 6 (.mv (.i 0))])
(.seq
(.seq
(.reg [
.l 9 (.ld (some 8) (.g 3)),
.l 10 (.call (.c (.fn 92 [])) [.l 9]),
.g 7 (.mv (.l 10))])
(.seq
(.reg [
.l 11 (.mv (.g 7)),
.g 12 (.bin .neq (.l 11) (.i 0))])
(.cond (.g 12)
(.seq
(.reg [
.l 13 (.mv (.g 7)),
.g 6 (.mv (.l 13))])
.ret)
.skip)))
(.seq
(.seq
(.reg [
.l 14 (.ld (some 8) (.g 4)),
.l 15 (.call (.c (.fn 93 [])) [.l 14]),
.g 8 (.mv (.l 15))])
(.seq
(.reg [
.l 16 (.mv (.g 8)),
.g 17 (.bin .neq (.l 16) (.i 0))])
(.cond (.g 17)
(.seq
(.reg [
.l 18 (.mv (.g 8)),
.g 6 (.mv (.l 18))])
.ret)
.skip)))
(.seq
(.reg [
.l 19 (.mv (.g 2)),
.l 20 (.call (.c (.fn 94 [])) [.l 19]),
.g 6 (.mv (.l 20))])
.ret))))
def K83 : List Nat := [0, 1, 2, 12, 17, 6, 3, 4, 7, 8]
noncomputable def b83 : Code := match Tryz.f83.body with | some c => c | none => .skip
theorem t83 : trCode ⟨Tryz.prog, K83, [], 21, none⟩ b83 = some c83 := by kernel_rfl
theorem go83 {args : List AV} {H : AHeap} {Kk : AV → AHeap → Prop} (hn : args.length = 3) (h : AGo ⟨Tryz.prog, K83, [], 21, none⟩ H.length [.code c83] (RetP [.t (.g 6)] H.length Kk) ⟨[], argsG 0 args⟩ H) : ACalls Tryz.prog 83 args H Kk :=
  ACalls_of Tryz.func83 (c := b83) rfl (by kernel_rfl) t83 (rs := [.t (.g 6)]) (by kernel_rfl) (by rw [hn]; exact Nat.le_of_ble_eq_true rfl) (by rw [hn]; rfl) (h.weaken (fun _ _ => RetP.hands) (by simp))

/-- sastrugi/frost.layersOf -/
def c85 : ACode :=
  (.seq
(.reg [
.g 1 (.box (.g 0)),
.g 2 (.new [.int .i64 0, .int .i64 0, .int .i64 0, .int .i64 0, .int .i64 0, .int .i64 0, .int .i64 0, .int .i64 0])])
(.seq
(.reg [
.l 3 (.fa (.g 1) 0),
.l 4 (.ld (some 2) (.l 3)),
.l 5 (.fa (.g 1) 2),
.l 6 (.ld (some 2) (.l 5)),
.l 7 (.fa (.g 1) 4),
.l 8 (.ld (some 2) (.l 7)),
.l 9 (.fa (.g 1) 6),
.l 10 (.ld (some 2) (.l 9)),
.l 11 (.mk [.int .i64 0, .int .i64 0, .int .i64 0, .int .i64 0, .int .i64 0, .int .i64 0, .int .i64 0, .int .i64 0] [(0, 2, .l 4), (2, 2, .l 6), (4, 2, .l 8), (6, 2, .l 10)]),
.n (.st 8 (.g 2) (.l 11))])
.ret))
def K85 : List Nat := [0, 2, 1]
noncomputable def b85 : Code := match Tryz.f85.body with | some c => c | none => .skip
theorem t85 : trCode ⟨Tryz.prog, K85, [], 12, none⟩ b85 = some c85 := by kernel_rfl
theorem go85 {args : List AV} {H : AHeap} {Kk : AV → AHeap → Prop} (hn : args.length = 1) (h : AGo ⟨Tryz.prog, K85, [], 12, none⟩ H.length [.code c85] (RetP [.cell (.g 2) (some 8)] H.length Kk) ⟨[], argsG 0 args⟩ H) : ACalls Tryz.prog 85 args H Kk :=
  ACalls_of Tryz.func85 (c := b85) rfl (by kernel_rfl) t85 (rs := [.cell (.g 2) (some 8)]) (by kernel_rfl) (by rw [hn]; exact Nat.le_of_ble_eq_true rfl) (by rw [hn]; rfl) (h.weaken (fun _ _ => RetP.hands) (by simp))

/-- (sastrugi/frost.layers).ice -/
def c86 : ACode :=
  (.seq
(.reg [
.g 1 (.box (.g 0)),
.g 2 (.new [.int .i64 0, .int .i64 0, .int .i64 0, .int .i64 0, .int .i64 0, .int .i64 0, .int .i64 0, .int .i64 0])])
(.seq
(.reg [
.l 3 (.iaa 4 2 (.g 1) (.i 0)),
.l 4 (.ld (some 2) (.l 3)),
.l 5 (.iaa 4 2 (.g 1) (.i 1)),
.l 6 (.ld (some 2) (.l 5)),
.l 7 (.iaa 4 2 (.g 1) (.i 2)),
.l 8 (.ld (some 2) (.l 7)),
.l 9 (.iaa 4 2 (.g 1) (.i 3)),
.l 10 (.ld (some 2) (.l 9)),
.l 11 (.mk [.int .i64 0, .int .i64 0, .int .i64 0, .int .i64 0, .int .i64 0, .int .i64 0, .int .i64 0, .int .i64 0] [(0, 2, .l 4), (2, 2, .l 6), (4, 2, .l 8), (6, 2, .l 10)]),
.n (.st 8 (.g 2) (.l 11))])
.ret))
def K86 : List Nat := [0, 2, 1]
noncomputable def b86 : Code := match Tryz.f86.body with | some c => c | none => .skip
theorem t86 : trCode ⟨Tryz.prog, K86, [], 12, none⟩ b86 = some c86 := by kernel_rfl
theorem go86 {args : List AV} {H : AHeap} {Kk : AV → AHeap → Prop} (hn : args.length = 1) (h : AGo ⟨Tryz.prog, K86, [], 12, none⟩ H.length [.code c86] (RetP [.cell (.g 2) (some 8)] H.length Kk) ⟨[], argsG 0 args⟩ H) : ACalls Tryz.prog 86 args H Kk :=
  ACalls_of Tryz.func86 (c := b86) rfl (by kernel_rfl) t86 (rs := [.cell (.g 2) (some 8)]) (by kernel_rfl) (by rw [hn]; exact Nat.le_of_ble_eq_true rfl) (by rw [hn]; rfl) (h.weaken (fun _ _ => RetP.hands) (by simp))

/-- sastrugi/sastrugitop.awake1 -/
def c60 : ACode :=
  (.seq
(.reg [
.g 0 (.mv (.b false))])
(.seq
(.reg [
.l 4 (.call (.c (.fn 10 [])) [.i 1000000]),
.l 5 (.mk [.int .i64 0, .int .i64 0, .int .i64 0] [(1, 2, .l 4)]),
.l 6 (.mks false 3 [.l 5]),
.l 7 (.mk [.int .i64 0, .int .i64 0, .slice none 0 0, .int .i64 0, .int .i64 0, .int .i64 0, .int .i64 0, .int .i64 0] [(0, 1, .i 100), (1, 1, .i 10), (2, 1, .l 6)]),
.g 1 (.new [.int .i64 0, .int .i64 0, .slice none 0 0, .int .i64 0, .int .i64 0, .int .i64 0, .int .i64 0, .int .i64 0]),
.n (.st 8 (.g 1) (.l 7))])
(.seq
(.draw [
.l 9 (.ld (some 8) (.g 1)) 0,
.g 2 (.new [.int .i64 0, .int .i64 0, .int .i64 0, .int .i64 0, .int .i64 0, .int .i64 0, .int .i64 0, .int .i64 0]) 9,
.lf 10 (.call (.c (.fn 10 [])) [.i 300]) 1,
.l 11 (.mk [.int .i64 0, .int .i64 0, .int .i64 0, .int .i64 0, .int .i64 0, .int .i64 0, .int .i64 0, .int .i64 0] [(0, 2, .l 10)]) 2,
.lf 12 (.call (.c (.fn 10 [])) [.i 160]) 3,
.l 13 (.mk [.int .i64 0, .int .i64 0, .int .i64 0, .int .i64 0, .int .i64 0, .bool false] [(0, 2, .l 12)]) 4,
.lf 14 (.call (.c (.fn 75 [])) [.l 9, .l 11, .l 13]) 5,
.l 8 (.mv (.l 14)) 6,
.l 15 (.ex (.l 8) 0) 7,
.lf 16 (.ex (.l 8) 1) 8,
.nx (.st 8 (.g 2) (.l 15)) 10 false [9],
.gx 3 (.mv (.l 16)) 11 false [9]])
(.seq
(.reg [
.l 17 (.mv (.g 3)),
.l 18 (.bin .eql (.l 17) (.i 0)),
.l 19 (.mv (.l 18)),
.lw 20 (.ld (some 8) (.g 2)) (.l 19) true,
.lw 21 (.mk [.int .i64 0, .int .i64 0] [(0, 1, .i 325), (1, 1, .i 326)]) (.l 19) true,
.lw 22 (.mk [.int .i64 0, .int .i64 0, .int .i64 0, .int .i64 0, .int .i64 0, .int .i64 0, .int .i64 0, .int .i64 0] [(0, 2, .l 21)]) (.l 19) true,
.lw 23 (.eqs false (.fld 0 (some 2) (.fld 0 none .i (.fld 1 none .i .nil)) (.fld 2 (some 2) (.fld 0 none .i (.fld 1 none .i .nil)) (.fld 4 (some 2) (.fld 0 none .i (.fld 1 none .i .nil)) (.fld 6 (some 2) (.fld 0 none .i (.fld 1 none .i .nil)) .nil)))) (.l 20) (.l 22)) (.l 19) true,
.l 24 (.pick (.l 19) (.l 23) (.b false)),
.l 25 (.mv (.l 24)),
.lw 26 (.call (.c (.fn 76 [])) [.i 99]) (.l 25) true,
.lw 27 (.bin .eql (.l 26) (.i 9)) (.l 25) true,
.l 28 (.pick (.l 25) (.l 27) (.b false)),
.g 0 (.mv (.l 28))])
.ret))))
def K60 : List Nat := [0, 1, 2, 3]
noncomputable def b60 : Code := match Tryz.f60.body with | some c => c | none => .skip
theorem t60 : trCode ⟨Tryz.prog, K60, [], 29, none⟩ b60 = some c60 := by kernel_rfl
theorem go60 {args : List AV} {H : AHeap} {Kk : AV → AHeap → Prop} (hn : args.length = 0) (h : AGo ⟨Tryz.prog, K60, [], 29, none⟩ H.length [.code c60] (RetP [.t (.g 0)] H.length Kk) ⟨[], argsG 0 args⟩ H) : ACalls Tryz.prog 60 args H Kk :=
  ACalls_of Tryz.func60 (c := b60) rfl (by kernel_rfl) t60 (rs := [.t (.g 0)]) (by kernel_rfl) (by rw [hn]; exact Nat.le_of_ble_eq_true rfl) (by rw [hn]; rfl) (h.weaken (fun _ _ => RetP.hands) (by simp))

/-- sastrugi/frost.Check -/
def c92 : ACode :=
  (.seq
(.reg [
.g 1 (.box (.g 0)),
.g 2 (.mv (.i 0))])
(.seq
(.seq
(.reg [
.l 5 (.fa (.g 1) 0),
.l 6 (.ld none (.l 5)),
.l 7 (.bin .lss (.l 6) (.i 0)),
.l 8 (.mv (.l 7)),
.lw 9 (.fa (.g 1) 0) (.l 8) false,
.lw 10 (.ld none (.l 9)) (.l 8) false,
.lw 11 (.bin .gtr (.l 10) (.i 10000)) (.l 8) false,
.l 12 (.pick (.l 8) (.b true) (.l 11)),
.l 13 (.mv (.l 12)),
.lw 14 (.fa (.g 1) 1) (.l 13) false,
.lw 15 (.ld none (.l 14)) (.l 13) false,
.lw 16 (.bin .lss (.l 15) (.i 1)) (.l 13) false,
.l 17 (.pick (.l 13) (.b true) (.l 16)),
.l 18 (.mv (.l 17)),
.lw 19 (.fa (.g 1) 1) (.l 18) false,
.lw 20 (.ld none (.l 19)) (.l 18) false,
.lw 21 (.bin .gtr (.l 20) (.i 1000)) (.l 18) false,
.g 22 (.pick (.l 18) (.b true) (.l 21))])
(.cond (.g 22)
(.seq
(.reg [
.g 2 (.mv (.i 2))])
.ret)
.skip))
(.seq
(.seq
(.reg [
.l 23 (.fa (.g 1) 2),
.l 24 (.ld none (.l 23)),
.l 25 (.call (.c (.fn 99 [])) [.l 24]),
.g 3 (.mv (.l 25))])
(.seq
(.reg [
.l 26 (.mv (.g 3)),
.g 27 (.bin .neq (.l 26) (.i 0))])
(.cond (.g 27)
(.seq
(.reg [
.l 28 (.mv (.g 3)),
.g 2 (.mv (.l 28))])
.ret)
.skip)))
(.seq
(.seq
(.reg [
.l 29 (.fa (.g 1) 3),
.l 30 (.ld (some 2) (.l 29)),
.l 31 (.call (.c (.fn 100 [])) [.l 30, .i 0, .i 10000000]),
.g 4 (.mv (.l 31))])
(.seq
(.reg [
.l 32 (.mv (.g 4)),
.g 33 (.bin .neq (.l 32) (.i 0))])
(.cond (.g 33)
(.seq
(.reg [
.l 34 (.mv (.g 4)),
.g 2 (.mv (.l 34))])
.ret)
.skip)))
(.seq
(.seq
(.reg [
.l 35 (.fa (.g 1) 5),
.l 36 (.ld none (.l 35)),
.l 37 (.bin .lss (.l 36) (.i 0)),
.l 38 (.mv (.l 37)),
.lw 39 (.fa (.g 1) 5) (.l 38) false,
.lw 40 (.ld none (.l 39)) (.l 38) false,
.lw 41 (.bin .gtr (.l 40) (.i 1000000)) (.l 38) false,
.g 42 (.pick (.l 38) (.b true) (.l 41))])
(.cond (.g 42)
(.seq
(.reg [
.g 2 (.mv (.i 2))])
.ret)
.skip))
(.seq
(.reg [
.l 43 (.fa (.g 1) 6),
.l 44 (.ld (some 2) (.l 43)),
.l 45 (.call (.c (.fn 100 [])) [.l 44, .i 0, .i 1000000]),
.g 2 (.mv (.l 45))])
.ret))))))
def K92 : List Nat := [0, 22, 27, 33, 42, 2, 1, 3, 4]
noncomputable def b92 : Code := match Tryz.f92.body with | some c => c | none => .skip
theorem t92 : trCode ⟨Tryz.prog, K92, [], 46, none⟩ b92 = some c92 := by kernel_rfl
theorem go92 {args : List AV} {H : AHeap} {Kk : AV → AHeap → Prop} (hn : args.length = 1) (h : AGo ⟨Tryz.prog, K92, [], 46, none⟩ H.length [.code c92] (RetP [.t (.g 2)] H.length Kk) ⟨[], argsG 0 args⟩ H) : ACalls Tryz.prog 92 args H Kk :=
  ACalls_of Tryz.func92 (c := b92) rfl (by kernel_rfl) t92 (rs := [.t (.g 2)]) (by kernel_rfl) (by rw [hn]; exact Nat.le_of_ble_eq_true rfl) (by rw [hn]; rfl) (h.weaken (fun _ _ => RetP.hands) (by simp))

/-- sastrugi/frost.CheckIce -/
def c93 : ACode :=
  (.seq
(.reg [
.g 1 (.box (.g 0)),
.g 2 (.mv (.i 0))])
(.seq
(.seq
(.reg [
.l 6 (.ld (some 8) (.g 1)),
.g 7 (.call (.c (.fn 85 [])) [.l 6]),
.g 8 (.mv (.i 0))])
(.block 0
(.loop
(.seq
(.reg [
.g 9 (.bin .lss (.g 8) (.i 4))])
(.seq
(.cond (.g 9)
.skip
(.exit 0))
(.seq
(.block 1
(.seq
(.reg [
.l 10 (.ix 4 2 (some 2) (.g 7) (.g 8)),
.g 4 (.new [.int .i64 0, .int .i64 0]),
.n (.st 2 (.g 4) (.l 10))])
(.seq
(.reg [
.l 11 (.ld (some 2) (.g 4)),
.l 12 (.call (.c (.fn 100 [])) [.l 11, .i 0, .i 5000]),
.g 5 (.mv (.l 12))])
(.seq
(.reg [
.l 13 (.mv (.g 5)),
.g 14 (.bin .neq (.l 13) (.i 0))])
(.cond (.g 14)
(.seq
(.reg [
.l 15 (.mv (.g 5)),
.g 2 (.mv (.l 15))])
.ret)
.skip)))))
(.reg [
.l 16 (.bin .add (.g 8) (.i 1)),
.g 8 (.mv (.l 16))])))))))
(.seq
(.reg [
.g 2 (.mv (.i 0))])
.ret)))
def K93 : List Nat := [0, 9, 14, 2, 1, 7, 8, 4, 5]
noncomputable def b93 : Code := match Tryz.f93.body with | some c => c | none => .skip
theorem t93 : trCode ⟨Tryz.prog, K93, [], 17, none⟩ b93 = some c93 := by kernel_rfl
theorem go93 {args : List AV} {H : AHeap} {Kk : AV → AHeap → Prop} (hn : args.length = 1) (h : AGo ⟨Tryz.prog, K93, [], 17, none⟩ H.length [.code c93] (RetP [.t (.g 2)] H.length Kk) ⟨[], argsG 0 args⟩ H) : ACalls Tryz.prog 93 args H Kk :=
  ACalls_of Tryz.func93 (c := b93) rfl (by kernel_rfl) t93 (rs := [.t (.g 2)]) (by kernel_rfl) (by rw [hn]; exact Nat.le_of_ble_eq_true rfl) (by rw [hn]; rfl) (h.weaken (fun _ _ => RetP.hands) (by simp))

/-- sastrugi/frost.checkDays -/
def c94 : ACode :=
  (.seq
(.reg [
.g 2 (.mv (.i 0))])
(.seq
(.seq
(.reg [
.l 7 (.mv (.g 0)),
.l 8 (.len (.l 7)),
.g 9 (.bin .gtr (.l 8) (.i 400))])
(.cond (.g 9)
(.seq
(.reg [
.g 2 (.mv (.i 8))])
.ret)
.skip))
(.seq
(.seq
(.reg [
.g 10 (.mv (.g 0)),
.g 11 (.len (.g 10)),
.g 12 (.mv (.i 0))])
(.block 0
(.loop
(.seq
(.reg [
.g 13 (.bin .lss (.g 12) (.g 11))])
(.seq
(.cond (.g 13)
.skip
(.exit 0))
(.seq
(.block 1
(.seq
(.reg [
.l 14 (.ia 6 (.g 10) (.g 12)),
.l 15 (.ld (some 6) (.l 14)),
.g 4 (.new [.int .i64 0, .int .i64 0, .int .i64 0, .int .i64 0, .int .i64 0, .bool false]),
.n (.st 6 (.g 4) (.l 15))])
(.seq
(.seq
(.reg [
.l 16 (.fa (.g 4) 0),
.l 17 (.ld (some 2) (.l 16)),
.l 18 (.call (.c (.fn 100 [])) [.l 17, .i (-1000), .i 1000]),
.g 5 (.mv (.l 18))])
(.seq
(.reg [
.l 19 (.mv (.g 5)),
.g 20 (.bin .neq (.l 19) (.i 0))])
(.cond (.g 20)
(.seq
(.reg [
.l 21 (.mv (.g 5)),
.g 2 (.mv (.l 21))])
.ret)
.skip)))
(.seq
(.seq
(.reg [
.l 22 (.fa (.g 4) 2),
.l 23 (.ld (some 2) (.l 22)),
.l 24 (.call (.c (.fn 100 [])) [.l 23, .i 0, .i 1000]),
.g 6 (.mv (.l 24))])
(.seq
(.reg [
.l 25 (.mv (.g 6)),
.g 26 (.bin .neq (.l 25) (.i 0))])
(.cond (.g 26)
(.seq
(.reg [
.l 27 (.mv (.g 6)),
.g 2 (.mv (.l 27))])
.ret)
.skip)))
(.seq
(.reg [
.l 28 (.fa (.g 4) 4),
.l 29 (.ld none (.l 28)),
.l 30 (.bin .lss (.l 29) (.i 0)),
.l 31 (.mv (.l 30)),
.lw 32 (.fa (.g 4) 4) (.l 31) false,
.lw 33 (.ld none (.l 32)) (.l 31) false,
.lw 34 (.bin .gtr (.l 33) (.i 200)) (.l 31) false,
.g 35 (.pick (.l 31) (.b true) (.l 34))])
(.cond (.g 35)
(.seq
(.reg [
.g 2 (.mv (.i 2))])
.ret)
.skip))))))
(.reg [
.l 36 (.bin .add (.g 12) (.i 1)),
.g 12 (.mv (.l 36))])))))))
(.seq
(.reg [
.g 2 (.mv (.i 0))])
.ret))))
def K94 : List Nat := [0, 9, 13, 20, 26, 35, 2, 10, 11, 12, 4, 5, 6]
noncomputable def b94 : Code := match Tryz.f94.body with | some c => c | none => .skip
theorem t94 : trCode ⟨Tryz.prog, K94, [], 37, none⟩ b94 = some c94 := by kernel_rfl
theorem go94 {args : List AV} {H : AHeap} {Kk : AV → AHeap → Prop} (hn : args.length = 1) (h : AGo ⟨Tryz.prog, K94, [], 37, none⟩ H.length [.code c94] (RetP [.t (.g 2)] H.length Kk) ⟨[], argsG 0 args⟩ H) : ACalls Tryz.prog 94 args H Kk :=
  ACalls_of Tryz.func94 (c := b94) rfl (by kernel_rfl) t94 (rs := [.t (.g 2)]) (by kernel_rfl) (by rw [hn]; exact Nat.le_of_ble_eq_true rfl) (by rw [hn]; rfl) (h.weaken (fun _ _ => RetP.hands) (by simp))

/-- (sastrugi/frost.day).after -/
def c84 : ACode :=
  (.seq
(.reg [
.g 3 (.box (.g 0)),
.g 4 (.box (.g 1)),
.g 5 (.box (.g 2)),
.g 6 (.new [.int .i64 0, .int .i64 0, .int .i64 0, .int .i64 0, .int .i64 0, .int .i64 0, .int .i64 0, .int .i64 0])])
(.seq
(.reg [
.l 7 (.ld (some 8) (.g 3)),
.l 8 (.ld (some 8) (.g 4)),
.l 9 (.ld (some 6) (.g 5)),
.l 10 (.call (.c (.fn 95 [])) [.l 7, .l 8, .l 9]),
.n (.st 8 (.g 4) (.l 10))])
(.seq
(.block 0
(.seq
(.reg [
.l 12 (.fa (.g 5) 0),
.l 13 (.fa (.l 12) 0),
.l 14 (.ld none (.l 13)),
.l 15 (.bin .geq (.l 14) (.i 0)),
.g 11 (.mv (.l 15))])
(.cond (.g 11)
(.seq
(.reg [
.l 16 (.ld (some 8) (.g 3)),
.l 17 (.ld (some 8) (.g 4)),
.l 18 (.fa (.g 5) 0),
.l 19 (.ld (some 2) (.l 18)),
.l 20 (.call (.c (.fn 96 [])) [.l 16, .l 17, .l 19]),
.n (.st 8 (.g 6) (.l 20))])
.ret)
(.seq
(.reg [
.l 22 (.fa (.g 5) 0),
.l 23 (.fa (.l 22) 1),
.l 24 (.ld none (.l 23)),
.l 25 (.bin .lss (.l 24) (.i 0)),
.g 21 (.mv (.l 25))])
(.cond (.g 21)
(.seq
(.reg [
.l 26 (.ld (some 8) (.g 3)),
.l 27 (.ld (some 8) (.g 4)),
.l 28 (.fa (.g 5) 0),
.l 29 (.ld (some 2) (.l 28)),
.l 30 (.call (.c (.fn 97 [])) [.l 26, .l 27, .l 29]),
.n (.st 8 (.g 6) (.l 30))])
.ret)
.skip)))))
(.seq
(.draw [
.l 31 (.ld (some 8) (.g 3)) 0,
.l 32 (.ld (some 8) (.g 4)) 1,
.l 33 (.fa (.g 5) 0) 2,
.l 34 (.fa (.l 33) 1) 3,
.l 35 (.ld none (.l 34)) 4,
.l 36 (.mk [.int .i64 0, .int .i64 0] [(1, 1, .l 35)]) 5,
.l 38 (.ld (some 8) (.g 3)) 7,
.l 39 (.ld (some 8) (.g 4)) 8,
.l 40 (.fa (.g 5) 0) 9,
.l 41 (.fa (.l 40) 0) 10,
.l 42 (.ld none (.l 41)) 11,
.l 43 (.mk [.int .i64 0, .int .i64 0] [(0, 1, .l 42), (1, 1, .i (-1))]) 12,
.lf 37 (.call (.c (.fn 96 [])) [.l 31, .l 32, .l 36]) 6,
.lf 44 (.call (.c (.fn 97 [])) [.l 38, .l 39, .l 43]) 13,
.lf 45 (.call (.c (.fn 98 [])) [.l 37, .l 44]) 14,
.n (.st 8 (.g 6) (.l 45)) 15])
.ret))))
def K84 : List Nat := [0, 1, 2, 11, 21, 6, 3, 4, 5]
noncomputable def b84 : Code := match Tryz.f84.body with | some c => c | none => .skip
theorem t84 : trCode ⟨Tryz.prog, K84, [], 46, none⟩ b84 = some c84 := by kernel_rfl
theorem go84 {args : List AV} {H : AHeap} {Kk : AV → AHeap → Prop} (hn : args.length = 3) (h : AGo ⟨Tryz.prog, K84, [], 46, none⟩ H.length [.code c84] (RetP [.cell (.g 6) (some 8)] H.length Kk) ⟨[], argsG 0 args⟩ H) : ACalls Tryz.prog 84 args H Kk :=
  ACalls_of Tryz.func84 (c := b84) rfl (by kernel_rfl) t84 (rs := [.cell (.g 6) (some 8)]) (by kernel_rfl) (by rw [hn]; exact Nat.le_of_ble_eq_true rfl) (by rw [hn]; rfl) (h.weaken (fun _ _ => RetP.hands) (by simp))

/-- sastrugi/frost.Step -/
def c75 : ACode :=
  (.seq
(.reg [
.g 3 (.box (.g 0)),
.g 4 (.box (.g 1)),
.g 5 (.box (.g 2)),
.g 6 (.new [.int .i64 0, .int .i64 0, .int .i64 0, .int .i64 0, .int .i64 0, .int .i64 0, .int .i64 0, .int .i64 0]),
.g 7 (.mv (.i 0))])
(.seq
(.seq
(.reg [
.l 9 (.ld (some 8) (.g 3)),
.l 10 (.ld (some 8) (.g 4)),
.l 11 (.ld (some 6) (.g 5)),
.l 12 (.mks false 6 [.l 11]),
.l 13 (.call (.c (.fn 83 [])) [.l 9, .l 10, .l 12]),
.g 8 (.mv (.l 13))])
(.seq
(.reg [
.l 14 (.mv (.g 8)),
.g 15 (.bin .neq (.l 14) (.i 0))])
(.cond (.g 15)
(.seq
(.reg [
.l 16 (.mk [.int .i64 0, .int .i64 0, .int .i64 0, .int .i64 0, .int .i64 0, .int .i64 0, .int .i64 0, .int .i64 0] []),
.l 17 (.mv (.g 8)),
.n (.st 8 (.g 6) (.l 16)),
.g 7 (.mv (.l 17))])
.ret)
.skip)))
(.seq
(.draw [
.l 18 (.ld (some 8) (.g 3)) 0,
.l 19 (.mk [.int .i64 0, .int .i64 0, .slice none 0 0, .int .i64 0, .int .i64 0, .int .i64 0, .int .i64 0, .int .i64 0] [(0, 8, .l 18)]) 1,
.l 20 (.ld (some 8) (.g 4)) 2,
.l 22 (.ld (some 6) (.g 5)) 4,
.lf 21 (.call (.c (.fn 85 [])) [.l 20]) 3,
.lf 23 (.call (.c (.fn 84 [])) [.l 19, .l 21, .l 22]) 5,
.lf 24 (.call (.c (.fn 86 [])) [.l 23]) 6,
.nf (.st 8 (.g 6) (.l 24)) 7,
.gf 7 (.mv (.i 0)) 8])
.ret)))
def K75 : List Nat := [0, 1, 2, 15, 6, 7, 3, 4, 5, 8]
noncomputable def b75 : Code := match Tryz.f75.body with | some c => c | none => .skip
theorem t75 : trCode ⟨Tryz.prog, K75, [], 25, none⟩ b75 = some c75 := by kernel_rfl
theorem go75 {args : List AV} {H : AHeap} {Kk : AV → AHeap → Prop} (hn : args.length = 3) (h : AGo ⟨Tryz.prog, K75, [], 25, none⟩ H.length [.code c75] (RetP [.cell (.g 6) (some 8), .t (.g 7)] H.length Kk) ⟨[], argsG 0 args⟩ H) : ACalls Tryz.prog 75 args H Kk :=
  ACalls_of Tryz.func75 (c := b75) rfl (by kernel_rfl) t75 (rs := [.cell (.g 6) (some 8), .t (.g 7)]) (by kernel_rfl) (by rw [hn]; exact Nat.le_of_ble_eq_true rfl) (by rw [hn]; rfl) (h.weaken (fun _ _ => RetP.hands) (by simp))

/-- sastrugi/frost.Root -/
def c76 : ACode :=
  (.seq
(.reg [
.g 2 (.mv (.i 0))])
(.seq
(.seq
(.reg [
.l 6 (.mv (.g 0)),
.g 7 (.bin .leq (.l 6) (.i 0))])
(.cond (.g 7)
(.seq
(.reg [
.g 2 (.mv (.i 0))])
.ret)
.skip))
(.seq
(.reg [
.g 3 (.mv (.i 1)),
.g 4 (.mv (.i 4294967296))])
(.seq
(.block 0
(.loop
(.seq
(.seq
(.reg [
.l 8 (.mv (.g 4)),
.l 9 (.mv (.g 3)),
.l 10 (.bin .sub (.l 8) (.l 9)),
.g 11 (.bin .gtr (.l 10) (.i 1))])
(.cond (.g 11)
.skip
(.exit 0)))
(.block 1
(.seq
(.reg [
.l 12 (.mv (.g 3)),
.l 13 (.mv (.g 4)),
.l 14 (.mv (.g 3)),
.l 15 (.bin .sub (.l 13) (.l 14)),
.l 16 (.bin .quo (.l 15) (.i 2)),
.l 17 (.bin .add (.l 12) (.l 16)),
.g 5 (.mv (.l 17))])
(.seq
(.reg [
.l 18 (.mv (.g 5)),
.l 19 (.mv (.g 0)),
.l 20 (.mv (.g 5)),
.l 21 (.bin .quo (.l 19) (.l 20)),
.g 22 (.bin .leq (.l 18) (.l 21))])
(.cond (.g 22)
(.reg [
.l 23 (.mv (.g 5)),
.g 3 (.mv (.l 23))])
(.reg [
.l 24 (.mv (.g 5)),
.g 4 (.mv (.l 24))]))))))))
(.seq
(.reg [
.l 25 (.mv (.g 3)),
.g 2 (.mv (.l 25))])
.ret)))))
def K76 : List Nat := [0, 7, 11, 22, 2, 3, 4, 5]
noncomputable def b76 : Code := match Tryz.f76.body with | some c => c | none => .skip
theorem t76 : trCode ⟨Tryz.prog, K76, [], 26, none⟩ b76 = some c76 := by kernel_rfl
theorem go76 {args : List AV} {H : AHeap} {Kk : AV → AHeap → Prop} (hn : args.length = 1) (h : AGo ⟨Tryz.prog, K76, [], 26, none⟩ H.length [.code c76] (RetP [.t (.g 2)] H.length Kk) ⟨[], argsG 0 args⟩ H) : ACalls Tryz.prog 76 args H Kk :=
  ACalls_of Tryz.func76 (c := b76) rfl (by kernel_rfl) t76 (rs := [.t (.g 2)]) (by kernel_rfl) (by rw [hn]; exact Nat.le_of_ble_eq_true rfl) (by rw [hn]; rfl) (h.weaken (fun _ _ => RetP.hands) (by simp))

/-- sastrugi/frost.down -/
def c101 : ACode :=
  (.seq
(.reg [
.g 4 (.mv (.i 0))])
(.seq
(.reg [
.l 5 (.mv (.g 0)),
.l 6 (.mv (.g 1)),
.l 7 (.bin .mul (.l 5) (.l 6)),
.l 8 (.bin .quo (.l 7) (.i 1000000)),
.g 4 (.mv (.l 8))])
.ret))
def K101 : List Nat := [0, 1, 4]
noncomputable def b101 : Code := match Tryz.f101.body with | some c => c | none => .skip
theorem t101 : trCode ⟨Tryz.prog, K101, [], 9, none⟩ b101 = some c101 := by kernel_rfl
theorem go101 {args : List AV} {H : AHeap} {Kk : AV → AHeap → Prop} (hn : args.length = 2) (h : AGo ⟨Tryz.prog, K101, [], 9, none⟩ H.length [.code c101] (RetP [.t (.g 4)] H.length Kk) ⟨[], argsG 0 args⟩ H) : ACalls Tryz.prog 101 args H Kk :=
  ACalls_of Tryz.func101 (c := b101) rfl (by kernel_rfl) t101 (rs := [.t (.g 4)]) (by kernel_rfl) (by rw [hn]; exact Nat.le_of_ble_eq_true rfl) (by rw [hn]; rfl) (h.weaken (fun _ _ => RetP.hands) (by simp))

/-- sastrugi/frost.up -/
def c103 : ACode :=
  (.seq
(.reg [
.g 4 (.mv (.i 0))])
(.seq
(.reg [
.l 5 (.mv (.g 0)),
.l 6 (.mv (.g 1)),
.l 7 (.bin .mul (.l 5) (.l 6)),
.l 8 (.bin .add (.l 7) (.i 1000000)),
.l 9 (.bin .sub (.l 8) (.i 1)),
.l 10 (.bin .quo (.l 9) (.i 1000000)),
.g 4 (.mv (.l 10))])
.ret))
def K103 : List Nat := [0, 1, 4]
noncomputable def b103 : Code := match Tryz.f103.body with | some c => c | none => .skip
theorem t103 : trCode ⟨Tryz.prog, K103, [], 11, none⟩ b103 = some c103 := by kernel_rfl
theorem go103 {args : List AV} {H : AHeap} {Kk : AV → AHeap → Prop} (hn : args.length = 2) (h : AGo ⟨Tryz.prog, K103, [], 11, none⟩ H.length [.code c103] (RetP [.t (.g 4)] H.length Kk) ⟨[], argsG 0 args⟩ H) : ACalls Tryz.prog 103 args H Kk :=
  ACalls_of Tryz.func103 (c := b103) rfl (by kernel_rfl) t103 (rs := [.t (.g 4)]) (by kernel_rfl) (by rw [hn]; exact Nat.le_of_ble_eq_true rfl) (by rw [hn]; rfl) (h.weaken (fun _ _ => RetP.hands) (by simp))

/-- sastrugi/frost.covers -/
def c99 : ACode :=
  (.seq
(.reg [
.g 2 (.mv (.i 0))])
(.seq
(.block 0
(.seq
(.reg [
.l 7 (.mv (.g 0)),
.l 8 (.len (.l 7)),
.l 9 (.bin .eql (.l 8) (.i 0)),
.g 6 (.mv (.l 9))])
(.cond (.g 6)
(.seq
(.reg [
.g 2 (.mv (.i 6))])
.ret)
(.seq
(.reg [
.l 11 (.mv (.g 0)),
.l 12 (.len (.l 11)),
.l 13 (.bin .gtr (.l 12) (.i 12)),
.g 10 (.mv (.l 13))])
(.cond (.g 10)
(.seq
(.reg [
.g 2 (.mv (.i 8))])
.ret)
.skip)))))
(.seq
(.seq
(.reg [
.g 14 (.mv (.g 0)),
.g 15 (.len (.g 14)),
.g 16 (.mv (.i 0))])
(.block 1
(.loop
(.seq
(.reg [
.g 17 (.bin .lss (.g 16) (.g 15))])
(.seq
(.cond (.g 17)
.skip
(.exit 1))
(.seq
(.block 2
(.seq
(.reg [
.l 18 (.mv (.g 16)),
.l 19 (.ia 3 (.g 14) (.g 16)),
.l 20 (.ld (some 3) (.l 19)),
.g 4 (.new [.int .i64 0, .int .i64 0, .int .i64 0]),
.g 3 (.mv (.l 18)),
.n (.st 3 (.g 4) (.l 20))])
(.seq
(.block 3
(.seq
(.reg [
.l 22 (.fa (.g 4) 0),
.l 23 (.ld none (.l 22)),
.l 24 (.bin .lss (.l 23) (.i 0)),
.l 25 (.mv (.l 24)),
.lw 26 (.fa (.g 4) 0) (.l 25) false,
.lw 27 (.ld none (.l 26)) (.l 25) false,
.lw 28 (.bin .gtr (.l 27) (.i 5000)) (.l 25) false,
.l 29 (.pick (.l 25) (.b true) (.l 28)),
.g 21 (.mv (.l 29))])
(.cond (.g 21)
(.seq
(.reg [
.g 2 (.mv (.i 2))])
.ret)
(.seq
(.draw [
.l 31 (.mv (.g 3)) 0,
.l 32 (.bin .eql (.l 31) (.i 0)) 1,
.l 33 (.mv (.l 32)) 2,
.lw 34 (.fa (.g 4) 0) (.l 33) true 3,
.lw 35 (.ld none (.l 34)) (.l 33) true 4,
.lw 36 (.bin .neq (.l 35) (.i 0)) (.l 33) true 5,
.l 37 (.pick (.l 33) (.l 36) (.b false)) 6,
.l 38 (.mv (.l 37)) 7,
.lw 39 (.mv (.g 3)) (.l 38) false 8,
.lw 40 (.bin .gtr (.l 39) (.i 0)) (.l 38) false 9,
.lw 41 (.mv (.l 40)) (.l 38) false 10,
.lw 42 (.fa (.g 4) 0) (.l 41) true 11,
.lw 43 (.ld none (.l 42)) (.l 41) true 12,
.lw 44 (.mv (.g 0)) (.l 41) true 13,
.lw 45 (.mv (.g 3)) (.l 41) true 14,
.lw 46 (.bin .sub (.l 45) (.i 1)) (.l 41) true 15,
.lw 47 (.ia 3 (.l 44) (.l 46)) (.l 41) true 16,
.lw 48 (.fa (.l 47) 0) (.l 41) true 17,
.lw 49 (.ld none (.l 48)) (.l 41) true 18,
.lw 50 (.bin .leq (.l 43) (.l 49)) (.l 41) true 19,
.lw 51 (.pick (.l 41) (.l 50) (.b false)) (.l 38) false 20,
.l 52 (.pick (.l 38) (.b true) (.l 51)) 21,
.g 30 (.mv (.l 52)) 22])
(.cond (.g 30)
(.seq
(.reg [
.g 2 (.mv (.i 11))])
.ret)
.skip)))))
(.seq
(.seq
(.reg [
.l 53 (.fa (.g 4) 1),
.l 54 (.ld (some 2) (.l 53)),
.l 55 (.call (.c (.fn 100 [])) [.l 54, .i 0, .i 1000000]),
.g 5 (.mv (.l 55))])
(.seq
(.reg [
.l 56 (.mv (.g 5)),
.g 57 (.bin .neq (.l 56) (.i 0))])
(.cond (.g 57)
(.seq
(.reg [
.l 58 (.mv (.g 5)),
.g 2 (.mv (.l 58))])
.ret)
.skip)))
(.seq
(.draw [
.l 59 (.mv (.g 3)) 0,
.l 60 (.bin .gtr (.l 59) (.i 0)) 1,
.l 61 (.mv (.l 60)) 2,
.lw 62 (.fa (.g 4) 1) (.l 61) true 3,
.lw 63 (.fa (.l 62) 0) (.l 61) true 4,
.lw 64 (.ld none (.l 63)) (.l 61) true 5,
.lw 65 (.mv (.g 0)) (.l 61) true 6,
.lw 66 (.mv (.g 3)) (.l 61) true 7,
.lw 67 (.bin .sub (.l 66) (.i 1)) (.l 61) true 8,
.lw 68 (.ia 3 (.l 65) (.l 67)) (.l 61) true 9,
.lw 69 (.fa (.l 68) 1) (.l 61) true 10,
.lw 70 (.fa (.l 69) 0) (.l 61) true 11,
.lw 71 (.ld none (.l 70)) (.l 61) true 12,
.lw 72 (.bin .gtr (.l 64) (.l 71)) (.l 61) true 13,
.lw 73 (.mv (.l 72)) (.l 61) true 14,
.lw 74 (.fa (.g 4) 1) (.l 73) false 15,
.lw 75 (.fa (.l 74) 1) (.l 73) false 16,
.lw 76 (.ld none (.l 75)) (.l 73) false 17,
.lw 77 (.mv (.g 0)) (.l 73) false 18,
.lw 78 (.mv (.g 3)) (.l 73) false 19,
.lw 79 (.bin .sub (.l 78) (.i 1)) (.l 73) false 20,
.lw 80 (.ia 3 (.l 77) (.l 79)) (.l 73) false 21,
.lw 81 (.fa (.l 80) 1) (.l 73) false 22,
.lw 82 (.fa (.l 81) 1) (.l 73) false 23,
.lw 83 (.ld none (.l 82)) (.l 73) false 24,
.lw 84 (.bin .gtr (.l 76) (.l 83)) (.l 73) false 25,
.lw 85 (.pick (.l 73) (.b true) (.l 84)) (.l 61) true 26,
.g 86 (.pick (.l 61) (.l 85) (.b false)) 27])
(.cond (.g 86)
(.seq
(.reg [
.g 2 (.mv (.i 11))])
.ret)
.skip))))))
(.reg [
.l 87 (.bin .add (.g 16) (.i 1)),
.g 16 (.mv (.l 87))])))))))
(.seq
(.reg [
.g 2 (.mv (.i 0))])
.ret))))
def K99 : List Nat := [0, 6, 10, 17, 21, 30, 57, 86, 2, 14, 15, 16, 4, 3, 5]
noncomputable def b99 : Code := match Tryz.f99.body with | some c => c | none => .skip
theorem t99 : trCode ⟨Tryz.prog, K99, [], 88, none⟩ b99 = some c99 := by kernel_rfl
theorem go99 {args : List AV} {H : AHeap} {Kk : AV → AHeap → Prop} (hn : args.length = 1) (h : AGo ⟨Tryz.prog, K99, [], 88, none⟩ H.length [.code c99] (RetP [.t (.g 2)] H.length Kk) ⟨[], argsG 0 args⟩ H) : ACalls Tryz.prog 99 args H Kk :=
  ACalls_of Tryz.func99 (c := b99) rfl (by kernel_rfl) t99 (rs := [.t (.g 2)]) (by kernel_rfl) (by rw [hn]; exact Nat.le_of_ble_eq_true rfl) (by rw [hn]; rfl) (h.weaken (fun _ _ => RetP.hands) (by simp))

/-- sastrugi/frost.fault -/
def c100 : ACode :=
  (.seq
(.reg [
.g 3 (.box (.g 0)),
.g 6 (.mv (.i 0))])
(.seq
(.block 0
(.seq
(.reg [
.l 8 (.fa (.g 3) 0),
.l 9 (.ld none (.l 8)),
.l 10 (.mv (.g 1)),
.l 11 (.bin .lss (.l 9) (.l 10)),
.l 12 (.mv (.l 11)),
.lw 13 (.fa (.g 3) 0) (.l 12) false,
.lw 14 (.ld none (.l 13)) (.l 12) false,
.lw 15 (.mv (.g 2)) (.l 12) false,
.lw 16 (.bin .gtr (.l 14) (.l 15)) (.l 12) false,
.l 17 (.pick (.l 12) (.b true) (.l 16)),
.l 18 (.mv (.l 17)),
.lw 19 (.fa (.g 3) 1) (.l 18) false,
.lw 20 (.ld none (.l 19)) (.l 18) false,
.lw 21 (.mv (.g 1)) (.l 18) false,
.lw 22 (.bin .lss (.l 20) (.l 21)) (.l 18) false,
.l 23 (.pick (.l 18) (.b true) (.l 22)),
.l 24 (.mv (.l 23)),
.lw 25 (.fa (.g 3) 1) (.l 24) false,
.lw 26 (.ld none (.l 25)) (.l 24) false,
.lw 27 (.mv (.g 2)) (.l 24) false,
.lw 28 (.bin .gtr (.l 26) (.l 27)) (.l 24) false,
.l 29 (.pick (.l 24) (.b true) (.l 28)),
.g 7 (.mv (.l 29))])
(.cond (.g 7)
(.seq
(.reg [
.g 6 (.mv (.i 2))])
.ret)
(.seq
(.reg [
.l 31 (.fa (.g 3) 0),
.l 32 (.ld none (.l 31)),
.l 33 (.fa (.g 3) 1),
.l 34 (.ld none (.l 33)),
.l 35 (.bin .gtr (.l 32) (.l 34)),
.g 30 (.mv (.l 35))])
(.cond (.g 30)
(.seq
(.reg [
.g 6 (.mv (.i 11))])
.ret)
.skip)))))
(.seq
(.reg [
.g 6 (.mv (.i 0))])
.ret)))
def K100 : List Nat := [0, 1, 2, 7, 30, 6, 3]
noncomputable def b100 : Code := match Tryz.f100.body with | some c => c | none => .skip
theorem t100 : trCode ⟨Tryz.prog, K100, [], 36, none⟩ b100 = some c100 := by kernel_rfl
theorem go100 {args : List AV} {H : AHeap} {Kk : AV → AHeap → Prop} (hn : args.length = 3) (h : AGo ⟨Tryz.prog, K100, [], 36, none⟩ H.length [.code c100] (RetP [.t (.g 6)] H.length Kk) ⟨[], argsG 0 args⟩ H) : ACalls Tryz.prog 100 args H Kk :=
  ACalls_of Tryz.func100 (c := b100) rfl (by kernel_rfl) t100 (rs := [.t (.g 6)]) (by kernel_rfl) (by rw [hn]; exact Nat.le_of_ble_eq_true rfl) (by rw [hn]; rfl) (h.weaken (fun _ _ => RetP.hands) (by simp))

/-- (sastrugi/frost.day).covered -/
def c95 : ACode :=
  (.seq
(.reg [
.g 3 (.box (.g 0)),
.g 4 (.box (.g 1)),
.g 5 (.box (.g 2)),
.g 6 (.new [.int .i64 0, .int .i64 0, .int .i64 0, .int .i64 0, .int .i64 0, .int .i64 0, .int .i64 0, .int .i64 0])])
(.seq
(.seq
(.reg [
.l 8 (.fa (.g 5) 5),
.g 9 (.ld none (.l 8))])
(.cond (.g 9)
(.reg [
.l 10 (.mk [.int .i64 0, .int .i64 0] []),
.l 11 (.iaa 4 2 (.g 4) (.i 3)),
.n (.st 2 (.l 11) (.l 10))])
.skip))
(.seq
(.draw [
.l 12 (.iaa 4 2 (.g 4) (.i 3)) 0,
.l 13 (.fa (.l 12) 0) 1,
.l 14 (.ld none (.l 13)) 2,
.l 15 (.fa (.g 5) 2) 3,
.l 16 (.fa (.l 15) 0) 4,
.l 17 (.ld none (.l 16)) 5,
.l 18 (.bin .add (.l 14) (.l 17)) 6,
.l 19 (.iaa 4 2 (.g 4) (.i 3)) 7,
.l 20 (.fa (.l 19) 1) 8,
.l 21 (.ld none (.l 20)) 9,
.lf 22 (.fa (.g 5) 2) 10,
.lf 23 (.fa (.l 22) 1) 11,
.lf 24 (.ld none (.l 23)) 12,
.lf 25 (.bin .add (.l 21) (.l 24)) 13,
.l 26 (.iaa 4 2 (.g 4) (.i 3)) 14,
.l 27 (.fa (.l 26) 0) 15,
.nf (.st 1 (.l 27) (.l 18)) 16,
.lf 28 (.iaa 4 2 (.g 4) (.i 3)) 17,
.lf 29 (.fa (.l 28) 1) 18,
.n (.st 1 (.l 29) (.l 25)) 19])
(.seq
(.seq
(.reg [
.l 30 (.fa (.g 5) 4),
.l 31 (.ld none (.l 30)),
.g 32 (.bin .gtr (.l 31) (.i 0))])
(.cond (.g 32)
(.seq
(.reg [
.l 33 (.iaa 4 2 (.g 4) (.i 3)),
.l 34 (.ld (some 2) (.l 33)),
.g 7 (.new [.int .i64 0, .int .i64 0]),
.n (.st 2 (.g 7) (.l 34))])
(.seq
(.reg [
.l 35 (.mk [.int .i64 0, .int .i64 0] []),
.l 36 (.iaa 4 2 (.g 4) (.i 3)),
.n (.st 2 (.l 36) (.l 35))])
(.draw [
.l 37 (.iaa 4 2 (.g 4) (.i 2)) 0,
.l 38 (.fa (.l 37) 0) 1,
.l 39 (.ld none (.l 38)) 2,
.l 40 (.fa (.g 5) 4) 3,
.l 41 (.ld none (.l 40)) 4,
.l 42 (.bin .add (.l 39) (.l 41)) 5,
.l 43 (.fa (.g 7) 0) 6,
.l 44 (.ld none (.l 43)) 7,
.l 45 (.fa (.g 3) 0) 8,
.l 46 (.fa (.l 45) 5) 9,
.l 47 (.ld none (.l 46)) 10,
.l 50 (.iaa 4 2 (.g 4) (.i 2)) 13,
.l 51 (.fa (.l 50) 1) 14,
.l 52 (.ld none (.l 51)) 15,
.lf 53 (.fa (.g 5) 4) 16,
.lf 54 (.ld none (.l 53)) 17,
.lf 55 (.bin .add (.l 52) (.l 54)) 18,
.lf 56 (.fa (.g 7) 1) 19,
.l 57 (.ld none (.l 56)) 20,
.lf 58 (.fa (.g 3) 0) 21,
.lf 59 (.fa (.l 58) 5) 22,
.l 60 (.ld none (.l 59)) 23,
.lf 48 (.call (.c (.fn 101 [])) [.l 44, .l 47]) 11,
.l 49 (.bin .add (.l 42) (.l 48)) 12,
.l 63 (.iaa 4 2 (.g 4) (.i 2)) 26,
.l 64 (.fa (.l 63) 0) 27,
.lf 61 (.call (.c (.fn 101 [])) [.l 57, .l 60]) 24,
.lf 62 (.bin .add (.l 55) (.l 61)) 25,
.nf (.st 1 (.l 64) (.l 49)) 28,
.lf 65 (.iaa 4 2 (.g 4) (.i 2)) 29,
.lf 66 (.fa (.l 65) 1) 30,
.n (.st 1 (.l 66) (.l 62)) 31])))
.skip))
(.seq
(.reg [
.l 67 (.ld (some 8) (.g 4)),
.n (.st 8 (.g 6) (.l 67))])
.ret)))))
def K95 : List Nat := [0, 1, 2, 9, 32, 6, 3, 4, 5, 7]
noncomputable def b95 : Code := match Tryz.f95.body with | some c => c | none => .skip
theorem t95 : trCode ⟨Tryz.prog, K95, [], 68, none⟩ b95 = some c95 := by kernel_rfl
theorem go95 {args : List AV} {H : AHeap} {Kk : AV → AHeap → Prop} (hn : args.length = 3) (h : AGo ⟨Tryz.prog, K95, [], 68, none⟩ H.length [.code c95] (RetP [.cell (.g 6) (some 8)] H.length Kk) ⟨[], argsG 0 args⟩ H) : ACalls Tryz.prog 95 args H Kk :=
  ACalls_of Tryz.func95 (c := b95) rfl (by kernel_rfl) t95 (rs := [.cell (.g 6) (some 8)]) (by kernel_rfl) (by rw [hn]; exact Nat.le_of_ble_eq_true rfl) (by rw [hn]; rfl) (h.weaken (fun _ _ => RetP.hands) (by simp))

/-- (sastrugi/frost.day).frozen -/
def c96 : ACode :=
  (.seq
(.reg [
.g 3 (.box (.g 0)),
.g 4 (.box (.g 1)),
.g 5 (.box (.g 2)),
.g 6 (.new [.int .i64 0, .int .i64 0, .int .i64 0, .int .i64 0, .int .i64 0, .int .i64 0, .int .i64 0, .int .i64 0])])
(.seq
(.draw [
.l 12 (.fa (.g 5) 0) 0,
.l 13 (.ld none (.l 12)) 1,
.l 14 (.ld (some 8) (.g 3)) 2,
.l 15 (.iaa 4 2 (.g 4) (.i 3)) 3,
.l 16 (.fa (.l 15) 1) 4,
.l 17 (.ld none (.l 16)) 5,
.lf 18 (.call (.c (.fn 102 [])) [.l 14, .l 17]) 6,
.l 19 (.fd none (.l 18) 0) 7,
.lf 20 (.call (.c (.fn 101 [])) [.l 13, .l 19]) 8,
.g 7 (.mv (.l 20)) 9])
(.seq
(.draw [
.l 21 (.fa (.g 5) 1) 0,
.l 22 (.ld none (.l 21)) 1,
.l 23 (.ld (some 8) (.g 3)) 2,
.l 24 (.iaa 4 2 (.g 4) (.i 3)) 3,
.l 25 (.fa (.l 24) 0) 4,
.l 26 (.ld none (.l 25)) 5,
.lf 27 (.call (.c (.fn 102 [])) [.l 23, .l 26]) 6,
.l 28 (.fd none (.l 27) 1) 7,
.lf 29 (.call (.c (.fn 103 [])) [.l 22, .l 28]) 8,
.g 8 (.mv (.l 29)) 9])
(.seq
(.draw [
.l 30 (.mv (.g 7)) 0,
.l 31 (.fa (.g 3) 0) 1,
.l 32 (.fa (.l 31) 1) 2,
.l 33 (.ld none (.l 32)) 3,
.l 34 (.bin .quo (.l 30) (.l 33)) 4,
.l 35 (.mv (.g 8)) 5,
.l 36 (.fa (.g 3) 0) 6,
.l 37 (.fa (.l 36) 1) 7,
.l 38 (.ld none (.l 37)) 8,
.l 39 (.bin .quo (.l 35) (.l 38)) 9,
.g 9 (.mv (.l 34)) 10,
.g 10 (.mv (.l 39)) 11])
(.seq
(.reg [
.l 40 (.ld (some 8) (.g 4)),
.g 11 (.new [.int .i64 0, .int .i64 0, .int .i64 0, .int .i64 0, .int .i64 0, .int .i64 0, .int .i64 0, .int .i64 0]),
.n (.st 8 (.g 11) (.l 40))])
(.seq
(.reg [
.l 41 (.iaa 4 2 (.g 4) (.i 1)),
.l 42 (.fa (.l 41) 0),
.l 43 (.ld none (.l 42)),
.l 44 (.iaa 4 2 (.g 4) (.i 2)),
.l 45 (.fa (.l 44) 0),
.l 46 (.ld none (.l 45)),
.l 47 (.mv (.g 9)),
.l 48 (.mn [.l 46, .l 47]),
.l 49 (.bin .add (.l 43) (.l 48)),
.l 50 (.iaa 4 2 (.g 4) (.i 1)),
.l 51 (.fa (.l 50) 1),
.l 52 (.ld none (.l 51)),
.l 53 (.iaa 4 2 (.g 4) (.i 2)),
.l 54 (.fa (.l 53) 1),
.l 55 (.ld none (.l 54)),
.l 56 (.mv (.g 10)),
.l 57 (.mn [.l 55, .l 56]),
.l 58 (.bin .add (.l 52) (.l 57)),
.l 59 (.mk [.int .i64 0, .int .i64 0] [(0, 1, .l 49), (1, 1, .l 58)]),
.l 60 (.iaa 4 2 (.g 11) (.i 1)),
.n (.st 2 (.l 60) (.l 59))])
(.seq
(.reg [
.l 61 (.iaa 4 2 (.g 4) (.i 2)),
.l 62 (.fa (.l 61) 0),
.l 63 (.ld none (.l 62)),
.l 64 (.mv (.g 10)),
.l 65 (.bin .sub (.l 63) (.l 64)),
.l 66 (.mx [.i 0, .l 65]),
.l 67 (.iaa 4 2 (.g 4) (.i 2)),
.l 68 (.fa (.l 67) 1),
.l 69 (.ld none (.l 68)),
.l 70 (.mv (.g 9)),
.l 71 (.bin .sub (.l 69) (.l 70)),
.l 72 (.mx [.i 0, .l 71]),
.l 73 (.mk [.int .i64 0, .int .i64 0] [(0, 1, .l 66), (1, 1, .l 72)]),
.l 74 (.iaa 4 2 (.g 11) (.i 2)),
.n (.st 2 (.l 74) (.l 73))])
(.seq
(.seq
(.reg [
.l 75 (.iaa 4 2 (.g 4) (.i 2)),
.l 76 (.fa (.l 75) 1),
.l 77 (.ld none (.l 76)),
.l 78 (.mv (.g 9)),
.g 79 (.bin .leq (.l 77) (.l 78))])
(.cond (.g 79)
(.reg [
.l 80 (.ld (some 8) (.g 3)),
.l 81 (.iaa 4 2 (.g 4) (.i 0)),
.l 82 (.fa (.l 81) 0),
.l 83 (.ld none (.l 82)),
.l 84 (.iaa 4 2 (.g 4) (.i 1)),
.l 85 (.fa (.l 84) 1),
.l 86 (.ld none (.l 85)),
.l 87 (.iaa 4 2 (.g 4) (.i 2)),
.l 88 (.fa (.l 87) 1),
.l 89 (.ld none (.l 88)),
.l 90 (.mv (.g 7)),
.l 91 (.call (.c (.fn 104 [])) [.l 80, .l 83, .l 86, .l 89, .l 90, .c (.fn 76 [])]),
.l 92 (.iaa 4 2 (.g 11) (.i 0)),
.l 93 (.fa (.l 92) 0),
.n (.st 1 (.l 93) (.l 91))])
.skip))
(.seq
(.seq
(.reg [
.l 94 (.iaa 4 2 (.g 4) (.i 2)),
.l 95 (.fa (.l 94) 0),
.l 96 (.ld none (.l 95)),
.l 97 (.mv (.g 10)),
.g 98 (.bin .leq (.l 96) (.l 97))])
(.cond (.g 98)
(.reg [
.l 99 (.ld (some 8) (.g 3)),
.l 100 (.iaa 4 2 (.g 4) (.i 0)),
.l 101 (.fa (.l 100) 1),
.l 102 (.ld none (.l 101)),
.l 103 (.iaa 4 2 (.g 4) (.i 1)),
.l 104 (.fa (.l 103) 0),
.l 105 (.ld none (.l 104)),
.l 106 (.iaa 4 2 (.g 4) (.i 2)),
.l 107 (.fa (.l 106) 0),
.l 108 (.ld none (.l 107)),
.l 109 (.mv (.g 8)),
.l 110 (.call (.c (.fn 104 [])) [.l 99, .l 102, .l 105, .l 108, .l 109, .c (.fn 105 [])]),
.l 111 (.iaa 4 2 (.g 11) (.i 0)),
.l 112 (.fa (.l 111) 1),
.n (.st 1 (.l 112) (.l 110))])
.skip))
(.seq
(.reg [
.l 113 (.ld (some 8) (.g 11)),
.n (.st 8 (.g 6) (.l 113))])
.ret))))))))))
def K96 : List Nat := [0, 1, 2, 79, 98, 6, 3, 4, 5, 7, 8, 9, 10, 11]
noncomputable def b96 : Code := match Tryz.f96.body with | some c => c | none => .skip
theorem t96 : trCode ⟨Tryz.prog, K96, [], 114, none⟩ b96 = some c96 := by kernel_rfl
theorem go96 {args : List AV} {H : AHeap} {Kk : AV → AHeap → Prop} (hn : args.length = 3) (h : AGo ⟨Tryz.prog, K96, [], 114, none⟩ H.length [.code c96] (RetP [.cell (.g 6) (some 8)] H.length Kk) ⟨[], argsG 0 args⟩ H) : ACalls Tryz.prog 96 args H Kk :=
  ACalls_of Tryz.func96 (c := b96) rfl (by kernel_rfl) t96 (rs := [.cell (.g 6) (some 8)]) (by kernel_rfl) (by rw [hn]; exact Nat.le_of_ble_eq_true rfl) (by rw [hn]; rfl) (h.weaken (fun _ _ => RetP.hands) (by simp))

/-- (sastrugi/frost.day).melted -/
def c97 : ACode :=
  (.seq
(.reg [
.g 3 (.box (.g 0)),
.g 4 (.box (.g 1)),
.g 5 (.box (.g 2)),
.g 6 (.new [.int .i64 0, .int .i64 0, .int .i64 0, .int .i64 0, .int .i64 0, .int .i64 0, .int .i64 0, .int .i64 0])])
(.seq
(.draw [
.l 12 (.fa (.g 5) 1) 0,
.l 13 (.ld none (.l 12)) 1,
.l 14 (.un .neg (.l 13)) 2,
.l 15 (.fa (.g 3) 0) 3,
.l 16 (.fa (.l 15) 3) 4,
.l 17 (.fa (.l 16) 0) 5,
.l 18 (.ld none (.l 17)) 6,
.l 20 (.fa (.g 5) 0) 8,
.l 21 (.ld none (.l 20)) 9,
.l 22 (.un .neg (.l 21)) 10,
.l 23 (.fa (.g 3) 0) 11,
.l 24 (.fa (.l 23) 3) 12,
.l 25 (.fa (.l 24) 1) 13,
.l 26 (.ld none (.l 25)) 14,
.lf 19 (.call (.c (.fn 101 [])) [.l 14, .l 18]) 7,
.lf 27 (.call (.c (.fn 103 [])) [.l 22, .l 26]) 15,
.g 7 (.mv (.l 19)) 16,
.g 8 (.mv (.l 27)) 17])
(.seq
(.reg [
.l 28 (.ld (some 8) (.g 4)),
.g 9 (.new [.int .i64 0, .int .i64 0, .int .i64 0, .int .i64 0, .int .i64 0, .int .i64 0, .int .i64 0, .int .i64 0]),
.n (.st 8 (.g 9) (.l 28))])
(.seq
(.seq
(.reg [
.g 29 (.mks false 1 [.i 3, .i 1, .i 0]),
.g 30 (.len (.g 29)),
.g 31 (.mv (.i 0))])
(.block 0
(.loop
(.seq
(.reg [
.g 32 (.bin .lss (.g 31) (.g 30))])
(.seq
(.cond (.g 32)
.skip
(.exit 0))
(.seq
(.block 1
(.seq
(.reg [
.l 33 (.ia 1 (.g 29) (.g 31)),
.l 34 (.ld none (.l 33)),
.g 11 (.mv (.l 34))])
(.seq
(.draw [
.l 35 (.mv (.g 11)) 0,
.l 36 (.mv (.g 11)) 1,
.l 37 (.iaa 4 2 (.g 4) (.l 36)) 2,
.l 38 (.fa (.l 37) 0) 3,
.l 39 (.ld none (.l 38)) 4,
.l 40 (.mv (.g 8)) 5,
.l 41 (.bin .sub (.l 39) (.l 40)) 6,
.l 42 (.mx [.i 0, .l 41]) 7,
.l 43 (.mv (.g 11)) 8,
.l 44 (.iaa 4 2 (.g 4) (.l 43)) 9,
.l 45 (.fa (.l 44) 1) 10,
.l 46 (.ld none (.l 45)) 11,
.l 47 (.mv (.g 7)) 12,
.l 48 (.bin .sub (.l 46) (.l 47)) 13,
.l 49 (.mx [.i 0, .l 48]) 14,
.l 50 (.mk [.int .i64 0, .int .i64 0] [(0, 1, .l 42), (1, 1, .l 49)]) 15,
.l 51 (.iaa 4 2 (.g 9) (.l 35)) 16,
.n (.st 2 (.l 51) (.l 50)) 17])
(.draw [
.l 52 (.mv (.g 7)) 0,
.l 53 (.mv (.g 11)) 1,
.l 54 (.iaa 4 2 (.g 4) (.l 53)) 2,
.l 55 (.fa (.l 54) 1) 3,
.l 56 (.ld none (.l 55)) 4,
.l 57 (.bin .sub (.l 52) (.l 56)) 5,
.l 58 (.mx [.i 0, .l 57]) 6,
.l 59 (.mv (.g 8)) 7,
.l 60 (.mv (.g 11)) 8,
.l 61 (.iaa 4 2 (.g 4) (.l 60)) 9,
.l 62 (.fa (.l 61) 0) 10,
.l 63 (.ld none (.l 62)) 11,
.l 64 (.bin .sub (.l 59) (.l 63)) 12,
.l 65 (.mx [.i 0, .l 64]) 13,
.g 7 (.mv (.l 58)) 14,
.g 8 (.mv (.l 65)) 15]))))
(.reg [
.l 66 (.bin .add (.g 31) (.i 1)),
.g 31 (.mv (.l 66))])))))))
(.seq
(.reg [
.l 67 (.ld (some 8) (.g 9)),
.n (.st 8 (.g 6) (.l 67))])
.ret)))))
def K97 : List Nat := [0, 1, 2, 32, 6, 3, 4, 5, 7, 8, 9, 29, 30, 31, 11]
noncomputable def b97 : Code := match Tryz.f97.body with | some c => c | none => .skip
theorem t97 : trCode ⟨Tryz.prog, K97, [], 68, none⟩ b97 = some c97 := by kernel_rfl
theorem go97 {args : List AV} {H : AHeap} {Kk : AV → AHeap → Prop} (hn : args.length = 3) (h : AGo ⟨Tryz.prog, K97, [], 68, none⟩ H.length [.code c97] (RetP [.cell (.g 6) (some 8)] H.length Kk) ⟨[], argsG 0 args⟩ H) : ACalls Tryz.prog 97 args H Kk :=
  ACalls_of Tryz.func97 (c := b97) rfl (by kernel_rfl) t97 (rs := [.cell (.g 6) (some 8)]) (by kernel_rfl) (by rw [hn]; exact Nat.le_of_ble_eq_true rfl) (by rw [hn]; rfl) (h.weaken (fun _ _ => RetP.hands) (by simp))

/-- sastrugi/frost.joined -/
def c98 : ACode :=
  (.seq
(.reg [
.g 2 (.box (.g 0)),
.g 3 (.box (.g 1)),
.g 4 (.new [.int .i64 0, .int .i64 0, .int .i64 0, .int .i64 0, .int .i64 0, .int .i64 0, .int .i64 0, .int .i64 0])])
(.seq
(.seq
(.reg [
.g 7 (.ld (some 8) (.g 3)),
.g 8 (.mv (.i 0))])
(.block 0
(.loop
(.seq
(.reg [
.g 9 (.bin .lss (.g 8) (.i 4))])
(.seq
(.cond (.g 9)
.skip
(.exit 0))
(.seq
(.block 1
(.seq
(.reg [
.l 10 (.mv (.g 8)),
.l 11 (.ix 4 2 (some 2) (.g 7) (.g 8)),
.g 6 (.new [.int .i64 0, .int .i64 0]),
.g 5 (.mv (.l 10)),
.n (.st 2 (.g 6) (.l 11))])
(.draw [
.l 12 (.mv (.g 5)) 0,
.l 13 (.mv (.g 5)) 1,
.l 14 (.iaa 4 2 (.g 2) (.l 13)) 2,
.l 15 (.fa (.l 14) 0) 3,
.l 16 (.ld none (.l 15)) 4,
.l 17 (.fa (.g 6) 0) 5,
.l 18 (.ld none (.l 17)) 6,
.l 19 (.mn [.l 16, .l 18]) 7,
.l 20 (.mv (.g 5)) 8,
.l 21 (.iaa 4 2 (.g 2) (.l 20)) 9,
.l 22 (.fa (.l 21) 1) 10,
.l 23 (.ld none (.l 22)) 11,
.l 24 (.fa (.g 6) 1) 12,
.l 25 (.ld none (.l 24)) 13,
.l 26 (.mx [.l 23, .l 25]) 14,
.l 27 (.mk [.int .i64 0, .int .i64 0] [(0, 1, .l 19), (1, 1, .l 26)]) 15,
.l 28 (.iaa 4 2 (.g 2) (.l 12)) 16,
.n (.st 2 (.l 28) (.l 27)) 17])))
(.reg [
.l 29 (.bin .add (.g 8) (.i 1)),
.g 8 (.mv (.l 29))])))))))
(.seq
(.reg [
.l 30 (.ld (some 8) (.g 2)),
.n (.st 8 (.g 4) (.l 30))])
.ret)))
def K98 : List Nat := [0, 1, 9, 4, 2, 3, 7, 8, 6, 5]
noncomputable def b98 : Code := match Tryz.f98.body with | some c => c | none => .skip
theorem t98 : trCode ⟨Tryz.prog, K98, [], 31, none⟩ b98 = some c98 := by kernel_rfl
theorem go98 {args : List AV} {H : AHeap} {Kk : AV → AHeap → Prop} (hn : args.length = 2) (h : AGo ⟨Tryz.prog, K98, [], 31, none⟩ H.length [.code c98] (RetP [.cell (.g 4) (some 8)] H.length Kk) ⟨[], argsG 0 args⟩ H) : ACalls Tryz.prog 98 args H Kk :=
  ACalls_of Tryz.func98 (c := b98) rfl (by kernel_rfl) t98 (rs := [.cell (.g 4) (some 8)]) (by kernel_rfl) (by rw [hn]; exact Nat.le_of_ble_eq_true rfl) (by rw [hn]; rfl) (h.weaken (fun _ _ => RetP.hands) (by simp))

/-- (sastrugi/frost.day).through -/
def c102 : ACode :=
  (.seq
(.reg [
.g 2 (.box (.g 0)),
.g 4 (.new [.int .i64 0, .int .i64 0])])
(.seq
(.reg [
.l 8 (.fa (.g 2) 0),
.l 9 (.fa (.l 8) 2),
.l 10 (.ld none (.l 9)),
.l 11 (.ia 3 (.l 10) (.i 0)),
.l 12 (.fa (.l 11) 1),
.l 13 (.ld (some 2) (.l 12)),
.g 5 (.new [.int .i64 0, .int .i64 0]),
.n (.st 2 (.g 5) (.l 13))])
(.seq
(.seq
(.reg [
.l 14 (.fa (.g 2) 0),
.l 15 (.fa (.l 14) 2),
.g 16 (.ld none (.l 15)),
.g 17 (.len (.g 16)),
.g 18 (.mv (.i 0))])
(.block 0
(.loop
(.seq
(.reg [
.g 19 (.bin .lss (.g 18) (.g 17))])
(.seq
(.cond (.g 19)
.skip
(.exit 0))
(.seq
(.block 1
(.seq
(.reg [
.l 20 (.ia 3 (.g 16) (.g 18)),
.l 21 (.ld (some 3) (.l 20)),
.g 7 (.new [.int .i64 0, .int .i64 0, .int .i64 0]),
.n (.st 3 (.g 7) (.l 21))])
(.seq
(.reg [
.l 22 (.fa (.g 7) 0),
.l 23 (.ld none (.l 22)),
.l 24 (.mv (.g 1)),
.g 25 (.bin .leq (.l 23) (.l 24))])
(.cond (.g 25)
(.reg [
.l 26 (.fa (.g 7) 1),
.l 27 (.ld (some 2) (.l 26)),
.n (.st 2 (.g 5) (.l 27))])
.skip))))
(.reg [
.l 28 (.bin .add (.g 18) (.i 1)),
.g 18 (.mv (.l 28))])))))))
(.seq
(.reg [
.l 29 (.ld (some 2) (.g 5)),
.n (.st 2 (.g 4) (.l 29))])
.ret))))
def K102 : List Nat := [0, 1, 19, 25, 4, 2, 5, 16, 17, 18, 7]
noncomputable def b102 : Code := match Tryz.f102.body with | some c => c | none => .skip
theorem t102 : trCode ⟨Tryz.prog, K102, [], 30, none⟩ b102 = some c102 := by kernel_rfl
theorem go102 {args : List AV} {H : AHeap} {Kk : AV → AHeap → Prop} (hn : args.length = 2) (h : AGo ⟨Tryz.prog, K102, [], 30, none⟩ H.length [.code c102] (RetP [.cell (.g 4) (some 2)] H.length Kk) ⟨[], argsG 0 args⟩ H) : ACalls Tryz.prog 102 args H Kk :=
  ACalls_of Tryz.func102 (c := b102) rfl (by kernel_rfl) t102 (rs := [.cell (.g 4) (some 2)]) (by kernel_rfl) (by rw [hn]; exact Nat.le_of_ble_eq_true rfl) (by rw [hn]; rfl) (h.weaken (fun _ _ => RetP.hands) (by simp))

/-- (sastrugi/frost.day).grown -/
def c104 : ACode :=
  (.seq
(.reg [
.g 6 (.box (.g 0)),
.g 12 (.mv (.i 0))])
(.seq
(.reg [
.l 15 (.mv (.g 2)),
.l 16 (.mv (.g 3)),
.l 17 (.bin .add (.l 15) (.l 16)),
.g 13 (.mv (.l 17))])
(.seq
(.reg [
.l 18 (.mv (.g 1)),
.l 19 (.mv (.g 13)),
.l 20 (.bin .add (.l 18) (.l 19)),
.g 14 (.mv (.l 20))])
(.seq
(.reg [
.l 21 (.mv (.g 5)),
.l 22 (.mv (.g 14)),
.l 23 (.mv (.g 14)),
.l 24 (.bin .mul (.l 22) (.l 23)),
.l 25 (.fa (.g 6) 0),
.l 26 (.fa (.l 25) 0),
.l 27 (.ld none (.l 26)),
.l 28 (.mv (.g 4)),
.l 29 (.mv (.g 3)),
.l 30 (.fa (.g 6) 0),
.l 31 (.fa (.l 30) 1),
.l 32 (.ld none (.l 31)),
.l 33 (.bin .mul (.l 29) (.l 32)),
.l 34 (.bin .sub (.l 28) (.l 33)),
.l 35 (.bin .mul (.l 27) (.l 34)),
.l 36 (.bin .add (.l 24) (.l 35)),
.l 37 (.call (.l 21) [.l 36]),
.l 38 (.mv (.g 13)),
.l 39 (.bin .sub (.l 37) (.l 38)),
.g 12 (.mv (.l 39))])
.ret))))
def K104 : List Nat := [0, 1, 2, 3, 4, 5, 12, 6, 13, 14]
noncomputable def b104 : Code := match Tryz.f104.body with | some c => c | none => .skip
theorem t104 : trCode ⟨Tryz.prog, K104, [], 40, none⟩ b104 = some c104 := by kernel_rfl
theorem go104 {args : List AV} {H : AHeap} {Kk : AV → AHeap → Prop} (hn : args.length = 6) (h : AGo ⟨Tryz.prog, K104, [], 40, none⟩ H.length [.code c104] (RetP [.t (.g 12)] H.length Kk) ⟨[], argsG 0 args⟩ H) : ACalls Tryz.prog 104 args H Kk :=
  ACalls_of Tryz.func104 (c := b104) rfl (by kernel_rfl) t104 (rs := [.t (.g 12)]) (by kernel_rfl) (by rw [hn]; exact Nat.le_of_ble_eq_true rfl) (by rw [hn]; rfl) (h.weaken (fun _ _ => RetP.hands) (by simp))

/-- sastrugi/frost.rootUp -/
def c105 : ACode :=
  (.seq
(.reg [
.g 2 (.mv (.i 0))])
(.seq
(.reg [
.l 4 (.mv (.g 0)),
.l 5 (.call (.c (.fn 76 [])) [.l 4]),
.g 3 (.mv (.l 5))])
(.seq
(.seq
(.reg [
.l 6 (.mv (.g 3)),
.l 7 (.mv (.g 3)),
.l 8 (.bin .mul (.l 6) (.l 7)),
.l 9 (.mv (.g 0)),
.g 10 (.bin .lss (.l 8) (.l 9))])
(.cond (.g 10)
(.reg [
.l 11 (.mv (.g 3)),
.l 12 (.bin .add (.l 11) (.i 1)),
.g 3 (.mv (.l 12))])
.skip))
(.seq
(.reg [
.l 13 (.mv (.g 3)),
.g 2 (.mv (.l 13))])
.ret))))
def K105 : List Nat := [0, 10, 2, 3]
noncomputable def b105 : Code := match Tryz.f105.body with | some c => c | none => .skip
theorem t105 : trCode ⟨Tryz.prog, K105, [], 14, none⟩ b105 = some c105 := by kernel_rfl
theorem go105 {args : List AV} {H : AHeap} {Kk : AV → AHeap → Prop} (hn : args.length = 1) (h : AGo ⟨Tryz.prog, K105, [], 14, none⟩ H.length [.code c105] (RetP [.t (.g 2)] H.length Kk) ⟨[], argsG 0 args⟩ H) : ACalls Tryz.prog 105 args H Kk :=
  ACalls_of Tryz.func105 (c := b105) rfl (by kernel_rfl) t105 (rs := [.t (.g 2)]) (by kernel_rfl) (by rw [hn]; exact Nat.le_of_ble_eq_true rfl) (by rw [hn]; rfl) (h.weaken (fun _ _ => RetP.hands) (by simp))

end Go.Sas
