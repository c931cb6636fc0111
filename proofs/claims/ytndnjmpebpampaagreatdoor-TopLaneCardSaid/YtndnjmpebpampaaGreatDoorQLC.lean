/-
The code of some functions with its types resolved, printed by a program; that it is the code is checked by the kernel.
Conditions: none.
-/
import Derived.Test.YtndnjmpebpampaaGreatDoorP4
import Derived.Test.YtndnjmpebpampaaGreatDoorProg
set_option linter.unusedVariables false
set_option linter.unusedSimpArgs false
namespace Go.Sas
open Go.Proofs
set_option maxRecDepth 100000
/-- sastrugi/convoy.Off -/
def c34 : ACode :=
  (.seq
(.reg [
.g 1 (.box (.g 0)),
.g 2 (.new [.int .i64 0, .int .i64 0]),
.g 3 (.mv (.i 0))])
(.seq
(.seq
(.reg [
.l 5 (.ld (some 4) (.g 1)),
.l 6 (.call (.c (.fn 25 [])) [.l 5]),
.g 4 (.mv (.l 6))])
(.seq
(.reg [
.l 7 (.mv (.g 4)),
.g 8 (.bin .neq (.l 7) (.i 0))])
(.cond (.g 8)
(.seq
(.reg [
.l 9 (.mk [.int .i64 0, .int .i64 0] []),
.l 10 (.mv (.g 4)),
.n (.st 2 (.g 2) (.l 9)),
.g 3 (.mv (.l 10))])
.ret)
.skip)))
(.seq
(.reg [
.l 11 (.ld (some 4) (.g 1)),
.l 12 (.call (.c (.fn 58 [])) [.l 11]),
.n (.st 2 (.g 2) (.l 12)),
.g 3 (.mv (.i 0))])
.ret)))
def K34 : List Nat := [0, 8, 2, 3, 1, 4]
noncomputable def b34 : Code := match Tryz.f34.body with | some c => c | none => .skip
theorem t34 : trCode ⟨Tryz.prog, K34, [], 13, none⟩ b34 = some c34 := by kernel_rfl
theorem go34 {args : List AV} {H : AHeap} {Kk : AV → AHeap → Prop} (hn : args.length = 1) (h : AGo ⟨Tryz.prog, K34, [], 13, none⟩ H.length [.code c34] (RetP [.cell (.g 2) (some 2), .t (.g 3)] H.length Kk) ⟨[], argsG 0 args⟩ H) : ACalls Tryz.prog 34 args H Kk :=
  ACalls_of Tryz.func34 (c := b34) rfl (by kernel_rfl) t34 (rs := [.cell (.g 2) (some 2), .t (.g 3)]) (by kernel_rfl) (by rw [hn]; exact Nat.le_of_ble_eq_true rfl) (by rw [hn]; rfl) (h.weaken (fun _ _ => RetP.hands) (by simp))
/-- sastrugi/convoy.off -/
def c58 : ACode :=
  (.seq
(.reg [
.g 1 (.box (.g 0)),
.g 2 (.new [.int .i64 0, .int .i64 0])])
(.seq
(.reg [
.g 3 (.new [.int .i64 0, .int .i64 0])])
(.seq
(.reg [
.g 4 (.mv (.c (.lit (.slice none 0 0)))),
.g 5 (.mv (.c (.lit (.slice none 0 0))))])
(.seq
(.seq
(.reg [
.l 13 (.fa (.g 1) 3),
.l 14 (.ld none (.l 13)),
.g 15 (.len (.l 14)),
.g 16 (.mv (.i 0))])
(.block 0
(.loop
(.seq
(.reg [
.g 17 (.bin .lss (.g 16) (.g 15))])
(.seq
(.cond (.g 17)
.skip
(.exit 0))
(.seq
(.block 1
(.seq
(.reg [
.l 18 (.mv (.g 16)),
.g 6 (.mv (.l 18))])
(.seq
(.draw [
.l 19 (.ld (some 4) (.g 1)) 0,
.l 20 (.mv (.g 6)) 1,
.lf 23 (.ld (some 4) (.g 1)) 4,
.lf 24 (.mv (.g 6)) 5,
.g 7 (.new [.int .i64 0, .int .i64 0, .int .i64 0, .int .i64 0, .slice none 0 0, .int .i64 0, .slice none 0 0]) 8,
.g 8 (.new [.int .i64 0, .int .i64 0, .int .i64 0, .int .i64 0, .slice none 0 0, .int .i64 0, .slice none 0 0]) 9,
.lf 21 (.call (.c (.fn 69 [])) [.l 19, .l 20, .b false]) 2,
.lf 22 (.call (.c (.fn 68 [])) [.l 21]) 3,
.lf 25 (.call (.c (.fn 69 [])) [.l 23, .l 24, .b true]) 6,
.lf 26 (.call (.c (.fn 68 [])) [.l 25]) 7,
.nx (.st 7 (.g 7) (.l 22)) 10 false [8, 9],
.nx (.st 7 (.g 8) (.l 26)) 11 true [8, 9]])
(.seq
(.draw [
.l 27 (.mv (.g 4)) 0,
.l 28 (.ld (some 7) (.g 7)) 1,
.l 32 (.mv (.g 5)) 5,
.l 33 (.ld (some 7) (.g 8)) 6,
.lf 29 (.call (.c (.fn 71 [])) [.l 28]) 2,
.l 30 (.mks false 1 [.l 29]) 3,
.lf 31 (.app 1 8 (.l 27) (.l 30)) 4,
.lf 34 (.call (.c (.fn 71 [])) [.l 33]) 7,
.l 35 (.mks false 1 [.l 34]) 8,
.lf 36 (.app 1 8 (.l 32) (.l 35)) 9,
.g 4 (.mv (.l 31)) 10,
.g 5 (.mv (.l 36)) 11])
(.draw [
.l 37 (.fa (.g 3) 1) 0,
.l 38 (.ld none (.l 37)) 1,
.l 39 (.ld (some 7) (.g 7)) 2,
.lf 40 (.call (.c (.fn 52 [])) [.l 39]) 3,
.l 41 (.mx [.l 38, .l 40]) 4,
.l 42 (.fa (.g 3) 1) 5,
.n (.st 1 (.l 42) (.l 41)) 6])))))
(.reg [
.l 43 (.bin .add (.g 16) (.i 1)),
.g 16 (.mv (.l 43))])))))))
(.seq
(.seq
(.reg [
.g 9 (.mv (.i 0))])
(.block 2
(.loop
(.seq
(.seq
(.reg [
.l 44 (.mv (.g 9)),
.l 45 (.fa (.g 1) 2),
.l 46 (.ld none (.l 45)),
.l 47 (.mv (.g 4)),
.l 48 (.len (.l 47)),
.l 49 (.mn [.l 46, .l 48]),
.g 50 (.bin .lss (.l 44) (.l 49))])
(.cond (.g 50)
.skip
(.exit 2)))
(.seq
(.block 3
(.seq
(.reg [
.l 53 (.mv (.g 4)),
.l 54 (.mv (.g 4)),
.l 55 (.call (.c (.fn 73 [])) [.l 54]),
.l 56 (.call (.c (.fn 72 [])) [.l 53, .l 55]),
.g 10 (.mv (.l 56))])
(.seq
(.draw [
.l 57 (.fa (.g 3) 0) 0,
.l 58 (.ld none (.l 57)) 1,
.l 59 (.mv (.g 5)) 2,
.l 60 (.mv (.g 10)) 3,
.l 61 (.ia 1 (.l 59) (.l 60)) 4,
.l 62 (.ld none (.l 61)) 5,
.l 63 (.mx [.l 58, .l 62]) 6,
.l 64 (.fa (.g 3) 0) 7,
.n (.st 1 (.l 64) (.l 63)) 8])
(.reg [
.l 65 (.mv (.g 4)),
.l 66 (.mv (.g 10)),
.l 67 (.ia 1 (.l 65) (.l 66)),
.n (.st 1 (.l 67) (.i (-1)))]))))
(.reg [
.l 51 (.mv (.g 9)),
.l 52 (.bin .add (.l 51) (.i 1)),
.g 9 (.mv (.l 52))]))))))
(.seq
(.seq
(.reg [
.g 68 (.mv (.g 4)),
.g 69 (.len (.g 68)),
.g 70 (.mv (.i 0))])
(.block 4
(.loop
(.seq
(.reg [
.g 71 (.bin .lss (.g 70) (.g 69))])
(.seq
(.cond (.g 71)
.skip
(.exit 4))
(.seq
(.block 5
(.seq
(.reg [
.l 72 (.ia 1 (.g 68) (.g 70)),
.l 73 (.ld none (.l 72)),
.g 12 (.mv (.l 73))])
(.reg [
.l 74 (.fa (.g 3) 0),
.l 75 (.ld none (.l 74)),
.l 76 (.mv (.g 12)),
.l 77 (.mx [.l 75, .l 76]),
.l 78 (.fa (.g 3) 0),
.n (.st 1 (.l 78) (.l 77))])))
(.reg [
.l 79 (.bin .add (.g 70) (.i 1)),
.g 70 (.mv (.l 79))])))))))
(.seq
(.reg [
.l 80 (.ld (some 2) (.g 3)),
.n (.st 2 (.g 2) (.l 80))])
.ret)))))))
def K58 : List Nat := [0, 17, 50, 71, 2, 1, 3, 4, 5, 15, 16, 6, 7, 8, 9, 10, 68, 69, 70, 12]
noncomputable def b58 : Code := match Tryz.f58.body with | some c => c | none => .skip
theorem t58 : trCode ⟨Tryz.prog, K58, [], 81, none⟩ b58 = some c58 := by kernel_rfl
theorem go58 {args : List AV} {H : AHeap} {Kk : AV → AHeap → Prop} (hn : args.length = 1) (h : AGo ⟨Tryz.prog, K58, [], 81, none⟩ H.length [.code c58] (RetP [.cell (.g 2) (some 2)] H.length Kk) ⟨[], argsG 0 args⟩ H) : ACalls Tryz.prog 58 args H Kk :=
  ACalls_of Tryz.func58 (c := b58) rfl (by kernel_rfl) t58 (rs := [.cell (.g 2) (some 2)]) (by kernel_rfl) (by rw [hn]; exact Nat.le_of_ble_eq_true rfl) (by rw [hn]; rfl) (h.weaken (fun _ _ => RetP.hands) (by simp))
/-- (sastrugi/convoy.track).first -/
def c71 : ACode :=
  (.seq
(.reg [
.g 1 (.box (.g 0)),
.g 2 (.mv (.i 0))])
(.seq
(.draw [
.l 3 (.fa (.g 1) 0) 0,
.l 4 (.fa (.l 3) 0) 1,
.l 5 (.fa (.l 4) 1) 2,
.l 6 (.ld none (.l 5)) 3,
.l 7 (.fa (.g 1) 6) 4,
.l 8 (.ld none (.l 7)) 5,
.l 9 (.mkf 82 [.g 1]) 6,
.lf 10 (.call (.c (.fn 81 [])) [.l 8, .l 9]) 7,
.l 11 (.bin .add (.l 6) (.l 10)) 8,
.g 2 (.mv (.l 11)) 9])
.ret))
def K71 : List Nat := [0, 2, 1]
noncomputable def b71 : Code := match Tryz.f71.body with | some c => c | none => .skip
theorem t71 : trCode ⟨Tryz.prog, K71, [], 12, none⟩ b71 = some c71 := by kernel_rfl
theorem go71 {args : List AV} {H : AHeap} {Kk : AV → AHeap → Prop} (hn : args.length = 1) (h : AGo ⟨Tryz.prog, K71, [], 12, none⟩ H.length [.code c71] (RetP [.t (.g 2)] H.length Kk) ⟨[], argsG 0 args⟩ H) : ACalls Tryz.prog 71 args H Kk :=
  ACalls_of Tryz.func71 (c := b71) rfl (by kernel_rfl) t71 (rs := [.t (.g 2)]) (by kernel_rfl) (by rw [hn]; exact Nat.le_of_ble_eq_true rfl) (by rw [hn]; rfl) (h.weaken (fun _ _ => RetP.hands) (by simp))
/-- (sastrugi/convoy.track).first$1 -/
def c82 : ACode :=
  (.seq
(.reg [
.g 2 (.box (.g 0)),
.g 3 (.mv (.b false))])
(.seq
(.reg [
.l 4 (.fa (.g 2) 1),
.l 5 (.ld none (.l 4)),
.l 6 (.fa (.g 1) 0),
.l 7 (.fa (.l 6) 5),
.l 8 (.ld none (.l 7)),
.l 9 (.bin .eql (.l 5) (.l 8)),
.g 3 (.mv (.l 9))])
.ret))
def K82 : List Nat := [0, 1, 3, 2]
noncomputable def b82 : Code := match Tryz.f82.body with | some c => c | none => .skip
theorem t82 : trCode ⟨Tryz.prog, K82, [], 10, none⟩ b82 = some c82 := by kernel_rfl
theorem go82 {args : List AV} {H : AHeap} {Kk : AV → AHeap → Prop} (hn : args.length = 2) (h : AGo ⟨Tryz.prog, K82, [], 10, none⟩ H.length [.code c82] (RetP [.t (.g 3)] H.length Kk) ⟨[], argsG 0 args⟩ H) : ACalls Tryz.prog 82 args H Kk :=
  ACalls_of Tryz.func82 (c := b82) rfl (by kernel_rfl) t82 (rs := [.t (.g 3)]) (by kernel_rfl) (by rw [hn]; exact Nat.le_of_ble_eq_true rfl) (by rw [hn]; rfl) (h.weaken (fun _ _ => RetP.hands) (by simp))
/-- slices.IndexFunc[[]sastrugi/api.Span,sastrugi/api.Span] -/
def c81 : ACode :=
  (.seq
(.reg [
.g 4 (.mv (.i 0))])
(.seq
(.seq
(.reg [
.l 6 (.mv (.g 0)),
.g 7 (.len (.l 6)),
.g 8 (.mv (.i 0))])
(.block 0
(.loop
(.seq
(.reg [
.g 9 (.bin .lss (.g 8) (.g 7))])
(.seq
(.cond (.g 9)
.skip
(.exit 0))
(.seq
(.block 1
(.seq
(.reg [
.l 10 (.mv (.g 8)),
.g 5 (.mv (.l 10))])
(.seq
(.reg [
.l 11 (.mv (.g 1)),
.l 12 (.mv (.g 0)),
.l 13 (.mv (.g 5)),
.l 14 (.ia 2 (.l 12) (.l 13)),
.l 15 (.ld (some 2) (.l 14)),
.g 16 (.call (.l 11) [.l 15])])
(.cond (.g 16)
(.seq
(.reg [
.l 17 (.mv (.g 5)),
.g 4 (.mv (.l 17))])
.ret)
.skip))))
(.reg [
.l 18 (.bin .add (.g 8) (.i 1)),
.g 8 (.mv (.l 18))])))))))
(.seq
(.reg [
.g 4 (.mv (.i (-1)))])
.ret)))
def K81 : List Nat := [0, 1, 9, 16, 4, 7, 8, 5]
noncomputable def b81 : Code := match Tryz.f81.body with | some c => c | none => .skip
theorem t81 : trCode ⟨Tryz.prog, K81, [], 19, none⟩ b81 = some c81 := by kernel_rfl
theorem go81 {args : List AV} {H : AHeap} {Kk : AV → AHeap → Prop} (hn : args.length = 2) (h : AGo ⟨Tryz.prog, K81, [], 19, none⟩ H.length [.code c81] (RetP [.t (.g 4)] H.length Kk) ⟨[], argsG 0 args⟩ H) : ACalls Tryz.prog 81 args H Kk :=
  ACalls_of Tryz.func81 (c := b81) rfl (by kernel_rfl) t81 (rs := [.t (.g 4)]) (by kernel_rfl) (by rw [hn]; exact Nat.le_of_ble_eq_true rfl) (by rw [hn]; rfl) (h.weaken (fun _ _ => RetP.hands) (by simp))
/-- sastrugi/sastrugitop.awake4 -/
def c12 : ACode :=
  (.seq
(.reg [
.g 0 (.mv (.b false))])
(.seq
(.reg [
.l 4 (.mk [.int .i64 0, .int .i64 0] [(0, 1, .i 50), (1, 1, .i 100)]),
.l 5 (.mk [.int .i64 0, .int .i64 0, .int .i64 0, .int .i64 0, .slice none 0 0] [(0, 1, .i 1), (2, 2, .l 4)]),
.l 6 (.mk [.int .i64 0, .int .i64 0] [(0, 1, .i 50), (1, 1, .i 100)]),
.l 7 (.mk [.int .i64 0, .int .i64 0, .int .i64 0, .int .i64 0, .slice none 0 0] [(0, 1, .i 2), (2, 2, .l 6)]),
.l 8 (.mks false 5 [.l 5, .l 7]),
.l 9 (.mk [.int .i64 0, .int .i64 0, .int .i64 0, .slice none 0 0] [(0, 1, .i 1000), (1, 1, .i 200), (3, 1, .l 8)]),
.g 1 (.new [.int .i64 0, .int .i64 0, .int .i64 0, .slice none 0 0]),
.n (.st 4 (.g 1) (.l 9))])
(.seq
(.reg [
.l 11 (.ld (some 4) (.g 1)),
.l 12 (.call (.c (.fn 34 [])) [.l 11]),
.l 10 (.mv (.l 12)),
.l 13 (.ex (.l 10) 0),
.l 14 (.ex (.l 10) 1),
.g 2 (.new [.int .i64 0, .int .i64 0]),
.n (.st 2 (.g 2) (.l 13)),
.g 3 (.mv (.l 14))])
(.seq
(.reg [
.l 15 (.mv (.g 3)),
.l 16 (.bin .eql (.l 15) (.i 0)),
.l 17 (.mv (.l 16)),
.lw 18 (.ld (some 2) (.g 2)) (.l 17) true,
.lw 19 (.mk [.int .i64 0, .int .i64 0] [(0, 1, .i 10), (1, 1, .i 20)]) (.l 17) true,
.lw 20 (.eqs false (.fld 0 none .i (.fld 1 none .i .nil)) (.l 18) (.l 19)) (.l 17) true,
.l 21 (.pick (.l 17) (.l 20) (.b false)),
.l 22 (.mv (.l 21)),
.lw 23 (.call (.c (.fn 35 [])) []) (.l 22) true,
.l 24 (.pick (.l 22) (.l 23) (.b false)),
.g 0 (.mv (.l 24))])
.ret))))
def K12 : List Nat := [0, 1, 2, 3]
noncomputable def b12 : Code := match Tryz.f12.body with | some c => c | none => .skip
theorem t12 : trCode ⟨Tryz.prog, K12, [], 25, none⟩ b12 = some c12 := by kernel_rfl
theorem go12 {args : List AV} {H : AHeap} {Kk : AV → AHeap → Prop} (hn : args.length = 0) (h : AGo ⟨Tryz.prog, K12, [], 25, none⟩ H.length [.code c12] (RetP [.t (.g 0)] H.length Kk) ⟨[], argsG 0 args⟩ H) : ACalls Tryz.prog 12 args H Kk :=
  ACalls_of Tryz.func12 (c := b12) rfl (by kernel_rfl) t12 (rs := [.t (.g 0)]) (by kernel_rfl) (by rw [hn]; exact Nat.le_of_ble_eq_true rfl) (by rw [hn]; rfl) (h.weaken (fun _ _ => RetP.hands) (by simp))
end Go.Sas
