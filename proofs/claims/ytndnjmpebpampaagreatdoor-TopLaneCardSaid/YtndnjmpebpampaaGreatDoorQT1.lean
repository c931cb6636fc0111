/-
The code of some functions with its types resolved, printed by a program; that it is the code is checked by the kernel.
Conditions: none.
-/
import Derived.Test.YtndnjmpebpampaaGreatDoorP4
import Derived.Test.YtndnjmpebpampaaGreatDoorP4
import Derived.Test.YtndnjmpebpampaaGreatDoorProg
set_option linter.unusedVariables false
set_option linter.unusedSimpArgs false
namespace Go.Sas
open Go.Proofs
set_option maxRecDepth 100000
/-- (*sastrugi/sastrugikit.Seed).next -/
def c18 : ACode :=
  (.seq
(.reg [
.g 2 (.mv (.c (.lit (.int .u64 0))))])
(.seq
(.reg [
.l 4 (.mv (.g 0)),
.l 5 (.mv (.g 0)),
.l 6 (.nilc (.l 5)),
.l 7 (.fa (.l 6) 0),
.l 8 (.ld none (.l 7)),
.l 9 (.bin .add (.l 8) (.c (.lit (.int .u64 11400714819323198485)))),
.l 10 (.nilc (.l 4)),
.l 11 (.fa (.l 10) 0),
.n (.st 1 (.l 11) (.l 9))])
(.seq
(.reg [
.l 12 (.mv (.g 0)),
.l 13 (.nilc (.l 12)),
.l 14 (.fa (.l 13) 0),
.l 15 (.ld none (.l 14)),
.g 3 (.mv (.l 15))])
(.seq
(.reg [
.l 16 (.mv (.g 3)),
.l 17 (.mv (.g 3)),
.l 18 (.bin .shr (.l 17) (.c (.lit (.int .u64 30)))),
.l 19 (.bin .xor (.l 16) (.l 18)),
.l 20 (.bin .mul (.l 19) (.c (.lit (.int .u64 13787848793156543929)))),
.g 3 (.mv (.l 20))])
(.seq
(.reg [
.l 21 (.mv (.g 3)),
.l 22 (.mv (.g 3)),
.l 23 (.bin .shr (.l 22) (.c (.lit (.int .u64 27)))),
.l 24 (.bin .xor (.l 21) (.l 23)),
.l 25 (.bin .mul (.l 24) (.c (.lit (.int .u64 10723151780598845931)))),
.g 3 (.mv (.l 25))])
(.seq
(.reg [
.l 26 (.mv (.g 3)),
.l 27 (.mv (.g 3)),
.l 28 (.bin .shr (.l 27) (.c (.lit (.int .u64 31)))),
.l 29 (.bin .xor (.l 26) (.l 28)),
.g 2 (.mv (.l 29))])
.ret))))))
def K18 : List Nat := [0, 2, 3]
noncomputable def b18 : Code := match Tryz.f18.body with | some c => c | none => .skip
theorem t18 : trCode ⟨Tryz.prog, K18, [], 30, none⟩ b18 = some c18 := by kernel_rfl
theorem go18 {args : List AV} {H : AHeap} {Kk : AV → AHeap → Prop} (hn : args.length = 1) (h : AGo ⟨Tryz.prog, K18, [], 30, none⟩ H.length [.code c18] (RetP [.t (.g 2)] H.length Kk) ⟨[], argsG 0 args⟩ H) : ACalls Tryz.prog 18 args H Kk :=
  ACalls_of Tryz.func18 (c := b18) rfl (by kernel_rfl) t18 (rs := [.t (.g 2)]) (by kernel_rfl) (by rw [hn]; exact Nat.le_of_ble_eq_true rfl) (by rw [hn]; rfl) (h.weaken (fun _ _ => RetP.hands) (by simp))

/-- (*sastrugi/sastrugikit.Seed).Below -/
def c8 : ACode :=
  (.seq
(.reg [
.g 4 (.mv (.i 0))])
(.seq
(.seq
(.reg [
.l 5 (.mv (.g 1)),
.g 6 (.bin .lss (.l 5) (.i 2))])
(.cond (.g 6)
(.seq
(.reg [
.g 4 (.mv (.i 0))])
.ret)
.skip))
(.seq
(.reg [
.l 7 (.mv (.g 0)),
.l 8 (.call (.c (.fn 18 [])) [.l 7]),
.l 9 (.bin .shr (.l 8) (.c (.lit (.int .u64 1)))),
.l 10 (.mv (.g 1)),
.l 11 (.cv .u64 (.l 10)),
.l 12 (.bin .rem (.l 9) (.l 11)),
.l 13 (.cv .i64 (.l 12)),
.g 4 (.mv (.l 13))])
.ret)))
def K8 : List Nat := [0, 1, 6, 4]
noncomputable def b8 : Code := match Tryz.f8.body with | some c => c | none => .skip
theorem t8 : trCode ⟨Tryz.prog, K8, [], 14, none⟩ b8 = some c8 := by kernel_rfl
theorem go8 {args : List AV} {H : AHeap} {Kk : AV → AHeap → Prop} (hn : args.length = 2) (h : AGo ⟨Tryz.prog, K8, [], 14, none⟩ H.length [.code c8] (RetP [.t (.g 4)] H.length Kk) ⟨[], argsG 0 args⟩ H) : ACalls Tryz.prog 8 args H Kk :=
  ACalls_of Tryz.func8 (c := b8) rfl (by kernel_rfl) t8 (rs := [.t (.g 4)]) (by kernel_rfl) (by rw [hn]; exact Nat.le_of_ble_eq_true rfl) (by rw [hn]; rfl) (h.weaken (fun _ _ => RetP.hands) (by simp))

/-- (*sastrugi/sastrugikit.Seed).From -/
def c7 : ACode :=
  (.seq
(.reg [
.g 6 (.mv (.i 0))])
(.seq
(.reg [
.l 7 (.mv (.g 1)),
.l 8 (.mv (.g 0)),
.l 9 (.mv (.g 2)),
.l 10 (.mv (.g 1)),
.l 11 (.bin .sub (.l 9) (.l 10)),
.l 12 (.bin .add (.l 11) (.i 1)),
.l 13 (.call (.c (.fn 8 [])) [.l 8, .l 12]),
.l 14 (.bin .add (.l 7) (.l 13)),
.g 6 (.mv (.l 14))])
.ret))
def K7 : List Nat := [0, 1, 2, 6]
noncomputable def b7 : Code := match Tryz.f7.body with | some c => c | none => .skip
theorem t7 : trCode ⟨Tryz.prog, K7, [], 15, none⟩ b7 = some c7 := by kernel_rfl
theorem go7 {args : List AV} {H : AHeap} {Kk : AV → AHeap → Prop} (hn : args.length = 3) (h : AGo ⟨Tryz.prog, K7, [], 15, none⟩ H.length [.code c7] (RetP [.t (.g 6)] H.length Kk) ⟨[], argsG 0 args⟩ H) : ACalls Tryz.prog 7 args H Kk :=
  ACalls_of Tryz.func7 (c := b7) rfl (by kernel_rfl) t7 (rs := [.t (.g 6)]) (by kernel_rfl) (by rw [hn]; exact Nat.le_of_ble_eq_true rfl) (by rw [hn]; rfl) (h.weaken (fun _ _ => RetP.hands) (by simp))

/-- (*sastrugi/sastrugikit.Seed).Of -/
def c23 : ACode :=
  (.seq
(.reg [
.g 4 (.mv (.i 0))])
(.seq
(.seq
(.reg [
.l 5 (.mv (.g 1)),
.l 6 (.len (.l 5)),
.g 7 (.bin .eql (.l 6) (.i 0))])
(.cond (.g 7)
(.seq
(.reg [
.g 4 (.mv (.i 0))])
.ret)
.skip))
(.seq
(.reg [
.l 8 (.mv (.g 1)),
.l 9 (.mv (.g 0)),
.l 10 (.mv (.g 1)),
.l 11 (.len (.l 10)),
.l 12 (.call (.c (.fn 8 [])) [.l 9, .l 11]),
.l 13 (.ia 1 (.l 8) (.l 12)),
.l 14 (.ld none (.l 13)),
.g 4 (.mv (.l 14))])
.ret)))
def K23 : List Nat := [0, 1, 7, 4]
noncomputable def b23 : Code := match Tryz.f23.body with | some c => c | none => .skip
theorem t23 : trCode ⟨Tryz.prog, K23, [], 15, none⟩ b23 = some c23 := by kernel_rfl
theorem go23 {args : List AV} {H : AHeap} {Kk : AV → AHeap → Prop} (hn : args.length = 2) (h : AGo ⟨Tryz.prog, K23, [], 15, none⟩ H.length [.code c23] (RetP [.t (.g 4)] H.length Kk) ⟨[], argsG 0 args⟩ H) : ACalls Tryz.prog 23 args H Kk :=
  ACalls_of Tryz.func23 (c := b23) rfl (by kernel_rfl) t23 (rs := [.t (.g 4)]) (by kernel_rfl) (by rw [hn]; exact Nat.le_of_ble_eq_true rfl) (by rw [hn]; rfl) (h.weaken (fun _ _ => RetP.hands) (by simp))

/-- (*sastrugi/sastrugikit.Seed).Yes -/
def c20 : ACode :=
  (.seq
(.reg [
.g 4 (.mv (.b false))])
(.seq
(.reg [
.l 5 (.mv (.g 0)),
.l 6 (.mv (.g 1)),
.l 7 (.call (.c (.fn 8 [])) [.l 5, .l 6]),
.l 8 (.bin .eql (.l 7) (.i 0)),
.g 4 (.mv (.l 8))])
.ret))
def K20 : List Nat := [0, 1, 4]
noncomputable def b20 : Code := match Tryz.f20.body with | some c => c | none => .skip
theorem t20 : trCode ⟨Tryz.prog, K20, [], 9, none⟩ b20 = some c20 := by kernel_rfl
theorem go20 {args : List AV} {H : AHeap} {Kk : AV → AHeap → Prop} (hn : args.length = 2) (h : AGo ⟨Tryz.prog, K20, [], 9, none⟩ H.length [.code c20] (RetP [.t (.g 4)] H.length Kk) ⟨[], argsG 0 args⟩ H) : ACalls Tryz.prog 20 args H Kk :=
  ACalls_of Tryz.func20 (c := b20) rfl (by kernel_rfl) t20 (rs := [.t (.g 4)]) (by kernel_rfl) (by rw [hn]; exact Nat.le_of_ble_eq_true rfl) (by rw [hn]; rfl) (h.weaken (fun _ _ => RetP.hands) (by simp))

/-- (*sastrugi/sastrugikit.Seed).Span -/
def c22 : ACode :=
  (.seq
(.reg [
.g 6 (.new [.int .i64 0, .int .i64 0])])
(.seq
(.reg [
.l 8 (.mv (.g 0)),
.l 9 (.mv (.g 1)),
.l 10 (.mv (.g 2)),
.l 11 (.call (.c (.fn 7 [])) [.l 8, .l 9, .l 10]),
.l 12 (.mk [.int .i64 0, .int .i64 0] [(0, 1, .l 11)]),
.g 7 (.new [.int .i64 0, .int .i64 0]),
.n (.st 2 (.g 7) (.l 12))])
(.seq
(.reg [
.l 13 (.fa (.g 7) 0),
.l 14 (.ld none (.l 13)),
.l 15 (.fa (.g 7) 1),
.n (.st 1 (.l 15) (.l 14))])
(.seq
(.seq
(.reg [
.l 16 (.mv (.g 0)),
.g 17 (.call (.c (.fn 8 [])) [.l 16, .i 3])])
(.block 0
(.seq
(.reg [
.l 19 (.bin .eql (.g 17) (.i 0)),
.g 18 (.mv (.l 19))])
(.cond (.g 18)
(.reg [
.l 20 (.mv (.g 0)),
.l 21 (.fa (.g 7) 0),
.l 22 (.ld none (.l 21)),
.l 23 (.mv (.g 2)),
.l 24 (.fa (.g 7) 0),
.l 25 (.ld none (.l 24)),
.l 26 (.bin .add (.l 25) (.i 1)),
.l 27 (.mv (.g 2)),
.l 28 (.mv (.g 1)),
.l 29 (.bin .sub (.l 27) (.l 28)),
.l 30 (.bin .quo (.l 29) (.i 10)),
.l 31 (.bin .add (.l 26) (.l 30)),
.l 32 (.mn [.l 23, .l 31]),
.l 33 (.call (.c (.fn 7 [])) [.l 20, .l 22, .l 32]),
.l 34 (.fa (.g 7) 1),
.n (.st 1 (.l 34) (.l 33))])
(.seq
(.reg [
.l 36 (.bin .eql (.g 17) (.i 1)),
.g 35 (.mv (.l 36))])
(.cond (.g 35)
(.reg [
.l 37 (.mv (.g 0)),
.l 38 (.fa (.g 7) 0),
.l 39 (.ld none (.l 38)),
.l 40 (.mv (.g 2)),
.l 41 (.call (.c (.fn 7 [])) [.l 37, .l 39, .l 40]),
.l 42 (.fa (.g 7) 1),
.n (.st 1 (.l 42) (.l 41))])
.skip))))))
(.seq
(.reg [
.l 43 (.ld (some 2) (.g 7)),
.n (.st 2 (.g 6) (.l 43))])
.ret)))))
def K22 : List Nat := [0, 1, 2, 18, 35, 6, 7, 17]
noncomputable def b22 : Code := match Tryz.f22.body with | some c => c | none => .skip
theorem t22 : trCode ⟨Tryz.prog, K22, [], 44, none⟩ b22 = some c22 := by kernel_rfl
theorem go22 {args : List AV} {H : AHeap} {Kk : AV → AHeap → Prop} (hn : args.length = 3) (h : AGo ⟨Tryz.prog, K22, [], 44, none⟩ H.length [.code c22] (RetP [.cell (.g 6) (some 2)] H.length Kk) ⟨[], argsG 0 args⟩ H) : ACalls Tryz.prog 22 args H Kk :=
  ACalls_of Tryz.func22 (c := b22) rfl (by kernel_rfl) t22 (rs := [.cell (.g 6) (some 2)]) (by kernel_rfl) (by rw [hn]; exact Nat.le_of_ble_eq_true rfl) (by rw [hn]; rfl) (h.weaken (fun _ _ => RetP.hands) (by simp))

/-- sastrugi/sastrugikit.TableOf -/
def c24 : ACode :=
  (.seq
(.reg [
.g 4 (.mv (.c (.lit (.slice none 0 0))))])
(.seq
(.reg [
.l 9 (.mk [.int .i64 0, .int .i64 0] [(1, 1, .i 1000000)]),
.l 10 (.mks true 2 [.l 9]),
.g 5 (.mv (.l 10))])
(.seq
(.reg [
.g 6 (.mv (.i 0)),
.g 7 (.mv (.i 1000000))])
(.seq
(.seq
(.reg [
.l 11 (.mv (.g 0)),
.l 12 (.call (.c (.fn 8 [])) [.l 11, .i 5]),
.g 8 (.mv (.l 12))])
(.block 0
(.loop
(.seq
(.seq
(.reg [
.l 13 (.mv (.g 8)),
.g 14 (.bin .gtr (.l 13) (.i 0))])
(.cond (.g 14)
.skip
(.exit 0)))
(.seq
(.block 1
(.seq
(.reg [
.l 17 (.mv (.g 6)),
.l 18 (.mv (.g 0)),
.l 19 (.mv (.g 1)),
.l 20 (.bin .quo (.l 19) (.i 4)),
.l 21 (.call (.c (.fn 7 [])) [.l 18, .i 1, .l 20]),
.l 22 (.bin .add (.l 17) (.l 21)),
.l 23 (.mv (.g 0)),
.l 24 (.mv (.g 7)),
.l 25 (.mv (.g 0)),
.l 26 (.mv (.g 7)),
.l 27 (.call (.c (.fn 7 [])) [.l 25, .i 0, .l 26]),
.l 28 (.mv (.g 0)),
.l 29 (.mv (.g 7)),
.l 30 (.call (.c (.fn 7 [])) [.l 28, .i 0, .l 29]),
.l 31 (.mks false 1 [.i 0, .l 24, .l 27, .l 30]),
.l 32 (.call (.c (.fn 23 [])) [.l 23, .l 31]),
.g 6 (.mv (.l 22)),
.g 7 (.mv (.l 32))])
(.reg [
.l 33 (.mv (.g 5)),
.l 34 (.mv (.g 6)),
.l 35 (.mv (.g 7)),
.l 36 (.mk [.int .i64 0, .int .i64 0] [(0, 1, .l 34), (1, 1, .l 35)]),
.l 37 (.mks false 2 [.l 36]),
.l 38 (.app 2 16 (.l 33) (.l 37)),
.g 5 (.mv (.l 38))])))
(.reg [
.l 15 (.mv (.g 8)),
.l 16 (.bin .sub (.l 15) (.i 1)),
.g 8 (.mv (.l 16))]))))))
(.seq
(.reg [
.l 39 (.mv (.g 5)),
.g 4 (.mv (.l 39))])
.ret)))))
def K24 : List Nat := [0, 1, 14, 4, 5, 6, 7, 8]
noncomputable def b24 : Code := match Tryz.f24.body with | some c => c | none => .skip
theorem t24 : trCode ⟨Tryz.prog, K24, [10], 40, none⟩ b24 = some c24 := by kernel_rfl
theorem go24 {args : List AV} {H : AHeap} {Kk : AV → AHeap → Prop} (hn : args.length = 2) (h : AGo ⟨Tryz.prog, K24, [10], 40, none⟩ H.length [.code c24] (RetP [.t (.g 4)] H.length Kk) ⟨[], argsG 0 args⟩ H) : ACalls Tryz.prog 24 args H Kk :=
  ACalls_of Tryz.func24 (c := b24) rfl (by kernel_rfl) t24 (rs := [.t (.g 4)]) (by kernel_rfl) (by rw [hn]; exact Nat.le_of_ble_eq_true rfl) (by rw [hn]; rfl) (h.weaken (fun _ _ => RetP.hands) (by simp))

/-- sastrugi/sastrugikit.PlateOf -/
def c6 : ACode :=
  (.seq
(.reg [
.g 2 (.new [.int .i64 0, .int .i64 0, .slice none 0 0, .slice none 0 0, .int .i64 0, .int .i64 0, .int .i64 0, .int .i64 0, .int .i64 0, .int .i64 0, .int .i64 0])])
(.seq
(.reg [
.l 4 (.mv (.g 0)),
.l 5 (.mv (.g 0)),
.l 6 (.mks false 1 [.i 1, .i 30000]),
.l 7 (.call (.c (.fn 23 [])) [.l 5, .l 6]),
.l 8 (.mv (.g 0)),
.l 9 (.mks false 1 [.i 60000, .i 100000]),
.l 10 (.call (.c (.fn 23 [])) [.l 8, .l 9]),
.l 11 (.call (.c (.fn 22 [])) [.l 4, .l 7, .l 10]),
.l 12 (.mv (.g 0)),
.l 13 (.call (.c (.fn 24 [])) [.l 12, .i 200]),
.l 14 (.mv (.g 0)),
.l 15 (.call (.c (.fn 24 [])) [.l 14, .i 2000]),
.l 16 (.mv (.g 0)),
.l 17 (.mks false 1 [.i 0, .i 5, .i 40]),
.l 18 (.call (.c (.fn 23 [])) [.l 16, .l 17]),
.l 19 (.mv (.g 0)),
.l 20 (.call (.c (.fn 7 [])) [.l 19, .i 0, .i 1000000]),
.l 21 (.mv (.g 0)),
.l 22 (.mv (.g 0)),
.l 23 (.call (.c (.fn 7 [])) [.l 22, .i 1, .i 1000]),
.l 24 (.mks false 1 [.i 98, .i 1, .l 23]),
.l 25 (.call (.c (.fn 23 [])) [.l 21, .l 24]),
.l 26 (.mv (.g 0)),
.l 27 (.call (.c (.fn 7 [])) [.l 26, .i 1, .i 1000000]),
.l 28 (.mv (.g 0)),
.l 29 (.call (.c (.fn 8 [])) [.l 28, .i 400]),
.l 30 (.mv (.g 0)),
.l 31 (.mv (.g 0)),
.l 32 (.call (.c (.fn 7 [])) [.l 31, .i 0, .i 1000000]),
.l 33 (.mks false 1 [.i 0, .l 32, .i 1000000]),
.l 34 (.call (.c (.fn 23 [])) [.l 30, .l 33]),
.l 35 (.mk [.int .i64 0, .int .i64 0, .slice none 0 0, .slice none 0 0, .int .i64 0, .int .i64 0, .int .i64 0, .int .i64 0, .int .i64 0, .int .i64 0, .int .i64 0] [(0, 2, .l 11), (2, 1, .l 13), (3, 1, .l 15), (4, 1, .l 18), (5, 1, .l 20), (6, 1, .l 25), (7, 1, .l 27), (9, 1, .l 29), (10, 1, .l 34)]),
.g 3 (.new [.int .i64 0, .int .i64 0, .slice none 0 0, .slice none 0 0, .int .i64 0, .int .i64 0, .int .i64 0, .int .i64 0, .int .i64 0, .int .i64 0, .int .i64 0]),
.n (.st 11 (.g 3) (.l 35))])
(.seq
(.draw [
.l 36 (.mv (.g 0)) 0,
.l 37 (.fa (.g 3) 7) 1,
.l 38 (.ld none (.l 37)) 2,
.l 39 (.mv (.g 0)) 3,
.l 40 (.fa (.g 3) 7) 4,
.l 41 (.ld none (.l 40)) 5,
.lf 42 (.call (.c (.fn 7 [])) [.l 39, .l 41, .i 2000000]) 6,
.l 43 (.mks false 1 [.l 38, .l 42]) 7,
.lf 44 (.call (.c (.fn 23 [])) [.l 36, .l 43]) 8,
.l 45 (.fa (.g 3) 8) 9,
.n (.st 1 (.l 45) (.l 44)) 10])
(.seq
(.reg [
.l 46 (.ld (some 11) (.g 3)),
.n (.st 11 (.g 2) (.l 46))])
.ret))))
def K6 : List Nat := [0, 2, 3]
noncomputable def b6 : Code := match Tryz.f6.body with | some c => c | none => .skip
theorem t6 : trCode ⟨Tryz.prog, K6, [], 47, none⟩ b6 = some c6 := by kernel_rfl
theorem go6 {args : List AV} {H : AHeap} {Kk : AV → AHeap → Prop} (hn : args.length = 1) (h : AGo ⟨Tryz.prog, K6, [], 47, none⟩ H.length [.code c6] (RetP [.cell (.g 2) (some 11)] H.length Kk) ⟨[], argsG 0 args⟩ H) : ACalls Tryz.prog 6 args H Kk :=
  ACalls_of Tryz.func6 (c := b6) rfl (by kernel_rfl) t6 (rs := [.cell (.g 2) (some 11)]) (by kernel_rfl) (by rw [hn]; exact Nat.le_of_ble_eq_true rfl) (by rw [hn]; rfl) (h.weaken (fun _ _ => RetP.hands) (by simp))

/-- sastrugi/sastrugikit.NewSeed -/
def c4 : ACode :=
  (.seq
(.reg [
.g 2 (.mv (.c (.lit (.pointer none))))])
(.seq
(.reg [
.l 5 (.mk [.int .u64 0] [(0, 1, .c (.lit (.int .u64 1)))]),
.l 6 (.box (.l 5)),
.g 3 (.mv (.l 6))])
(.seq
(.seq
(.reg [
.g 4 (.mv (.i 0))])
(.block 0
(.loop
(.seq
(.seq
(.reg [
.l 7 (.mv (.g 4)),
.l 8 (.mv (.g 0)),
.l 9 (.len (.l 8)),
.g 10 (.bin .lss (.l 7) (.l 9))])
(.cond (.g 10)
.skip
(.exit 0)))
(.seq
(.block 1
(.seq
(.draw [
.l 13 (.mv (.g 3)) 0,
.l 14 (.mv (.g 3)) 1,
.l 15 (.nilc (.l 14)) 2,
.l 16 (.fa (.l 15) 0) 3,
.l 17 (.ld none (.l 16)) 4,
.l 18 (.bin .mul (.l 17) (.c (.lit (.int .u64 6364136223846793005)))) 5,
.l 19 (.mv (.g 0)) 6,
.l 20 (.mv (.g 4)) 7,
.l 21 (.ia 1 (.l 19) (.l 20)) 8,
.l 22 (.ld none (.l 21)) 9,
.l 23 (.cv .u64 (.l 22)) 10,
.l 24 (.bin .add (.l 18) (.l 23)) 11,
.l 25 (.bin .add (.l 24) (.c (.lit (.int .u64 1442695040888963407)))) 12,
.l 26 (.nilc (.l 13)) 13,
.l 27 (.fa (.l 26) 0) 14,
.n (.st 1 (.l 27) (.l 25)) 15])
(.reg [
.l 28 (.mv (.g 3)),
.l 29 (.call (.c (.fn 18 [])) [.l 28])])))
(.reg [
.l 11 (.mv (.g 4)),
.l 12 (.bin .add (.l 11) (.i 1)),
.g 4 (.mv (.l 12))]))))))
(.seq
(.reg [
.l 30 (.mv (.g 3)),
.g 2 (.mv (.l 30))])
.ret))))
def K4 : List Nat := [0, 10, 2, 3, 4]
noncomputable def b4 : Code := match Tryz.f4.body with | some c => c | none => .skip
theorem t4 : trCode ⟨Tryz.prog, K4, [], 31, none⟩ b4 = some c4 := by kernel_rfl
theorem go4 {args : List AV} {H : AHeap} {Kk : AV → AHeap → Prop} (hn : args.length = 1) (h : AGo ⟨Tryz.prog, K4, [], 31, none⟩ H.length [.code c4] (RetP [.t (.g 2)] H.length Kk) ⟨[], argsG 0 args⟩ H) : ACalls Tryz.prog 4 args H Kk :=
  ACalls_of Tryz.func4 (c := b4) rfl (by kernel_rfl) t4 (rs := [.t (.g 2)]) (by kernel_rfl) (by rw [hn]; exact Nat.le_of_ble_eq_true rfl) (by rw [hn]; rfl) (h.weaken (fun _ _ => RetP.hands) (by simp))

/-- sastrugi/bear.fault -/
def c53 : ACode :=
  (.seq
(.reg [
.g 3 (.box (.g 0)),
.g 6 (.mv (.i 0))])
(.seq
(.block 0
(.seq
(.reg [
.l 8 (.fa (.g 3) 0),
.l 9 (.ld none (.l 8)),
.l 10 (.mv (.g 1)),
.l 11 (.bin .lss (.l 9) (.l 10)),
.l 12 (.mv (.l 11)),
.lw 13 (.fa (.g 3) 0) (.l 12) false,
.lw 14 (.ld none (.l 13)) (.l 12) false,
.lw 15 (.mv (.g 2)) (.l 12) false,
.lw 16 (.bin .gtr (.l 14) (.l 15)) (.l 12) false,
.l 17 (.pick (.l 12) (.b true) (.l 16)),
.l 18 (.mv (.l 17)),
.lw 19 (.fa (.g 3) 1) (.l 18) false,
.lw 20 (.ld none (.l 19)) (.l 18) false,
.lw 21 (.mv (.g 1)) (.l 18) false,
.lw 22 (.bin .lss (.l 20) (.l 21)) (.l 18) false,
.l 23 (.pick (.l 18) (.b true) (.l 22)),
.l 24 (.mv (.l 23)),
.lw 25 (.fa (.g 3) 1) (.l 24) false,
.lw 26 (.ld none (.l 25)) (.l 24) false,
.lw 27 (.mv (.g 2)) (.l 24) false,
.lw 28 (.bin .gtr (.l 26) (.l 27)) (.l 24) false,
.l 29 (.pick (.l 24) (.b true) (.l 28)),
.g 7 (.mv (.l 29))])
(.cond (.g 7)
(.seq
(.reg [
.g 6 (.mv (.i 2))])
.ret)
(.seq
(.reg [
.l 31 (.fa (.g 3) 0),
.l 32 (.ld none (.l 31)),
.l 33 (.fa (.g 3) 1),
.l 34 (.ld none (.l 33)),
.l 35 (.bin .gtr (.l 32) (.l 34)),
.g 30 (.mv (.l 35))])
(.cond (.g 30)
(.seq
(.reg [
.g 6 (.mv (.i 11))])
.ret)
.skip)))))
(.seq
(.reg [
.g 6 (.mv (.i 0))])
.ret)))
def K53 : List Nat := [0, 1, 2, 7, 30, 6, 3]
noncomputable def b53 : Code := match Tryz.f53.body with | some c => c | none => .skip
theorem t53 : trCode ⟨Tryz.prog, K53, [], 36, none⟩ b53 = some c53 := by kernel_rfl
theorem go53 {args : List AV} {H : AHeap} {Kk : AV → AHeap → Prop} (hn : args.length = 3) (h : AGo ⟨Tryz.prog, K53, [], 36, none⟩ H.length [.code c53] (RetP [.t (.g 6)] H.length Kk) ⟨[], argsG 0 args⟩ H) : ACalls Tryz.prog 53 args H Kk :=
  ACalls_of Tryz.func53 (c := b53) rfl (by kernel_rfl) t53 (rs := [.t (.g 6)]) (by kernel_rfl) (by rw [hn]; exact Nat.le_of_ble_eq_true rfl) (by rw [hn]; rfl) (h.weaken (fun _ _ => RetP.hands) (by simp))

/-- sastrugi/bear.within -/
def c28 : ACode :=
  (.seq
(.reg [
.g 6 (.mv (.b false))])
(.seq
(.reg [
.l 7 (.mv (.g 1)),
.l 8 (.mv (.g 0)),
.l 9 (.bin .leq (.l 7) (.l 8)),
.l 10 (.mv (.l 9)),
.lw 11 (.mv (.g 0)) (.l 10) true,
.lw 12 (.mv (.g 2)) (.l 10) true,
.lw 13 (.bin .leq (.l 11) (.l 12)) (.l 10) true,
.l 14 (.pick (.l 10) (.l 13) (.b false)),
.g 6 (.mv (.l 14))])
.ret))
def K28 : List Nat := [0, 1, 2, 6]
noncomputable def b28 : Code := match Tryz.f28.body with | some c => c | none => .skip
theorem t28 : trCode ⟨Tryz.prog, K28, [], 15, none⟩ b28 = some c28 := by kernel_rfl
theorem go28 {args : List AV} {H : AHeap} {Kk : AV → AHeap → Prop} (hn : args.length = 3) (h : AGo ⟨Tryz.prog, K28, [], 15, none⟩ H.length [.code c28] (RetP [.t (.g 6)] H.length Kk) ⟨[], argsG 0 args⟩ H) : ACalls Tryz.prog 28 args H Kk :=
  ACalls_of Tryz.func28 (c := b28) rfl (by kernel_rfl) t28 (rs := [.t (.g 6)]) (by kernel_rfl) (by rw [hn]; exact Nat.le_of_ble_eq_true rfl) (by rw [hn]; rfl) (h.weaken (fun _ _ => RetP.hands) (by simp))

/-- sastrugi/bear.table -/
def c54 : ACode :=
  (.seq
(.reg [
.g 2 (.mv (.i 0))])
(.seq
(.block 0
(.seq
(.reg [
.l 6 (.mv (.g 0)),
.l 7 (.len (.l 6)),
.l 8 (.bin .eql (.l 7) (.i 0)),
.g 5 (.mv (.l 8))])
(.cond (.g 5)
(.seq
(.reg [
.g 2 (.mv (.i 6))])
.ret)
(.seq
(.reg [
.l 10 (.mv (.g 0)),
.l 11 (.len (.l 10)),
.l 12 (.bin .gtr (.l 11) (.i 20)),
.g 9 (.mv (.l 12))])
(.cond (.g 9)
(.seq
(.reg [
.g 2 (.mv (.i 8))])
.ret)
.skip)))))
(.seq
(.seq
(.reg [
.g 13 (.mv (.g 0)),
.g 14 (.len (.g 13)),
.g 15 (.mv (.i 0))])
(.block 1
(.loop
(.seq
(.reg [
.g 16 (.bin .lss (.g 15) (.g 14))])
(.seq
(.cond (.g 16)
.skip
(.exit 1))
(.seq
(.block 2
(.seq
(.reg [
.l 17 (.mv (.g 15)),
.l 18 (.ia 2 (.g 13) (.g 15)),
.l 19 (.ld (some 2) (.l 18)),
.g 4 (.new [.int .i64 0, .int .i64 0]),
.g 3 (.mv (.l 17)),
.n (.st 2 (.g 4) (.l 19))])
(.block 3
(.seq
(.reg [
.l 21 (.fa (.g 4) 0),
.l 22 (.ld none (.l 21)),
.l 23 (.bin .lss (.l 22) (.i 0)),
.l 24 (.mv (.l 23)),
.lw 25 (.fa (.g 4) 0) (.l 24) false,
.lw 26 (.ld none (.l 25)) (.l 24) false,
.lw 27 (.bin .gtr (.l 26) (.i 10000)) (.l 24) false,
.l 28 (.pick (.l 24) (.b true) (.l 27)),
.g 20 (.mv (.l 28))])
(.cond (.g 20)
(.seq
(.reg [
.g 2 (.mv (.i 2))])
.ret)
(.seq
(.draw [
.l 30 (.mv (.g 3)) 0,
.l 31 (.bin .eql (.l 30) (.i 0)) 1,
.l 32 (.mv (.l 31)) 2,
.lw 33 (.fa (.g 4) 0) (.l 32) true 3,
.lw 34 (.ld none (.l 33)) (.l 32) true 4,
.lw 35 (.bin .neq (.l 34) (.i 0)) (.l 32) true 5,
.l 36 (.pick (.l 32) (.l 35) (.b false)) 6,
.l 37 (.mv (.l 36)) 7,
.lw 38 (.mv (.g 3)) (.l 37) false 8,
.lw 39 (.bin .gtr (.l 38) (.i 0)) (.l 37) false 9,
.lw 40 (.mv (.l 39)) (.l 37) false 10,
.lw 41 (.fa (.g 4) 0) (.l 40) true 11,
.lw 42 (.ld none (.l 41)) (.l 40) true 12,
.lw 43 (.mv (.g 0)) (.l 40) true 13,
.lw 44 (.mv (.g 3)) (.l 40) true 14,
.lw 45 (.bin .sub (.l 44) (.i 1)) (.l 40) true 15,
.lw 46 (.ia 2 (.l 43) (.l 45)) (.l 40) true 16,
.lw 47 (.fa (.l 46) 0) (.l 40) true 17,
.lw 48 (.ld none (.l 47)) (.l 40) true 18,
.lw 49 (.bin .leq (.l 42) (.l 48)) (.l 40) true 19,
.lw 50 (.pick (.l 40) (.l 49) (.b false)) (.l 37) false 20,
.l 51 (.pick (.l 37) (.b true) (.l 50)) 21,
.g 29 (.mv (.l 51)) 22])
(.cond (.g 29)
(.seq
(.reg [
.g 2 (.mv (.i 11))])
.ret)
(.seq
(.reg [
.l 53 (.fa (.g 4) 1),
.l 54 (.ld none (.l 53)),
.l 55 (.bin .lss (.l 54) (.i 0)),
.l 56 (.mv (.l 55)),
.lw 57 (.fa (.g 4) 1) (.l 56) false,
.lw 58 (.ld none (.l 57)) (.l 56) false,
.lw 59 (.bin .gtr (.l 58) (.i 1000000)) (.l 56) false,
.l 60 (.pick (.l 56) (.b true) (.l 59)),
.g 52 (.mv (.l 60))])
(.cond (.g 52)
(.seq
(.reg [
.g 2 (.mv (.i 2))])
.ret)
(.seq
(.reg [
.l 62 (.mv (.g 3)),
.l 63 (.bin .eql (.l 62) (.i 0)),
.l 64 (.mv (.l 63)),
.lw 65 (.fa (.g 4) 1) (.l 64) true,
.lw 66 (.ld none (.l 65)) (.l 64) true,
.lw 67 (.bin .neq (.l 66) (.i 1000000)) (.l 64) true,
.l 68 (.pick (.l 64) (.l 67) (.b false)),
.g 61 (.mv (.l 68))])
(.cond (.g 61)
(.seq
(.reg [
.g 2 (.mv (.i 3))])
.ret)
(.seq
(.draw [
.l 70 (.mv (.g 3)) 0,
.l 71 (.bin .gtr (.l 70) (.i 0)) 1,
.l 72 (.mv (.l 71)) 2,
.lw 73 (.fa (.g 4) 1) (.l 72) true 3,
.lw 74 (.ld none (.l 73)) (.l 72) true 4,
.lw 75 (.mv (.g 0)) (.l 72) true 5,
.lw 76 (.mv (.g 3)) (.l 72) true 6,
.lw 77 (.bin .sub (.l 76) (.i 1)) (.l 72) true 7,
.lw 78 (.ia 2 (.l 75) (.l 77)) (.l 72) true 8,
.lw 79 (.fa (.l 78) 1) (.l 72) true 9,
.lw 80 (.ld none (.l 79)) (.l 72) true 10,
.lw 81 (.bin .gtr (.l 74) (.l 80)) (.l 72) true 11,
.l 82 (.pick (.l 72) (.l 81) (.b false)) 12,
.g 69 (.mv (.l 82)) 13])
(.cond (.g 69)
(.seq
(.reg [
.g 2 (.mv (.i 11))])
.ret)
.skip)))))))))))))
(.reg [
.l 83 (.bin .add (.g 15) (.i 1)),
.g 15 (.mv (.l 83))])))))))
(.seq
(.reg [
.g 2 (.mv (.i 0))])
.ret))))
def K54 : List Nat := [0, 5, 9, 16, 20, 29, 52, 61, 69, 2, 13, 14, 15, 4, 3]
noncomputable def b54 : Code := match Tryz.f54.body with | some c => c | none => .skip
theorem t54 : trCode ⟨Tryz.prog, K54, [], 84, none⟩ b54 = some c54 := by kernel_rfl
theorem go54 {args : List AV} {H : AHeap} {Kk : AV → AHeap → Prop} (hn : args.length = 1) (h : AGo ⟨Tryz.prog, K54, [], 84, none⟩ H.length [.code c54] (RetP [.t (.g 2)] H.length Kk) ⟨[], argsG 0 args⟩ H) : ACalls Tryz.prog 54 args H Kk :=
  ACalls_of Tryz.func54 (c := b54) rfl (by kernel_rfl) t54 (rs := [.t (.g 2)]) (by kernel_rfl) (by rw [hn]; exact Nat.le_of_ble_eq_true rfl) (by rw [hn]; rfl) (h.weaken (fun _ _ => RetP.hands) (by simp))

/-- sastrugi/bear.Check -/
def c27 : ACode :=
  (.seq
(.reg [
.g 1 (.box (.g 0)),
.g 2 (.mv (.i 0))])
(.seq
(.seq
(.reg [
.l 6 (.fa (.g 1) 0),
.l 7 (.ld (some 2) (.l 6)),
.l 8 (.call (.c (.fn 53 [])) [.l 7, .i 1, .i 100000]),
.g 3 (.mv (.l 8))])
(.seq
(.reg [
.l 9 (.mv (.g 3)),
.g 10 (.bin .neq (.l 9) (.i 0))])
(.cond (.g 10)
(.seq
(.reg [
.l 11 (.mv (.g 3)),
.g 2 (.mv (.l 11))])
.ret)
.skip)))
(.seq
(.seq
(.reg [
.l 12 (.fa (.g 1) 2),
.l 13 (.ld none (.l 12)),
.l 14 (.call (.c (.fn 54 [])) [.l 13]),
.g 4 (.mv (.l 14))])
(.seq
(.reg [
.l 15 (.mv (.g 4)),
.g 16 (.bin .neq (.l 15) (.i 0))])
(.cond (.g 16)
(.seq
(.reg [
.l 17 (.mv (.g 4)),
.g 2 (.mv (.l 17))])
.ret)
.skip)))
(.seq
(.seq
(.reg [
.l 18 (.fa (.g 1) 3),
.l 19 (.ld none (.l 18)),
.l 20 (.call (.c (.fn 54 [])) [.l 19]),
.g 5 (.mv (.l 20))])
(.seq
(.reg [
.l 21 (.mv (.g 5)),
.g 22 (.bin .neq (.l 21) (.i 0))])
(.cond (.g 22)
(.seq
(.reg [
.l 23 (.mv (.g 5)),
.g 2 (.mv (.l 23))])
.ret)
.skip)))
(.seq
(.block 0
(.seq
(.seq
(.reg [
.l 25 (.fa (.g 1) 4),
.l 26 (.ld none (.l 25)),
.l 27 (.call (.c (.fn 28 [])) [.l 26, .i 0, .i 10000]),
.l 28 (.un .not (.l 27)),
.g 24 (.mv (.l 28))])
(.cond (.g 24)
.skip
(.seq
(.reg [
.l 29 (.fa (.g 1) 5),
.l 30 (.ld none (.l 29)),
.l 31 (.call (.c (.fn 28 [])) [.l 30, .i 0, .i 1000000]),
.l 32 (.un .not (.l 31)),
.g 24 (.mv (.l 32))])
(.cond (.g 24)
.skip
(.seq
(.reg [
.l 33 (.fa (.g 1) 6),
.l 34 (.ld none (.l 33)),
.l 35 (.call (.c (.fn 28 [])) [.l 34, .i 1, .i 1000]),
.l 36 (.un .not (.l 35)),
.g 24 (.mv (.l 36))])
(.cond (.g 24)
.skip
(.seq
(.reg [
.l 37 (.fa (.g 1) 7),
.l 38 (.ld none (.l 37)),
.l 39 (.call (.c (.fn 28 [])) [.l 38, .i 1, .i 4000000]),
.l 40 (.un .not (.l 39)),
.g 24 (.mv (.l 40))])
(.cond (.g 24)
.skip
(.reg [
.l 41 (.fa (.g 1) 8),
.l 42 (.ld none (.l 41)),
.l 43 (.call (.c (.fn 28 [])) [.l 42, .i 1, .i 4000000]),
.l 44 (.un .not (.l 43)),
.g 24 (.mv (.l 44))])))))))))
(.cond (.g 24)
(.seq
(.reg [
.g 2 (.mv (.i 2))])
.ret)
(.seq
(.reg [
.l 46 (.fa (.g 1) 7),
.l 47 (.ld none (.l 46)),
.l 48 (.fa (.g 1) 8),
.l 49 (.ld none (.l 48)),
.l 50 (.bin .gtr (.l 47) (.l 49)),
.g 45 (.mv (.l 50))])
(.cond (.g 45)
(.seq
(.reg [
.g 2 (.mv (.i 11))])
.ret)
(.seq
(.seq
(.reg [
.l 52 (.fa (.g 1) 9),
.l 53 (.ld none (.l 52)),
.l 54 (.call (.c (.fn 28 [])) [.l 53, .i 0, .i 10000]),
.l 55 (.un .not (.l 54)),
.g 51 (.mv (.l 55))])
(.cond (.g 51)
.skip
(.reg [
.l 56 (.fa (.g 1) 10),
.l 57 (.ld none (.l 56)),
.l 58 (.call (.c (.fn 28 [])) [.l 57, .i 0, .i 1000000]),
.l 59 (.un .not (.l 58)),
.g 51 (.mv (.l 59))])))
(.cond (.g 51)
(.seq
(.reg [
.g 2 (.mv (.i 2))])
.ret)
.skip)))))))
(.seq
(.reg [
.g 2 (.mv (.i 0))])
.ret))))))
def K27 : List Nat := [0, 10, 16, 22, 24, 45, 51, 2, 1, 3, 4, 5]
noncomputable def b27 : Code := match Tryz.f27.body with | some c => c | none => .skip
theorem t27 : trCode ⟨Tryz.prog, K27, [], 60, none⟩ b27 = some c27 := by kernel_rfl
theorem go27 {args : List AV} {H : AHeap} {Kk : AV → AHeap → Prop} (hn : args.length = 1) (h : AGo ⟨Tryz.prog, K27, [], 60, none⟩ H.length [.code c27] (RetP [.t (.g 2)] H.length Kk) ⟨[], argsG 0 args⟩ H) : ACalls Tryz.prog 27 args H Kk :=
  ACalls_of Tryz.func27 (c := b27) rfl (by kernel_rfl) t27 (rs := [.t (.g 2)]) (by kernel_rfl) (by rw [hn]; exact Nat.le_of_ble_eq_true rfl) (by rw [hn]; rfl) (h.weaken (fun _ _ => RetP.hands) (by simp))

/-- sastrugi/bear.faults -/
def c29 : ACode :=
  (.seq
(.reg [
.g 6 (.mv (.i 0))])
(.seq
(.seq
(.reg [
.l 10 (.mv (.g 0)),
.l 11 (.len (.l 10)),
.l 12 (.mv (.g 1)),
.g 13 (.bin .gtr (.l 11) (.l 12))])
(.cond (.g 13)
(.seq
(.reg [
.g 6 (.mv (.i 8))])
.ret)
.skip))
(.seq
(.seq
(.reg [
.g 14 (.mv (.g 0)),
.g 15 (.len (.g 14)),
.g 16 (.mv (.i 0))])
(.block 0
(.loop
(.seq
(.reg [
.g 17 (.bin .lss (.g 16) (.g 15))])
(.seq
(.cond (.g 17)
.skip
(.exit 0))
(.seq
(.block 1
(.seq
(.reg [
.l 18 (.ia 2 (.g 14) (.g 16)),
.l 19 (.ld (some 2) (.l 18)),
.g 8 (.new [.int .i64 0, .int .i64 0]),
.n (.st 2 (.g 8) (.l 19))])
(.seq
(.reg [
.l 20 (.ld (some 2) (.g 8)),
.l 21 (.mv (.g 2)),
.l 22 (.call (.c (.fn 53 [])) [.l 20, .i 0, .l 21]),
.g 9 (.mv (.l 22))])
(.seq
(.reg [
.l 23 (.mv (.g 9)),
.g 24 (.bin .neq (.l 23) (.i 0))])
(.cond (.g 24)
(.seq
(.reg [
.l 25 (.mv (.g 9)),
.g 6 (.mv (.l 25))])
.ret)
.skip)))))
(.reg [
.l 26 (.bin .add (.g 16) (.i 1)),
.g 16 (.mv (.l 26))])))))))
(.seq
(.reg [
.g 6 (.mv (.i 0))])
.ret))))
def K29 : List Nat := [0, 1, 2, 13, 17, 24, 6, 14, 15, 16, 8, 9]
noncomputable def b29 : Code := match Tryz.f29.body with | some c => c | none => .skip
theorem t29 : trCode ⟨Tryz.prog, K29, [], 27, none⟩ b29 = some c29 := by kernel_rfl
theorem go29 {args : List AV} {H : AHeap} {Kk : AV → AHeap → Prop} (hn : args.length = 3) (h : AGo ⟨Tryz.prog, K29, [], 27, none⟩ H.length [.code c29] (RetP [.t (.g 6)] H.length Kk) ⟨[], argsG 0 args⟩ H) : ACalls Tryz.prog 29 args H Kk :=
  ACalls_of Tryz.func29 (c := b29) rfl (by kernel_rfl) t29 (rs := [.t (.g 6)]) (by kernel_rfl) (by rw [hn]; exact Nat.le_of_ble_eq_true rfl) (by rw [hn]; rfl) (h.weaken (fun _ _ => RetP.hands) (by simp))

/-- sastrugi/bear.checkAll -/
def c38 : ACode :=
  (.seq
(.reg [
.g 3 (.box (.g 0)),
.g 6 (.mv (.i 0))])
(.seq
(.seq
(.reg [
.l 9 (.ld (some 11) (.g 3)),
.l 10 (.call (.c (.fn 27 [])) [.l 9]),
.g 7 (.mv (.l 10))])
(.seq
(.reg [
.l 11 (.mv (.g 7)),
.g 12 (.bin .neq (.l 11) (.i 0))])
(.cond (.g 12)
(.seq
(.reg [
.l 13 (.mv (.g 7)),
.g 6 (.mv (.l 13))])
.ret)
.skip)))
(.seq
(.seq
(.reg [
.l 14 (.mv (.g 1)),
.l 15 (.call (.c (.fn 29 [])) [.l 14, .i 1000, .i 5000]),
.g 8 (.mv (.l 15))])
(.seq
(.reg [
.l 16 (.mv (.g 8)),
.g 17 (.bin .neq (.l 16) (.i 0))])
(.cond (.g 17)
(.seq
(.reg [
.l 18 (.mv (.g 8)),
.g 6 (.mv (.l 18))])
.ret)
.skip)))
(.seq
(.reg [
.l 19 (.mv (.g 2)),
.l 20 (.call (.c (.fn 29 [])) [.l 19, .i 50, .i 100000]),
.g 6 (.mv (.l 20))])
.ret))))
def K38 : List Nat := [0, 1, 2, 12, 17, 6, 3, 7, 8]
noncomputable def b38 : Code := match Tryz.f38.body with | some c => c | none => .skip
theorem t38 : trCode ⟨Tryz.prog, K38, [], 21, none⟩ b38 = some c38 := by kernel_rfl
theorem go38 {args : List AV} {H : AHeap} {Kk : AV → AHeap → Prop} (hn : args.length = 3) (h : AGo ⟨Tryz.prog, K38, [], 21, none⟩ H.length [.code c38] (RetP [.t (.g 6)] H.length Kk) ⟨[], argsG 0 args⟩ H) : ACalls Tryz.prog 38 args H Kk :=
  ACalls_of Tryz.func38 (c := b38) rfl (by kernel_rfl) t38 (rs := [.t (.g 6)]) (by kernel_rfl) (by rw [hn]; exact Nat.le_of_ble_eq_true rfl) (by rw [hn]; rfl) (h.weaken (fun _ _ => RetP.hands) (by simp))

/-- sastrugi/bear.loads -/
def c39 : ACode :=
  (.seq
(.reg [
.g 4 (.mv (.i 0))])
(.seq
(.seq
(.reg [
.l 8 (.mv (.g 0)),
.l 9 (.len (.l 8)),
.g 10 (.bin .gtr (.l 9) (.i 30))])
(.cond (.g 10)
(.seq
(.reg [
.g 4 (.mv (.i 8))])
.ret)
.skip))
(.seq
(.seq
(.reg [
.g 11 (.mv (.g 0)),
.g 12 (.len (.g 11)),
.g 13 (.mv (.i 0))])
(.block 0
(.loop
(.seq
(.reg [
.g 14 (.bin .lss (.g 13) (.g 12))])
(.seq
(.cond (.g 14)
.skip
(.exit 0))
(.seq
(.block 1
(.seq
(.reg [
.l 15 (.ia 4 (.g 11) (.g 13)),
.l 16 (.ld (some 4) (.l 15)),
.g 6 (.new [.int .i64 0, .int .i64 0, .int .i64 0, .int .i64 0]),
.n (.st 4 (.g 6) (.l 16))])
(.seq
(.seq
(.reg [
.l 17 (.fa (.g 6) 0),
.l 18 (.ld none (.l 17)),
.l 19 (.mv (.g 1)),
.l 20 (.bin .mul (.i 100) (.l 19)),
.l 21 (.bin .sub (.l 20) (.i 1)),
.l 22 (.call (.c (.fn 28 [])) [.l 18, .i 0, .l 21]),
.g 23 (.un .not (.l 22))])
(.cond (.g 23)
(.seq
(.reg [
.g 4 (.mv (.i 7))])
.ret)
.skip))
(.seq
(.seq
(.reg [
.l 24 (.fa (.g 6) 1),
.l 25 (.ld (some 2) (.l 24)),
.l 26 (.call (.c (.fn 53 [])) [.l 25, .i 0, .i 200000]),
.g 7 (.mv (.l 26))])
(.seq
(.reg [
.l 27 (.mv (.g 7)),
.g 28 (.bin .neq (.l 27) (.i 0))])
(.cond (.g 28)
(.seq
(.reg [
.l 29 (.mv (.g 7)),
.g 4 (.mv (.l 29))])
.ret)
.skip)))
(.seq
(.reg [
.l 30 (.fa (.g 6) 3),
.l 31 (.ld none (.l 30)),
.l 32 (.call (.c (.fn 28 [])) [.l 31, .i 0, .i 10000]),
.g 33 (.un .not (.l 32))])
(.cond (.g 33)
(.seq
(.reg [
.g 4 (.mv (.i 2))])
.ret)
.skip))))))
(.reg [
.l 34 (.bin .add (.g 13) (.i 1)),
.g 13 (.mv (.l 34))])))))))
(.seq
(.reg [
.g 4 (.mv (.i 0))])
.ret))))
def K39 : List Nat := [0, 1, 10, 14, 23, 28, 33, 4, 11, 12, 13, 6, 7]
noncomputable def b39 : Code := match Tryz.f39.body with | some c => c | none => .skip
theorem t39 : trCode ⟨Tryz.prog, K39, [], 35, none⟩ b39 = some c39 := by kernel_rfl
theorem go39 {args : List AV} {H : AHeap} {Kk : AV → AHeap → Prop} (hn : args.length = 2) (h : AGo ⟨Tryz.prog, K39, [], 35, none⟩ H.length [.code c39] (RetP [.t (.g 4)] H.length Kk) ⟨[], argsG 0 args⟩ H) : ACalls Tryz.prog 39 args H Kk :=
  ACalls_of Tryz.func39 (c := b39) rfl (by kernel_rfl) t39 (rs := [.t (.g 4)]) (by kernel_rfl) (by rw [hn]; exact Nat.le_of_ble_eq_true rfl) (by rw [hn]; rfl) (h.weaken (fun _ _ => RetP.hands) (by simp))

/-- sastrugi/bear.last[sastrugi/api.Share] -/
def c55 : ACode :=
  (.seq
(.reg [
.g 6 (.new [.int .i64 0, .int .i64 0])])
(.seq
(.reg [
.l 10 (.mv (.g 0)),
.l 11 (.ia 2 (.l 10) (.i 0)),
.l 12 (.ld (some 2) (.l 11)),
.g 7 (.new [.int .i64 0, .int .i64 0]),
.n (.st 2 (.g 7) (.l 12))])
(.seq
(.seq
(.reg [
.g 13 (.mv (.g 0)),
.g 14 (.len (.g 13)),
.g 15 (.mv (.i 0))])
(.block 0
(.loop
(.seq
(.reg [
.g 16 (.bin .lss (.g 15) (.g 14))])
(.seq
(.cond (.g 16)
.skip
(.exit 0))
(.seq
(.block 1
(.seq
(.reg [
.l 17 (.ia 2 (.g 13) (.g 15)),
.l 18 (.ld (some 2) (.l 17)),
.g 9 (.new [.int .i64 0, .int .i64 0]),
.n (.st 2 (.g 9) (.l 18))])
(.seq
(.reg [
.l 19 (.mv (.g 2)),
.l 20 (.ld (some 2) (.g 9)),
.l 21 (.call (.l 19) [.l 20]),
.l 22 (.mv (.g 1)),
.g 23 (.bin .leq (.l 21) (.l 22))])
(.cond (.g 23)
(.reg [
.l 24 (.ld (some 2) (.g 9)),
.n (.st 2 (.g 7) (.l 24))])
.skip))))
(.reg [
.l 25 (.bin .add (.g 15) (.i 1)),
.g 15 (.mv (.l 25))])))))))
(.seq
(.reg [
.l 26 (.ld (some 2) (.g 7)),
.n (.st 2 (.g 6) (.l 26))])
.ret))))
def K55 : List Nat := [0, 1, 2, 16, 23, 6, 7, 13, 14, 15, 9]
noncomputable def b55 : Code := match Tryz.f55.body with | some c => c | none => .skip
theorem t55 : trCode ⟨Tryz.prog, K55, [], 27, none⟩ b55 = some c55 := by kernel_rfl
theorem go55 {args : List AV} {H : AHeap} {Kk : AV → AHeap → Prop} (hn : args.length = 3) (h : AGo ⟨Tryz.prog, K55, [], 27, none⟩ H.length [.code c55] (RetP [.cell (.g 6) (some 2)] H.length Kk) ⟨[], argsG 0 args⟩ H) : ACalls Tryz.prog 55 args H Kk :=
  ACalls_of Tryz.func55 (c := b55) rfl (by kernel_rfl) t55 (rs := [.cell (.g 6) (some 2)]) (by kernel_rfl) (by rw [hn]; exact Nat.le_of_ble_eq_true rfl) (by rw [hn]; rfl) (h.weaken (fun _ _ => RetP.hands) (by simp))

/-- sastrugi/bear.part$1 -/
def c56 : ACode :=
  (.seq
(.reg [
.g 1 (.box (.g 0)),
.g 2 (.mv (.i 0))])
(.seq
(.reg [
.l 3 (.fa (.g 1) 0),
.l 4 (.ld none (.l 3)),
.g 2 (.mv (.l 4))])
.ret))
def K56 : List Nat := [0, 2, 1]
noncomputable def b56 : Code := match Tryz.f56.body with | some c => c | none => .skip
theorem t56 : trCode ⟨Tryz.prog, K56, [], 5, none⟩ b56 = some c56 := by kernel_rfl
theorem go56 {args : List AV} {H : AHeap} {Kk : AV → AHeap → Prop} (hn : args.length = 1) (h : AGo ⟨Tryz.prog, K56, [], 5, none⟩ H.length [.code c56] (RetP [.t (.g 2)] H.length Kk) ⟨[], argsG 0 args⟩ H) : ACalls Tryz.prog 56 args H Kk :=
  ACalls_of Tryz.func56 (c := b56) rfl (by kernel_rfl) t56 (rs := [.t (.g 2)]) (by kernel_rfl) (by rw [hn]; exact Nat.le_of_ble_eq_true rfl) (by rw [hn]; rfl) (h.weaken (fun _ _ => RetP.hands) (by simp))

/-- sastrugi/bear.part -/
def c32 : ACode :=
  (.seq
(.reg [
.g 4 (.mv (.i 0))])
(.seq
(.reg [
.l 5 (.mv (.g 0)),
.l 6 (.mv (.g 1)),
.l 7 (.call (.c (.fn 55 [])) [.l 5, .l 6, .c (.fn 56 [])]),
.l 8 (.fd none (.l 7) 1),
.g 4 (.mv (.l 8))])
.ret))
def K32 : List Nat := [0, 1, 4]
noncomputable def b32 : Code := match Tryz.f32.body with | some c => c | none => .skip
theorem t32 : trCode ⟨Tryz.prog, K32, [], 9, none⟩ b32 = some c32 := by kernel_rfl
theorem go32 {args : List AV} {H : AHeap} {Kk : AV → AHeap → Prop} (hn : args.length = 2) (h : AGo ⟨Tryz.prog, K32, [], 9, none⟩ H.length [.code c32] (RetP [.t (.g 4)] H.length Kk) ⟨[], argsG 0 args⟩ H) : ACalls Tryz.prog 32 args H Kk :=
  ACalls_of Tryz.func32 (c := b32) rfl (by kernel_rfl) t32 (rs := [.t (.g 4)]) (by kernel_rfl) (by rw [hn]; exact Nat.le_of_ble_eq_true rfl) (by rw [hn]; rfl) (h.weaken (fun _ _ => RetP.hands) (by simp))

/-- sort.Search -/
def c30 : ACode :=
  (.seq
(.reg [
.g 4 (.mv (.i 0))])
(.seq
(.reg [
.l 8 (.mv (.g 0)),
.g 5 (.mv (.i 0)),
.g 6 (.mv (.l 8))])
(.seq
(.block 0
(.loop
(.seq
(.seq
(.reg [
.l 9 (.mv (.g 5)),
.l 10 (.mv (.g 6)),
.g 11 (.bin .lss (.l 9) (.l 10))])
(.cond (.g 11)
.skip
(.exit 0)))
(.block 1
(.seq
(.reg [
.l 12 (.mv (.g 5)),
.l 13 (.mv (.g 6)),
.l 14 (.bin .add (.l 12) (.l 13)),
.l 15 (.cv .u64 (.l 14)),
.l 16 (.bin .shr (.l 15) (.c (.lit (.int .u64 1)))),
.l 17 (.cv .i64 (.l 16)),
.g 7 (.mv (.l 17))])
(.seq
(.reg [
.l 18 (.mv (.g 1)),
.l 19 (.mv (.g 7)),
.l 20 (.call (.l 18) [.l 19]),
.g 21 (.un .not (.l 20))])
(.cond (.g 21)
(.reg [
.l 22 (.mv (.g 7)),
.l 23 (.bin .add (.l 22) (.i 1)),
.g 5 (.mv (.l 23))])
(.reg [
.l 24 (.mv (.g 7)),
.g 6 (.mv (.l 24))]))))))))
(.seq
(.reg [
.l 25 (.mv (.g 5)),
.g 4 (.mv (.l 25))])
.ret))))
def K30 : List Nat := [0, 1, 11, 21, 4, 5, 6, 7]
noncomputable def b30 : Code := match Tryz.f30.body with | some c => c | none => .skip
theorem t30 : trCode ⟨Tryz.prog, K30, [], 26, none⟩ b30 = some c30 := by kernel_rfl
theorem go30 {args : List AV} {H : AHeap} {Kk : AV → AHeap → Prop} (hn : args.length = 2) (h : AGo ⟨Tryz.prog, K30, [], 26, none⟩ H.length [.code c30] (RetP [.t (.g 4)] H.length Kk) ⟨[], argsG 0 args⟩ H) : ACalls Tryz.prog 30 args H Kk :=
  ACalls_of Tryz.func30 (c := b30) rfl (by kernel_rfl) t30 (rs := [.t (.g 4)]) (by kernel_rfl) (by rw [hn]; exact Nat.le_of_ble_eq_true rfl) (by rw [hn]; rfl) (h.weaken (fun _ _ => RetP.hands) (by simp))

end Go.Sas
