/-
The code of some functions with its types resolved, printed by a program; that it is the code is checked by the kernel.
Conditions: none.
-/
import Derived.Test.YthpjckoklnhbcaaQAbb
import Derived.Test.YthpjckoklnhbcaaH4
import Derived.Test.YthpjckoklnhbcaaProg
set_option linter.unusedVariables false
set_option linter.unusedSimpArgs false
namespace Go.Sas
open Go.Proofs
set_option maxRecDepth 100000
/-- sastrugi/sastrugikit.NewSeed -/
def c22 : ACode :=
  (.seq
(.reg [
.g 2 (.mv (.c (.lit (.pointer none))))])
(.seq
(.reg [
.l 5 (.mk [.int .u64 0] [(0, 1, .c (.lit (.int .u64 1)))]),
.l 6 (.box (.l 5)),
.g 3 (.mv (.l 6))])
(.seq
(.seq
(.reg [
.g 4 (.mv (.i 0))])
(.block 0
(.loop
(.seq
(.seq
(.reg [
.l 7 (.mv (.g 4)),
.l 8 (.mv (.g 0)),
.l 9 (.len (.l 8)),
.g 10 (.bin .lss (.l 7) (.l 9))])
(.cond (.g 10)
.skip
(.exit 0)))
(.seq
(.block 1
(.seq
(.draw [
.l 13 (.mv (.g 3)) 0,
.l 14 (.mv (.g 3)) 1,
.l 15 (.nilc (.l 14)) 2,
.l 16 (.fa (.l 15) 0) 3,
.l 17 (.ld none (.l 16)) 4,
.l 18 (.bin .mul (.l 17) (.c (.lit (.int .u64 6364136223846793005)))) 5,
.l 19 (.mv (.g 0)) 6,
.l 20 (.mv (.g 4)) 7,
.l 21 (.ia 1 (.l 19) (.l 20)) 8,
.l 22 (.ld none (.l 21)) 9,
.l 23 (.cv .u64 (.l 22)) 10,
.l 24 (.bin .add (.l 18) (.l 23)) 11,
.l 25 (.bin .add (.l 24) (.c (.lit (.int .u64 1442695040888963407)))) 12,
.l 26 (.nilc (.l 13)) 13,
.l 27 (.fa (.l 26) 0) 14,
.n (.st 1 (.l 27) (.l 25)) 15])
(.reg [
.l 28 (.mv (.g 3)),
.l 29 (.call (.c (.fn 69 [])) [.l 28])])))
(.reg [
.l 11 (.mv (.g 4)),
.l 12 (.bin .add (.l 11) (.i 1)),
.g 4 (.mv (.l 12))]))))))
(.seq
(.reg [
.l 30 (.mv (.g 3)),
.g 2 (.mv (.l 30))])
.ret))))
def K22 : List Nat := [0, 10, 2, 3, 4]
noncomputable def b22 : Code := match Try.f22.body with | some c => c | none => .skip
theorem t22 : trCode ⟨Try.prog, K22, [], 31, none⟩ b22 = some c22 := by kernel_rfl
theorem go22 : GoS Try.prog 22 1 K22 [] 31 c22 [.t (.g 2)] := .mk Try.func22 (c := b22) rfl (by kernel_rfl) t22 rfl (by kernel_rfl) rfl rfl

/-- sastrugi/sastrugikit.FreightOf -/
def c23 : ACode :=
  (.seq
(.reg [
.g 6 (.new [.int .i64 0, .int .i64 0, .int .i64 0, .int .i64 0, .slice none 0 0, .slice none 0 0])])
(.seq
(.reg [
.g 7 (.new [.int .i64 0, .int .i64 0, .int .i64 0, .int .i64 0, .slice none 0 0, .slice none 0 0])])
(.seq
(.reg [
.l 12 (.mv (.g 0)),
.l 13 (.mv (.g 1)),
.l 14 (.call (.c (.fn 45 [])) [.l 12, .i 1, .l 13]),
.g 8 (.mv (.l 14))])
(.seq
(.seq
(.reg [
.g 9 (.mv (.i 0))])
(.block 0
(.loop
(.seq
(.seq
(.reg [
.l 15 (.mv (.g 9)),
.l 16 (.mv (.g 8)),
.g 17 (.bin .lss (.l 15) (.l 16))])
(.cond (.g 17)
.skip
(.exit 0)))
(.seq
(.block 1
(.draw [
.l 20 (.fa (.g 7) 4) 0,
.l 21 (.ld none (.l 20)) 1,
.l 22 (.mv (.g 0)) 2,
.l 23 (.mv (.g 0)) 3,
.l 24 (.mks false 1 [.i 3, .i 9]) 4,
.lf 25 (.call (.c (.fn 46 [])) [.l 23, .l 24]) 5,
.lf 26 (.call (.c (.fn 70 [])) [.l 22, .i 0, .l 25]) 6,
.l 27 (.mks false 2 [.l 26]) 7,
.lf 28 (.app 2 16 (.l 21) (.l 27)) 8,
.l 29 (.fa (.g 7) 4) 9,
.n (.st 1 (.l 29) (.l 28)) 10]))
(.reg [
.l 18 (.mv (.g 9)),
.l 19 (.bin .add (.l 18) (.i 1)),
.g 9 (.mv (.l 19))]))))))
(.seq
(.reg [
.l 30 (.mv (.g 0)),
.l 31 (.mv (.g 8)),
.l 32 (.bin .sub (.l 31) (.i 1)),
.l 33 (.bin .quo (.l 32) (.i 2)),
.l 34 (.call (.c (.fn 70 [])) [.l 30, .i 0, .l 33]),
.l 35 (.mv (.g 0)),
.l 36 (.mv (.g 8)),
.l 37 (.bin .sub (.l 36) (.i 1)),
.l 38 (.bin .quo (.l 37) (.i 2)),
.l 39 (.mv (.g 8)),
.l 40 (.bin .sub (.l 39) (.i 1)),
.l 41 (.call (.c (.fn 70 [])) [.l 35, .l 38, .l 40]),
.l 42 (.fa (.g 7) 0),
.n (.st 2 (.l 42) (.l 34)),
.l 43 (.fa (.g 7) 2),
.n (.st 2 (.l 43) (.l 41))])
(.seq
(.seq
(.reg [
.l 44 (.mv (.g 0)),
.g 45 (.call (.c (.fn 56 [])) [.l 44, .i 8])])
(.cond (.g 45)
(.reg [
.l 46 (.mv (.g 0)),
.l 47 (.mv (.g 8)),
.l 48 (.bin .sub (.l 47) (.i 1)),
.l 49 (.call (.c (.fn 70 [])) [.l 46, .i 0, .l 48]),
.l 50 (.mv (.g 0)),
.l 51 (.mv (.g 8)),
.l 52 (.bin .sub (.l 51) (.i 1)),
.l 53 (.call (.c (.fn 70 [])) [.l 50, .i 0, .l 52]),
.l 54 (.fa (.g 7) 0),
.n (.st 2 (.l 54) (.l 49)),
.l 55 (.fa (.g 7) 2),
.n (.st 2 (.l 55) (.l 53))])
.skip))
(.seq
(.seq
(.reg [
.l 56 (.mv (.g 0)),
.l 57 (.mv (.g 2)),
.l 58 (.call (.c (.fn 45 [])) [.l 56, .i 1, .l 57]),
.g 10 (.mv (.l 58))])
(.block 2
(.loop
(.seq
(.seq
(.reg [
.l 59 (.mv (.g 10)),
.g 60 (.bin .gtr (.l 59) (.i 0))])
(.cond (.g 60)
.skip
(.exit 2)))
(.seq
(.block 3
(.seq
(.reg [
.l 63 (.mv (.g 0)),
.l 64 (.mv (.g 0)),
.l 65 (.mks false 1 [.i 4, .i 20]),
.l 66 (.call (.c (.fn 46 [])) [.l 64, .l 65]),
.l 67 (.call (.c (.fn 45 [])) [.l 63, .i 1, .l 66]),
.l 68 (.mv (.g 0)),
.l 69 (.mv (.g 8)),
.l 70 (.bin .add (.l 69) (.i 1)),
.l 71 (.call (.c (.fn 47 [])) [.l 68, .l 70]),
.l 72 (.mv (.g 0)),
.l 73 (.call (.c (.fn 47 [])) [.l 72, .i 10]),
.l 74 (.mk [.int .i64 0, .int .i64 0, .int .i64 0, .int .i64 0] [(0, 1, .l 67), (1, 1, .l 71), (2, 1, .l 73)]),
.g 11 (.new [.int .i64 0, .int .i64 0, .int .i64 0, .int .i64 0]),
.n (.st 4 (.g 11) (.l 74))])
(.seq
(.draw [
.l 75 (.fa (.g 11) 2) 0,
.l 76 (.ld none (.l 75)) 1,
.l 77 (.mv (.g 0)) 2,
.l 78 (.mv (.g 0)) 3,
.lf 79 (.call (.c (.fn 47 [])) [.l 78, .i 20]) 4,
.l 80 (.mks false 1 [.i 0, .l 79]) 5,
.lf 81 (.call (.c (.fn 46 [])) [.l 77, .l 80]) 6,
.l 82 (.bin .add (.l 76) (.l 81)) 7,
.l 83 (.fa (.g 11) 3) 8,
.n (.st 1 (.l 83) (.l 82)) 9])
(.reg [
.l 84 (.fa (.g 7) 5),
.l 85 (.ld none (.l 84)),
.l 86 (.ld (some 4) (.g 11)),
.l 87 (.mks false 4 [.l 86]),
.l 88 (.app 4 32 (.l 85) (.l 87)),
.l 89 (.fa (.g 7) 5),
.n (.st 1 (.l 89) (.l 88))]))))
(.reg [
.l 61 (.mv (.g 10)),
.l 62 (.bin .sub (.l 61) (.i 1)),
.g 10 (.mv (.l 62))]))))))
(.seq
(.reg [
.l 90 (.ld (some 6) (.g 7)),
.n (.st 6 (.g 6) (.l 90))])
.ret))))))))
def K23 : List Nat := [0, 1, 2, 17, 45, 60, 6, 7, 8, 9, 10, 11]
noncomputable def b23 : Code := match Try.f23.body with | some c => c | none => .skip
theorem t23 : trCode ⟨Try.prog, K23, [], 91, none⟩ b23 = some c23 := by kernel_rfl
theorem go23 : GoS Try.prog 23 3 K23 [] 91 c23 [.cell (.g 6) (some 6)] := .mk Try.func23 (c := b23) rfl (by kernel_rfl) t23 rfl (by kernel_rfl) rfl rfl

/-- sastrugi/sastrugikit.Same -/
def c28 : ACode :=
  (.seq
(.reg [
.g 4 (.mv (.b false))])
(.seq
(.seq
(.reg [
.l 6 (.mv (.g 0)),
.l 7 (.len (.l 6)),
.l 8 (.mv (.g 1)),
.l 9 (.len (.l 8)),
.g 10 (.bin .neq (.l 7) (.l 9))])
(.cond (.g 10)
(.seq
(.reg [
.g 4 (.mv (.b false))])
.ret)
.skip))
(.seq
(.seq
(.reg [
.g 5 (.mv (.i 0))])
(.block 0
(.loop
(.seq
(.seq
(.reg [
.l 11 (.mv (.g 5)),
.l 12 (.mv (.g 0)),
.l 13 (.len (.l 12)),
.g 14 (.bin .lss (.l 11) (.l 13))])
(.cond (.g 14)
.skip
(.exit 0)))
(.seq
(.block 1
(.seq
(.draw [
.l 17 (.mv (.g 0)) 0,
.l 18 (.mv (.g 5)) 1,
.l 19 (.ia 1 (.l 17) (.l 18)) 2,
.l 20 (.ld none (.l 19)) 3,
.l 21 (.mv (.g 1)) 4,
.l 22 (.mv (.g 5)) 5,
.l 23 (.ia 1 (.l 21) (.l 22)) 6,
.l 24 (.ld none (.l 23)) 7,
.g 25 (.bin .neq (.l 20) (.l 24)) 8])
(.cond (.g 25)
(.seq
(.reg [
.g 4 (.mv (.b false))])
.ret)
.skip)))
(.reg [
.l 15 (.mv (.g 5)),
.l 16 (.bin .add (.l 15) (.i 1)),
.g 5 (.mv (.l 16))]))))))
(.seq
(.reg [
.g 4 (.mv (.b true))])
.ret))))
def K28 : List Nat := [0, 1, 10, 14, 25, 4, 5]
noncomputable def b28 : Code := match Try.f28.body with | some c => c | none => .skip
theorem t28 : trCode ⟨Try.prog, K28, [], 26, none⟩ b28 = some c28 := by kernel_rfl
theorem go28 : GoS Try.prog 28 2 K28 [] 26 c28 [.t (.g 4)] := .mk Try.func28 (c := b28) rfl (by kernel_rfl) t28 rfl (by kernel_rfl) rfl rfl

/-- sastrugi/sastrugikit.PlanOf -/
def c31 : ACode :=
  (.seq
(.reg [
.g 4 (.mv (.c (.lit (.slice none 0 0))))])
(.seq
(.reg [
.g 5 (.mv (.c (.lit (.slice none 0 0))))])
(.seq
(.seq
(.reg [
.g 6 (.mv (.i 0))])
(.block 0
(.loop
(.seq
(.seq
(.reg [
.l 9 (.mv (.g 6)),
.l 10 (.mv (.g 1)),
.g 11 (.bin .lss (.l 9) (.l 10))])
(.cond (.g 11)
.skip
(.exit 0)))
(.seq
(.block 1
(.reg [
.l 14 (.mv (.g 5)),
.l 15 (.mv (.g 6)),
.l 16 (.mks false 1 [.l 15]),
.l 17 (.app 1 8 (.l 14) (.l 16)),
.g 5 (.mv (.l 17))]))
(.reg [
.l 12 (.mv (.g 6)),
.l 13 (.bin .add (.l 12) (.i 1)),
.g 6 (.mv (.l 13))]))))))
(.seq
(.seq
(.reg [
.l 18 (.mv (.g 1)),
.l 19 (.bin .sub (.l 18) (.i 1)),
.g 7 (.mv (.l 19))])
(.block 2
(.loop
(.seq
(.seq
(.reg [
.l 20 (.mv (.g 7)),
.g 21 (.bin .gtr (.l 20) (.i 0))])
(.cond (.g 21)
.skip
(.exit 2)))
(.seq
(.block 3
(.seq
(.reg [
.l 24 (.mv (.g 0)),
.l 25 (.mv (.g 7)),
.l 26 (.bin .add (.l 25) (.i 1)),
.l 27 (.call (.c (.fn 47 [])) [.l 24, .l 26]),
.g 8 (.mv (.l 27))])
(.draw [
.l 28 (.mv (.g 5)) 0,
.l 29 (.mv (.g 7)) 1,
.lf 30 (.mv (.g 5)) 2,
.lf 31 (.mv (.g 8)) 3,
.l 32 (.mv (.g 5)) 4,
.l 33 (.mv (.g 8)) 5,
.l 34 (.ia 1 (.l 32) (.l 33)) 6,
.l 35 (.ld none (.l 34)) 7,
.lf 36 (.mv (.g 5)) 8,
.lf 37 (.mv (.g 7)) 9,
.l 38 (.ia 1 (.l 36) (.l 37)) 10,
.l 39 (.ld none (.l 38)) 11,
.l 40 (.ia 1 (.l 28) (.l 29)) 12,
.nf (.st 1 (.l 40) (.l 35)) 13,
.lf 41 (.ia 1 (.l 30) (.l 31)) 14,
.n (.st 1 (.l 41) (.l 39)) 15])))
(.reg [
.l 22 (.mv (.g 7)),
.l 23 (.bin .sub (.l 22) (.i 1)),
.g 7 (.mv (.l 23))]))))))
(.seq
(.reg [
.l 42 (.mv (.g 5)),
.g 4 (.mv (.l 42))])
.ret)))))
def K31 : List Nat := [0, 1, 11, 21, 4, 5, 6, 7, 8]
noncomputable def b31 : Code := match Try.f31.body with | some c => c | none => .skip
theorem t31 : trCode ⟨Try.prog, K31, [], 43, none⟩ b31 = some c31 := by kernel_rfl
theorem go31 : GoS Try.prog 31 2 K31 [] 43 c31 [.t (.g 4)] := .mk Try.func31 (c := b31) rfl (by kernel_rfl) t31 rfl (by kernel_rfl) rfl rfl

/-- sastrugi/sastrugikit.WinterOf -/
def c35 : ACode :=
  (.seq
(.reg [
.g 3 (.box (.g 1)),
.g 4 (.new [.int .i64 0, .int .i64 0, .slice none 0 0])])
(.seq
(.draw [
.l 7 (.mv (.g 0)) 0,
.l 8 (.fa (.g 3) 0) 1,
.l 9 (.ld (some 2) (.l 8)) 2,
.l 11 (.mv (.g 0)) 4,
.l 12 (.fa (.g 3) 2) 5,
.l 13 (.ld (some 2) (.l 12)) 6,
.g 5 (.new [.int .i64 0, .int .i64 0, .slice none 0 0]) 9,
.lf 10 (.call (.c (.fn 91 [])) [.l 7, .l 9]) 3,
.lf 14 (.call (.c (.fn 91 [])) [.l 11, .l 13]) 7,
.l 15 (.mk [.int .i64 0, .int .i64 0, .slice none 0 0] [(0, 1, .l 10), (1, 1, .l 14)]) 8,
.nx (.st 3 (.g 5) (.l 15)) 10 true [9]])
(.seq
(.seq
(.reg [
.g 6 (.mv (.i 0))])
(.block 0
(.loop
(.seq
(.seq
(.reg [
.l 16 (.mv (.g 6)),
.l 17 (.fa (.g 3) 4),
.l 18 (.ld none (.l 17)),
.l 19 (.len (.l 18)),
.g 20 (.bin .lss (.l 16) (.l 19))])
(.cond (.g 20)
.skip
(.exit 0)))
(.seq
(.block 1
(.draw [
.l 23 (.fa (.g 5) 2) 0,
.l 24 (.ld none (.l 23)) 1,
.l 25 (.mv (.g 0)) 2,
.l 26 (.fa (.g 3) 4) 3,
.l 27 (.ld none (.l 26)) 4,
.l 28 (.mv (.g 6)) 5,
.l 29 (.ia 2 (.l 27) (.l 28)) 6,
.l 30 (.ld (some 2) (.l 29)) 7,
.lf 31 (.call (.c (.fn 91 [])) [.l 25, .l 30]) 8,
.l 32 (.mks false 1 [.l 31]) 9,
.lf 33 (.app 1 8 (.l 24) (.l 32)) 10,
.l 34 (.fa (.g 5) 2) 11,
.n (.st 1 (.l 34) (.l 33)) 12]))
(.reg [
.l 21 (.mv (.g 6)),
.l 22 (.bin .add (.l 21) (.i 1)),
.g 6 (.mv (.l 22))]))))))
(.seq
(.reg [
.l 35 (.ld (some 3) (.g 5)),
.n (.st 3 (.g 4) (.l 35))])
.ret))))
def K35 : List Nat := [0, 1, 20, 4, 3, 5, 6]
noncomputable def b35 : Code := match Try.f35.body with | some c => c | none => .skip
theorem t35 : trCode ⟨Try.prog, K35, [], 36, none⟩ b35 = some c35 := by kernel_rfl
theorem go35 : GoS Try.prog 35 2 K35 [] 36 c35 [.cell (.g 4) (some 3)] := .mk Try.func35 (c := b35) rfl (by kernel_rfl) t35 rfl (by kernel_rfl) rfl rfl

/-- sastrugi/sastrugikit.Own -/
def c37 : ACode :=
  (.seq
(.reg [
.g 2 (.mv (.c (.lit (.slice none 0 0))))])
(.seq
(.reg [
.l 3 (.mks false 1 []),
.l 4 (.mv (.g 0)),
.l 5 (.app 1 8 (.l 3) (.l 4)),
.g 2 (.mv (.l 5))])
.ret))
def K37 : List Nat := [0, 2]
noncomputable def b37 : Code := match Try.f37.body with | some c => c | none => .skip
theorem t37 : trCode ⟨Try.prog, K37, [], 6, none⟩ b37 = some c37 := by kernel_rfl
theorem go37 : GoS Try.prog 37 1 K37 [] 6 c37 [.t (.g 2)] := .mk Try.func37 (c := b37) rfl (by kernel_rfl) t37 rfl (by kernel_rfl) rfl rfl

/-- sastrugi/sastrugikit.SameWays -/
def c40 : ACode :=
  (.seq
(.reg [
.g 4 (.mv (.b false))])
(.seq
(.seq
(.reg [
.l 6 (.mv (.g 0)),
.l 7 (.len (.l 6)),
.l 8 (.mv (.g 1)),
.l 9 (.len (.l 8)),
.g 10 (.bin .neq (.l 7) (.l 9))])
(.cond (.g 10)
(.seq
(.reg [
.g 4 (.mv (.b false))])
.ret)
.skip))
(.seq
(.seq
(.reg [
.g 5 (.mv (.i 0))])
(.block 0
(.loop
(.seq
(.seq
(.reg [
.l 11 (.mv (.g 5)),
.l 12 (.mv (.g 0)),
.l 13 (.len (.l 12)),
.g 14 (.bin .lss (.l 11) (.l 13))])
(.cond (.g 14)
.skip
(.exit 0)))
(.seq
(.block 1
(.seq
(.draw [
.l 17 (.mv (.g 0)) 0,
.l 18 (.mv (.g 5)) 1,
.l 19 (.ia 1 (.l 17) (.l 18)) 2,
.l 20 (.ld none (.l 19)) 3,
.l 21 (.mv (.g 1)) 4,
.l 22 (.mv (.g 5)) 5,
.l 23 (.ia 1 (.l 21) (.l 22)) 6,
.l 24 (.ld none (.l 23)) 7,
.lf 25 (.call (.c (.fn 28 [])) [.l 20, .l 24]) 8,
.g 26 (.un .not (.l 25)) 9])
(.cond (.g 26)
(.seq
(.reg [
.g 4 (.mv (.b false))])
.ret)
.skip)))
(.reg [
.l 15 (.mv (.g 5)),
.l 16 (.bin .add (.l 15) (.i 1)),
.g 5 (.mv (.l 16))]))))))
(.seq
(.reg [
.g 4 (.mv (.b true))])
.ret))))
def K40 : List Nat := [0, 1, 10, 14, 26, 4, 5]
noncomputable def b40 : Code := match Try.f40.body with | some c => c | none => .skip
theorem t40 : trCode ⟨Try.prog, K40, [], 27, none⟩ b40 = some c40 := by kernel_rfl
theorem go40 : GoS Try.prog 40 2 K40 [] 27 c40 [.t (.g 4)] := .mk Try.func40 (c := b40) rfl (by kernel_rfl) t40 rfl (by kernel_rfl) rfl rfl

/-- sastrugi/sastrugikit.WayOf -/
def c42 : ACode :=
  (.seq
(.reg [
.g 4 (.box (.g 1)),
.g 5 (.box (.g 2)),
.g 6 (.mv (.c (.lit (.slice none 0 0))))])
(.seq
(.reg [
.l 16 (.fa (.g 4) 5),
.l 17 (.ld none (.l 16)),
.l 18 (.len (.l 17)),
.l 19 (.mksl 1 24 [.slice none 0 0] (.l 18) (.l 18)),
.g 7 (.mv (.l 19))])
(.seq
(.reg [
.l 20 (.fa (.g 4) 5),
.l 21 (.ld none (.l 20)),
.l 22 (.len (.l 21)),
.l 23 (.mksl 1 8 [.int .i64 0] (.l 22) (.l 22)),
.g 8 (.mv (.l 23))])
(.seq
(.seq
(.reg [
.g 9 (.mv (.i 0))])
(.block 0
(.loop
(.seq
(.seq
(.reg [
.l 24 (.mv (.g 9)),
.l 25 (.fa (.g 4) 5),
.l 26 (.ld none (.l 25)),
.l 27 (.len (.l 26)),
.g 28 (.bin .lss (.l 24) (.l 27))])
(.cond (.g 28)
.skip
(.exit 0)))
(.seq
(.block 1
(.draw [
.l 31 (.mv (.g 8)) 0,
.l 32 (.mv (.g 9)) 1,
.lf 33 (.mv (.g 7)) 2,
.lf 34 (.mv (.g 9)) 3,
.l 35 (.fa (.g 4) 5) 4,
.l 36 (.ld none (.l 35)) 5,
.l 37 (.mv (.g 9)) 6,
.l 38 (.ia 4 (.l 36) (.l 37)) 7,
.l 39 (.fa (.l 38) 0) 8,
.l 40 (.ld none (.l 39)) 9,
.lf 41 (.fa (.g 5) 2) 10,
.lf 42 (.ld none (.l 41)) 11,
.lf 43 (.len (.l 42)) 12,
.lf 44 (.newl 1 8 [.int .i64 0] (.l 43) (.l 43)) 13,
.l 45 (.ia 1 (.l 31) (.l 32)) 14,
.nf (.st 1 (.l 45) (.l 40)) 15,
.lx 46 (.ia 1 (.l 33) (.l 34)) 16 false [13],
.nx (.st 1 (.l 46) (.l 44)) 17 true [13]]))
(.reg [
.l 29 (.mv (.g 9)),
.l 30 (.bin .add (.l 29) (.i 1)),
.g 9 (.mv (.l 30))]))))))
(.seq
(.reg [
.l 47 (.mv (.g 0)),
.l 48 (.call (.c (.fn 56 [])) [.l 47, .i 3]),
.g 10 (.mv (.l 48))])
(.seq
(.seq
(.reg [
.g 11 (.mv (.i 0))])
(.block 2
(.loop
(.seq
(.seq
(.reg [
.l 49 (.mv (.g 11)),
.l 50 (.fa (.g 5) 2),
.l 51 (.ld none (.l 50)),
.l 52 (.len (.l 51)),
.g 53 (.bin .lss (.l 49) (.l 52))])
(.cond (.g 53)
.skip
(.exit 2)))
(.seq
(.block 3
(.seq
(.reg [
.l 56 (.ld (some 3) (.g 5)),
.l 57 (.mv (.g 11)),
.l 58 (.call (.c (.fn 44 [])) [.l 56, .l 57]),
.g 12 (.mv (.l 58))])
(.seq
(.reg [
.l 59 (.mv (.g 0)),
.l 60 (.fa (.g 4) 5),
.l 61 (.ld none (.l 60)),
.l 62 (.len (.l 61)),
.l 63 (.call (.c (.fn 31 [])) [.l 59, .l 62]),
.g 13 (.mv (.l 63))])
(.seq
(.reg [
.g 14 (.mv (.i 0))])
(.block 4
(.loop
(.seq
(.seq
(.reg [
.l 64 (.mv (.g 14)),
.l 65 (.mv (.g 13)),
.l 66 (.len (.l 65)),
.g 67 (.bin .lss (.l 64) (.l 66))])
(.cond (.g 67)
.skip
(.exit 4)))
(.seq
(.block 5
(.seq
(.reg [
.l 70 (.mv (.g 12)),
.l 71 (.mv (.g 8)),
.l 72 (.mv (.g 13)),
.l 73 (.mv (.g 14)),
.l 74 (.ia 1 (.l 72) (.l 73)),
.l 75 (.ld none (.l 74)),
.l 76 (.ia 1 (.l 71) (.l 75)),
.l 77 (.ld none (.l 76)),
.l 78 (.mn [.l 70, .l 77]),
.g 15 (.mv (.l 78))])
(.seq
(.seq
(.reg [
.l 79 (.mv (.g 10)),
.l 80 (.mv (.l 79)),
.lw 81 (.mv (.g 0)) (.l 80) false,
.lw 82 (.call (.c (.fn 56 [])) [.l 81, .i 4]) (.l 80) false,
.g 83 (.pick (.l 80) (.b true) (.l 82))])
(.cond (.g 83)
(.reg [
.l 84 (.mv (.g 0)),
.l 85 (.mv (.g 15)),
.l 86 (.bin .add (.l 85) (.i 1)),
.l 87 (.call (.c (.fn 47 [])) [.l 84, .l 86]),
.g 15 (.mv (.l 87))])
.skip))
(.seq
(.reg [
.l 88 (.mv (.g 7)),
.l 89 (.mv (.g 13)),
.l 90 (.mv (.g 14)),
.l 91 (.ia 1 (.l 89) (.l 90)),
.l 92 (.ld none (.l 91)),
.l 93 (.ia 1 (.l 88) (.l 92)),
.l 94 (.ld none (.l 93)),
.l 95 (.mv (.g 11)),
.l 96 (.mv (.g 15)),
.l 97 (.ia 1 (.l 94) (.l 95)),
.n (.st 1 (.l 97) (.l 96))])
(.draw [
.l 98 (.mv (.g 8)) 0,
.l 99 (.mv (.g 13)) 1,
.l 100 (.mv (.g 14)) 2,
.l 101 (.ia 1 (.l 99) (.l 100)) 3,
.l 102 (.ld none (.l 101)) 4,
.l 103 (.mv (.g 8)) 5,
.l 104 (.mv (.g 13)) 6,
.l 105 (.mv (.g 14)) 7,
.l 106 (.ia 1 (.l 104) (.l 105)) 8,
.l 107 (.ld none (.l 106)) 9,
.l 108 (.ia 1 (.l 103) (.l 107)) 10,
.l 109 (.ld none (.l 108)) 11,
.l 110 (.mv (.g 15)) 12,
.l 111 (.bin .sub (.l 109) (.l 110)) 13,
.lf 112 (.mv (.g 12)) 14,
.lf 113 (.mv (.g 15)) 15,
.lf 114 (.bin .sub (.l 112) (.l 113)) 16,
.l 115 (.ia 1 (.l 98) (.l 102)) 17,
.nf (.st 1 (.l 115) (.l 111)) 18,
.gf 12 (.mv (.l 114)) 19])))))
(.reg [
.l 68 (.mv (.g 14)),
.l 69 (.bin .add (.l 68) (.i 1)),
.g 14 (.mv (.l 69))])))))))))
(.reg [
.l 54 (.mv (.g 11)),
.l 55 (.bin .add (.l 54) (.i 1)),
.g 11 (.mv (.l 55))]))))))
(.seq
(.reg [
.l 116 (.mv (.g 7)),
.g 6 (.mv (.l 116))])
.ret)))))))
def K42 : List Nat := [0, 1, 2, 28, 53, 67, 83, 6, 4, 5, 7, 8, 9, 10, 11, 12, 13, 14, 15]
noncomputable def b42 : Code := match Try.f42.body with | some c => c | none => .skip
theorem t42 : trCode ⟨Try.prog, K42, [], 117, none⟩ b42 = some c42 := by kernel_rfl
theorem go42 : GoS Try.prog 42 3 K42 [] 117 c42 [.t (.g 6)] := .mk Try.func42 (c := b42) rfl (by kernel_rfl) t42 rfl (by kernel_rfl) rfl rfl

/-- sastrugi/sastrugikit.Room -/
def c44 : ACode :=
  (.seq
(.reg [
.g 2 (.box (.g 0)),
.g 4 (.mv (.i 0))])
(.seq
(.seq
(.reg [
.l 5 (.mv (.g 1)),
.l 6 (.fa (.g 2) 0),
.l 7 (.ld none (.l 6)),
.l 8 (.bin .lss (.l 5) (.l 7)),
.l 9 (.mv (.l 8)),
.lw 10 (.mv (.g 1)) (.l 9) false,
.lw 11 (.fa (.g 2) 1) (.l 9) false,
.lw 12 (.ld none (.l 11)) (.l 9) false,
.lw 13 (.bin .gtr (.l 10) (.l 12)) (.l 9) false,
.l 14 (.pick (.l 9) (.b true) (.l 13)),
.l 15 (.mv (.l 14)),
.lw 16 (.mv (.g 1)) (.l 15) false,
.lw 17 (.bin .lss (.l 16) (.i 0)) (.l 15) false,
.l 18 (.pick (.l 15) (.b true) (.l 17)),
.l 19 (.mv (.l 18)),
.lw 20 (.mv (.g 1)) (.l 19) false,
.lw 21 (.fa (.g 2) 2) (.l 19) false,
.lw 22 (.ld none (.l 21)) (.l 19) false,
.lw 23 (.len (.l 22)) (.l 19) false,
.lw 24 (.bin .geq (.l 20) (.l 23)) (.l 19) false,
.g 25 (.pick (.l 19) (.b true) (.l 24))])
(.cond (.g 25)
(.seq
(.reg [
.g 4 (.mv (.i 0))])
.ret)
.skip))
(.seq
(.reg [
.l 26 (.fa (.g 2) 2),
.l 27 (.ld none (.l 26)),
.l 28 (.mv (.g 1)),
.l 29 (.ia 1 (.l 27) (.l 28)),
.l 30 (.ld none (.l 29)),
.g 4 (.mv (.l 30))])
.ret)))
def K44 : List Nat := [0, 1, 25, 4, 2]
noncomputable def b44 : Code := match Try.f44.body with | some c => c | none => .skip
theorem t44 : trCode ⟨Try.prog, K44, [], 31, none⟩ b44 = some c44 := by kernel_rfl
theorem go44 : GoS Try.prog 44 2 K44 [] 31 c44 [.t (.g 4)] := .mk Try.func44 (c := b44) rfl (by kernel_rfl) t44 rfl (by kernel_rfl) rfl rfl

/-- (*sastrugi/sastrugikit.Seed).From -/
def c45 : ACode :=
  (.seq
(.reg [
.g 6 (.mv (.i 0))])
(.seq
(.reg [
.l 7 (.mv (.g 1)),
.l 8 (.mv (.g 0)),
.l 9 (.mv (.g 2)),
.l 10 (.mv (.g 1)),
.l 11 (.bin .sub (.l 9) (.l 10)),
.l 12 (.bin .add (.l 11) (.i 1)),
.l 13 (.call (.c (.fn 47 [])) [.l 8, .l 12]),
.l 14 (.bin .add (.l 7) (.l 13)),
.g 6 (.mv (.l 14))])
.ret))
def K45 : List Nat := [0, 1, 2, 6]
noncomputable def b45 : Code := match Try.f45.body with | some c => c | none => .skip
theorem t45 : trCode ⟨Try.prog, K45, [], 15, none⟩ b45 = some c45 := by kernel_rfl
theorem go45 : GoS Try.prog 45 3 K45 [] 15 c45 [.t (.g 6)] := .mk Try.func45 (c := b45) rfl (by kernel_rfl) t45 rfl (by kernel_rfl) rfl rfl

/-- (*sastrugi/sastrugikit.Seed).Of -/
def c46 : ACode :=
  (.seq
(.reg [
.g 4 (.mv (.i 0))])
(.seq
(.seq
(.reg [
.l 5 (.mv (.g 1)),
.l 6 (.len (.l 5)),
.g 7 (.bin .eql (.l 6) (.i 0))])
(.cond (.g 7)
(.seq
(.reg [
.g 4 (.mv (.i 0))])
.ret)
.skip))
(.seq
(.reg [
.l 8 (.mv (.g 1)),
.l 9 (.mv (.g 0)),
.l 10 (.mv (.g 1)),
.l 11 (.len (.l 10)),
.l 12 (.call (.c (.fn 47 [])) [.l 9, .l 11]),
.l 13 (.ia 1 (.l 8) (.l 12)),
.l 14 (.ld none (.l 13)),
.g 4 (.mv (.l 14))])
.ret)))
def K46 : List Nat := [0, 1, 7, 4]
noncomputable def b46 : Code := match Try.f46.body with | some c => c | none => .skip
theorem t46 : trCode ⟨Try.prog, K46, [], 15, none⟩ b46 = some c46 := by kernel_rfl
theorem go46 : GoS Try.prog 46 2 K46 [] 15 c46 [.t (.g 4)] := .mk Try.func46 (c := b46) rfl (by kernel_rfl) t46 rfl (by kernel_rfl) rfl rfl

/-- (*sastrugi/sastrugikit.Seed).Below -/
def c47 : ACode :=
  (.seq
(.reg [
.g 4 (.mv (.i 0))])
(.seq
(.seq
(.reg [
.l 5 (.mv (.g 1)),
.g 6 (.bin .lss (.l 5) (.i 2))])
(.cond (.g 6)
(.seq
(.reg [
.g 4 (.mv (.i 0))])
.ret)
.skip))
(.seq
(.reg [
.l 7 (.mv (.g 0)),
.l 8 (.call (.c (.fn 69 [])) [.l 7]),
.l 9 (.bin .shr (.l 8) (.c (.lit (.int .u64 1)))),
.l 10 (.mv (.g 1)),
.l 11 (.cv .u64 (.l 10)),
.l 12 (.bin .rem (.l 9) (.l 11)),
.l 13 (.cv .i64 (.l 12)),
.g 4 (.mv (.l 13))])
.ret)))
def K47 : List Nat := [0, 1, 6, 4]
noncomputable def b47 : Code := match Try.f47.body with | some c => c | none => .skip
theorem t47 : trCode ⟨Try.prog, K47, [], 14, none⟩ b47 = some c47 := by kernel_rfl
theorem go47 : GoS Try.prog 47 2 K47 [] 14 c47 [.t (.g 4)] := .mk Try.func47 (c := b47) rfl (by kernel_rfl) t47 rfl (by kernel_rfl) rfl rfl

/-- sastrugi/sastrugilaw08.span -/
def c53 : ACode :=
  (.seq
(.reg [
.g 4 (.new [.int .i64 0, .int .i64 0])])
(.seq
(.reg [
.l 5 (.mv (.g 0)),
.l 6 (.mv (.g 1)),
.l 7 (.mk [.int .i64 0, .int .i64 0] [(0, 1, .l 5), (1, 1, .l 6)]),
.n (.st 2 (.g 4) (.l 7))])
.ret))
def K53 : List Nat := [0, 1, 4]
noncomputable def b53 : Code := match Try.f53.body with | some c => c | none => .skip
theorem t53 : trCode ⟨Try.prog, K53, [], 8, none⟩ b53 = some c53 := by kernel_rfl
theorem go53 : GoS Try.prog 53 2 K53 [] 8 c53 [.cell (.g 4) (some 2)] := .mk Try.func53 (c := b53) rfl (by kernel_rfl) t53 rfl (by kernel_rfl) rfl rfl

/-- (*sastrugi/sastrugikit.Seed).Part -/
def c54 : ACode :=
  (.seq
(.reg [
.g 3 (.box (.g 1)),
.g 4 (.new [.int .i64 0, .int .i64 0])])
(.seq
(.draw [
.l 7 (.mv (.g 0)) 0,
.l 8 (.ld (some 2) (.g 3)) 1,
.l 10 (.mv (.g 0)) 3,
.l 11 (.ld (some 2) (.g 3)) 4,
.lf 9 (.call (.c (.fn 91 [])) [.l 7, .l 8]) 2,
.lf 12 (.call (.c (.fn 91 [])) [.l 10, .l 11]) 5,
.g 5 (.mv (.l 9)) 6,
.g 6 (.mv (.l 12)) 7])
(.seq
(.reg [
.l 13 (.mv (.g 5)),
.l 14 (.mv (.g 6)),
.l 15 (.mn [.l 13, .l 14]),
.l 16 (.mv (.g 5)),
.l 17 (.mv (.g 6)),
.l 18 (.mx [.l 16, .l 17]),
.l 19 (.mk [.int .i64 0, .int .i64 0] [(0, 1, .l 15), (1, 1, .l 18)]),
.n (.st 2 (.g 4) (.l 19))])
.ret)))
def K54 : List Nat := [0, 1, 4, 3, 5, 6]
noncomputable def b54 : Code := match Try.f54.body with | some c => c | none => .skip
theorem t54 : trCode ⟨Try.prog, K54, [], 20, none⟩ b54 = some c54 := by kernel_rfl
theorem go54 : GoS Try.prog 54 2 K54 [] 20 c54 [.cell (.g 4) (some 2)] := .mk Try.func54 (c := b54) rfl (by kernel_rfl) t54 rfl (by kernel_rfl) rfl rfl

/-- (*sastrugi/sastrugikit.Seed).Yes -/
def c56 : ACode :=
  (.seq
(.reg [
.g 4 (.mv (.b false))])
(.seq
(.reg [
.l 5 (.mv (.g 0)),
.l 6 (.mv (.g 1)),
.l 7 (.call (.c (.fn 47 [])) [.l 5, .l 6]),
.l 8 (.bin .eql (.l 7) (.i 0)),
.g 4 (.mv (.l 8))])
.ret))
def K56 : List Nat := [0, 1, 4]
noncomputable def b56 : Code := match Try.f56.body with | some c => c | none => .skip
theorem t56 : trCode ⟨Try.prog, K56, [], 9, none⟩ b56 = some c56 := by kernel_rfl
theorem go56 : GoS Try.prog 56 2 K56 [] 9 c56 [.t (.g 4)] := .mk Try.func56 (c := b56) rfl (by kernel_rfl) t56 rfl (by kernel_rfl) rfl rfl

/-- sastrugi/sastrugikit.OwnCourse -/
def c57 : ACode :=
  (.seq
(.reg [
.g 2 (.mv (.c (.lit (.slice none 0 0))))])
(.seq
(.reg [
.g 3 (.mv (.c (.lit (.slice none 0 0))))])
(.seq
(.seq
(.reg [
.g 4 (.mv (.i 0))])
(.block 0
(.loop
(.seq
(.seq
(.reg [
.l 5 (.mv (.g 4)),
.l 6 (.mv (.g 0)),
.l 7 (.len (.l 6)),
.g 8 (.bin .lss (.l 5) (.l 7))])
(.cond (.g 8)
.skip
(.exit 0)))
(.seq
(.block 1
(.reg [
.l 11 (.mv (.g 3)),
.l 12 (.mv (.g 0)),
.l 13 (.mv (.g 4)),
.l 14 (.ia 1 (.l 12) (.l 13)),
.l 15 (.ld none (.l 14)),
.l 16 (.call (.c (.fn 37 [])) [.l 15]),
.l 17 (.mks false 1 [.l 16]),
.l 18 (.app 1 24 (.l 11) (.l 17)),
.g 3 (.mv (.l 18))]))
(.reg [
.l 9 (.mv (.g 4)),
.l 10 (.bin .add (.l 9) (.i 1)),
.g 4 (.mv (.l 10))]))))))
(.seq
(.reg [
.l 19 (.mv (.g 3)),
.g 2 (.mv (.l 19))])
.ret))))
def K57 : List Nat := [0, 8, 2, 3, 4]
noncomputable def b57 : Code := match Try.f57.body with | some c => c | none => .skip
theorem t57 : trCode ⟨Try.prog, K57, [], 20, none⟩ b57 = some c57 := by kernel_rfl
theorem go57 : GoS Try.prog 57 1 K57 [] 20 c57 [.t (.g 2)] := .mk Try.func57 (c := b57) rfl (by kernel_rfl) t57 rfl (by kernel_rfl) rfl rfl

/-- sastrugi/sastrugikit.SameDeliveries -/
def c61 : ACode :=
  (.seq
(.reg [
.g 4 (.mv (.b false))])
(.seq
(.seq
(.reg [
.l 6 (.mv (.g 0)),
.l 7 (.len (.l 6)),
.l 8 (.mv (.g 1)),
.l 9 (.len (.l 8)),
.g 10 (.bin .neq (.l 7) (.l 9))])
(.cond (.g 10)
(.seq
(.reg [
.g 4 (.mv (.b false))])
.ret)
.skip))
(.seq
(.seq
(.reg [
.g 5 (.mv (.i 0))])
(.block 0
(.loop
(.seq
(.seq
(.reg [
.l 11 (.mv (.g 5)),
.l 12 (.mv (.g 0)),
.l 13 (.len (.l 12)),
.g 14 (.bin .lss (.l 11) (.l 13))])
(.cond (.g 14)
.skip
(.exit 0)))
(.seq
(.block 1
(.seq
(.draw [
.l 17 (.mv (.g 0)) 0,
.l 18 (.mv (.g 5)) 1,
.l 19 (.ia 4 (.l 17) (.l 18)) 2,
.l 20 (.ld (some 4) (.l 19)) 3,
.l 21 (.mv (.g 1)) 4,
.l 22 (.mv (.g 5)) 5,
.l 23 (.ia 4 (.l 21) (.l 22)) 6,
.l 24 (.ld (some 4) (.l 23)) 7,
.g 25 (.eqs true (.fld 0 none .i (.fld 1 none .i (.fld 2 none .i (.fld 3 none .i .nil)))) (.l 20) (.l 24)) 8])
(.cond (.g 25)
(.seq
(.reg [
.g 4 (.mv (.b false))])
.ret)
.skip)))
(.reg [
.l 15 (.mv (.g 5)),
.l 16 (.bin .add (.l 15) (.i 1)),
.g 5 (.mv (.l 16))]))))))
(.seq
(.reg [
.g 4 (.mv (.b true))])
.ret))))
def K61 : List Nat := [0, 1, 10, 14, 25, 4, 5]
noncomputable def b61 : Code := match Try.f61.body with | some c => c | none => .skip
theorem t61 : trCode ⟨Try.prog, K61, [], 26, none⟩ b61 = some c61 := by kernel_rfl
theorem go61 : GoS Try.prog 61 2 K61 [] 26 c61 [.t (.g 4)] := .mk Try.func61 (c := b61) rfl (by kernel_rfl) t61 rfl (by kernel_rfl) rfl rfl

/-- (*sastrugi/sastrugikit.Seed).next -/
def c69 : ACode :=
  (.seq
(.reg [
.g 2 (.mv (.c (.lit (.int .u64 0))))])
(.seq
(.reg [
.l 4 (.mv (.g 0)),
.l 5 (.mv (.g 0)),
.l 6 (.nilc (.l 5)),
.l 7 (.fa (.l 6) 0),
.l 8 (.ld none (.l 7)),
.l 9 (.bin .add (.l 8) (.c (.lit (.int .u64 11400714819323198485)))),
.l 10 (.nilc (.l 4)),
.l 11 (.fa (.l 10) 0),
.n (.st 1 (.l 11) (.l 9))])
(.seq
(.reg [
.l 12 (.mv (.g 0)),
.l 13 (.nilc (.l 12)),
.l 14 (.fa (.l 13) 0),
.l 15 (.ld none (.l 14)),
.g 3 (.mv (.l 15))])
(.seq
(.reg [
.l 16 (.mv (.g 3)),
.l 17 (.mv (.g 3)),
.l 18 (.bin .shr (.l 17) (.c (.lit (.int .u64 30)))),
.l 19 (.bin .xor (.l 16) (.l 18)),
.l 20 (.bin .mul (.l 19) (.c (.lit (.int .u64 13787848793156543929)))),
.g 3 (.mv (.l 20))])
(.seq
(.reg [
.l 21 (.mv (.g 3)),
.l 22 (.mv (.g 3)),
.l 23 (.bin .shr (.l 22) (.c (.lit (.int .u64 27)))),
.l 24 (.bin .xor (.l 21) (.l 23)),
.l 25 (.bin .mul (.l 24) (.c (.lit (.int .u64 10723151780598845931)))),
.g 3 (.mv (.l 25))])
(.seq
(.reg [
.l 26 (.mv (.g 3)),
.l 27 (.mv (.g 3)),
.l 28 (.bin .shr (.l 27) (.c (.lit (.int .u64 31)))),
.l 29 (.bin .xor (.l 26) (.l 28)),
.g 2 (.mv (.l 29))])
.ret))))))
def K69 : List Nat := [0, 2, 3]
noncomputable def b69 : Code := match Try.f69.body with | some c => c | none => .skip
theorem t69 : trCode ⟨Try.prog, K69, [], 30, none⟩ b69 = some c69 := by kernel_rfl
theorem go69 : GoS Try.prog 69 1 K69 [] 30 c69 [.t (.g 2)] := .mk Try.func69 (c := b69) rfl (by kernel_rfl) t69 rfl (by kernel_rfl) rfl rfl

/-- (*sastrugi/sastrugikit.Seed).Span -/
def c70 : ACode :=
  (.seq
(.reg [
.g 6 (.new [.int .i64 0, .int .i64 0])])
(.seq
(.reg [
.l 8 (.mv (.g 0)),
.l 9 (.mv (.g 1)),
.l 10 (.mv (.g 2)),
.l 11 (.call (.c (.fn 45 [])) [.l 8, .l 9, .l 10]),
.l 12 (.mk [.int .i64 0, .int .i64 0] [(0, 1, .l 11)]),
.g 7 (.new [.int .i64 0, .int .i64 0]),
.n (.st 2 (.g 7) (.l 12))])
(.seq
(.reg [
.l 13 (.fa (.g 7) 0),
.l 14 (.ld none (.l 13)),
.l 15 (.fa (.g 7) 1),
.n (.st 1 (.l 15) (.l 14))])
(.seq
(.seq
(.reg [
.l 16 (.mv (.g 0)),
.g 17 (.call (.c (.fn 47 [])) [.l 16, .i 3])])
(.block 0
(.seq
(.reg [
.l 19 (.bin .eql (.g 17) (.i 0)),
.g 18 (.mv (.l 19))])
(.cond (.g 18)
(.reg [
.l 20 (.mv (.g 0)),
.l 21 (.fa (.g 7) 0),
.l 22 (.ld none (.l 21)),
.l 23 (.mv (.g 2)),
.l 24 (.fa (.g 7) 0),
.l 25 (.ld none (.l 24)),
.l 26 (.bin .add (.l 25) (.i 1)),
.l 27 (.mv (.g 2)),
.l 28 (.mv (.g 1)),
.l 29 (.bin .sub (.l 27) (.l 28)),
.l 30 (.bin .quo (.l 29) (.i 10)),
.l 31 (.bin .add (.l 26) (.l 30)),
.l 32 (.mn [.l 23, .l 31]),
.l 33 (.call (.c (.fn 45 [])) [.l 20, .l 22, .l 32]),
.l 34 (.fa (.g 7) 1),
.n (.st 1 (.l 34) (.l 33))])
(.seq
(.reg [
.l 36 (.bin .eql (.g 17) (.i 1)),
.g 35 (.mv (.l 36))])
(.cond (.g 35)
(.reg [
.l 37 (.mv (.g 0)),
.l 38 (.fa (.g 7) 0),
.l 39 (.ld none (.l 38)),
.l 40 (.mv (.g 2)),
.l 41 (.call (.c (.fn 45 [])) [.l 37, .l 39, .l 40]),
.l 42 (.fa (.g 7) 1),
.n (.st 1 (.l 42) (.l 41))])
.skip))))))
(.seq
(.reg [
.l 43 (.ld (some 2) (.g 7)),
.n (.st 2 (.g 6) (.l 43))])
.ret)))))
def K70 : List Nat := [0, 1, 2, 18, 35, 6, 7, 17]
noncomputable def b70 : Code := match Try.f70.body with | some c => c | none => .skip
theorem t70 : trCode ⟨Try.prog, K70, [], 44, none⟩ b70 = some c70 := by kernel_rfl
theorem go70 : GoS Try.prog 70 3 K70 [] 44 c70 [.cell (.g 6) (some 2)] := .mk Try.func70 (c := b70) rfl (by kernel_rfl) t70 rfl (by kernel_rfl) rfl rfl

end Go.Sas
