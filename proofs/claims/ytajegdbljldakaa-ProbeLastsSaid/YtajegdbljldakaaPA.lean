/-
The code of some functions with its types resolved, printed by a program; that it is the code is checked by the kernel.
The code of some functions with its types resolved, printed by a program; that it is the code is checked by the kernel.
Conditions: none.
-/
import Derived.Test.YtajegdbljldakaaP4
import Derived.Test.YtajegdbljldakaaProg
set_option linter.unusedVariables false
set_option linter.unusedSimpArgs false
namespace Go.Sas
open Go.Proofs
set_option maxRecDepth 100000
/-- sastrugi/sastrugikit.NewSeed -/
def c17 : ACode :=
  (.seq
(.reg [
.g 2 (.mv (.c (.lit (.pointer none))))])
(.seq
(.reg [
.l 5 (.mk [.int .u64 0] [(0, 1, .c (.lit (.int .u64 1)))]),
.l 6 (.box (.l 5)),
.g 3 (.mv (.l 6))])
(.seq
(.seq
(.reg [
.g 4 (.mv (.i 0))])
(.block 0
(.loop
(.seq
(.seq
(.reg [
.l 7 (.mv (.g 4)),
.l 8 (.mv (.g 0)),
.l 9 (.len (.l 8)),
.g 10 (.bin .lss (.l 7) (.l 9))])
(.cond (.g 10)
.skip
(.exit 0)))
(.seq
(.block 1
(.seq
(.draw [
.l 13 (.mv (.g 3)) 0,
.l 14 (.mv (.g 3)) 1,
.l 15 (.nilc (.l 14)) 2,
.l 16 (.fa (.l 15) 0) 3,
.l 17 (.ld none (.l 16)) 4,
.l 18 (.bin .mul (.l 17) (.c (.lit (.int .u64 6364136223846793005)))) 5,
.l 19 (.mv (.g 0)) 6,
.l 20 (.mv (.g 4)) 7,
.l 21 (.ia 1 (.l 19) (.l 20)) 8,
.l 22 (.ld none (.l 21)) 9,
.l 23 (.cv .u64 (.l 22)) 10,
.l 24 (.bin .add (.l 18) (.l 23)) 11,
.l 25 (.bin .add (.l 24) (.c (.lit (.int .u64 1442695040888963407)))) 12,
.l 26 (.nilc (.l 13)) 13,
.l 27 (.fa (.l 26) 0) 14,
.n (.st 1 (.l 27) (.l 25)) 15])
(.reg [
.l 28 (.mv (.g 3)),
.l 29 (.call (.c (.fn 69 [])) [.l 28])])))
(.reg [
.l 11 (.mv (.g 4)),
.l 12 (.bin .add (.l 11) (.i 1)),
.g 4 (.mv (.l 12))]))))))
(.seq
(.reg [
.l 30 (.mv (.g 3)),
.g 2 (.mv (.l 30))])
.ret))))
def K17 : List Nat := [0, 10, 2, 3, 4]
noncomputable def b17 : Code := match Try.f17.body with | some c => c | none => .skip
theorem t17 : trCode ⟨Try.prog, K17, [], 31, none⟩ b17 = some c17 := by kernel_rfl
theorem go17 : GoS Try.prog 17 1 K17 [] 31 c17 [.t (.g 2)] := .mk Try.func17 (c := b17) rfl (by kernel_rfl) t17 rfl (by kernel_rfl) rfl rfl
/-- (*sastrugi/sastrugikit.Seed).From -/
def c22 : ACode :=
  (.seq
(.reg [
.g 6 (.mv (.i 0))])
(.seq
(.reg [
.l 7 (.mv (.g 1)),
.l 8 (.mv (.g 0)),
.l 9 (.mv (.g 2)),
.l 10 (.mv (.g 1)),
.l 11 (.bin .sub (.l 9) (.l 10)),
.l 12 (.bin .add (.l 11) (.i 1)),
.l 13 (.call (.c (.fn 23 [])) [.l 8, .l 12]),
.l 14 (.bin .add (.l 7) (.l 13)),
.g 6 (.mv (.l 14))])
.ret))
def K22 : List Nat := [0, 1, 2, 6]
noncomputable def b22 : Code := match Try.f22.body with | some c => c | none => .skip
theorem t22 : trCode ⟨Try.prog, K22, [], 15, none⟩ b22 = some c22 := by kernel_rfl
theorem go22 : GoS Try.prog 22 3 K22 [] 15 c22 [.t (.g 6)] := .mk Try.func22 (c := b22) rfl (by kernel_rfl) t22 rfl (by kernel_rfl) rfl rfl
/-- (*sastrugi/sastrugikit.Seed).Below -/
def c23 : ACode :=
  (.seq
(.reg [
.g 4 (.mv (.i 0))])
(.seq
(.seq
(.reg [
.l 5 (.mv (.g 1)),
.g 6 (.bin .lss (.l 5) (.i 2))])
(.cond (.g 6)
(.seq
(.reg [
.g 4 (.mv (.i 0))])
.ret)
.skip))
(.seq
(.reg [
.l 7 (.mv (.g 0)),
.l 8 (.call (.c (.fn 69 [])) [.l 7]),
.l 9 (.bin .shr (.l 8) (.c (.lit (.int .u64 1)))),
.l 10 (.mv (.g 1)),
.l 11 (.cv .u64 (.l 10)),
.l 12 (.bin .rem (.l 9) (.l 11)),
.l 13 (.cv .i64 (.l 12)),
.g 4 (.mv (.l 13))])
.ret)))
def K23 : List Nat := [0, 1, 6, 4]
noncomputable def b23 : Code := match Try.f23.body with | some c => c | none => .skip
theorem t23 : trCode ⟨Try.prog, K23, [], 14, none⟩ b23 = some c23 := by kernel_rfl
theorem go23 : GoS Try.prog 23 2 K23 [] 14 c23 [.t (.g 4)] := .mk Try.func23 (c := b23) rfl (by kernel_rfl) t23 rfl (by kernel_rfl) rfl rfl
/-- (*sastrugi/sastrugikit.Seed).Of -/
def c56 : ACode :=
  (.seq
(.reg [
.g 4 (.mv (.i 0))])
(.seq
(.seq
(.reg [
.l 5 (.mv (.g 1)),
.l 6 (.len (.l 5)),
.g 7 (.bin .eql (.l 6) (.i 0))])
(.cond (.g 7)
(.seq
(.reg [
.g 4 (.mv (.i 0))])
.ret)
.skip))
(.seq
(.reg [
.l 8 (.mv (.g 1)),
.l 9 (.mv (.g 0)),
.l 10 (.mv (.g 1)),
.l 11 (.len (.l 10)),
.l 12 (.call (.c (.fn 23 [])) [.l 9, .l 11]),
.l 13 (.ia 1 (.l 8) (.l 12)),
.l 14 (.ld none (.l 13)),
.g 4 (.mv (.l 14))])
.ret)))
def K56 : List Nat := [0, 1, 7, 4]
noncomputable def b56 : Code := match Try.f56.body with | some c => c | none => .skip
theorem t56 : trCode ⟨Try.prog, K56, [], 15, none⟩ b56 = some c56 := by kernel_rfl
theorem go56 : GoS Try.prog 56 2 K56 [] 15 c56 [.t (.g 4)] := .mk Try.func56 (c := b56) rfl (by kernel_rfl) t56 rfl (by kernel_rfl) rfl rfl
/-- (*sastrugi/sastrugikit.Seed).Yes -/
def c63 : ACode :=
  (.seq
(.reg [
.g 4 (.mv (.b false))])
(.seq
(.reg [
.l 5 (.mv (.g 0)),
.l 6 (.mv (.g 1)),
.l 7 (.call (.c (.fn 23 [])) [.l 5, .l 6]),
.l 8 (.bin .eql (.l 7) (.i 0)),
.g 4 (.mv (.l 8))])
.ret))
def K63 : List Nat := [0, 1, 4]
noncomputable def b63 : Code := match Try.f63.body with | some c => c | none => .skip
theorem t63 : trCode ⟨Try.prog, K63, [], 9, none⟩ b63 = some c63 := by kernel_rfl
theorem go63 : GoS Try.prog 63 2 K63 [] 9 c63 [.t (.g 4)] := .mk Try.func63 (c := b63) rfl (by kernel_rfl) t63 rfl (by kernel_rfl) rfl rfl
/-- (*sastrugi/sastrugikit.Seed).Inside -/
def c67 : ACode :=
  (.seq
(.reg [
.g 3 (.box (.g 1)),
.g 4 (.mv (.i 0))])
(.seq
(.draw [
.l 5 (.mv (.g 0)) 0,
.l 6 (.fa (.g 3) 0) 1,
.l 7 (.ld none (.l 6)) 2,
.l 8 (.fa (.g 3) 1) 3,
.l 9 (.ld none (.l 8)) 4,
.l 10 (.mv (.g 0)) 5,
.l 11 (.fa (.g 3) 0) 6,
.l 12 (.ld none (.l 11)) 7,
.l 13 (.fa (.g 3) 1) 8,
.l 14 (.ld none (.l 13)) 9,
.l 16 (.mv (.g 0)) 11,
.l 17 (.fa (.g 3) 0) 12,
.l 18 (.ld none (.l 17)) 13,
.l 19 (.fa (.g 3) 1) 14,
.l 20 (.ld none (.l 19)) 15,
.lf 15 (.call (.c (.fn 22 [])) [.l 10, .l 12, .l 14]) 10,
.lf 21 (.call (.c (.fn 22 [])) [.l 16, .l 18, .l 20]) 16,
.l 22 (.mks false 1 [.l 7, .l 9, .l 15, .l 21]) 17,
.lf 23 (.call (.c (.fn 56 [])) [.l 5, .l 22]) 18,
.g 4 (.mv (.l 23)) 19])
.ret))
def K67 : List Nat := [0, 1, 4, 3]
noncomputable def b67 : Code := match Try.f67.body with | some c => c | none => .skip
theorem t67 : trCode ⟨Try.prog, K67, [], 24, none⟩ b67 = some c67 := by kernel_rfl
theorem go67 : GoS Try.prog 67 2 K67 [] 24 c67 [.t (.g 4)] := .mk Try.func67 (c := b67) rfl (by kernel_rfl) t67 rfl (by kernel_rfl) rfl rfl
/-- (*sastrugi/sastrugikit.Seed).next -/
def c69 : ACode :=
  (.seq
(.reg [
.g 2 (.mv (.c (.lit (.int .u64 0))))])
(.seq
(.reg [
.l 4 (.mv (.g 0)),
.l 5 (.mv (.g 0)),
.l 6 (.nilc (.l 5)),
.l 7 (.fa (.l 6) 0),
.l 8 (.ld none (.l 7)),
.l 9 (.bin .add (.l 8) (.c (.lit (.int .u64 11400714819323198485)))),
.l 10 (.nilc (.l 4)),
.l 11 (.fa (.l 10) 0),
.n (.st 1 (.l 11) (.l 9))])
(.seq
(.reg [
.l 12 (.mv (.g 0)),
.l 13 (.nilc (.l 12)),
.l 14 (.fa (.l 13) 0),
.l 15 (.ld none (.l 14)),
.g 3 (.mv (.l 15))])
(.seq
(.reg [
.l 16 (.mv (.g 3)),
.l 17 (.mv (.g 3)),
.l 18 (.bin .shr (.l 17) (.c (.lit (.int .u64 30)))),
.l 19 (.bin .xor (.l 16) (.l 18)),
.l 20 (.bin .mul (.l 19) (.c (.lit (.int .u64 13787848793156543929)))),
.g 3 (.mv (.l 20))])
(.seq
(.reg [
.l 21 (.mv (.g 3)),
.l 22 (.mv (.g 3)),
.l 23 (.bin .shr (.l 22) (.c (.lit (.int .u64 27)))),
.l 24 (.bin .xor (.l 21) (.l 23)),
.l 25 (.bin .mul (.l 24) (.c (.lit (.int .u64 10723151780598845931)))),
.g 3 (.mv (.l 25))])
(.seq
(.reg [
.l 26 (.mv (.g 3)),
.l 27 (.mv (.g 3)),
.l 28 (.bin .shr (.l 27) (.c (.lit (.int .u64 31)))),
.l 29 (.bin .xor (.l 26) (.l 28)),
.g 2 (.mv (.l 29))])
.ret))))))
def K69 : List Nat := [0, 2, 3]
noncomputable def b69 : Code := match Try.f69.body with | some c => c | none => .skip
theorem t69 : trCode ⟨Try.prog, K69, [], 30, none⟩ b69 = some c69 := by kernel_rfl
theorem go69 : GoS Try.prog 69 1 K69 [] 30 c69 [.t (.g 2)] := .mk Try.func69 (c := b69) rfl (by kernel_rfl) t69 rfl (by kernel_rfl) rfl rfl
/-- sastrugi/sastrugikit.SurveyOf -/
def c30 : ACode :=
  (.seq
(.reg [
.g 4 (.new [.slice none 0 0, .int .i64 0, .int .i64 0, .int .i64 0])])
(.seq
(.reg [
.l 8 (.mv (.g 0)),
.l 9 (.call (.c (.fn 23 [])) [.l 8, .i 3]),
.l 10 (.mv (.g 0)),
.l 11 (.call (.c (.fn 23 [])) [.l 10, .i 3]),
.l 12 (.mv (.g 0)),
.l 13 (.call (.c (.fn 23 [])) [.l 12, .i 4]),
.l 14 (.mk [.int .i64 0, .int .i64 0, .int .i64 0] [(0, 1, .l 9), (1, 1, .l 11), (2, 1, .l 13)]),
.l 15 (.mk [.slice none 0 0, .int .i64 0, .int .i64 0, .int .i64 0] [(1, 3, .l 14)]),
.g 5 (.new [.slice none 0 0, .int .i64 0, .int .i64 0, .int .i64 0]),
.n (.st 4 (.g 5) (.l 15))])
(.seq
(.seq
(.reg [
.l 16 (.mv (.g 0)),
.l 17 (.mv (.g 1)),
.l 18 (.call (.c (.fn 22 [])) [.l 16, .i 1, .l 17]),
.g 6 (.mv (.l 18))])
(.block 0
(.loop
(.seq
(.seq
(.reg [
.l 19 (.mv (.g 6)),
.g 20 (.bin .gtr (.l 19) (.i 0))])
(.cond (.g 20)
.skip
(.exit 0)))
(.block 1
(.seq
(.reg [
.l 21 (.mv (.g 0)),
.l 22 (.mv (.g 6)),
.l 23 (.call (.c (.fn 22 [])) [.l 21, .i 1, .l 22]),
.g 7 (.mv (.l 23))])
(.seq
(.seq
(.reg [
.l 24 (.fa (.g 5) 0),
.l 25 (.ld none (.l 24)),
.l 26 (.len (.l 25)),
.g 27 (.bin .eql (.l 26) (.i 4))])
(.cond (.g 27)
(.reg [
.l 28 (.mv (.g 6)),
.g 7 (.mv (.l 28))])
.skip))
(.seq
(.draw [
.l 29 (.fa (.g 5) 0) 0,
.l 30 (.ld none (.l 29)) 1,
.l 31 (.mv (.g 7)) 2,
.l 32 (.mv (.g 0)) 3,
.l 33 (.mv (.g 0)) 4,
.l 35 (.mv (.g 0)) 6,
.l 39 (.mv (.g 0)) 10,
.l 40 (.mv (.g 0)) 11,
.l 44 (.mv (.g 0)) 15,
.l 45 (.mv (.g 0)) 16,
.l 49 (.mv (.g 0)) 20,
.lf 34 (.call (.c (.fn 23 [])) [.l 33, .i 20]) 5,
.lf 36 (.call (.c (.fn 23 [])) [.l 35, .i 300]) 7,
.l 37 (.mks false 1 [.i 0, .l 34, .l 36]) 8,
.lf 38 (.call (.c (.fn 56 [])) [.l 32, .l 37]) 9,
.lf 41 (.call (.c (.fn 23 [])) [.l 40, .i 20]) 12,
.l 42 (.mks false 1 [.i 0, .i 1, .l 41]) 13,
.lf 43 (.call (.c (.fn 56 [])) [.l 39, .l 42]) 14,
.lf 46 (.call (.c (.fn 23 [])) [.l 45, .i 10]) 17,
.l 47 (.mks false 1 [.i 0, .i 1, .l 46]) 18,
.lf 48 (.call (.c (.fn 56 [])) [.l 44, .l 47]) 19,
.lf 50 (.call (.c (.fn 23 [])) [.l 49, .i 15]) 21,
.l 51 (.mk [.int .i64 0, .int .i64 0, .int .i64 0, .int .i64 0, .int .i64 0] [(0, 1, .l 31), (1, 1, .l 38), (2, 1, .l 43), (3, 1, .l 48), (4, 1, .l 50)]) 22,
.l 52 (.mks false 5 [.l 51]) 23,
.lf 53 (.app 5 40 (.l 30) (.l 52)) 24,
.l 54 (.fa (.g 5) 0) 25,
.n (.st 1 (.l 54) (.l 53)) 26])
(.reg [
.l 55 (.mv (.g 6)),
.l 56 (.mv (.g 7)),
.l 57 (.bin .sub (.l 55) (.l 56)),
.g 6 (.mv (.l 57))])))))))))
(.seq
(.reg [
.l 58 (.ld (some 4) (.g 5)),
.n (.st 4 (.g 4) (.l 58))])
.ret))))
def K30 : List Nat := [0, 1, 20, 27, 4, 5, 6, 7]
noncomputable def b30 : Code := match Try.f30.body with | some c => c | none => .skip
theorem t30 : trCode ⟨Try.prog, K30, [], 59, none⟩ b30 = some c30 := by kernel_rfl
theorem go30 : GoS Try.prog 30 2 K30 [] 59 c30 [.cell (.g 4) (some 4)] := .mk Try.func30 (c := b30) rfl (by kernel_rfl) t30 rfl (by kernel_rfl) rfl rfl
/-- sastrugi/sastrugikit.CourseOf -/
def c31 : ACode :=
  (.seq
(.reg [
.g 5 (.box (.g 1)),
.g 8 (.mv (.c (.lit (.slice none 0 0))))])
(.seq
(.reg [
.l 18 (.ld (some 4) (.g 5)),
.l 19 (.call (.c (.fn 46 [])) [.l 18]),
.g 9 (.mv (.l 19))])
(.seq
(.reg [
.g 10 (.mv (.c (.lit (.slice none 0 0))))])
(.seq
(.seq
(.reg [
.l 20 (.mv (.g 0)),
.l 21 (.call (.c (.fn 22 [])) [.l 20, .i 1, .i 4]),
.g 11 (.mv (.l 21))])
(.block 0
(.loop
(.seq
(.seq
(.reg [
.l 22 (.mv (.g 11)),
.g 23 (.bin .gtr (.l 22) (.i 0))])
(.cond (.g 23)
.skip
(.exit 0)))
(.seq
(.block 1
(.reg [
.l 26 (.mv (.g 10)),
.l 27 (.mv (.g 0)),
.l 28 (.mv (.g 9)),
.l 29 (.call (.c (.fn 23 [])) [.l 27, .l 28]),
.l 30 (.mv (.g 2)),
.l 31 (.mv (.g 0)),
.l 32 (.mv (.g 3)),
.l 33 (.call (.c (.fn 23 [])) [.l 31, .l 32]),
.l 34 (.bin .add (.l 30) (.l 33)),
.l 35 (.mv (.g 0)),
.l 36 (.mv (.g 0)),
.l 37 (.call (.c (.fn 23 [])) [.l 36, .i 2000]),
.l 38 (.mks false 1 [.i 0, .l 37, .i 3000]),
.l 39 (.call (.c (.fn 56 [])) [.l 35, .l 38]),
.l 40 (.mk [.int .i64 0, .int .i64 0] [(0, 1, .l 39)]),
.l 41 (.mk [.int .i64 0, .int .i64 0, .int .i64 0, .int .i64 0, .int .i64 0] [(1, 1, .l 29), (2, 1, .l 34), (3, 2, .l 40)]),
.l 42 (.mks false 5 [.l 41]),
.l 43 (.app 5 40 (.l 26) (.l 42)),
.g 10 (.mv (.l 43))]))
(.reg [
.l 24 (.mv (.g 11)),
.l 25 (.bin .sub (.l 24) (.i 1)),
.g 11 (.mv (.l 25))]))))))
(.seq
(.reg [
.g 12 (.mv (.c (.lit (.slice none 0 0))))])
(.seq
(.seq
(.reg [
.l 44 (.mv (.g 2)),
.g 13 (.mv (.l 44))])
(.block 2
(.loop
(.seq
(.seq
(.reg [
.l 45 (.mv (.g 13)),
.l 46 (.mv (.g 2)),
.l 47 (.mv (.g 3)),
.l 48 (.bin .add (.l 46) (.l 47)),
.g 49 (.bin .lss (.l 45) (.l 48))])
(.cond (.g 49)
.skip
(.exit 2)))
(.seq
(.block 3
(.seq
(.reg [
.g 14 (.mv (.c (.lit (.slice none 0 0))))])
(.seq
(.seq
(.reg [
.g 15 (.mv (.i 0))])
(.block 4
(.loop
(.seq
(.seq
(.reg [
.l 52 (.mv (.g 15)),
.l 53 (.mv (.g 9)),
.g 54 (.bin .lss (.l 52) (.l 53))])
(.cond (.g 54)
.skip
(.exit 4)))
(.seq
(.block 5
(.seq
(.reg [
.g 16 (.mv (.i 3000))])
(.seq
(.seq
(.reg [
.g 17 (.mv (.i 0))])
(.block 6
(.loop
(.seq
(.seq
(.reg [
.l 57 (.mv (.g 17)),
.l 58 (.mv (.g 10)),
.l 59 (.len (.l 58)),
.g 60 (.bin .lss (.l 57) (.l 59))])
(.cond (.g 60)
.skip
(.exit 6)))
(.seq
(.block 7
(.draw [
.l 63 (.mv (.g 16)) 0,
.l 64 (.mv (.g 10)) 1,
.l 65 (.mv (.g 17)) 2,
.l 66 (.ia 5 (.l 64) (.l 65)) 3,
.l 67 (.fa (.l 66) 3) 4,
.l 68 (.fa (.l 67) 0) 5,
.l 69 (.ld none (.l 68)) 6,
.l 70 (.ld (some 4) (.g 5)) 7,
.l 71 (.mv (.g 15)) 8,
.l 72 (.mv (.g 13)) 9,
.l 73 (.mv (.g 10)) 10,
.l 74 (.mv (.g 17)) 11,
.l 75 (.ia 5 (.l 73) (.l 74)) 12,
.l 76 (.fa (.l 75) 1) 13,
.l 77 (.ld none (.l 76)) 14,
.l 78 (.mv (.g 10)) 15,
.l 79 (.mv (.g 17)) 16,
.l 80 (.ia 5 (.l 78) (.l 79)) 17,
.l 81 (.fa (.l 80) 2) 18,
.l 82 (.ld none (.l 81)) 19,
.lf 83 (.call (.c (.fn 68 [])) [.l 70, .l 71, .l 72, .l 77, .l 82]) 20,
.l 84 (.bin .add (.l 69) (.l 83)) 21,
.l 85 (.mn [.l 63, .l 84]) 22,
.g 16 (.mv (.l 85)) 23]))
(.reg [
.l 61 (.mv (.g 17)),
.l 62 (.bin .add (.l 61) (.i 1)),
.g 17 (.mv (.l 62))]))))))
(.reg [
.l 86 (.mv (.g 14)),
.l 87 (.mv (.g 16)),
.l 88 (.mks false 1 [.l 87]),
.l 89 (.app 1 8 (.l 86) (.l 88)),
.g 14 (.mv (.l 89))]))))
(.reg [
.l 55 (.mv (.g 15)),
.l 56 (.bin .add (.l 55) (.i 1)),
.g 15 (.mv (.l 56))]))))))
(.reg [
.l 90 (.mv (.g 12)),
.l 91 (.mv (.g 14)),
.l 92 (.mks false 1 [.l 91]),
.l 93 (.app 1 24 (.l 90) (.l 92)),
.g 12 (.mv (.l 93))]))))
(.reg [
.l 50 (.mv (.g 13)),
.l 51 (.bin .add (.l 50) (.i 1)),
.g 13 (.mv (.l 51))]))))))
(.seq
(.reg [
.l 94 (.mv (.g 12)),
.g 8 (.mv (.l 94))])
.ret)))))))
def K31 : List Nat := [0, 1, 2, 3, 23, 49, 54, 60, 8, 5, 9, 10, 11, 12, 13, 14, 15, 16, 17]
noncomputable def b31 : Code := match Try.f31.body with | some c => c | none => .skip
theorem t31 : trCode ⟨Try.prog, K31, [], 95, none⟩ b31 = some c31 := by kernel_rfl
theorem go31 : GoS Try.prog 31 4 K31 [] 95 c31 [.t (.g 8)] := .mk Try.func31 (c := b31) rfl (by kernel_rfl) t31 rfl (by kernel_rfl) rfl rfl
/-- sastrugi/sastrugikit.MarksOf -/
def c19 : ACode :=
  (.seq
(.reg [
.g 5 (.box (.g 1)),
.g 8 (.mv (.c (.lit (.slice none 0 0))))])
(.seq
(.reg [
.l 13 (.ld (some 4) (.g 5)),
.l 14 (.call (.c (.fn 46 [])) [.l 13]),
.g 9 (.mv (.l 14))])
(.seq
(.reg [
.g 10 (.mv (.c (.lit (.slice none 0 0))))])
(.seq
(.seq
(.reg [
.l 15 (.mv (.g 0)),
.l 16 (.mv (.g 2)),
.l 17 (.bin .add (.l 16) (.i 1)),
.l 18 (.call (.c (.fn 23 [])) [.l 15, .l 17]),
.g 11 (.mv (.l 18))])
(.block 0
(.loop
(.seq
(.seq
(.reg [
.l 19 (.mv (.g 11)),
.g 20 (.bin .gtr (.l 19) (.i 0))])
(.cond (.g 20)
.skip
(.exit 0)))
(.seq
(.block 1
(.seq
(.reg [
.l 23 (.mv (.g 0)),
.l 24 (.call (.c (.fn 22 [])) [.l 23, .i 1, .i 4]),
.l 25 (.mv (.g 0)),
.l 26 (.mv (.g 9)),
.l 27 (.call (.c (.fn 23 [])) [.l 25, .l 26]),
.l 28 (.mv (.g 0)),
.l 29 (.mv (.g 3)),
.l 30 (.call (.c (.fn 23 [])) [.l 28, .l 29]),
.l 31 (.mv (.g 0)),
.l 32 (.mv (.g 0)),
.l 33 (.call (.c (.fn 23 [])) [.l 32, .i 4]),
.l 34 (.mks false 1 [.i 0, .i 0, .i 1, .l 33]),
.l 35 (.call (.c (.fn 56 [])) [.l 31, .l 34]),
.l 36 (.mk [.int .i64 0, .int .i64 0, .int .i64 0, .int .i64 0, .int .i64 0] [(0, 1, .l 24), (1, 1, .l 27), (3, 1, .l 30), (4, 1, .l 35)]),
.g 12 (.new [.int .i64 0, .int .i64 0, .int .i64 0, .int .i64 0, .int .i64 0]),
.n (.st 5 (.g 12) (.l 36))])
(.seq
(.draw [
.l 37 (.mv (.g 9)) 0,
.l 38 (.bin .sub (.l 37) (.i 1)) 1,
.l 39 (.fa (.g 12) 1) 2,
.l 40 (.ld none (.l 39)) 3,
.l 41 (.mv (.g 0)) 4,
.l 42 (.mv (.g 0)) 5,
.l 44 (.mv (.g 0)) 7,
.l 45 (.mv (.g 9)) 8,
.lf 43 (.call (.c (.fn 23 [])) [.l 42, .i 4]) 6,
.lf 46 (.call (.c (.fn 23 [])) [.l 44, .l 45]) 9,
.l 47 (.mks false 1 [.i 0, .l 43, .l 46]) 10,
.lf 48 (.call (.c (.fn 56 [])) [.l 41, .l 47]) 11,
.l 49 (.bin .add (.l 40) (.l 48)) 12,
.l 50 (.mn [.l 38, .l 49]) 13,
.l 51 (.fa (.g 12) 2) 14,
.n (.st 1 (.l 51) (.l 50)) 15])
(.reg [
.l 52 (.mv (.g 10)),
.l 53 (.ld (some 5) (.g 12)),
.l 54 (.mks false 5 [.l 53]),
.l 55 (.app 5 40 (.l 52) (.l 54)),
.g 10 (.mv (.l 55))]))))
(.reg [
.l 21 (.mv (.g 11)),
.l 22 (.bin .sub (.l 21) (.i 1)),
.g 11 (.mv (.l 22))]))))))
(.seq
(.reg [
.l 56 (.mv (.g 10)),
.g 8 (.mv (.l 56))])
.ret)))))
def K19 : List Nat := [0, 1, 2, 3, 20, 8, 5, 9, 10, 11, 12]
noncomputable def b19 : Code := match Try.f19.body with | some c => c | none => .skip
theorem t19 : trCode ⟨Try.prog, K19, [], 57, none⟩ b19 = some c19 := by kernel_rfl
theorem go19 : GoS Try.prog 19 4 K19 [] 57 c19 [.t (.g 8)] := .mk Try.func19 (c := b19) rfl (by kernel_rfl) t19 rfl (by kernel_rfl) rfl rfl
/-- sastrugi/sastrugikit.LooksOf -/
def c20 : ACode :=
  (.seq
(.reg [
.g 8 (.mv (.c (.lit (.slice none 0 0))))])
(.seq
(.reg [
.g 9 (.mv (.c (.lit (.slice none 0 0))))])
(.seq
(.seq
(.reg [
.l 15 (.mv (.g 0)),
.l 16 (.mv (.g 3)),
.l 17 (.bin .add (.l 16) (.i 1)),
.l 18 (.call (.c (.fn 23 [])) [.l 15, .l 17]),
.g 10 (.mv (.l 18))])
(.block 0
(.loop
(.seq
(.seq
(.reg [
.l 19 (.mv (.g 10)),
.g 20 (.bin .gtr (.l 19) (.i 0))])
(.cond (.g 20)
.skip
(.exit 0)))
(.seq
(.block 1
(.seq
(.reg [
.l 23 (.mv (.g 0)),
.l 24 (.mv (.g 2)),
.l 25 (.len (.l 24)),
.l 26 (.call (.c (.fn 23 [])) [.l 23, .l 25]),
.g 11 (.mv (.l 26))])
(.seq
(.reg [
.l 27 (.mv (.g 0)),
.l 28 (.mv (.g 2)),
.l 29 (.mv (.g 11)),
.l 30 (.ia 1 (.l 28) (.l 29)),
.l 31 (.ld none (.l 30)),
.l 32 (.len (.l 31)),
.l 33 (.call (.c (.fn 23 [])) [.l 27, .l 32]),
.g 12 (.mv (.l 33))])
(.seq
(.reg [
.l 34 (.mv (.g 2)),
.l 35 (.mv (.g 11)),
.l 36 (.ia 1 (.l 34) (.l 35)),
.l 37 (.ld none (.l 36)),
.l 38 (.mv (.g 12)),
.l 39 (.ia 1 (.l 37) (.l 38)),
.l 40 (.ld none (.l 39)),
.g 13 (.mv (.l 40))])
(.seq
(.reg [
.l 41 (.mv (.g 13)),
.l 42 (.mv (.g 0)),
.l 43 (.mv (.g 0)),
.l 44 (.call (.c (.fn 23 [])) [.l 43, .i 9]),
.l 45 (.mv (.g 0)),
.l 46 (.call (.c (.fn 23 [])) [.l 45, .i 200]),
.l 47 (.mks false 1 [.i 0, .l 44, .l 46]),
.l 48 (.call (.c (.fn 56 [])) [.l 42, .l 47]),
.l 49 (.bin .sub (.l 41) (.l 48)),
.l 50 (.mx [.i 0, .l 49]),
.l 51 (.mv (.g 13)),
.l 52 (.mv (.g 0)),
.l 53 (.mv (.g 0)),
.l 54 (.call (.c (.fn 23 [])) [.l 53, .i 9]),
.l 55 (.mv (.g 0)),
.l 56 (.call (.c (.fn 23 [])) [.l 55, .i 200]),
.l 57 (.mks false 1 [.i 0, .l 54, .l 56]),
.l 58 (.call (.c (.fn 56 [])) [.l 52, .l 57]),
.l 59 (.bin .add (.l 51) (.l 58)),
.l 60 (.mn [.i 3000, .l 59]),
.l 61 (.mk [.int .i64 0, .int .i64 0] [(0, 1, .l 50), (1, 1, .l 60)]),
.g 14 (.new [.int .i64 0, .int .i64 0]),
.n (.st 2 (.g 14) (.l 61))])
(.draw [
.l 62 (.mv (.g 9)) 0,
.l 63 (.mv (.g 0)) 1,
.l 65 (.mv (.g 12)) 3,
.l 66 (.mv (.g 1)) 4,
.l 67 (.mv (.g 11)) 5,
.l 68 (.bin .add (.l 66) (.l 67)) 6,
.l 69 (.ld (some 2) (.g 14)) 7,
.lf 64 (.call (.c (.fn 22 [])) [.l 63, .i 1, .i 3]) 2,
.l 70 (.mk [.int .i64 0, .int .i64 0, .int .i64 0, .int .i64 0, .int .i64 0] [(0, 1, .l 64), (1, 1, .l 65), (2, 1, .l 68), (3, 2, .l 69)]) 8,
.l 71 (.mks false 5 [.l 70]) 9,
.lf 72 (.app 5 40 (.l 62) (.l 71)) 10,
.g 9 (.mv (.l 72)) 11]))))))
(.reg [
.l 21 (.mv (.g 10)),
.l 22 (.bin .sub (.l 21) (.i 1)),
.g 10 (.mv (.l 22))]))))))
(.seq
(.reg [
.l 73 (.mv (.g 9)),
.g 8 (.mv (.l 73))])
.ret))))
def K20 : List Nat := [0, 1, 2, 3, 20, 8, 9, 10, 11, 12, 13, 14]
noncomputable def b20 : Code := match Try.f20.body with | some c => c | none => .skip
theorem t20 : trCode ⟨Try.prog, K20, [], 74, none⟩ b20 = some c20 := by kernel_rfl
theorem go20 : GoS Try.prog 20 4 K20 [] 74 c20 [.t (.g 8)] := .mk Try.func20 (c := b20) rfl (by kernel_rfl) t20 rfl (by kernel_rfl) rfl rfl
/-- sastrugi/sastrugilaw02.big -/
def c29 : ACode :=
  (.seq
(.reg [
.g 3 (.box (.g 0)),
.g 6 (.mv (.b false))])
(.seq
(.seq
(.reg [
.l 7 (.fa (.g 3) 0),
.l 8 (.ld none (.l 7)),
.l 9 (.len (.l 8)),
.l 10 (.bin .gtr (.l 9) (.i 30)),
.l 11 (.mv (.l 10)),
.lw 12 (.mv (.g 1)) (.l 11) false,
.lw 13 (.len (.l 12)) (.l 11) false,
.lw 14 (.bin .gtr (.l 13) (.i 12)) (.l 11) false,
.lw 15 (.mv (.l 14)) (.l 11) false,
.lw 16 (.mv (.g 1)) (.l 15) true,
.lw 17 (.len (.l 16)) (.l 15) true,
.lw 18 (.bin .leq (.l 17) (.i 200)) (.l 15) true,
.lw 19 (.pick (.l 15) (.l 18) (.b false)) (.l 11) false,
.l 20 (.pick (.l 11) (.b true) (.l 19)),
.l 21 (.mv (.l 20)),
.lw 22 (.mv (.g 1)) (.l 21) false,
.lw 23 (.len (.l 22)) (.l 21) false,
.lw 24 (.bin .gtr (.l 23) (.i 209)) (.l 21) false,
.l 25 (.pick (.l 21) (.b true) (.l 24)),
.l 26 (.mv (.l 25)),
.lw 27 (.mv (.g 2)) (.l 26) false,
.lw 28 (.len (.l 27)) (.l 26) false,
.lw 29 (.bin .gtr (.l 28) (.i 12)) (.l 26) false,
.lw 30 (.mv (.l 29)) (.l 26) false,
.lw 31 (.mv (.g 2)) (.l 30) true,
.lw 32 (.len (.l 31)) (.l 30) true,
.lw 33 (.bin .leq (.l 32) (.i 100)) (.l 30) true,
.lw 34 (.pick (.l 30) (.l 33) (.b false)) (.l 26) false,
.l 35 (.pick (.l 26) (.b true) (.l 34)),
.l 36 (.mv (.l 35)),
.lw 37 (.mv (.g 2)) (.l 36) false,
.lw 38 (.len (.l 37)) (.l 36) false,
.lw 39 (.bin .gtr (.l 38) (.i 109)) (.l 36) false,
.g 40 (.pick (.l 36) (.b true) (.l 39))])
(.cond (.g 40)
(.seq
(.reg [
.g 6 (.mv (.b true))])
.ret)
.skip))
(.seq
(.reg [
.l 41 (.ld (some 4) (.g 3)),
.l 42 (.call (.c (.fn 34 [])) [.l 41]),
.l 43 (.bin .eql (.l 42) (.i 0)),
.l 44 (.mv (.l 43)),
.lw 45 (.ld (some 4) (.g 3)) (.l 44) true,
.lw 46 (.call (.c (.fn 46 [])) [.l 45]) (.l 44) true,
.lw 47 (.bin .gtr (.l 46) (.i 24)) (.l 44) true,
.l 48 (.pick (.l 44) (.l 47) (.b false)),
.g 6 (.mv (.l 48))])
.ret)))
def K29 : List Nat := [0, 1, 2, 40, 6, 3]
noncomputable def b29 : Code := match Try.f29.body with | some c => c | none => .skip
theorem t29 : trCode ⟨Try.prog, K29, [], 49, none⟩ b29 = some c29 := by kernel_rfl
theorem go29 : GoS Try.prog 29 3 K29 [] 49 c29 [.t (.g 6)] := .mk Try.func29 (c := b29) rfl (by kernel_rfl) t29 rfl (by kernel_rfl) rfl rfl
/-- sastrugi/sastrugiref02.Places -/
def c46 : ACode :=
  (.seq
(.reg [
.g 1 (.box (.g 0)),
.g 2 (.mv (.i 0))])
(.seq
(.reg [
.g 3 (.mv (.i 0))])
(.seq
(.seq
(.reg [
.g 4 (.mv (.i 0))])
(.block 0
(.loop
(.seq
(.seq
(.reg [
.l 5 (.mv (.g 4)),
.l 6 (.fa (.g 1) 0),
.l 7 (.ld none (.l 6)),
.l 8 (.len (.l 7)),
.g 9 (.bin .lss (.l 5) (.l 8))])
(.cond (.g 9)
.skip
(.exit 0)))
(.seq
(.block 1
(.reg [
.l 12 (.mv (.g 3)),
.l 13 (.fa (.g 1) 0),
.l 14 (.ld none (.l 13)),
.l 15 (.mv (.g 4)),
.l 16 (.ia 5 (.l 14) (.l 15)),
.l 17 (.fa (.l 16) 0),
.l 18 (.ld none (.l 17)),
.l 19 (.bin .add (.l 12) (.l 18)),
.g 3 (.mv (.l 19))]))
(.reg [
.l 10 (.mv (.g 4)),
.l 11 (.bin .add (.l 10) (.i 1)),
.g 4 (.mv (.l 11))]))))))
(.seq
(.reg [
.l 20 (.mv (.g 3)),
.g 2 (.mv (.l 20))])
.ret))))
def K46 : List Nat := [0, 9, 2, 1, 3, 4]
noncomputable def b46 : Code := match Try.f46.body with | some c => c | none => .skip
theorem t46 : trCode ⟨Try.prog, K46, [], 21, none⟩ b46 = some c46 := by kernel_rfl
theorem go46 : GoS Try.prog 46 1 K46 [] 21 c46 [.t (.g 2)] := .mk Try.func46 (c := b46) rfl (by kernel_rfl) t46 rfl (by kernel_rfl) rfl rfl
/-- sastrugi/sastrugilaw02.made -/
def c18 : ACode :=
  (.seq
(.reg [
.g 6 (.new [.slice none 0 0, .int .i64 0, .int .i64 0, .int .i64 0]),
.g 7 (.mv (.c (.lit (.slice none 0 0)))),
.g 8 (.mv (.c (.lit (.slice none 0 0))))])
(.seq
(.reg [
.l 11 (.mv (.g 0)),
.l 12 (.mv (.g 1)),
.l 13 (.call (.c (.fn 30 [])) [.l 11, .l 12]),
.g 9 (.new [.slice none 0 0, .int .i64 0, .int .i64 0, .int .i64 0]),
.n (.st 4 (.g 9) (.l 13))])
(.seq
(.reg [
.l 14 (.mv (.g 0)),
.l 15 (.ld (some 4) (.g 9)),
.l 16 (.call (.c (.fn 31 [])) [.l 14, .l 15, .i 3, .i 6]),
.g 10 (.mv (.l 16))])
(.seq
(.draw [
.l 17 (.ld (some 4) (.g 9)) 0,
.lf 18 (.mv (.g 10)) 1,
.l 19 (.mv (.g 0)) 2,
.l 20 (.mv (.g 10)) 3,
.l 21 (.mv (.g 2)) 4,
.lf 22 (.call (.c (.fn 20 [])) [.l 19, .i 3, .l 20, .l 21]) 5,
.nf (.st 4 (.g 6) (.l 17)) 6,
.gf 7 (.mv (.l 18)) 7,
.gf 8 (.mv (.l 22)) 8])
.ret))))
def K18 : List Nat := [0, 1, 2, 6, 7, 8, 9, 10]
noncomputable def b18 : Code := match Try.f18.body with | some c => c | none => .skip
theorem t18 : trCode ⟨Try.prog, K18, [], 23, none⟩ b18 = some c18 := by kernel_rfl
theorem go18 : GoS Try.prog 18 3 K18 [] 23 c18 [.cell (.g 6) (some 4), .t (.g 7), .t (.g 8)] := .mk Try.func18 (c := b18) rfl (by kernel_rfl) t18 rfl (by kernel_rfl) rfl rfl
end Go.Sas
namespace Go.Sas
open Go.Proofs
set_option maxRecDepth 100000
/-- sastrugi/sastrugiref02.Check -/
def c34 : ACode :=
  (.seq
(.reg [
.g 1 (.box (.g 0)),
.g 2 (.mv (.i 0))])
(.seq
(.seq
(.reg [
.l 6 (.fa (.g 1) 0),
.l 7 (.ld none (.l 6)),
.l 8 (.len (.l 7)),
.g 9 (.bin .eql (.l 8) (.i 0))])
(.cond (.g 9)
(.seq
(.reg [
.g 2 (.mv (.i 6))])
.ret)
.skip))
(.seq
(.seq
(.reg [
.l 10 (.fa (.g 1) 0),
.l 11 (.ld none (.l 10)),
.l 12 (.len (.l 11)),
.g 13 (.bin .gtr (.l 12) (.i 20))])
(.cond (.g 13)
(.seq
(.reg [
.g 2 (.mv (.i 8))])
.ret)
.skip))
(.seq
(.seq
(.reg [
.g 3 (.mv (.i 0))])
(.block 0
(.loop
(.seq
(.seq
(.reg [
.l 14 (.mv (.g 3)),
.l 15 (.fa (.g 1) 0),
.l 16 (.ld none (.l 15)),
.l 17 (.len (.l 16)),
.g 18 (.bin .lss (.l 14) (.l 17))])
(.cond (.g 18)
.skip
(.exit 0)))
(.seq
(.block 1
(.seq
(.reg [
.l 21 (.fa (.g 1) 0),
.l 22 (.ld none (.l 21)),
.l 23 (.mv (.g 3)),
.l 24 (.ia 5 (.l 22) (.l 23)),
.l 25 (.ld (some 5) (.l 24)),
.g 4 (.new [.int .i64 0, .int .i64 0, .int .i64 0, .int .i64 0, .int .i64 0]),
.n (.st 5 (.g 4) (.l 25))])
(.seq
(.reg [
.l 26 (.fa (.g 4) 0),
.l 27 (.ld none (.l 26)),
.l 28 (.call (.c (.fn 80 [])) [.l 27, .i 1, .i 1000]),
.l 29 (.un .not (.l 28)),
.l 30 (.mv (.l 29)),
.lw 31 (.fa (.g 4) 1) (.l 30) false,
.lw 32 (.ld none (.l 31)) (.l 30) false,
.lw 33 (.call (.c (.fn 80 [])) [.l 32, .i 0, .i 3000]) (.l 30) false,
.lw 34 (.un .not (.l 33)) (.l 30) false,
.l 35 (.pick (.l 30) (.b true) (.l 34)),
.l 36 (.mv (.l 35)),
.lw 37 (.fa (.g 4) 2) (.l 36) false,
.lw 38 (.ld none (.l 37)) (.l 36) false,
.lw 39 (.call (.c (.fn 80 [])) [.l 38, .i 0, .i 1000]) (.l 36) false,
.lw 40 (.un .not (.l 39)) (.l 36) false,
.l 41 (.pick (.l 36) (.b true) (.l 40)),
.l 42 (.mv (.l 41)),
.lw 43 (.fa (.g 4) 3) (.l 42) false,
.lw 44 (.ld none (.l 43)) (.l 42) false,
.lw 45 (.call (.c (.fn 80 [])) [.l 44, .i 0, .i 1000]) (.l 42) false,
.lw 46 (.un .not (.l 45)) (.l 42) false,
.l 47 (.pick (.l 42) (.b true) (.l 46)),
.l 48 (.mv (.l 47)),
.lw 49 (.fa (.g 4) 4) (.l 48) false,
.lw 50 (.ld none (.l 49)) (.l 48) false,
.lw 51 (.call (.c (.fn 80 [])) [.l 50, .i 0, .i 10000]) (.l 48) false,
.lw 52 (.un .not (.l 51)) (.l 48) false,
.g 53 (.pick (.l 48) (.b true) (.l 52))])
(.cond (.g 53)
(.seq
(.reg [
.g 2 (.mv (.i 2))])
.ret)
.skip))))
(.reg [
.l 19 (.mv (.g 3)),
.l 20 (.bin .add (.l 19) (.i 1)),
.g 3 (.mv (.l 20))]))))))
(.seq
(.seq
(.reg [
.l 54 (.ld (some 4) (.g 1)),
.l 55 (.call (.c (.fn 46 [])) [.l 54]),
.g 56 (.bin .gtr (.l 55) (.i 1000))])
(.cond (.g 56)
(.seq
(.reg [
.g 2 (.mv (.i 8))])
.ret)
.skip))
(.seq
(.seq
(.reg [
.g 5 (.mv (.i 0))])
(.block 2
(.loop
(.seq
(.seq
(.reg [
.l 57 (.mv (.g 5)),
.g 58 (.bin .lss (.l 57) (.i 3))])
(.cond (.g 58)
.skip
(.exit 2)))
(.seq
(.block 3
(.seq
(.reg [
.l 61 (.mv (.g 5)),
.l 62 (.fa (.g 1) 1),
.l 63 (.iaa 3 1 (.l 62) (.l 61)),
.l 64 (.ld none (.l 63)),
.l 65 (.call (.c (.fn 80 [])) [.l 64, .i 0, .i 50]),
.g 66 (.un .not (.l 65))])
(.cond (.g 66)
(.seq
(.reg [
.g 2 (.mv (.i 2))])
.ret)
.skip)))
(.reg [
.l 59 (.mv (.g 5)),
.l 60 (.bin .add (.l 59) (.i 1)),
.g 5 (.mv (.l 60))]))))))
(.seq
(.reg [
.g 2 (.mv (.i 0))])
.ret)))))))
def K34 : List Nat := [0, 9, 13, 18, 53, 56, 58, 66, 2, 1, 3, 4, 5]
noncomputable def b34 : Code := match Try.f34.body with | some c => c | none => .skip
theorem t34 : trCode ⟨Try.prog, K34, [], 67, none⟩ b34 = some c34 := by kernel_rfl
theorem go34 : GoS Try.prog 34 1 K34 [] 67 c34 [.t (.g 2)] := .mk Try.func34 (c := b34) rfl (by kernel_rfl) t34 rfl (by kernel_rfl) rfl rfl
/-- sastrugi/sastrugiref02.CheckLooks -/
def c36 : ACode :=
  (.seq
(.reg [
.g 2 (.box (.g 0)),
.g 4 (.mv (.i 0))])
(.seq
(.seq
(.reg [
.l 6 (.ld (some 4) (.g 2)),
.l 7 (.call (.c (.fn 34 [])) [.l 6]),
.g 5 (.mv (.l 7))])
(.seq
(.reg [
.l 8 (.mv (.g 5)),
.g 9 (.bin .neq (.l 8) (.i 0))])
(.cond (.g 9)
(.seq
(.reg [
.l 10 (.mv (.g 5)),
.g 4 (.mv (.l 10))])
.ret)
.skip)))
(.seq
(.reg [
.l 11 (.ld (some 4) (.g 2)),
.l 12 (.mv (.g 1)),
.l 13 (.call (.c (.fn 81 [])) [.l 11, .l 12]),
.g 4 (.mv (.l 13))])
.ret)))
def K36 : List Nat := [0, 1, 9, 4, 2, 5]
noncomputable def b36 : Code := match Try.f36.body with | some c => c | none => .skip
theorem t36 : trCode ⟨Try.prog, K36, [], 14, none⟩ b36 = some c36 := by kernel_rfl
theorem go36 : GoS Try.prog 36 2 K36 [] 14 c36 [.t (.g 4)] := .mk Try.func36 (c := b36) rfl (by kernel_rfl) t36 rfl (by kernel_rfl) rfl rfl
/-- sastrugi/sastrugiref02.CheckMarks -/
def c38 : ACode :=
  (.seq
(.reg [
.g 2 (.box (.g 0)),
.g 4 (.mv (.i 0))])
(.seq
(.seq
(.reg [
.l 6 (.ld (some 4) (.g 2)),
.l 7 (.call (.c (.fn 34 [])) [.l 6]),
.g 5 (.mv (.l 7))])
(.seq
(.reg [
.l 8 (.mv (.g 5)),
.g 9 (.bin .neq (.l 8) (.i 0))])
(.cond (.g 9)
(.seq
(.reg [
.l 10 (.mv (.g 5)),
.g 4 (.mv (.l 10))])
.ret)
.skip)))
(.seq
(.reg [
.l 11 (.ld (some 4) (.g 2)),
.l 12 (.mv (.g 1)),
.l 13 (.call (.c (.fn 83 [])) [.l 11, .l 12]),
.g 4 (.mv (.l 13))])
.ret)))
def K38 : List Nat := [0, 1, 9, 4, 2, 5]
noncomputable def b38 : Code := match Try.f38.body with | some c => c | none => .skip
theorem t38 : trCode ⟨Try.prog, K38, [], 14, none⟩ b38 = some c38 := by kernel_rfl
theorem go38 : GoS Try.prog 38 2 K38 [] 14 c38 [.t (.g 4)] := .mk Try.func38 (c := b38) rfl (by kernel_rfl) t38 rfl (by kernel_rfl) rfl rfl
/-- sastrugi/sastrugiref02.Rise -/
def c68 : ACode :=
  (.seq
(.reg [
.g 5 (.box (.g 0)),
.g 10 (.mv (.i 0))])
(.seq
(.reg [
.l 11 (.ld (some 4) (.g 5)),
.l 12 (.mv (.g 1)),
.l 13 (.mv (.g 2)),
.l 14 (.mv (.g 3)),
.l 15 (.mv (.g 4)),
.l 16 (.call (.c (.fn 102 [])) [.l 11, .l 12, .l 13, .l 14, .l 15]),
.g 10 (.mv (.l 16))])
.ret))
def K68 : List Nat := [0, 1, 2, 3, 4, 10, 5]
noncomputable def b68 : Code := match Try.f68.body with | some c => c | none => .skip
theorem t68 : trCode ⟨Try.prog, K68, [], 17, none⟩ b68 = some c68 := by kernel_rfl
theorem go68 : GoS Try.prog 68 5 K68 [] 17 c68 [.t (.g 10)] := .mk Try.func68 (c := b68) rfl (by kernel_rfl) t68 rfl (by kernel_rfl) rfl rfl
/-- sastrugi/sastrugiref02.within -/
def c80 : ACode :=
  (.seq
(.reg [
.g 6 (.mv (.b false))])
(.seq
(.reg [
.l 7 (.mv (.g 0)),
.l 8 (.mv (.g 1)),
.l 9 (.bin .geq (.l 7) (.l 8)),
.l 10 (.mv (.l 9)),
.lw 11 (.mv (.g 0)) (.l 10) true,
.lw 12 (.mv (.g 2)) (.l 10) true,
.lw 13 (.bin .leq (.l 11) (.l 12)) (.l 10) true,
.l 14 (.pick (.l 10) (.l 13) (.b false)),
.g 6 (.mv (.l 14))])
.ret))
def K80 : List Nat := [0, 1, 2, 6]
noncomputable def b80 : Code := match Try.f80.body with | some c => c | none => .skip
theorem t80 : trCode ⟨Try.prog, K80, [], 15, none⟩ b80 = some c80 := by kernel_rfl
theorem go80 : GoS Try.prog 80 3 K80 [] 15 c80 [.t (.g 6)] := .mk Try.func80 (c := b80) rfl (by kernel_rfl) t80 rfl (by kernel_rfl) rfl rfl
/-- sastrugi/sastrugiref02.checkLooks -/
def c81 : ACode :=
  (.seq
(.reg [
.g 2 (.box (.g 0)),
.g 4 (.mv (.i 0))])
(.seq
(.seq
(.reg [
.l 10 (.mv (.g 1)),
.l 11 (.len (.l 10)),
.g 12 (.bin .gtr (.l 11) (.i 200))])
(.cond (.g 12)
(.seq
(.reg [
.g 4 (.mv (.i 8))])
.ret)
.skip))
(.seq
(.reg [
.l 13 (.ld (some 4) (.g 2)),
.l 14 (.call (.c (.fn 46 [])) [.l 13]),
.g 5 (.mv (.l 14))])
(.seq
(.seq
(.reg [
.g 6 (.mv (.i 0))])
(.block 0
(.loop
(.seq
(.seq
(.reg [
.l 15 (.mv (.g 6)),
.l 16 (.mv (.g 1)),
.l 17 (.len (.l 16)),
.g 18 (.bin .lss (.l 15) (.l 17))])
(.cond (.g 18)
.skip
(.exit 0)))
(.seq
(.block 1
(.seq
(.reg [
.l 21 (.mv (.g 1)),
.l 22 (.mv (.g 6)),
.l 23 (.ia 5 (.l 21) (.l 22)),
.l 24 (.ld (some 5) (.l 23)),
.g 7 (.new [.int .i64 0, .int .i64 0, .int .i64 0, .int .i64 0, .int .i64 0]),
.n (.st 5 (.g 7) (.l 24))])
(.block 2
(.seq
(.reg [
.l 26 (.fa (.g 7) 0),
.l 27 (.ld none (.l 26)),
.l 28 (.call (.c (.fn 80 [])) [.l 27, .i 1, .i 3]),
.l 29 (.un .not (.l 28)),
.g 25 (.mv (.l 29))])
(.cond (.g 25)
(.seq
(.reg [
.g 4 (.mv (.i 4))])
.ret)
(.seq
(.reg [
.l 31 (.fa (.g 7) 1),
.l 32 (.ld none (.l 31)),
.l 33 (.mv (.g 5)),
.l 34 (.bin .sub (.l 33) (.i 1)),
.l 35 (.call (.c (.fn 80 [])) [.l 32, .i 0, .l 34]),
.l 36 (.un .not (.l 35)),
.g 30 (.mv (.l 36))])
(.cond (.g 30)
(.seq
(.reg [
.g 4 (.mv (.i 7))])
.ret)
(.seq
(.reg [
.l 38 (.fa (.g 7) 2),
.l 39 (.ld none (.l 38)),
.l 40 (.call (.c (.fn 80 [])) [.l 39, .i 0, .i 10000]),
.l 41 (.un .not (.l 40)),
.l 42 (.mv (.l 41)),
.lw 43 (.fa (.g 7) 3) (.l 42) false,
.lw 44 (.fa (.l 43) 0) (.l 42) false,
.lw 45 (.ld none (.l 44)) (.l 42) false,
.lw 46 (.call (.c (.fn 80 [])) [.l 45, .i 0, .i 3000]) (.l 42) false,
.lw 47 (.un .not (.l 46)) (.l 42) false,
.l 48 (.pick (.l 42) (.b true) (.l 47)),
.l 49 (.mv (.l 48)),
.lw 50 (.fa (.g 7) 3) (.l 49) false,
.lw 51 (.fa (.l 50) 1) (.l 49) false,
.lw 52 (.ld none (.l 51)) (.l 49) false,
.lw 53 (.call (.c (.fn 80 [])) [.l 52, .i 0, .i 3000]) (.l 49) false,
.lw 54 (.un .not (.l 53)) (.l 49) false,
.l 55 (.pick (.l 49) (.b true) (.l 54)),
.g 37 (.mv (.l 55))])
(.cond (.g 37)
(.seq
(.reg [
.g 4 (.mv (.i 2))])
.ret)
(.seq
(.reg [
.l 57 (.fa (.g 7) 3),
.l 58 (.fa (.l 57) 0),
.l 59 (.ld none (.l 58)),
.l 60 (.fa (.g 7) 3),
.l 61 (.fa (.l 60) 1),
.l 62 (.ld none (.l 61)),
.l 63 (.bin .gtr (.l 59) (.l 62)),
.g 56 (.mv (.l 63))])
(.cond (.g 56)
(.seq
(.reg [
.g 4 (.mv (.i 11))])
.ret)
.skip)))))))))))
(.reg [
.l 19 (.mv (.g 6)),
.l 20 (.bin .add (.l 19) (.i 1)),
.g 6 (.mv (.l 20))]))))))
(.seq
(.seq
(.reg [
.g 8 (.mv (.i 0))])
(.block 3
(.loop
(.seq
(.seq
(.reg [
.l 64 (.mv (.g 8)),
.l 65 (.mv (.g 1)),
.l 66 (.len (.l 65)),
.g 67 (.bin .lss (.l 64) (.l 66))])
(.cond (.g 67)
.skip
(.exit 3)))
(.seq
(.block 4
(.seq
(.reg [
.g 9 (.mv (.i 0))])
(.block 5
(.loop
(.seq
(.seq
(.reg [
.l 70 (.mv (.g 9)),
.l 71 (.mv (.g 1)),
.l 72 (.len (.l 71)),
.g 73 (.bin .lss (.l 70) (.l 72))])
(.cond (.g 73)
.skip
(.exit 5)))
(.seq
(.block 6
(.seq
(.draw [
.l 76 (.mv (.g 1)) 0,
.l 77 (.mv (.g 8)) 1,
.l 78 (.ia 5 (.l 76) (.l 77)) 2,
.l 79 (.fa (.l 78) 3) 3,
.l 80 (.fa (.l 79) 0) 4,
.l 81 (.ld none (.l 80)) 5,
.l 82 (.mv (.g 1)) 6,
.l 83 (.mv (.g 9)) 7,
.l 84 (.ia 5 (.l 82) (.l 83)) 8,
.l 85 (.fa (.l 84) 3) 9,
.l 86 (.fa (.l 85) 1) 10,
.l 87 (.ld none (.l 86)) 11,
.l 88 (.ld (some 4) (.g 2)) 12,
.l 89 (.mv (.g 1)) 13,
.l 90 (.mv (.g 8)) 14,
.l 91 (.ia 5 (.l 89) (.l 90)) 15,
.l 92 (.fa (.l 91) 1) 16,
.l 93 (.ld none (.l 92)) 17,
.l 94 (.mv (.g 1)) 18,
.l 95 (.mv (.g 8)) 19,
.l 96 (.ia 5 (.l 94) (.l 95)) 20,
.l 97 (.fa (.l 96) 2) 21,
.l 98 (.ld none (.l 97)) 22,
.l 99 (.mv (.g 1)) 23,
.l 100 (.mv (.g 9)) 24,
.l 101 (.ia 5 (.l 99) (.l 100)) 25,
.l 102 (.fa (.l 101) 1) 26,
.l 103 (.ld none (.l 102)) 27,
.l 104 (.mv (.g 1)) 28,
.l 105 (.mv (.g 9)) 29,
.l 106 (.ia 5 (.l 104) (.l 105)) 30,
.l 107 (.fa (.l 106) 2) 31,
.l 108 (.ld none (.l 107)) 32,
.lf 109 (.call (.c (.fn 102 [])) [.l 88, .l 93, .l 98, .l 103, .l 108]) 33,
.l 110 (.bin .add (.l 87) (.l 109)) 34,
.g 111 (.bin .gtr (.l 81) (.l 110)) 35])
(.cond (.g 111)
(.seq
(.reg [
.g 4 (.mv (.i 12))])
.ret)
.skip)))
(.reg [
.l 74 (.mv (.g 9)),
.l 75 (.bin .add (.l 74) (.i 1)),
.g 9 (.mv (.l 75))])))))))
(.reg [
.l 68 (.mv (.g 8)),
.l 69 (.bin .add (.l 68) (.i 1)),
.g 8 (.mv (.l 69))]))))))
(.seq
(.reg [
.g 4 (.mv (.i 0))])
.ret))))))
def K81 : List Nat := [0, 1, 12, 18, 25, 30, 37, 56, 67, 73, 111, 4, 2, 5, 6, 7, 8, 9]
noncomputable def b81 : Code := match Try.f81.body with | some c => c | none => .skip
theorem t81 : trCode ⟨Try.prog, K81, [], 112, none⟩ b81 = some c81 := by kernel_rfl
theorem go81 : GoS Try.prog 81 2 K81 [] 112 c81 [.t (.g 4)] := .mk Try.func81 (c := b81) rfl (by kernel_rfl) t81 rfl (by kernel_rfl) rfl rfl
/-- sastrugi/sastrugiref02.known -/
def c87 : ACode :=
  (.seq
(.reg [
.g 4 (.box (.g 0)),
.g 8 (.new [.int .i64 0, .int .i64 0])])
(.seq
(.reg [
.l 11 (.mk [.int .i64 0, .int .i64 0] [(1, 1, .i 3000)]),
.g 9 (.new [.int .i64 0, .int .i64 0]),
.n (.st 2 (.g 9) (.l 11))])
(.seq
(.seq
(.reg [
.g 10 (.mv (.i 0))])
(.block 0
(.loop
(.seq
(.seq
(.reg [
.l 12 (.mv (.g 10)),
.l 13 (.mv (.g 1)),
.l 14 (.len (.l 13)),
.g 15 (.bin .lss (.l 12) (.l 14))])
(.cond (.g 15)
.skip
(.exit 0)))
(.seq
(.block 1
(.seq
(.draw [
.l 18 (.fa (.g 9) 1) 0,
.l 19 (.ld none (.l 18)) 1,
.l 20 (.mv (.g 1)) 2,
.l 21 (.mv (.g 10)) 3,
.l 22 (.ia 5 (.l 20) (.l 21)) 4,
.l 23 (.fa (.l 22) 3) 5,
.l 24 (.fa (.l 23) 1) 6,
.l 25 (.ld none (.l 24)) 7,
.l 26 (.ld (some 4) (.g 4)) 8,
.l 27 (.mv (.g 2)) 9,
.l 28 (.mv (.g 3)) 10,
.l 29 (.mv (.g 1)) 11,
.l 30 (.mv (.g 10)) 12,
.l 31 (.ia 5 (.l 29) (.l 30)) 13,
.l 32 (.fa (.l 31) 1) 14,
.l 33 (.ld none (.l 32)) 15,
.l 34 (.mv (.g 1)) 16,
.l 35 (.mv (.g 10)) 17,
.l 36 (.ia 5 (.l 34) (.l 35)) 18,
.l 37 (.fa (.l 36) 2) 19,
.l 38 (.ld none (.l 37)) 20,
.lf 39 (.call (.c (.fn 102 [])) [.l 26, .l 27, .l 28, .l 33, .l 38]) 21,
.l 40 (.bin .add (.l 25) (.l 39)) 22,
.l 41 (.mn [.l 19, .l 40]) 23,
.l 42 (.fa (.g 9) 1) 24,
.n (.st 1 (.l 42) (.l 41)) 25])
(.draw [
.l 43 (.fa (.g 9) 0) 0,
.l 44 (.ld none (.l 43)) 1,
.l 45 (.mv (.g 1)) 2,
.l 46 (.mv (.g 10)) 3,
.l 47 (.ia 5 (.l 45) (.l 46)) 4,
.l 48 (.fa (.l 47) 3) 5,
.l 49 (.fa (.l 48) 0) 6,
.l 50 (.ld none (.l 49)) 7,
.l 51 (.ld (some 4) (.g 4)) 8,
.l 52 (.mv (.g 1)) 9,
.l 53 (.mv (.g 10)) 10,
.l 54 (.ia 5 (.l 52) (.l 53)) 11,
.l 55 (.fa (.l 54) 1) 12,
.l 56 (.ld none (.l 55)) 13,
.l 57 (.mv (.g 1)) 14,
.l 58 (.mv (.g 10)) 15,
.l 59 (.ia 5 (.l 57) (.l 58)) 16,
.l 60 (.fa (.l 59) 2) 17,
.l 61 (.ld none (.l 60)) 18,
.l 62 (.mv (.g 2)) 19,
.l 63 (.mv (.g 3)) 20,
.lf 64 (.call (.c (.fn 102 [])) [.l 51, .l 56, .l 61, .l 62, .l 63]) 21,
.l 65 (.bin .sub (.l 50) (.l 64)) 22,
.l 66 (.mx [.l 44, .l 65]) 23,
.l 67 (.fa (.g 9) 0) 24,
.n (.st 1 (.l 67) (.l 66)) 25])))
(.reg [
.l 16 (.mv (.g 10)),
.l 17 (.bin .add (.l 16) (.i 1)),
.g 10 (.mv (.l 17))]))))))
(.seq
(.reg [
.l 68 (.ld (some 2) (.g 9)),
.n (.st 2 (.g 8) (.l 68))])
.ret))))
def K87 : List Nat := [0, 1, 2, 3, 15, 8, 4, 9, 10]
noncomputable def b87 : Code := match Try.f87.body with | some c => c | none => .skip
theorem t87 : trCode ⟨Try.prog, K87, [], 69, none⟩ b87 = some c87 := by kernel_rfl
theorem go87 : GoS Try.prog 87 4 K87 [] 69 c87 [.cell (.g 8) (some 2)] := .mk Try.func87 (c := b87) rfl (by kernel_rfl) t87 rfl (by kernel_rfl) rfl rfl
/-- sastrugi/sastrugiref02.rise -/
def c102 : ACode :=
  (.seq
(.reg [
.g 5 (.box (.g 0)),
.g 10 (.mv (.i 0))])
(.seq
(.reg [
.g 11 (.mv (.i (-1)))])
(.seq
(.reg [
.l 17 (.ld (some 4) (.g 5)),
.l 18 (.call (.c (.fn 46 [])) [.l 17]),
.g 12 (.mv (.l 18))])
(.seq
(.seq
(.reg [
.g 13 (.mv (.i 0))])
(.block 0
(.loop
(.seq
(.seq
(.reg [
.l 19 (.mv (.g 13)),
.l 20 (.mv (.g 12)),
.g 21 (.bin .lss (.l 19) (.l 20))])
(.cond (.g 21)
.skip
(.exit 0)))
(.seq
(.block 1
(.seq
(.reg [
.l 24 (.ld (some 4) (.g 5)),
.l 25 (.mv (.g 13)),
.l 26 (.call (.c (.fn 112 [])) [.l 24, .l 25]),
.g 14 (.new [.int .i64 0, .int .i64 0, .int .i64 0, .int .i64 0, .int .i64 0]),
.n (.st 5 (.g 14) (.l 26))])
(.seq
(.reg [
.l 27 (.mv (.g 2)),
.l 28 (.mv (.g 4)),
.l 29 (.bin .sub (.l 27) (.l 28)),
.l 30 (.fa (.g 14) 3),
.l 31 (.ld none (.l 30)),
.l 32 (.bin .mul (.l 29) (.l 31)),
.g 15 (.mv (.l 32))])
(.seq
(.seq
(.reg [
.l 33 (.mv (.g 2)),
.l 34 (.mv (.g 4)),
.g 35 (.bin .lss (.l 33) (.l 34))])
(.cond (.g 35)
(.reg [
.l 36 (.mv (.g 4)),
.l 37 (.mv (.g 2)),
.l 38 (.bin .sub (.l 36) (.l 37)),
.l 39 (.fa (.g 14) 2),
.l 40 (.ld none (.l 39)),
.l 41 (.bin .mul (.l 38) (.l 40)),
.g 15 (.mv (.l 41))])
.skip))
(.seq
(.draw [
.l 42 (.ld (some 4) (.g 5)) 0,
.l 43 (.mv (.g 3)) 1,
.l 44 (.mv (.g 13)) 2,
.l 46 (.mv (.g 15)) 4,
.l 48 (.ld (some 4) (.g 5)) 6,
.l 49 (.mv (.g 13)) 7,
.l 50 (.mv (.g 1)) 8,
.lf 45 (.call (.c (.fn 114 [])) [.l 42, .l 43, .l 44]) 3,
.l 47 (.bin .add (.l 45) (.l 46)) 5,
.lf 51 (.call (.c (.fn 114 [])) [.l 48, .l 49, .l 50]) 9,
.l 52 (.bin .add (.l 47) (.l 51)) 10,
.g 16 (.mv (.l 52)) 11])
(.seq
(.reg [
.l 53 (.mv (.g 11)),
.l 54 (.bin .lss (.l 53) (.i 0)),
.l 55 (.mv (.l 54)),
.lw 56 (.mv (.g 16)) (.l 55) false,
.lw 57 (.mv (.g 11)) (.l 55) false,
.lw 58 (.bin .lss (.l 56) (.l 57)) (.l 55) false,
.g 59 (.pick (.l 55) (.b true) (.l 58))])
(.cond (.g 59)
(.reg [
.l 60 (.mv (.g 16)),
.g 11 (.mv (.l 60))])
.skip)))))))
(.reg [
.l 22 (.mv (.g 13)),
.l 23 (.bin .add (.l 22) (.i 1)),
.g 13 (.mv (.l 23))]))))))
(.seq
(.reg [
.l 61 (.mv (.g 11)),
.g 10 (.mv (.l 61))])
.ret)))))
def K102 : List Nat := [0, 1, 2, 3, 4, 21, 35, 59, 10, 5, 11, 12, 13, 14, 15, 16]
noncomputable def b102 : Code := match Try.f102.body with | some c => c | none => .skip
theorem t102 : trCode ⟨Try.prog, K102, [], 62, none⟩ b102 = some c102 := by kernel_rfl
theorem go102 : GoS Try.prog 102 5 K102 [] 62 c102 [.t (.g 10)] := .mk Try.func102 (c := b102) rfl (by kernel_rfl) t102 rfl (by kernel_rfl) rfl rfl
/-- sastrugi/sastrugiref02.reach -/
def c112 : ACode :=
  (.seq
(.reg [
.g 2 (.box (.g 0)),
.g 4 (.new [.int .i64 0, .int .i64 0, .int .i64 0, .int .i64 0, .int .i64 0])])
(.seq
(.seq
(.reg [
.g 5 (.mv (.i 0))])
(.block 0
(.loop
(.seq
(.seq
(.reg [
.l 6 (.mv (.g 5)),
.l 7 (.fa (.g 2) 0),
.l 8 (.ld none (.l 7)),
.l 9 (.len (.l 8)),
.g 10 (.bin .lss (.l 6) (.l 9))])
(.cond (.g 10)
.skip
(.exit 0)))
(.seq
(.block 1
(.seq
(.seq
(.reg [
.l 13 (.mv (.g 1)),
.l 14 (.fa (.g 2) 0),
.l 15 (.ld none (.l 14)),
.l 16 (.mv (.g 5)),
.l 17 (.ia 5 (.l 15) (.l 16)),
.l 18 (.fa (.l 17) 0),
.l 19 (.ld none (.l 18)),
.g 20 (.bin .lss (.l 13) (.l 19))])
(.cond (.g 20)
(.seq
(.reg [
.l 21 (.fa (.g 2) 0),
.l 22 (.ld none (.l 21)),
.l 23 (.mv (.g 5)),
.l 24 (.ia 5 (.l 22) (.l 23)),
.l 25 (.ld (some 5) (.l 24)),
.n (.st 5 (.g 4) (.l 25))])
.ret)
.skip))
(.reg [
.l 26 (.mv (.g 1)),
.l 27 (.fa (.g 2) 0),
.l 28 (.ld none (.l 27)),
.l 29 (.mv (.g 5)),
.l 30 (.ia 5 (.l 28) (.l 29)),
.l 31 (.fa (.l 30) 0),
.l 32 (.ld none (.l 31)),
.l 33 (.bin .sub (.l 26) (.l 32)),
.g 1 (.mv (.l 33))])))
(.reg [
.l 11 (.mv (.g 5)),
.l 12 (.bin .add (.l 11) (.i 1)),
.g 5 (.mv (.l 12))]))))))
(.seq
(.reg [
.l 34 (.mk [.int .i64 0, .int .i64 0, .int .i64 0, .int .i64 0, .int .i64 0] []),
.n (.st 5 (.g 4) (.l 34))])
.ret)))
def K112 : List Nat := [0, 1, 10, 20, 4, 2, 5]
noncomputable def b112 : Code := match Try.f112.body with | some c => c | none => .skip
theorem t112 : trCode ⟨Try.prog, K112, [], 35, none⟩ b112 = some c112 := by kernel_rfl
theorem go112 : GoS Try.prog 112 2 K112 [] 35 c112 [.cell (.g 4) (some 5)] := .mk Try.func112 (c := b112) rfl (by kernel_rfl) t112 rfl (by kernel_rfl) rfl rfl
/-- sastrugi/sastrugiref02.far -/
def c114 : ACode :=
  (.seq
(.reg [
.g 3 (.box (.g 0)),
.g 6 (.mv (.i 0))])
(.seq
(.reg [
.g 7 (.mv (.i 0))])
(.seq
(.seq
(.reg [
.l 9 (.mv (.g 1)),
.l 10 (.mv (.g 2)),
.l 11 (.mn [.l 9, .l 10]),
.g 8 (.mv (.l 11))])
(.block 0
(.loop
(.seq
(.seq
(.reg [
.l 12 (.mv (.g 8)),
.l 13 (.mv (.g 1)),
.l 14 (.mv (.g 2)),
.l 15 (.mx [.l 13, .l 14]),
.g 16 (.bin .lss (.l 12) (.l 15))])
(.cond (.g 16)
.skip
(.exit 0)))
(.seq
(.block 1
(.reg [
.l 19 (.mv (.g 7)),
.l 20 (.ld (some 4) (.g 3)),
.l 21 (.mv (.g 8)),
.l 22 (.call (.c (.fn 112 [])) [.l 20, .l 21]),
.l 23 (.fd none (.l 22) 1),
.l 24 (.bin .add (.l 19) (.l 23)),
.g 7 (.mv (.l 24))]))
(.reg [
.l 17 (.mv (.g 8)),
.l 18 (.bin .add (.l 17) (.i 1)),
.g 8 (.mv (.l 18))]))))))
(.seq
(.reg [
.l 25 (.mv (.g 7)),
.g 6 (.mv (.l 25))])
.ret))))
def K114 : List Nat := [0, 1, 2, 16, 6, 3, 7, 8]
noncomputable def b114 : Code := match Try.f114.body with | some c => c | none => .skip
theorem t114 : trCode ⟨Try.prog, K114, [], 26, none⟩ b114 = some c114 := by kernel_rfl
theorem go114 : GoS Try.prog 114 3 K114 [] 26 c114 [.t (.g 6)] := .mk Try.func114 (c := b114) rfl (by kernel_rfl) t114 rfl (by kernel_rfl) rfl rfl
/-- sastrugi/sastrugiref02.checkMarks -/
def c83 : ACode :=
  (.seq
(.reg [
.g 2 (.box (.g 0)),
.g 4 (.mv (.i 0))])
(.seq
(.seq
(.reg [
.l 7 (.mv (.g 1)),
.l 8 (.len (.l 7)),
.g 9 (.bin .gtr (.l 8) (.i 100))])
(.cond (.g 9)
(.seq
(.reg [
.g 4 (.mv (.i 8))])
.ret)
.skip))
(.seq
(.reg [
.l 10 (.ld (some 4) (.g 2)),
.l 11 (.call (.c (.fn 46 [])) [.l 10]),
.g 5 (.mv (.l 11))])
(.seq
(.seq
(.reg [
.g 6 (.mv (.i 0))])
(.block 0
(.loop
(.seq
(.seq
(.reg [
.l 12 (.mv (.g 6)),
.l 13 (.mv (.g 1)),
.l 14 (.len (.l 13)),
.g 15 (.bin .lss (.l 12) (.l 14))])
(.cond (.g 15)
.skip
(.exit 0)))
(.seq
(.block 1
(.block 2
(.seq
(.reg [
.l 19 (.mv (.g 1)),
.l 20 (.mv (.g 6)),
.l 21 (.ia 5 (.l 19) (.l 20)),
.l 22 (.fa (.l 21) 0),
.l 23 (.ld none (.l 22)),
.l 24 (.call (.c (.fn 80 [])) [.l 23, .i 1, .i 4]),
.l 25 (.un .not (.l 24)),
.g 18 (.mv (.l 25))])
(.cond (.g 18)
(.seq
(.reg [
.g 4 (.mv (.i 4))])
.ret)
(.seq
(.reg [
.l 27 (.mv (.g 1)),
.l 28 (.mv (.g 6)),
.l 29 (.ia 5 (.l 27) (.l 28)),
.l 30 (.fa (.l 29) 1),
.l 31 (.ld none (.l 30)),
.l 32 (.mv (.g 5)),
.l 33 (.bin .sub (.l 32) (.i 1)),
.l 34 (.call (.c (.fn 80 [])) [.l 31, .i 0, .l 33]),
.l 35 (.un .not (.l 34)),
.l 36 (.mv (.l 35)),
.lw 37 (.mv (.g 1)) (.l 36) false,
.lw 38 (.mv (.g 6)) (.l 36) false,
.lw 39 (.ia 5 (.l 37) (.l 38)) (.l 36) false,
.lw 40 (.fa (.l 39) 2) (.l 36) false,
.lw 41 (.ld none (.l 40)) (.l 36) false,
.lw 42 (.mv (.g 5)) (.l 36) false,
.lw 43 (.bin .sub (.l 42) (.i 1)) (.l 36) false,
.lw 44 (.call (.c (.fn 80 [])) [.l 41, .i 0, .l 43]) (.l 36) false,
.lw 45 (.un .not (.l 44)) (.l 36) false,
.l 46 (.pick (.l 36) (.b true) (.l 45)),
.g 26 (.mv (.l 46))])
(.cond (.g 26)
(.seq
(.reg [
.g 4 (.mv (.i 7))])
.ret)
(.seq
(.draw [
.l 48 (.mv (.g 1)) 0,
.l 49 (.mv (.g 6)) 1,
.l 50 (.ia 5 (.l 48) (.l 49)) 2,
.l 51 (.fa (.l 50) 1) 3,
.l 52 (.ld none (.l 51)) 4,
.l 53 (.mv (.g 1)) 5,
.l 54 (.mv (.g 6)) 6,
.l 55 (.ia 5 (.l 53) (.l 54)) 7,
.l 56 (.fa (.l 55) 2) 8,
.l 57 (.ld none (.l 56)) 9,
.l 58 (.bin .gtr (.l 52) (.l 57)) 10,
.g 47 (.mv (.l 58)) 11])
(.cond (.g 47)
(.seq
(.reg [
.g 4 (.mv (.i 11))])
.ret)
(.seq
(.reg [
.l 60 (.mv (.g 1)),
.l 61 (.mv (.g 6)),
.l 62 (.ia 5 (.l 60) (.l 61)),
.l 63 (.fa (.l 62) 3),
.l 64 (.ld none (.l 63)),
.l 65 (.call (.c (.fn 80 [])) [.l 64, .i 0, .i 10000]),
.l 66 (.un .not (.l 65)),
.l 67 (.mv (.l 66)),
.lw 68 (.mv (.g 1)) (.l 67) false,
.lw 69 (.mv (.g 6)) (.l 67) false,
.lw 70 (.ia 5 (.l 68) (.l 69)) (.l 67) false,
.lw 71 (.fa (.l 70) 4) (.l 67) false,
.lw 72 (.ld none (.l 71)) (.l 67) false,
.lw 73 (.call (.c (.fn 80 [])) [.l 72, .i 0, .i 100]) (.l 67) false,
.lw 74 (.un .not (.l 73)) (.l 67) false,
.l 75 (.pick (.l 67) (.b true) (.l 74)),
.g 59 (.mv (.l 75))])
(.cond (.g 59)
(.seq
(.reg [
.g 4 (.mv (.i 2))])
.ret)
.skip))))))))))
(.reg [
.l 16 (.mv (.g 6)),
.l 17 (.bin .add (.l 16) (.i 1)),
.g 6 (.mv (.l 17))]))))))
(.seq
(.reg [
.g 4 (.mv (.i 0))])
.ret)))))
def K83 : List Nat := [0, 1, 9, 15, 18, 26, 47, 59, 4, 2, 5, 6]
noncomputable def b83 : Code := match Try.f83.body with | some c => c | none => .skip
theorem t83 : trCode ⟨Try.prog, K83, [], 76, none⟩ b83 = some c83 := by kernel_rfl
theorem go83 : GoS Try.prog 83 2 K83 [] 76 c83 [.t (.g 4)] := .mk Try.func83 (c := b83) rfl (by kernel_rfl) t83 rfl (by kernel_rfl) rfl rfl
end Go.Sas
