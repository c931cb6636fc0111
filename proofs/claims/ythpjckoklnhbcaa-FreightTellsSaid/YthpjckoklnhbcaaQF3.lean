/-
The code of some functions with its types resolved, printed by a program; that it is the code is checked by the kernel.
Conditions: none.
-/
import Derived.Test.YthpjckoklnhbcaaQAbb
import Derived.Test.YthpjckoklnhbcaaH4
import Derived.Test.YthpjckoklnhbcaaProg
set_option linter.unusedVariables false
set_option linter.unusedSimpArgs false
namespace Go.Sas
open Go.Proofs
set_option maxRecDepth 100000
/-- sastrugi/freight.Tell -/
def c43 : ACode :=
  (.seq
(.reg [
.g 3 (.box (.g 0)),
.g 4 (.box (.g 1)),
.g 6 (.mv (.c (.lit (.slice none 0 0)))),
.g 7 (.mv (.i 0)),
.g 8 (.mv (.i 0))])
(.seq
(.seq
(.reg [
.l 10 (.ld (some 6) (.g 3)),
.l 11 (.ld (some 3) (.g 4)),
.l 12 (.mv (.g 2)),
.l 13 (.call (.c (.fn 95 [])) [.l 10, .l 11, .l 12]),
.g 9 (.mv (.l 13))])
(.seq
(.reg [
.l 14 (.mv (.g 9)),
.g 15 (.bin .neq (.l 14) (.i 0))])
(.cond (.g 15)
(.seq
(.reg [
.l 16 (.mv (.g 9)),
.g 6 (.mv (.c (.lit (.slice none 0 0)))),
.g 7 (.mv (.i 0)),
.g 8 (.mv (.l 16))])
.ret)
.skip)))
(.seq
(.reg [
.l 18 (.ld (some 6) (.g 3)),
.l 19 (.ld (some 3) (.g 4)),
.l 20 (.mk [.int .i64 0, .int .i64 0, .int .i64 0, .int .i64 0, .slice none 0 0, .slice none 0 0, .int .i64 0, .int .i64 0, .slice none 0 0] [(0, 6, .l 18), (6, 3, .l 19)]),
.l 21 (.mv (.g 2)),
.l 22 (.call (.c (.fn 87 [])) [.l 20, .l 21]),
.l 17 (.mv (.l 22)),
.l 23 (.ex (.l 17) 0),
.l 24 (.ex (.l 17) 1),
.g 6 (.mv (.l 23)),
.g 7 (.mv (.l 24))])
(.seq
(.reg [
.l 25 (.mv (.g 6)),
.l 26 (.mv (.g 7)),
.g 6 (.mv (.l 25)),
.g 7 (.mv (.l 26)),
.g 8 (.mv (.i 0))])
.ret))))
def K43 : List Nat := [0, 1, 2, 15, 6, 7, 8, 3, 4, 9]
noncomputable def b43 : Code := match Try.f43.body with | some c => c | none => .skip
theorem t43 : trCode ⟨Try.prog, K43, [], 27, none⟩ b43 = some c43 := by kernel_rfl
theorem go43 : GoS Try.prog 43 3 K43 [] 27 c43 [.t (.g 6), .t (.g 7), .t (.g 8)] := .mk Try.func43 (c := b43) rfl (by kernel_rfl) t43 rfl (by kernel_rfl) rfl rfl

/-- sastrugi/sastrugiref08.Tell -/
def c58 : ACode :=
  (.seq
(.reg [
.g 3 (.box (.g 0)),
.g 4 (.box (.g 1)),
.g 6 (.mv (.c (.lit (.slice none 0 0)))),
.g 7 (.mv (.i 0)),
.g 8 (.mv (.i 0))])
(.seq
(.seq
(.reg [
.l 14 (.ld (some 6) (.g 3)),
.l 15 (.call (.c (.fn 20 [])) [.l 14]),
.g 9 (.mv (.l 15))])
(.seq
(.reg [
.l 16 (.mv (.g 9)),
.g 17 (.bin .neq (.l 16) (.i 0))])
(.cond (.g 17)
(.seq
(.reg [
.l 18 (.mv (.g 9)),
.g 6 (.mv (.c (.lit (.slice none 0 0)))),
.g 7 (.mv (.i 0)),
.g 8 (.mv (.l 18))])
.ret)
.skip)))
(.seq
(.seq
(.reg [
.l 19 (.ld (some 6) (.g 3)),
.l 20 (.ld (some 3) (.g 4)),
.l 21 (.call (.c (.fn 94 [])) [.l 19, .l 20]),
.g 10 (.mv (.l 21))])
(.seq
(.reg [
.l 22 (.mv (.g 10)),
.g 23 (.bin .neq (.l 22) (.i 0))])
(.cond (.g 23)
(.seq
(.reg [
.l 24 (.mv (.g 10)),
.g 6 (.mv (.c (.lit (.slice none 0 0)))),
.g 7 (.mv (.i 0)),
.g 8 (.mv (.l 24))])
.ret)
.skip)))
(.seq
(.seq
(.reg [
.l 25 (.ld (some 6) (.g 3)),
.l 26 (.ld (some 3) (.g 4)),
.l 27 (.mv (.g 2)),
.l 28 (.call (.c (.fn 100 [])) [.l 25, .l 26, .l 27]),
.g 11 (.mv (.l 28))])
(.seq
(.reg [
.l 29 (.mv (.g 11)),
.g 30 (.bin .neq (.l 29) (.i 0))])
(.cond (.g 30)
(.seq
(.reg [
.l 31 (.mv (.g 11)),
.g 6 (.mv (.c (.lit (.slice none 0 0)))),
.g 7 (.mv (.i 0)),
.g 8 (.mv (.l 31))])
.ret)
.skip)))
(.seq
(.reg [
.l 33 (.ld (some 6) (.g 3)),
.l 34 (.mv (.g 2)),
.l 35 (.call (.c (.fn 89 [])) [.l 33, .l 34]),
.l 32 (.mv (.l 35)),
.l 36 (.ex (.l 32) 0),
.l 37 (.ex (.l 32) 1),
.g 12 (.mv (.l 36)),
.g 13 (.mv (.l 37))])
(.seq
(.reg [
.l 38 (.mv (.g 12)),
.l 39 (.mv (.g 13)),
.g 6 (.mv (.l 38)),
.g 7 (.mv (.l 39)),
.g 8 (.mv (.i 0))])
.ret))))))
def K58 : List Nat := [0, 1, 2, 17, 23, 30, 6, 7, 8, 3, 4, 9, 10, 11, 12, 13]
noncomputable def b58 : Code := match Try.f58.body with | some c => c | none => .skip
theorem t58 : trCode ⟨Try.prog, K58, [], 40, none⟩ b58 = some c58 := by kernel_rfl
theorem go58 : GoS Try.prog 58 3 K58 [] 40 c58 [.t (.g 6), .t (.g 7), .t (.g 8)] := .mk Try.func58 (c := b58) rfl (by kernel_rfl) t58 rfl (by kernel_rfl) rfl rfl

/-- sastrugi/freight.Bound$1 -/
def c77 : ACode :=
  (.seq
(.reg [
.g 1 (.box (.g 0)),
.g 2 (.mv (.i 0))])
(.seq
(.reg [
.l 3 (.fa (.g 1) 3),
.l 4 (.ld none (.l 3)),
.l 5 (.fa (.g 1) 2),
.l 6 (.ld none (.l 5)),
.l 7 (.bin .sub (.l 4) (.l 6)),
.g 2 (.mv (.l 7))])
.ret))
def K77 : List Nat := [0, 2, 1]
noncomputable def b77 : Code := match Try.f77.body with | some c => c | none => .skip
theorem t77 : trCode ⟨Try.prog, K77, [], 8, none⟩ b77 = some c77 := by kernel_rfl
theorem go77 : GoS Try.prog 77 1 K77 [] 8 c77 [.t (.g 2)] := .mk Try.func77 (c := b77) rfl (by kernel_rfl) t77 rfl (by kernel_rfl) rfl rfl

/-- sastrugi/freight.sorted -/
def c78 : ACode :=
  (.seq
(.reg [
.g 2 (.box (.g 0)),
.g 3 (.box (.g 1)),
.g 4 (.mv (.c (.lit (.slice none 0 0))))])
(.seq
(.reg [
.l 6 (.fa (.g 2) 5),
.l 7 (.ld none (.l 6)),
.l 8 (.call (.c (.fn 107 [])) [.l 7]),
.g 5 (.mv (.l 8))])
(.seq
(.reg [
.l 9 (.mv (.g 5)),
.l 10 (.mkf 109 [.g 3]),
.l 11 (.call (.c (.fn 108 [])) [.l 9, .l 10])])
(.seq
(.reg [
.l 12 (.mv (.g 5)),
.g 4 (.mv (.l 12))])
.ret))))
def K78 : List Nat := [0, 1, 4, 2, 3, 5]
noncomputable def b78 : Code := match Try.f78.body with | some c => c | none => .skip
theorem t78 : trCode ⟨Try.prog, K78, [], 13, none⟩ b78 = some c78 := by kernel_rfl
theorem go78 : GoS Try.prog 78 2 K78 [] 13 c78 [.t (.g 4)] := .mk Try.func78 (c := b78) rfl (by kernel_rfl) t78 rfl (by kernel_rfl) rfl rfl

/-- sastrugi/freight.Bound$2 -/
def c79 : ACode :=
  (.seq
(.reg [
.g 1 (.box (.g 0)),
.g 2 (.mv (.i 0))])
(.seq
(.reg [
.l 3 (.fa (.g 1) 2),
.l 4 (.ld none (.l 3)),
.g 2 (.mv (.l 4))])
.ret))
def K79 : List Nat := [0, 2, 1]
noncomputable def b79 : Code := match Try.f79.body with | some c => c | none => .skip
theorem t79 : trCode ⟨Try.prog, K79, [], 5, none⟩ b79 = some c79 := by kernel_rfl
theorem go79 : GoS Try.prog 79 1 K79 [] 5 c79 [.t (.g 2)] := .mk Try.func79 (c := b79) rfl (by kernel_rfl) t79 rfl (by kernel_rfl) rfl rfl

/-- sastrugi/sastrugiref08.dearest -/
def c82 : ACode :=
  (.seq
(.reg [
.g 2 (.mv (.c (.lit (.slice none 0 0))))])
(.seq
(.reg [
.g 3 (.mv (.c (.lit (.slice none 0 0))))])
(.seq
(.seq
(.reg [
.g 4 (.mv (.i 0))])
(.block 0
(.loop
(.seq
(.seq
(.reg [
.l 7 (.mv (.g 4)),
.l 8 (.mv (.g 0)),
.l 9 (.len (.l 8)),
.g 10 (.bin .lss (.l 7) (.l 9))])
(.cond (.g 10)
.skip
(.exit 0)))
(.seq
(.block 1
(.seq
(.reg [
.l 13 (.mv (.g 3)),
.l 14 (.len (.l 13)),
.g 5 (.mv (.l 14))])
(.seq
(.block 2
(.loop
(.seq
(.seq
(.draw [
.l 15 (.mv (.g 5)) 0,
.l 16 (.bin .gtr (.l 15) (.i 0)) 1,
.l 17 (.mv (.l 16)) 2,
.lw 18 (.mv (.g 0)) (.l 17) true 3,
.lw 19 (.mv (.g 3)) (.l 17) true 4,
.lw 20 (.mv (.g 5)) (.l 17) true 5,
.lw 21 (.bin .sub (.l 20) (.i 1)) (.l 17) true 6,
.lw 22 (.ia 1 (.l 19) (.l 21)) (.l 17) true 7,
.lw 23 (.ld none (.l 22)) (.l 17) true 8,
.lw 24 (.ia 1 (.l 18) (.l 23)) (.l 17) true 9,
.lw 25 (.ld none (.l 24)) (.l 17) true 10,
.lw 26 (.mv (.g 0)) (.l 17) true 11,
.lw 27 (.mv (.g 4)) (.l 17) true 12,
.lw 28 (.ia 1 (.l 26) (.l 27)) (.l 17) true 13,
.lw 29 (.ld none (.l 28)) (.l 17) true 14,
.lw 30 (.bin .lss (.l 25) (.l 29)) (.l 17) true 15,
.g 31 (.pick (.l 17) (.l 30) (.b false)) 16])
(.cond (.g 31)
.skip
(.exit 2)))
(.block 3
(.reg [
.l 32 (.mv (.g 5)),
.l 33 (.bin .sub (.l 32) (.i 1)),
.g 5 (.mv (.l 33))])))))
(.seq
(.reg [
.l 34 (.mv (.g 3)),
.l 35 (.mks false 1 [.i 0]),
.l 36 (.app 1 8 (.l 34) (.l 35)),
.g 3 (.mv (.l 36))])
(.seq
(.seq
(.reg [
.l 37 (.mv (.g 3)),
.l 38 (.len (.l 37)),
.l 39 (.bin .sub (.l 38) (.i 1)),
.g 6 (.mv (.l 39))])
(.block 4
(.loop
(.seq
(.seq
(.reg [
.l 40 (.mv (.g 6)),
.l 41 (.mv (.g 5)),
.g 42 (.bin .gtr (.l 40) (.l 41))])
(.cond (.g 42)
.skip
(.exit 4)))
(.seq
(.block 5
(.reg [
.l 45 (.mv (.g 3)),
.l 46 (.mv (.g 6)),
.l 47 (.mv (.g 3)),
.l 48 (.mv (.g 6)),
.l 49 (.bin .sub (.l 48) (.i 1)),
.l 50 (.ia 1 (.l 47) (.l 49)),
.l 51 (.ld none (.l 50)),
.l 52 (.ia 1 (.l 45) (.l 46)),
.n (.st 1 (.l 52) (.l 51))]))
(.reg [
.l 43 (.mv (.g 6)),
.l 44 (.bin .sub (.l 43) (.i 1)),
.g 6 (.mv (.l 44))]))))))
(.reg [
.l 53 (.mv (.g 3)),
.l 54 (.mv (.g 5)),
.l 55 (.mv (.g 4)),
.l 56 (.ia 1 (.l 53) (.l 54)),
.n (.st 1 (.l 56) (.l 55))]))))))
(.reg [
.l 11 (.mv (.g 4)),
.l 12 (.bin .add (.l 11) (.i 1)),
.g 4 (.mv (.l 12))]))))))
(.seq
(.reg [
.l 57 (.mv (.g 3)),
.g 2 (.mv (.l 57))])
.ret))))
def K82 : List Nat := [0, 10, 31, 42, 2, 3, 4, 5, 6]
noncomputable def b82 : Code := match Try.f82.body with | some c => c | none => .skip
theorem t82 : trCode ⟨Try.prog, K82, [], 58, none⟩ b82 = some c82 := by kernel_rfl
theorem go82 : GoS Try.prog 82 1 K82 [] 58 c82 [.t (.g 2)] := .mk Try.func82 (c := b82) rfl (by kernel_rfl) t82 rfl (by kernel_rfl) rfl rfl

/-- sastrugi/freight.checkPlan -/
def c83 : ACode :=
  (.seq
(.reg [
.g 2 (.box (.g 0)),
.g 4 (.mv (.i 0))])
(.seq
(.seq
(.reg [
.l 6 (.ld (some 6) (.g 2)),
.l 7 (.call (.c (.fn 19 [])) [.l 6]),
.g 5 (.mv (.l 7))])
(.seq
(.reg [
.l 8 (.mv (.g 5)),
.g 9 (.bin .neq (.l 8) (.i 0))])
(.cond (.g 9)
(.seq
(.reg [
.l 10 (.mv (.g 5)),
.g 4 (.mv (.l 10))])
.ret)
.skip)))
(.seq
(.seq
(.reg [
.l 11 (.ld (some 6) (.g 2)),
.l 12 (.mv (.g 1)),
.l 13 (.call (.c (.fn 93 [])) [.l 11, .l 12]),
.g 14 (.un .not (.l 13))])
(.cond (.g 14)
(.seq
(.reg [
.g 4 (.mv (.i 3))])
.ret)
.skip))
(.seq
(.reg [
.g 4 (.mv (.i 0))])
.ret))))
def K83 : List Nat := [0, 1, 9, 14, 4, 2, 5]
noncomputable def b83 : Code := match Try.f83.body with | some c => c | none => .skip
theorem t83 : trCode ⟨Try.prog, K83, [], 15, none⟩ b83 = some c83 := by kernel_rfl
theorem go83 : GoS Try.prog 83 2 K83 [] 15 c83 [.t (.g 4)] := .mk Try.func83 (c := b83) rfl (by kernel_rfl) t83 rfl (by kernel_rfl) rfl rfl

/-- sastrugi/freight.best -/
def c84 : ACode :=
  (.seq
(.reg [
.g 1 (.box (.g 0)),
.g 2 (.new [.int .i64 0, .int .i64 0, .int .i64 0, .int .i64 0, .slice none 0 0, .slice none 0 0, .int .i64 0, .int .i64 0, .slice none 0 0])])
(.seq
(.reg [
.l 6 (.fa (.g 1) 0),
.l 7 (.fa (.l 6) 0),
.l 8 (.ld none (.l 7)),
.l 9 (.fa (.g 1) 2),
.l 10 (.fa (.l 9) 1),
.l 11 (.ld none (.l 10)),
.l 12 (.mk [.int .i64 0, .int .i64 0, .slice none 0 0] [(0, 1, .l 8), (1, 1, .l 11)]),
.g 3 (.new [.int .i64 0, .int .i64 0, .slice none 0 0]),
.n (.st 3 (.g 3) (.l 12))])
(.seq
(.seq
(.reg [
.l 13 (.fa (.g 1) 4),
.g 14 (.ld none (.l 13)),
.g 15 (.len (.g 14)),
.g 16 (.mv (.i 0))])
(.block 0
(.loop
(.seq
(.reg [
.g 17 (.bin .lss (.g 16) (.g 15))])
(.seq
(.cond (.g 17)
.skip
(.exit 0))
(.seq
(.block 1
(.seq
(.reg [
.l 18 (.ia 2 (.g 14) (.g 16)),
.l 19 (.ld (some 2) (.l 18)),
.g 5 (.new [.int .i64 0, .int .i64 0]),
.n (.st 2 (.g 5) (.l 19))])
(.reg [
.l 20 (.fa (.g 3) 2),
.l 21 (.ld none (.l 20)),
.l 22 (.fa (.g 5) 1),
.l 23 (.ld none (.l 22)),
.l 24 (.mks false 1 [.l 23]),
.l 25 (.app 1 8 (.l 21) (.l 24)),
.l 26 (.fa (.g 3) 2),
.n (.st 1 (.l 26) (.l 25))])))
(.reg [
.l 27 (.bin .add (.g 16) (.i 1)),
.g 16 (.mv (.l 27))])))))))
(.seq
(.reg [
.l 28 (.ld (some 6) (.g 1)),
.l 29 (.ld (some 3) (.g 3)),
.l 30 (.mk [.int .i64 0, .int .i64 0, .int .i64 0, .int .i64 0, .slice none 0 0, .slice none 0 0, .int .i64 0, .int .i64 0, .slice none 0 0] [(0, 6, .l 28), (6, 3, .l 29)]),
.n (.st 9 (.g 2) (.l 30))])
.ret))))
def K84 : List Nat := [0, 17, 2, 1, 3, 14, 15, 16, 5]
noncomputable def b84 : Code := match Try.f84.body with | some c => c | none => .skip
theorem t84 : trCode ⟨Try.prog, K84, [], 31, none⟩ b84 = some c84 := by kernel_rfl
theorem go84 : GoS Try.prog 84 1 K84 [] 31 c84 [.cell (.g 2) (some 9)] := .mk Try.func84 (c := b84) rfl (by kernel_rfl) t84 rfl (by kernel_rfl) rfl rfl

/-- (sastrugi/freight.season).tell -/
def c87 : ACode :=
  (.seq
(.reg [
.g 2 (.box (.g 0)),
.g 4 (.mv (.c (.lit (.slice none 0 0)))),
.g 5 (.mv (.i 0))])
(.seq
(.seq
(.reg [
.l 13 (.fa (.g 2) 0),
.l 14 (.fa (.l 13) 5),
.g 15 (.ld none (.l 14)),
.g 16 (.len (.g 15)),
.g 17 (.mv (.i 0))])
(.block 0
(.loop
(.seq
(.reg [
.g 18 (.bin .lss (.g 17) (.g 16))])
(.seq
(.cond (.g 18)
.skip
(.exit 0))
(.seq
(.block 1
(.seq
(.reg [
.l 19 (.mv (.g 17)),
.l 20 (.ia 4 (.g 15) (.g 17)),
.l 21 (.ld (some 4) (.l 20)),
.g 7 (.new [.int .i64 0, .int .i64 0, .int .i64 0, .int .i64 0]),
.g 6 (.mv (.l 19)),
.n (.st 4 (.g 7) (.l 21))])
(.seq
(.draw [
.l 22 (.mv (.g 1)) 0,
.l 23 (.mv (.g 6)) 1,
.l 24 (.ia 1 (.l 22) (.l 23)) 2,
.l 25 (.ld none (.l 24)) 3,
.l 26 (.fa (.g 7) 1) 4,
.l 27 (.ld none (.l 26)) 5,
.l 28 (.bin .add (.l 27) (.i 1)) 6,
.l 29 (.fa (.g 2) 0) 7,
.l 30 (.fa (.l 29) 4) 8,
.l 31 (.ld none (.l 30)) 9,
.l 32 (.len (.l 31)) 10,
.l 33 (.mn [.l 28, .l 32]) 11,
.l 34 (.sl 1 (.l 25) none (some (.l 33)) none) 12,
.lf 35 (.call (.c (.fn 101 [])) [.l 34]) 13,
.g 8 (.mv (.l 35)) 14])
(.seq
(.reg [
.l 36 (.mv (.g 1)),
.l 37 (.mv (.g 6)),
.l 38 (.ia 1 (.l 36) (.l 37)),
.l 39 (.ld none (.l 38)),
.l 40 (.call (.c (.fn 101 [])) [.l 39]),
.g 9 (.mv (.l 40))])
(.seq
(.reg [
.l 41 (.mv (.g 8)),
.l 42 (.mv (.g 9)),
.l 43 (.mv (.g 8)),
.l 44 (.bin .sub (.l 42) (.l 43)),
.l 45 (.fa (.g 7) 0),
.l 46 (.ld none (.l 45)),
.l 47 (.mv (.g 9)),
.l 48 (.bin .sub (.l 46) (.l 47)),
.l 49 (.mk [.int .i64 0, .int .i64 0, .int .i64 0, .int .i64 0] [(0, 1, .l 41), (1, 1, .l 44), (2, 1, .l 48), (3, 1, .i (-1))]),
.g 10 (.new [.int .i64 0, .int .i64 0, .int .i64 0, .int .i64 0]),
.n (.st 4 (.g 10) (.l 49))])
(.seq
(.seq
(.reg [
.l 50 (.fa (.g 10) 2),
.l 51 (.ld none (.l 50)),
.g 52 (.bin .eql (.l 51) (.i 0))])
(.cond (.g 52)
(.seq
(.reg [
.l 53 (.mv (.g 1)),
.l 54 (.mv (.g 6)),
.l 55 (.ia 1 (.l 53) (.l 54)),
.g 56 (.ld none (.l 55)),
.g 57 (.len (.g 56)),
.g 58 (.mv (.i 0))])
(.block 2
(.loop
(.seq
(.reg [
.g 59 (.bin .lss (.g 58) (.g 57))])
(.seq
(.cond (.g 59)
.skip
(.exit 2))
(.seq
(.block 3
(.seq
(.reg [
.l 60 (.mv (.g 58)),
.l 61 (.ia 1 (.g 56) (.g 58)),
.l 62 (.ld none (.l 61)),
.g 11 (.mv (.l 60)),
.g 12 (.mv (.l 62))])
(.seq
(.reg [
.l 63 (.mv (.g 12)),
.g 64 (.bin .gtr (.l 63) (.i 0))])
(.cond (.g 64)
(.reg [
.l 65 (.mv (.g 11)),
.l 66 (.fa (.g 10) 3),
.n (.st 1 (.l 66) (.l 65))])
.skip))))
(.reg [
.l 67 (.bin .add (.g 58) (.i 1)),
.g 58 (.mv (.l 67))])))))))
.skip))
(.seq
(.reg [
.l 68 (.mv (.g 4)),
.l 69 (.ld (some 4) (.g 10)),
.l 70 (.mks false 4 [.l 69]),
.l 71 (.app 4 32 (.l 68) (.l 70)),
.g 4 (.mv (.l 71))])
(.reg [
.l 72 (.mv (.g 5)),
.l 73 (.fa (.g 10) 1),
.l 74 (.ld none (.l 73)),
.l 75 (.fa (.g 7) 2),
.l 76 (.ld none (.l 75)),
.l 77 (.bin .mul (.l 74) (.l 76)),
.l 78 (.fa (.g 10) 2),
.l 79 (.ld none (.l 78)),
.l 80 (.fa (.g 7) 3),
.l 81 (.ld none (.l 80)),
.l 82 (.bin .mul (.l 79) (.l 81)),
.l 83 (.bin .add (.l 77) (.l 82)),
.l 84 (.bin .add (.l 72) (.l 83)),
.g 5 (.mv (.l 84))]))))))))
(.reg [
.l 85 (.bin .add (.g 17) (.i 1)),
.g 17 (.mv (.l 85))])))))))
(.seq
(.reg [
.l 86 (.mv (.g 4)),
.l 87 (.mv (.g 5)),
.g 4 (.mv (.l 86)),
.g 5 (.mv (.l 87))])
.ret)))
def K87 : List Nat := [0, 1, 18, 52, 59, 64, 4, 5, 2, 15, 16, 17, 7, 6, 8, 9, 10, 56, 57, 58, 11, 12]
noncomputable def b87 : Code := match Try.f87.body with | some c => c | none => .skip
theorem t87 : trCode ⟨Try.prog, K87, [], 88, none⟩ b87 = some c87 := by kernel_rfl
theorem go87 : GoS Try.prog 87 2 K87 [] 88 c87 [.t (.g 4), .t (.g 5)] := .mk Try.func87 (c := b87) rfl (by kernel_rfl) t87 rfl (by kernel_rfl) rfl rfl

/-- (sastrugi/freight.season).spread -/
def c88 : ACode :=
  (.seq
(.reg [
.g 2 (.box (.g 0)),
.g 4 (.mv (.c (.lit (.slice none 0 0))))])
(.seq
(.reg [
.g 5 (.new [.int .i64 0, .int .i64 0, .int .i64 0, .int .i64 0, .int .i64 0, .int .i64 0])])
(.seq
(.reg [
.l 14 (.fa (.g 2) 0),
.l 15 (.fa (.l 14) 5),
.l 16 (.ld none (.l 15)),
.l 17 (.len (.l 16)),
.l 18 (.mksl 1 24 [.slice none 0 0] (.l 17) (.l 17)),
.g 6 (.mv (.l 18))])
(.seq
(.seq
(.reg [
.l 19 (.fa (.g 2) 0),
.l 20 (.fa (.l 19) 5),
.g 21 (.ld none (.l 20)),
.g 22 (.len (.g 21)),
.g 23 (.mv (.i 0))])
(.block 0
(.loop
(.seq
(.reg [
.g 24 (.bin .lss (.g 23) (.g 22))])
(.seq
(.cond (.g 24)
.skip
(.exit 0))
(.seq
(.block 1
(.seq
(.reg [
.l 25 (.mv (.g 23)),
.l 26 (.ia 4 (.g 21) (.g 23)),
.l 27 (.ld (some 4) (.l 26)),
.g 8 (.new [.int .i64 0, .int .i64 0, .int .i64 0, .int .i64 0]),
.g 7 (.mv (.l 25)),
.n (.st 4 (.g 8) (.l 27))])
(.seq
(.reg [
.l 28 (.mv (.g 7)),
.l 29 (.fa (.g 8) 0),
.l 30 (.ld none (.l 29)),
.l 31 (.iaa 6 1 (.g 5) (.l 28)),
.n (.st 1 (.l 31) (.l 30))])
(.reg [
.l 32 (.mv (.g 6)),
.l 33 (.mv (.g 7)),
.l 34 (.fa (.g 2) 0),
.l 35 (.fa (.l 34) 4),
.l 36 (.ld none (.l 35)),
.l 37 (.len (.l 36)),
.l 38 (.mksl 1 8 [.int .i64 0] (.l 37) (.l 37)),
.l 39 (.ia 1 (.l 32) (.l 33)),
.n (.st 1 (.l 39) (.l 38))]))))
(.reg [
.l 40 (.bin .add (.g 23) (.i 1)),
.g 23 (.mv (.l 40))])))))))
(.seq
(.seq
(.reg [
.l 41 (.fa (.g 2) 0),
.l 42 (.fa (.l 41) 4),
.l 43 (.ld none (.l 42)),
.g 44 (.len (.l 43)),
.g 45 (.mv (.i 0))])
(.block 2
(.loop
(.seq
(.reg [
.g 46 (.bin .lss (.g 45) (.g 44))])
(.seq
(.cond (.g 46)
.skip
(.exit 2))
(.seq
(.block 3
(.seq
(.reg [
.l 47 (.mv (.g 45)),
.g 9 (.mv (.l 47))])
(.seq
(.reg [
.l 48 (.ld (some 9) (.g 2)),
.l 49 (.mv (.g 9)),
.l 50 (.call (.c (.fn 76 [])) [.l 48, .l 49]),
.g 10 (.mv (.l 50))])
(.seq
(.reg [
.g 51 (.mv (.g 1)),
.g 52 (.len (.g 51)),
.g 53 (.mv (.i 0))])
(.block 4
(.loop
(.seq
(.reg [
.g 54 (.bin .lss (.g 53) (.g 52))])
(.seq
(.cond (.g 54)
.skip
(.exit 4))
(.seq
(.block 5
(.seq
(.reg [
.l 55 (.ia 1 (.g 51) (.g 53)),
.l 56 (.ld none (.l 55)),
.g 12 (.mv (.l 56))])
(.seq
(.reg [
.l 57 (.mv (.g 10)),
.l 58 (.mv (.g 12)),
.l 59 (.iaa 6 1 (.g 5) (.l 58)),
.l 60 (.ld none (.l 59)),
.l 61 (.mn [.l 57, .l 60]),
.g 13 (.mv (.l 61))])
(.seq
(.reg [
.l 62 (.mv (.g 6)),
.l 63 (.mv (.g 12)),
.l 64 (.ia 1 (.l 62) (.l 63)),
.l 65 (.ld none (.l 64)),
.l 66 (.mv (.g 9)),
.l 67 (.mv (.g 13)),
.l 68 (.ia 1 (.l 65) (.l 66)),
.n (.st 1 (.l 68) (.l 67))])
(.seq
(.reg [
.l 69 (.mv (.g 10)),
.l 70 (.mv (.g 13)),
.l 71 (.bin .sub (.l 69) (.l 70)),
.g 10 (.mv (.l 71))])
(.reg [
.l 72 (.mv (.g 12)),
.l 73 (.iaa 6 1 (.g 5) (.l 72)),
.l 74 (.ld none (.l 73)),
.l 75 (.mv (.g 13)),
.l 76 (.bin .sub (.l 74) (.l 75)),
.l 77 (.iaa 6 1 (.g 5) (.l 72)),
.n (.st 1 (.l 77) (.l 76))]))))))
(.reg [
.l 78 (.bin .add (.g 53) (.i 1)),
.g 53 (.mv (.l 78))]))))))))))
(.reg [
.l 79 (.bin .add (.g 45) (.i 1)),
.g 45 (.mv (.l 79))])))))))
(.seq
(.reg [
.l 80 (.mv (.g 6)),
.g 4 (.mv (.l 80))])
.ret))))))
def K88 : List Nat := [0, 1, 24, 46, 54, 4, 2, 5, 6, 21, 22, 23, 8, 7, 44, 45, 9, 10, 51, 52, 53, 12, 13]
noncomputable def b88 : Code := match Try.f88.body with | some c => c | none => .skip
theorem t88 : trCode ⟨Try.prog, K88, [], 81, none⟩ b88 = some c88 := by kernel_rfl
theorem go88 : GoS Try.prog 88 2 K88 [] 81 c88 [.t (.g 4)] := .mk Try.func88 (c := b88) rfl (by kernel_rfl) t88 rfl (by kernel_rfl) rfl rfl

/-- sastrugi/sastrugiref08.tell -/
def c89 : ACode :=
  (.seq
(.reg [
.g 2 (.box (.g 0)),
.g 4 (.mv (.c (.lit (.slice none 0 0)))),
.g 5 (.mv (.i 0))])
(.seq
(.reg [
.g 6 (.mv (.c (.lit (.slice none 0 0))))])
(.seq
(.reg [
.g 7 (.mv (.i 0))])
(.seq
(.seq
(.reg [
.g 8 (.mv (.i 0))])
(.block 0
(.loop
(.seq
(.seq
(.reg [
.l 13 (.mv (.g 8)),
.l 14 (.mv (.g 1)),
.l 15 (.len (.l 14)),
.g 16 (.bin .lss (.l 13) (.l 15))])
(.cond (.g 16)
.skip
(.exit 0)))
(.seq
(.block 1
(.seq
(.reg [
.l 19 (.fa (.g 2) 5),
.l 20 (.ld none (.l 19)),
.l 21 (.mv (.g 8)),
.l 22 (.ia 4 (.l 20) (.l 21)),
.l 23 (.ld (some 4) (.l 22)),
.g 9 (.new [.int .i64 0, .int .i64 0, .int .i64 0, .int .i64 0]),
.n (.st 4 (.g 9) (.l 23))])
(.seq
(.reg [
.l 24 (.fa (.g 9) 0),
.l 25 (.ld none (.l 24)),
.l 26 (.mk [.int .i64 0, .int .i64 0, .int .i64 0, .int .i64 0] [(2, 1, .l 25), (3, 1, .i (-1))]),
.g 10 (.new [.int .i64 0, .int .i64 0, .int .i64 0, .int .i64 0]),
.n (.st 4 (.g 10) (.l 26))])
(.seq
(.seq
(.reg [
.g 11 (.mv (.i 0))])
(.block 2
(.loop
(.seq
(.seq
(.reg [
.l 27 (.mv (.g 11)),
.l 28 (.mv (.g 1)),
.l 29 (.mv (.g 8)),
.l 30 (.ia 1 (.l 28) (.l 29)),
.l 31 (.ld none (.l 30)),
.l 32 (.len (.l 31)),
.g 33 (.bin .lss (.l 27) (.l 32))])
(.cond (.g 33)
.skip
(.exit 2)))
(.seq
(.block 3
(.seq
(.reg [
.l 36 (.mv (.g 1)),
.l 37 (.mv (.g 8)),
.l 38 (.ia 1 (.l 36) (.l 37)),
.l 39 (.ld none (.l 38)),
.l 40 (.mv (.g 11)),
.l 41 (.ia 1 (.l 39) (.l 40)),
.l 42 (.ld none (.l 41)),
.g 12 (.mv (.l 42))])
(.seq
(.reg [
.l 43 (.fa (.g 10) 2),
.l 44 (.ld none (.l 43)),
.l 45 (.mv (.g 12)),
.l 46 (.bin .sub (.l 44) (.l 45)),
.l 47 (.fa (.g 10) 2),
.n (.st 1 (.l 47) (.l 46))])
(.seq
(.seq
(.reg [
.l 48 (.mv (.g 12)),
.g 49 (.bin .gtr (.l 48) (.i 0))])
(.cond (.g 49)
(.reg [
.l 50 (.mv (.g 11)),
.l 51 (.fa (.g 10) 3),
.n (.st 1 (.l 51) (.l 50))])
.skip))
(.seq
(.reg [
.l 52 (.mv (.g 11)),
.l 53 (.fa (.g 9) 1),
.l 54 (.ld none (.l 53)),
.g 55 (.bin .leq (.l 52) (.l 54))])
(.cond (.g 55)
(.reg [
.l 56 (.fa (.g 10) 0),
.l 57 (.ld none (.l 56)),
.l 58 (.mv (.g 12)),
.l 59 (.bin .add (.l 57) (.l 58)),
.l 60 (.fa (.g 10) 0),
.n (.st 1 (.l 60) (.l 59))])
(.reg [
.l 61 (.fa (.g 10) 1),
.l 62 (.ld none (.l 61)),
.l 63 (.mv (.g 12)),
.l 64 (.bin .add (.l 62) (.l 63)),
.l 65 (.fa (.g 10) 1),
.n (.st 1 (.l 65) (.l 64))])))))))
(.reg [
.l 34 (.mv (.g 11)),
.l 35 (.bin .add (.l 34) (.i 1)),
.g 11 (.mv (.l 35))]))))))
(.seq
(.seq
(.reg [
.l 66 (.fa (.g 10) 2),
.l 67 (.ld none (.l 66)),
.g 68 (.bin .gtr (.l 67) (.i 0))])
(.cond (.g 68)
(.reg [
.l 69 (.fa (.g 10) 3),
.n (.st 1 (.l 69) (.i (-1)))])
.skip))
(.draw [
.l 70 (.mv (.g 6)) 0,
.l 71 (.ld (some 4) (.g 10)) 1,
.l 72 (.mks false 4 [.l 71]) 2,
.l 74 (.mv (.g 7)) 4,
.l 75 (.fa (.g 10) 1) 5,
.l 76 (.ld none (.l 75)) 6,
.l 77 (.fa (.g 9) 2) 7,
.l 78 (.ld none (.l 77)) 8,
.l 79 (.bin .mul (.l 76) (.l 78)) 9,
.l 80 (.bin .add (.l 74) (.l 79)) 10,
.l 81 (.fa (.g 10) 2) 11,
.l 82 (.ld none (.l 81)) 12,
.l 83 (.fa (.g 9) 3) 13,
.l 84 (.ld none (.l 83)) 14,
.l 85 (.bin .mul (.l 82) (.l 84)) 15,
.l 86 (.bin .add (.l 80) (.l 85)) 16,
.lf 73 (.app 4 32 (.l 70) (.l 72)) 3,
.g 6 (.mv (.l 73)) 17,
.g 7 (.mv (.l 86)) 18]))))))
(.reg [
.l 17 (.mv (.g 8)),
.l 18 (.bin .add (.l 17) (.i 1)),
.g 8 (.mv (.l 18))]))))))
(.seq
(.reg [
.l 87 (.mv (.g 6)),
.l 88 (.mv (.g 7)),
.g 4 (.mv (.l 87)),
.g 5 (.mv (.l 88))])
.ret)))))
def K89 : List Nat := [0, 1, 16, 33, 49, 55, 68, 4, 5, 2, 6, 7, 8, 9, 10, 11, 12]
noncomputable def b89 : Code := match Try.f89.body with | some c => c | none => .skip
theorem t89 : trCode ⟨Try.prog, K89, [], 89, none⟩ b89 = some c89 := by kernel_rfl
theorem go89 : GoS Try.prog 89 2 K89 [] 89 c89 [.t (.g 4), .t (.g 5)] := .mk Try.func89 (c := b89) rfl (by kernel_rfl) t89 rfl (by kernel_rfl) rfl rfl

/-- (*sastrugi/sastrugikit.Seed).Inside -/
def c91 : ACode :=
  (.seq
(.reg [
.g 3 (.box (.g 1)),
.g 4 (.mv (.i 0))])
(.seq
(.draw [
.l 5 (.mv (.g 0)) 0,
.l 6 (.fa (.g 3) 0) 1,
.l 7 (.ld none (.l 6)) 2,
.l 8 (.fa (.g 3) 1) 3,
.l 9 (.ld none (.l 8)) 4,
.l 10 (.mv (.g 0)) 5,
.l 11 (.fa (.g 3) 0) 6,
.l 12 (.ld none (.l 11)) 7,
.l 13 (.fa (.g 3) 1) 8,
.l 14 (.ld none (.l 13)) 9,
.l 16 (.mv (.g 0)) 11,
.l 17 (.fa (.g 3) 0) 12,
.l 18 (.ld none (.l 17)) 13,
.l 19 (.fa (.g 3) 1) 14,
.l 20 (.ld none (.l 19)) 15,
.lf 15 (.call (.c (.fn 45 [])) [.l 10, .l 12, .l 14]) 10,
.lf 21 (.call (.c (.fn 45 [])) [.l 16, .l 18, .l 20]) 16,
.l 22 (.mks false 1 [.l 7, .l 9, .l 15, .l 21]) 17,
.lf 23 (.call (.c (.fn 46 [])) [.l 5, .l 22]) 18,
.g 4 (.mv (.l 23)) 19])
.ret))
def K91 : List Nat := [0, 1, 4, 3]
noncomputable def b91 : Code := match Try.f91.body with | some c => c | none => .skip
theorem t91 : trCode ⟨Try.prog, K91, [], 24, none⟩ b91 = some c91 := by kernel_rfl
theorem go91 : GoS Try.prog 91 2 K91 [] 24 c91 [.t (.g 4)] := .mk Try.func91 (c := b91) rfl (by kernel_rfl) t91 rfl (by kernel_rfl) rfl rfl

/-- sastrugi/freight.checkWinter -/
def c92 : ACode :=
  (.seq
(.reg [
.g 2 (.box (.g 0)),
.g 3 (.box (.g 1)),
.g 4 (.mv (.i 0))])
(.seq
(.seq
(.reg [
.l 9 (.ld (some 6) (.g 2)),
.l 10 (.call (.c (.fn 19 [])) [.l 9]),
.g 5 (.mv (.l 10))])
(.seq
(.reg [
.l 11 (.mv (.g 5)),
.g 12 (.bin .neq (.l 11) (.i 0))])
(.cond (.g 12)
(.seq
(.reg [
.l 13 (.mv (.g 5)),
.g 4 (.mv (.l 13))])
.ret)
.skip)))
(.seq
(.seq
(.reg [
.l 14 (.fa (.g 3) 2),
.l 15 (.ld none (.l 14)),
.l 16 (.len (.l 15)),
.l 17 (.fa (.g 2) 4),
.l 18 (.ld none (.l 17)),
.l 19 (.len (.l 18)),
.g 20 (.bin .neq (.l 16) (.l 19))])
(.cond (.g 20)
(.seq
(.reg [
.g 4 (.mv (.i 3))])
.ret)
.skip))
(.seq
(.reg [
.l 21 (.fa (.g 3) 0),
.l 22 (.ld none (.l 21)),
.l 23 (.fa (.g 2) 0),
.l 24 (.fa (.l 23) 0),
.l 25 (.ld none (.l 24)),
.l 26 (.fa (.g 2) 0),
.l 27 (.fa (.l 26) 1),
.l 28 (.ld none (.l 27)),
.l 29 (.call (.c (.fn 65 [])) [.l 22, .l 25, .l 28]),
.l 30 (.mv (.l 29)),
.lw 31 (.fa (.g 3) 1) (.l 30) true,
.lw 32 (.ld none (.l 31)) (.l 30) true,
.lw 33 (.fa (.g 2) 2) (.l 30) true,
.lw 34 (.fa (.l 33) 0) (.l 30) true,
.lw 35 (.ld none (.l 34)) (.l 30) true,
.lw 36 (.fa (.g 2) 2) (.l 30) true,
.lw 37 (.fa (.l 36) 1) (.l 30) true,
.lw 38 (.ld none (.l 37)) (.l 30) true,
.lw 39 (.call (.c (.fn 65 [])) [.l 32, .l 35, .l 38]) (.l 30) true,
.l 40 (.pick (.l 30) (.l 39) (.b false)),
.g 6 (.mv (.l 40))])
(.seq
(.seq
(.reg [
.l 41 (.fa (.g 3) 2),
.g 42 (.ld none (.l 41)),
.g 43 (.len (.g 42)),
.g 44 (.mv (.i 0))])
(.block 0
(.loop
(.seq
(.reg [
.g 45 (.bin .lss (.g 44) (.g 43))])
(.seq
(.cond (.g 45)
.skip
(.exit 0))
(.seq
(.block 1
(.seq
(.reg [
.l 46 (.mv (.g 44)),
.l 47 (.ia 1 (.g 42) (.g 44)),
.l 48 (.ld none (.l 47)),
.g 7 (.mv (.l 46)),
.g 8 (.mv (.l 48))])
(.draw [
.l 49 (.mv (.g 6)) 0,
.l 50 (.mv (.l 49)) 1,
.lw 51 (.mv (.g 8)) (.l 50) true 2,
.lw 52 (.fa (.g 2) 4) (.l 50) true 3,
.lw 53 (.ld none (.l 52)) (.l 50) true 4,
.lw 54 (.mv (.g 7)) (.l 50) true 5,
.lw 55 (.ia 2 (.l 53) (.l 54)) (.l 50) true 6,
.lw 56 (.fa (.l 55) 0) (.l 50) true 7,
.lw 57 (.ld none (.l 56)) (.l 50) true 8,
.lw 58 (.fa (.g 2) 4) (.l 50) true 9,
.lw 59 (.ld none (.l 58)) (.l 50) true 10,
.lw 60 (.mv (.g 7)) (.l 50) true 11,
.lw 61 (.ia 2 (.l 59) (.l 60)) (.l 50) true 12,
.lw 62 (.fa (.l 61) 1) (.l 50) true 13,
.lw 63 (.ld none (.l 62)) (.l 50) true 14,
.lwf 64 (.call (.c (.fn 65 [])) [.l 51, .l 57, .l 63]) (.l 50) true 15,
.l 65 (.pick (.l 50) (.l 64) (.b false)) 16,
.g 6 (.mv (.l 65)) 17])))
(.reg [
.l 66 (.bin .add (.g 44) (.i 1)),
.g 44 (.mv (.l 66))])))))))
(.seq
(.seq
(.reg [
.l 67 (.mv (.g 6)),
.g 68 (.un .not (.l 67))])
(.cond (.g 68)
(.seq
(.reg [
.g 4 (.mv (.i 2))])
.ret)
.skip))
(.seq
(.reg [
.g 4 (.mv (.i 0))])
.ret)))))))
def K92 : List Nat := [0, 1, 12, 20, 45, 68, 4, 2, 3, 5, 6, 42, 43, 44, 7, 8]
noncomputable def b92 : Code := match Try.f92.body with | some c => c | none => .skip
theorem t92 : trCode ⟨Try.prog, K92, [], 69, none⟩ b92 = some c92 := by kernel_rfl
theorem go92 : GoS Try.prog 92 2 K92 [] 69 c92 [.t (.g 4)] := .mk Try.func92 (c := b92) rfl (by kernel_rfl) t92 rfl (by kernel_rfl) rfl rfl

/-- sastrugi/freight.isPlan -/
def c93 : ACode :=
  (.seq
(.reg [
.g 2 (.box (.g 0)),
.g 4 (.mv (.b false))])
(.seq
(.reg [
.g 5 (.new [.bool false, .bool false, .bool false, .bool false, .bool false, .bool false])])
(.seq
(.seq
(.reg [
.g 8 (.mv (.g 1)),
.g 9 (.len (.g 8)),
.g 10 (.mv (.i 0))])
(.block 0
(.loop
(.seq
(.reg [
.g 11 (.bin .lss (.g 10) (.g 9))])
(.seq
(.cond (.g 11)
.skip
(.exit 0))
(.seq
(.block 1
(.seq
(.reg [
.l 12 (.ia 1 (.g 8) (.g 10)),
.l 13 (.ld none (.l 12)),
.g 7 (.mv (.l 13))])
(.seq
(.seq
(.reg [
.l 14 (.mv (.g 7)),
.l 15 (.fa (.g 2) 5),
.l 16 (.ld none (.l 15)),
.l 17 (.len (.l 16)),
.l 18 (.bin .sub (.l 17) (.i 1)),
.l 19 (.call (.c (.fn 65 [])) [.l 14, .i 0, .l 18]),
.l 20 (.un .not (.l 19)),
.l 21 (.mv (.l 20)),
.lw 22 (.mv (.g 7)) (.l 21) false,
.lw 23 (.iaa 6 1 (.g 5) (.l 22)) (.l 21) false,
.lw 24 (.ld none (.l 23)) (.l 21) false,
.g 25 (.pick (.l 21) (.b true) (.l 24))])
(.cond (.g 25)
(.seq
(.reg [
.g 4 (.mv (.b false))])
.ret)
.skip))
(.reg [
.l 26 (.mv (.g 7)),
.l 27 (.iaa 6 1 (.g 5) (.l 26)),
.n (.st 1 (.l 27) (.b true))]))))
(.reg [
.l 28 (.bin .add (.g 10) (.i 1)),
.g 10 (.mv (.l 28))])))))))
(.seq
(.reg [
.l 29 (.mv (.g 1)),
.l 30 (.len (.l 29)),
.l 31 (.fa (.g 2) 5),
.l 32 (.ld none (.l 31)),
.l 33 (.len (.l 32)),
.l 34 (.bin .eql (.l 30) (.l 33)),
.g 4 (.mv (.l 34))])
.ret))))
def K93 : List Nat := [0, 1, 11, 25, 4, 2, 5, 8, 9, 10, 7]
noncomputable def b93 : Code := match Try.f93.body with | some c => c | none => .skip
theorem t93 : trCode ⟨Try.prog, K93, [], 35, none⟩ b93 = some c93 := by kernel_rfl
theorem go93 : GoS Try.prog 93 2 K93 [] 35 c93 [.t (.g 4)] := .mk Try.func93 (c := b93) rfl (by kernel_rfl) t93 rfl (by kernel_rfl) rfl rfl

/-- sastrugi/sastrugiref08.checkWinter -/
def c94 : ACode :=
  (.seq
(.reg [
.g 2 (.box (.g 0)),
.g 3 (.box (.g 1)),
.g 4 (.mv (.i 0))])
(.seq
(.seq
(.reg [
.l 6 (.fa (.g 3) 2),
.l 7 (.ld none (.l 6)),
.l 8 (.len (.l 7)),
.l 9 (.fa (.g 2) 4),
.l 10 (.ld none (.l 9)),
.l 11 (.len (.l 10)),
.g 12 (.bin .neq (.l 8) (.l 11))])
(.cond (.g 12)
(.seq
(.reg [
.g 4 (.mv (.i 3))])
.ret)
.skip))
(.seq
(.seq
(.reg [
.l 13 (.fa (.g 3) 0),
.l 14 (.ld none (.l 13)),
.l 15 (.fa (.g 2) 0),
.l 16 (.fa (.l 15) 0),
.l 17 (.ld none (.l 16)),
.l 18 (.fa (.g 2) 0),
.l 19 (.fa (.l 18) 1),
.l 20 (.ld none (.l 19)),
.l 21 (.call (.c (.fn 67 [])) [.l 14, .l 17, .l 20]),
.l 22 (.un .not (.l 21)),
.l 23 (.mv (.l 22)),
.lw 24 (.fa (.g 3) 1) (.l 23) false,
.lw 25 (.ld none (.l 24)) (.l 23) false,
.lw 26 (.fa (.g 2) 2) (.l 23) false,
.lw 27 (.fa (.l 26) 0) (.l 23) false,
.lw 28 (.ld none (.l 27)) (.l 23) false,
.lw 29 (.fa (.g 2) 2) (.l 23) false,
.lw 30 (.fa (.l 29) 1) (.l 23) false,
.lw 31 (.ld none (.l 30)) (.l 23) false,
.lw 32 (.call (.c (.fn 67 [])) [.l 25, .l 28, .l 31]) (.l 23) false,
.lw 33 (.un .not (.l 32)) (.l 23) false,
.g 34 (.pick (.l 23) (.b true) (.l 33))])
(.cond (.g 34)
(.seq
(.reg [
.g 4 (.mv (.i 2))])
.ret)
.skip))
(.seq
(.seq
(.reg [
.g 5 (.mv (.i 0))])
(.block 0
(.loop
(.seq
(.seq
(.reg [
.l 35 (.mv (.g 5)),
.l 36 (.fa (.g 3) 2),
.l 37 (.ld none (.l 36)),
.l 38 (.len (.l 37)),
.g 39 (.bin .lss (.l 35) (.l 38))])
(.cond (.g 39)
.skip
(.exit 0)))
(.seq
(.block 1
(.seq
(.draw [
.l 42 (.fa (.g 3) 2) 0,
.l 43 (.ld none (.l 42)) 1,
.l 44 (.mv (.g 5)) 2,
.l 45 (.ia 1 (.l 43) (.l 44)) 3,
.l 46 (.ld none (.l 45)) 4,
.l 47 (.fa (.g 2) 4) 5,
.l 48 (.ld none (.l 47)) 6,
.l 49 (.mv (.g 5)) 7,
.l 50 (.ia 2 (.l 48) (.l 49)) 8,
.l 51 (.fa (.l 50) 0) 9,
.l 52 (.ld none (.l 51)) 10,
.l 53 (.fa (.g 2) 4) 11,
.l 54 (.ld none (.l 53)) 12,
.l 55 (.mv (.g 5)) 13,
.l 56 (.ia 2 (.l 54) (.l 55)) 14,
.l 57 (.fa (.l 56) 1) 15,
.l 58 (.ld none (.l 57)) 16,
.lf 59 (.call (.c (.fn 67 [])) [.l 46, .l 52, .l 58]) 17,
.g 60 (.un .not (.l 59)) 18])
(.cond (.g 60)
(.seq
(.reg [
.g 4 (.mv (.i 2))])
.ret)
.skip)))
(.reg [
.l 40 (.mv (.g 5)),
.l 41 (.bin .add (.l 40) (.i 1)),
.g 5 (.mv (.l 41))]))))))
(.seq
(.reg [
.g 4 (.mv (.i 0))])
.ret)))))
def K94 : List Nat := [0, 1, 12, 34, 39, 60, 4, 2, 3, 5]
noncomputable def b94 : Code := match Try.f94.body with | some c => c | none => .skip
theorem t94 : trCode ⟨Try.prog, K94, [], 61, none⟩ b94 = some c94 := by kernel_rfl
theorem go94 : GoS Try.prog 94 2 K94 [] 61 c94 [.t (.g 4)] := .mk Try.func94 (c := b94) rfl (by kernel_rfl) t94 rfl (by kernel_rfl) rfl rfl

/-- sastrugi/freight.checkWay -/
def c95 : ACode :=
  (.seq
(.reg [
.g 3 (.box (.g 0)),
.g 4 (.box (.g 1)),
.g 6 (.mv (.i 0))])
(.seq
(.seq
(.reg [
.l 18 (.ld (some 6) (.g 3)),
.l 19 (.ld (some 3) (.g 4)),
.l 20 (.call (.c (.fn 92 [])) [.l 18, .l 19]),
.g 7 (.mv (.l 20))])
(.seq
(.reg [
.l 21 (.mv (.g 7)),
.g 22 (.bin .neq (.l 21) (.i 0))])
(.cond (.g 22)
(.seq
(.reg [
.l 23 (.mv (.g 7)),
.g 6 (.mv (.l 23))])
.ret)
.skip)))
(.seq
(.seq
(.reg [
.l 24 (.mv (.g 2)),
.l 25 (.len (.l 24)),
.l 26 (.fa (.g 3) 5),
.l 27 (.ld none (.l 26)),
.l 28 (.len (.l 27)),
.l 29 (.bin .neq (.l 25) (.l 28)),
.l 30 (.mv (.l 29)),
.lw 31 (.mv (.g 2)) (.l 30) false,
.lw 32 (.mkf 113 [.g 3]) (.l 30) false,
.lw 33 (.call (.c (.fn 112 [])) [.l 31, .l 32]) (.l 30) false,
.g 34 (.pick (.l 30) (.b true) (.l 33))])
(.cond (.g 34)
(.seq
(.reg [
.g 6 (.mv (.i 3))])
.ret)
.skip))
(.seq
(.reg [
.l 35 (.fa (.g 3) 4),
.l 36 (.ld none (.l 35)),
.l 37 (.len (.l 36)),
.l 38 (.mksl 1 8 [.int .i64 0] (.l 37) (.l 37)),
.g 8 (.mv (.l 38))])
(.seq
(.seq
(.reg [
.g 39 (.mv (.g 2)),
.g 40 (.len (.g 39)),
.g 41 (.mv (.i 0))])
(.block 0
(.loop
(.seq
(.reg [
.g 42 (.bin .lss (.g 41) (.g 40))])
(.seq
(.cond (.g 42)
.skip
(.exit 0))
(.seq
(.block 1
(.seq
(.reg [
.l 43 (.ia 1 (.g 39) (.g 41)),
.l 44 (.ld none (.l 43)),
.g 10 (.mv (.l 44))])
(.seq
(.reg [
.g 45 (.mv (.g 10)),
.g 46 (.len (.g 45)),
.g 47 (.mv (.i 0))])
(.block 2
(.loop
(.seq
(.reg [
.g 48 (.bin .lss (.g 47) (.g 46))])
(.seq
(.cond (.g 48)
.skip
(.exit 2))
(.seq
(.block 3
(.seq
(.reg [
.l 49 (.mv (.g 47)),
.l 50 (.ia 1 (.g 45) (.g 47)),
.l 51 (.ld none (.l 50)),
.g 11 (.mv (.l 49)),
.g 12 (.mv (.l 51))])
(.seq
(.seq
(.reg [
.l 52 (.mv (.g 12)),
.l 53 (.call (.c (.fn 65 [])) [.l 52, .i 0, .i 1000000]),
.g 54 (.un .not (.l 53))])
(.cond (.g 54)
(.seq
(.reg [
.g 6 (.mv (.i 2))])
.ret)
.skip))
(.reg [
.l 55 (.mv (.g 8)),
.l 56 (.mv (.g 11)),
.l 57 (.ia 1 (.l 55) (.l 56)),
.l 58 (.ld none (.l 57)),
.l 59 (.mv (.g 12)),
.l 60 (.bin .add (.l 58) (.l 59)),
.l 61 (.ia 1 (.l 55) (.l 56)),
.n (.st 1 (.l 61) (.l 60))]))))
(.reg [
.l 62 (.bin .add (.g 47) (.i 1)),
.g 47 (.mv (.l 62))])))))))))
(.reg [
.l 63 (.bin .add (.g 41) (.i 1)),
.g 41 (.mv (.l 63))])))))))
(.seq
(.reg [
.l 64 (.ld (some 6) (.g 3)),
.l 65 (.ld (some 3) (.g 4)),
.l 66 (.mk [.int .i64 0, .int .i64 0, .int .i64 0, .int .i64 0, .slice none 0 0, .slice none 0 0, .int .i64 0, .int .i64 0, .slice none 0 0] [(0, 6, .l 64), (6, 3, .l 65)]),
.g 13 (.new [.int .i64 0, .int .i64 0, .int .i64 0, .int .i64 0, .slice none 0 0, .slice none 0 0, .int .i64 0, .int .i64 0, .slice none 0 0]),
.n (.st 9 (.g 13) (.l 66))])
(.seq
(.seq
(.reg [
.g 67 (.mv (.g 8)),
.g 68 (.len (.g 67)),
.g 69 (.mv (.i 0))])
(.block 4
(.loop
(.seq
(.reg [
.g 70 (.bin .lss (.g 69) (.g 68))])
(.seq
(.cond (.g 70)
.skip
(.exit 4))
(.seq
(.block 5
(.seq
(.reg [
.l 71 (.mv (.g 69)),
.l 72 (.ia 1 (.g 67) (.g 69)),
.l 73 (.ld none (.l 72)),
.g 14 (.mv (.l 71)),
.g 15 (.mv (.l 73))])
(.seq
(.reg [
.l 74 (.mv (.g 15)),
.l 75 (.ld (some 9) (.g 13)),
.l 76 (.mv (.g 14)),
.l 77 (.call (.c (.fn 76 [])) [.l 75, .l 76]),
.g 78 (.bin .gtr (.l 74) (.l 77))])
(.cond (.g 78)
(.seq
(.reg [
.g 6 (.mv (.i 12))])
.ret)
.skip))))
(.reg [
.l 79 (.bin .add (.g 69) (.i 1)),
.g 69 (.mv (.l 79))])))))))
(.seq
(.seq
(.reg [
.g 80 (.mv (.g 2)),
.g 81 (.len (.g 80)),
.g 82 (.mv (.i 0))])
(.block 6
(.loop
(.seq
(.reg [
.g 83 (.bin .lss (.g 82) (.g 81))])
(.seq
(.cond (.g 83)
.skip
(.exit 6))
(.seq
(.block 7
(.seq
(.reg [
.l 84 (.mv (.g 82)),
.l 85 (.ia 1 (.g 80) (.g 82)),
.l 86 (.ld none (.l 85)),
.g 16 (.mv (.l 84)),
.g 17 (.mv (.l 86))])
(.seq
(.draw [
.l 87 (.mv (.g 17)) 0,
.l 89 (.fa (.g 3) 5) 2,
.l 90 (.ld none (.l 89)) 3,
.l 91 (.mv (.g 16)) 4,
.l 92 (.ia 4 (.l 90) (.l 91)) 5,
.l 93 (.fa (.l 92) 0) 6,
.l 94 (.ld none (.l 93)) 7,
.lf 88 (.call (.c (.fn 101 [])) [.l 87]) 1,
.g 95 (.bin .gtr (.l 88) (.l 94)) 8])
(.cond (.g 95)
(.seq
(.reg [
.g 6 (.mv (.i 14))])
.ret)
.skip))))
(.reg [
.l 96 (.bin .add (.g 82) (.i 1)),
.g 82 (.mv (.l 96))])))))))
(.seq
(.reg [
.g 6 (.mv (.i 0))])
.ret)))))))))
def K95 : List Nat := [0, 1, 2, 22, 34, 42, 48, 54, 70, 78, 83, 95, 6, 3, 4, 7, 8, 39, 40, 41, 10, 45, 46, 47, 11, 12, 13, 67, 68, 69, 14, 15, 80, 81, 82, 16, 17]
noncomputable def b95 : Code := match Try.f95.body with | some c => c | none => .skip
theorem t95 : trCode ⟨Try.prog, K95, [], 97, none⟩ b95 = some c95 := by kernel_rfl
theorem go95 : GoS Try.prog 95 3 K95 [] 97 c95 [.t (.g 6)] := .mk Try.func95 (c := b95) rfl (by kernel_rfl) t95 rfl (by kernel_rfl) rfl rfl

/-- sastrugi/sastrugiref08.checkWay -/
def c100 : ACode :=
  (.seq
(.reg [
.g 3 (.box (.g 0)),
.g 4 (.box (.g 1)),
.g 6 (.mv (.i 0))])
(.seq
(.seq
(.reg [
.l 14 (.mv (.g 2)),
.l 15 (.len (.l 14)),
.l 16 (.fa (.g 3) 5),
.l 17 (.ld none (.l 16)),
.l 18 (.len (.l 17)),
.g 19 (.bin .neq (.l 15) (.l 18))])
(.cond (.g 19)
(.seq
(.reg [
.g 6 (.mv (.i 3))])
.ret)
.skip))
(.seq
(.seq
(.reg [
.g 7 (.mv (.i 0))])
(.block 0
(.loop
(.seq
(.seq
(.reg [
.l 20 (.mv (.g 7)),
.l 21 (.mv (.g 2)),
.l 22 (.len (.l 21)),
.g 23 (.bin .lss (.l 20) (.l 22))])
(.cond (.g 23)
.skip
(.exit 0)))
(.seq
(.block 1
(.seq
(.draw [
.l 26 (.mv (.g 2)) 0,
.l 27 (.mv (.g 7)) 1,
.l 28 (.ia 1 (.l 26) (.l 27)) 2,
.l 29 (.ld none (.l 28)) 3,
.l 30 (.len (.l 29)) 4,
.l 31 (.fa (.g 4) 2) 5,
.l 32 (.ld none (.l 31)) 6,
.l 33 (.len (.l 32)) 7,
.g 34 (.bin .neq (.l 30) (.l 33)) 8])
(.cond (.g 34)
(.seq
(.reg [
.g 6 (.mv (.i 3))])
.ret)
.skip)))
(.reg [
.l 24 (.mv (.g 7)),
.l 25 (.bin .add (.l 24) (.i 1)),
.g 7 (.mv (.l 25))]))))))
(.seq
(.seq
(.reg [
.g 8 (.mv (.i 0))])
(.block 2
(.loop
(.seq
(.seq
(.reg [
.l 35 (.mv (.g 8)),
.l 36 (.mv (.g 2)),
.l 37 (.len (.l 36)),
.g 38 (.bin .lss (.l 35) (.l 37))])
(.cond (.g 38)
.skip
(.exit 2)))
(.seq
(.block 3
(.seq
(.reg [
.g 9 (.mv (.i 0))])
(.block 4
(.loop
(.seq
(.seq
(.reg [
.l 41 (.mv (.g 9)),
.l 42 (.mv (.g 2)),
.l 43 (.mv (.g 8)),
.l 44 (.ia 1 (.l 42) (.l 43)),
.l 45 (.ld none (.l 44)),
.l 46 (.len (.l 45)),
.g 47 (.bin .lss (.l 41) (.l 46))])
(.cond (.g 47)
.skip
(.exit 4)))
(.seq
(.block 5
(.seq
(.reg [
.l 50 (.mv (.g 2)),
.l 51 (.mv (.g 8)),
.l 52 (.ia 1 (.l 50) (.l 51)),
.l 53 (.ld none (.l 52)),
.l 54 (.mv (.g 9)),
.l 55 (.ia 1 (.l 53) (.l 54)),
.l 56 (.ld none (.l 55)),
.l 57 (.call (.c (.fn 67 [])) [.l 56, .i 0, .i 1000000]),
.g 58 (.un .not (.l 57))])
(.cond (.g 58)
(.seq
(.reg [
.g 6 (.mv (.i 2))])
.ret)
.skip)))
(.reg [
.l 48 (.mv (.g 9)),
.l 49 (.bin .add (.l 48) (.i 1)),
.g 9 (.mv (.l 49))])))))))
(.reg [
.l 39 (.mv (.g 8)),
.l 40 (.bin .add (.l 39) (.i 1)),
.g 8 (.mv (.l 40))]))))))
(.seq
(.seq
(.reg [
.g 10 (.mv (.i 0))])
(.block 6
(.loop
(.seq
(.seq
(.reg [
.l 59 (.mv (.g 10)),
.l 60 (.fa (.g 4) 2),
.l 61 (.ld none (.l 60)),
.l 62 (.len (.l 61)),
.g 63 (.bin .lss (.l 59) (.l 62))])
(.cond (.g 63)
.skip
(.exit 6)))
(.seq
(.block 7
(.seq
(.reg [
.g 11 (.mv (.i 0))])
(.seq
(.seq
(.reg [
.g 12 (.mv (.i 0))])
(.block 8
(.loop
(.seq
(.seq
(.reg [
.l 66 (.mv (.g 12)),
.l 67 (.mv (.g 2)),
.l 68 (.len (.l 67)),
.g 69 (.bin .lss (.l 66) (.l 68))])
(.cond (.g 69)
.skip
(.exit 8)))
(.seq
(.block 9
(.reg [
.l 72 (.mv (.g 11)),
.l 73 (.mv (.g 2)),
.l 74 (.mv (.g 12)),
.l 75 (.ia 1 (.l 73) (.l 74)),
.l 76 (.ld none (.l 75)),
.l 77 (.mv (.g 10)),
.l 78 (.ia 1 (.l 76) (.l 77)),
.l 79 (.ld none (.l 78)),
.l 80 (.bin .add (.l 72) (.l 79)),
.g 11 (.mv (.l 80))]))
(.reg [
.l 70 (.mv (.g 12)),
.l 71 (.bin .add (.l 70) (.i 1)),
.g 12 (.mv (.l 71))]))))))
(.seq
(.reg [
.l 81 (.mv (.g 11)),
.l 82 (.ld (some 3) (.g 4)),
.l 83 (.mv (.g 10)),
.l 84 (.call (.c (.fn 111 [])) [.l 82, .l 83]),
.g 85 (.bin .gtr (.l 81) (.l 84))])
(.cond (.g 85)
(.seq
(.reg [
.g 6 (.mv (.i 12))])
.ret)
.skip)))))
(.reg [
.l 64 (.mv (.g 10)),
.l 65 (.bin .add (.l 64) (.i 1)),
.g 10 (.mv (.l 65))]))))))
(.seq
(.seq
(.reg [
.g 13 (.mv (.i 0))])
(.block 10
(.loop
(.seq
(.seq
(.reg [
.l 86 (.mv (.g 13)),
.l 87 (.mv (.g 2)),
.l 88 (.len (.l 87)),
.g 89 (.bin .lss (.l 86) (.l 88))])
(.cond (.g 89)
.skip
(.exit 10)))
(.seq
(.block 11
(.seq
(.draw [
.l 92 (.mv (.g 2)) 0,
.l 93 (.mv (.g 13)) 1,
.l 94 (.ia 1 (.l 92) (.l 93)) 2,
.l 95 (.ld none (.l 94)) 3,
.l 97 (.fa (.g 3) 5) 5,
.l 98 (.ld none (.l 97)) 6,
.l 99 (.mv (.g 13)) 7,
.l 100 (.ia 4 (.l 98) (.l 99)) 8,
.l 101 (.fa (.l 100) 0) 9,
.l 102 (.ld none (.l 101)) 10,
.lf 96 (.call (.c (.fn 102 [])) [.l 95]) 4,
.g 103 (.bin .gtr (.l 96) (.l 102)) 11])
(.cond (.g 103)
(.seq
(.reg [
.g 6 (.mv (.i 14))])
.ret)
.skip)))
(.reg [
.l 90 (.mv (.g 13)),
.l 91 (.bin .add (.l 90) (.i 1)),
.g 13 (.mv (.l 91))]))))))
(.seq
(.reg [
.g 6 (.mv (.i 0))])
.ret)))))))
def K100 : List Nat := [0, 1, 2, 19, 23, 34, 38, 47, 58, 63, 69, 85, 89, 103, 6, 3, 4, 7, 8, 9, 10, 11, 12, 13]
noncomputable def b100 : Code := match Try.f100.body with | some c => c | none => .skip
theorem t100 : trCode ⟨Try.prog, K100, [], 104, none⟩ b100 = some c100 := by kernel_rfl
theorem go100 : GoS Try.prog 100 3 K100 [] 104 c100 [.t (.g 6)] := .mk Try.func100 (c := b100) rfl (by kernel_rfl) t100 rfl (by kernel_rfl) rfl rfl

/-- sastrugi/freight.total -/
def c101 : ACode :=
  (.seq
(.reg [
.g 2 (.mv (.i 0))])
(.seq
(.reg [
.g 3 (.mv (.i 0))])
(.seq
(.seq
(.reg [
.g 6 (.mv (.g 0)),
.g 7 (.len (.g 6)),
.g 8 (.mv (.i 0))])
(.block 0
(.loop
(.seq
(.reg [
.g 9 (.bin .lss (.g 8) (.g 7))])
(.seq
(.cond (.g 9)
.skip
(.exit 0))
(.seq
(.block 1
(.seq
(.reg [
.l 10 (.ia 1 (.g 6) (.g 8)),
.l 11 (.ld none (.l 10)),
.g 5 (.mv (.l 11))])
(.reg [
.l 12 (.mv (.g 3)),
.l 13 (.mv (.g 5)),
.l 14 (.bin .add (.l 12) (.l 13)),
.g 3 (.mv (.l 14))])))
(.reg [
.l 15 (.bin .add (.g 8) (.i 1)),
.g 8 (.mv (.l 15))])))))))
(.seq
(.reg [
.l 16 (.mv (.g 3)),
.g 2 (.mv (.l 16))])
.ret))))
def K101 : List Nat := [0, 9, 2, 3, 6, 7, 8, 5]
noncomputable def b101 : Code := match Try.f101.body with | some c => c | none => .skip
theorem t101 : trCode ⟨Try.prog, K101, [], 17, none⟩ b101 = some c101 := by kernel_rfl
theorem go101 : GoS Try.prog 101 1 K101 [] 17 c101 [.t (.g 2)] := .mk Try.func101 (c := b101) rfl (by kernel_rfl) t101 rfl (by kernel_rfl) rfl rfl

/-- sastrugi/sastrugiref08.gone -/
def c102 : ACode :=
  (.seq
(.reg [
.g 2 (.mv (.i 0))])
(.seq
(.reg [
.g 3 (.mv (.i 0))])
(.seq
(.seq
(.reg [
.g 4 (.mv (.i 0))])
(.block 0
(.loop
(.seq
(.seq
(.reg [
.l 5 (.mv (.g 4)),
.l 6 (.mv (.g 0)),
.l 7 (.len (.l 6)),
.g 8 (.bin .lss (.l 5) (.l 7))])
(.cond (.g 8)
.skip
(.exit 0)))
(.seq
(.block 1
(.reg [
.l 11 (.mv (.g 3)),
.l 12 (.mv (.g 0)),
.l 13 (.mv (.g 4)),
.l 14 (.ia 1 (.l 12) (.l 13)),
.l 15 (.ld none (.l 14)),
.l 16 (.bin .add (.l 11) (.l 15)),
.g 3 (.mv (.l 16))]))
(.reg [
.l 9 (.mv (.g 4)),
.l 10 (.bin .add (.l 9) (.i 1)),
.g 4 (.mv (.l 10))]))))))
(.seq
(.reg [
.l 17 (.mv (.g 3)),
.g 2 (.mv (.l 17))])
.ret))))
def K102 : List Nat := [0, 8, 2, 3, 4]
noncomputable def b102 : Code := match Try.f102.body with | some c => c | none => .skip
theorem t102 : trCode ⟨Try.prog, K102, [], 18, none⟩ b102 = some c102 := by kernel_rfl
theorem go102 : GoS Try.prog 102 1 K102 [] 18 c102 [.t (.g 2)] := .mk Try.func102 (c := b102) rfl (by kernel_rfl) t102 rfl (by kernel_rfl) rfl rfl

/-- sastrugi/freight.plans$1 -/
def c103 : ACode :=
  (.seq
(.reg [
.g 2 (.box (.g 0))])
(.seq
(.reg [
.g 3 (.new [.nilFunc])])
(.seq
(.reg [
.l 4 (.mkf 104 [.g 1, .g 2, .g 3]),
.n (.st 1 (.g 3) (.l 4))])
(.reg [
.l 5 (.ld none (.g 3)),
.l 6 (.call (.l 5) [.c (.lit (.slice none 0 0))])]))))
def K103 : List Nat := [0, 1, 2, 3]
noncomputable def b103 : Code := match Try.f103.body with | some c => c | none => .skip
theorem t103 : trCode ⟨Try.prog, K103, [], 7, none⟩ b103 = some c103 := by kernel_rfl
theorem go103 : GoS Try.prog 103 2 K103 [] 7 c103 [] := .mk Try.func103 (c := b103) rfl (by kernel_rfl) t103 rfl (by kernel_rfl) rfl rfl

/-- sastrugi/freight.plans$1$1 -/
def c104 : ACode :=
  (.seq
(.reg [
.g 5 (.mv (.b false))])
(.seq
(.seq
(.reg [
.l 7 (.mv (.g 0)),
.l 8 (.len (.l 7)),
.l 9 (.ld none (.g 1)),
.g 10 (.bin .eql (.l 8) (.l 9))])
(.cond (.g 10)
(.seq
(.reg [
.l 11 (.ld none (.g 2)),
.l 12 (.mv (.g 0)),
.l 13 (.call (.l 11) [.l 12]),
.g 5 (.mv (.l 13))])
.ret)
.skip))
(.seq
(.seq
(.reg [
.g 14 (.ld none (.g 1)),
.g 15 (.mv (.i 0))])
(.block 0
(.loop
(.seq
(.reg [
.g 16 (.bin .lss (.g 15) (.g 14))])
(.seq
(.cond (.g 16)
.skip
(.exit 0))
(.seq
(.block 1
(.seq
(.reg [
.l 17 (.mv (.g 15)),
.g 6 (.mv (.l 17))])
(.seq
(.draw [
.l 18 (.mv (.g 0)) 0,
.l 19 (.mv (.g 6)) 1,
.lf 20 (.call (.c (.fn 105 [])) [.l 18, .l 19]) 2,
.l 21 (.un .not (.l 20)) 3,
.l 22 (.mv (.l 21)) 4,
.lw 23 (.ld none (.g 3)) (.l 22) true 5,
.lw 24 (.mv (.g 0)) (.l 22) true 6,
.lw 26 (.mv (.g 6)) (.l 22) true 8,
.lw 27 (.mks false 1 [.l 26]) (.l 22) true 9,
.lwf 25 (.call (.c (.fn 106 [])) [.l 24]) (.l 22) true 7,
.lwf 28 (.app 1 8 (.l 25) (.l 27)) (.l 22) true 10,
.lwf 29 (.call (.l 23) [.l 28]) (.l 22) true 11,
.lw 30 (.un .not (.l 29)) (.l 22) true 12,
.g 31 (.pick (.l 22) (.l 30) (.b false)) 13])
(.cond (.g 31)
(.seq
(.reg [
.g 5 (.mv (.b false))])
.ret)
.skip))))
(.reg [
.l 32 (.bin .add (.g 15) (.i 1)),
.g 15 (.mv (.l 32))])))))))
(.seq
(.reg [
.g 5 (.mv (.b true))])
.ret))))
def K104 : List Nat := [0, 1, 2, 3, 10, 16, 31, 5, 14, 15, 6]
noncomputable def b104 : Code := match Try.f104.body with | some c => c | none => .skip
theorem t104 : trCode ⟨Try.prog, K104, [], 33, none⟩ b104 = some c104 := by kernel_rfl
theorem go104 : GoS Try.prog 104 4 K104 [] 33 c104 [.t (.g 5)] := .mk Try.func104 (c := b104) rfl (by kernel_rfl) t104 rfl (by kernel_rfl) rfl rfl

/-- slices.Contains[[]int,int] -/
def c105 : ACode :=
  (.seq
(.reg [
.g 4 (.mv (.b false))])
(.seq
(.reg [
.l 5 (.mv (.g 0)),
.l 6 (.mv (.g 1)),
.l 7 (.call (.c (.fn 118 [])) [.l 5, .l 6]),
.l 8 (.bin .geq (.l 7) (.i 0)),
.g 4 (.mv (.l 8))])
.ret))
def K105 : List Nat := [0, 1, 4]
noncomputable def b105 : Code := match Try.f105.body with | some c => c | none => .skip
theorem t105 : trCode ⟨Try.prog, K105, [], 9, none⟩ b105 = some c105 := by kernel_rfl
theorem go105 : GoS Try.prog 105 2 K105 [] 9 c105 [.t (.g 4)] := .mk Try.func105 (c := b105) rfl (by kernel_rfl) t105 rfl (by kernel_rfl) rfl rfl

/-- slices.Clone[[]int,int] -/
def c106 : ACode :=
  (.seq
(.reg [
.g 2 (.mv (.c (.lit (.slice none 0 0))))])
(.seq
(.seq
(.reg [
.l 3 (.mv (.g 0)),
.g 4 (.eqn false (.l 3))])
(.cond (.g 4)
(.seq
(.reg [
.g 2 (.mv (.c (.lit (.slice none 0 0))))])
.ret)
.skip))
(.seq
(.reg [
.l 5 (.mks false 1 []),
.l 6 (.mv (.g 0)),
.l 7 (.app 1 8 (.l 5) (.l 6)),
.g 2 (.mv (.l 7))])
.ret)))
def K106 : List Nat := [0, 4, 2]
noncomputable def b106 : Code := match Try.f106.body with | some c => c | none => .skip
theorem t106 : trCode ⟨Try.prog, K106, [], 8, none⟩ b106 = some c106 := by kernel_rfl
theorem go106 : GoS Try.prog 106 1 K106 [] 8 c106 [.t (.g 2)] := .mk Try.func106 (c := b106) rfl (by kernel_rfl) t106 rfl (by kernel_rfl) rfl rfl

/-- slices.Clone[[]sastrugi/api.Order,sastrugi/api.Order] -/
def c107 : ACode :=
  (.seq
(.reg [
.g 2 (.mv (.c (.lit (.slice none 0 0))))])
(.seq
(.seq
(.reg [
.l 3 (.mv (.g 0)),
.g 4 (.eqn false (.l 3))])
(.cond (.g 4)
(.seq
(.reg [
.g 2 (.mv (.c (.lit (.slice none 0 0))))])
.ret)
.skip))
(.seq
(.reg [
.l 5 (.mks false 4 []),
.l 6 (.mv (.g 0)),
.l 7 (.app 4 32 (.l 5) (.l 6)),
.g 2 (.mv (.l 7))])
.ret)))
def K107 : List Nat := [0, 4, 2]
noncomputable def b107 : Code := match Try.f107.body with | some c => c | none => .skip
theorem t107 : trCode ⟨Try.prog, K107, [], 8, none⟩ b107 = some c107 := by kernel_rfl
theorem go107 : GoS Try.prog 107 1 K107 [] 8 c107 [.t (.g 2)] := .mk Try.func107 (c := b107) rfl (by kernel_rfl) t107 rfl (by kernel_rfl) rfl rfl

/-- slices.SortStableFunc[[]sastrugi/api.Order,sastrugi/api.Order] -/
def c108 : ACode :=
  (.reg [
.l 4 (.mv (.g 0)),
.l 5 (.mv (.g 0)),
.l 6 (.len (.l 5)),
.l 7 (.mv (.g 1)),
.l 8 (.call (.c (.fn 119 [])) [.l 4, .l 6, .l 7])])
def K108 : List Nat := [0, 1]
noncomputable def b108 : Code := match Try.f108.body with | some c => c | none => .skip
theorem t108 : trCode ⟨Try.prog, K108, [], 9, none⟩ b108 = some c108 := by kernel_rfl
theorem go108 : GoS Try.prog 108 2 K108 [] 9 c108 [] := .mk Try.func108 (c := b108) rfl (by kernel_rfl) t108 rfl (by kernel_rfl) rfl rfl

/-- sastrugi/freight.sorted$1 -/
def c109 : ACode :=
  (.seq
(.reg [
.g 3 (.box (.g 0)),
.g 4 (.box (.g 1)),
.g 5 (.mv (.i 0))])
(.seq
(.draw [
.l 6 (.ld none (.g 2)) 0,
.l 7 (.ld (some 4) (.g 4)) 1,
.l 9 (.ld none (.g 2)) 3,
.l 10 (.ld (some 4) (.g 3)) 4,
.lf 8 (.call (.l 6) [.l 7]) 2,
.lf 11 (.call (.l 9) [.l 10]) 5,
.lf 12 (.call (.c (.fn 110 [])) [.l 8, .l 11]) 6,
.g 5 (.mv (.l 12)) 7])
.ret))
def K109 : List Nat := [0, 1, 2, 5, 3, 4]
noncomputable def b109 : Code := match Try.f109.body with | some c => c | none => .skip
theorem t109 : trCode ⟨Try.prog, K109, [], 13, none⟩ b109 = some c109 := by kernel_rfl
theorem go109 : GoS Try.prog 109 3 K109 [] 13 c109 [.t (.g 5)] := .mk Try.func109 (c := b109) rfl (by kernel_rfl) t109 rfl (by kernel_rfl) rfl rfl

/-- cmp.Compare[int] -/
def c110 : ACode :=
  (.seq
(.reg [
.g 4 (.mv (.i 0))])
(.seq
(.reg [
.l 7 (.mv (.g 0)),
.l 8 (.call (.c (.fn 120 [])) [.l 7]),
.g 5 (.mv (.l 8))])
(.seq
(.reg [
.l 9 (.mv (.g 1)),
.l 10 (.call (.c (.fn 120 [])) [.l 9]),
.g 6 (.mv (.l 10))])
(.seq
(.seq
(.reg [
.g 11 (.mv (.g 5))])
(.cond (.g 11)
(.seq
(.seq
(.reg [
.g 12 (.mv (.g 6))])
(.cond (.g 12)
(.seq
(.reg [
.g 4 (.mv (.i 0))])
.ret)
.skip))
(.seq
(.reg [
.g 4 (.mv (.i (-1)))])
.ret))
.skip))
(.seq
(.seq
(.reg [
.g 13 (.mv (.g 6))])
(.cond (.g 13)
(.seq
(.reg [
.g 4 (.mv (.i 1))])
.ret)
.skip))
(.seq
(.seq
(.reg [
.l 14 (.mv (.g 0)),
.l 15 (.mv (.g 1)),
.g 16 (.bin .lss (.l 14) (.l 15))])
(.cond (.g 16)
(.seq
(.reg [
.g 4 (.mv (.i (-1)))])
.ret)
.skip))
(.seq
(.seq
(.reg [
.l 17 (.mv (.g 0)),
.l 18 (.mv (.g 1)),
.g 19 (.bin .gtr (.l 17) (.l 18))])
(.cond (.g 19)
(.seq
(.reg [
.g 4 (.mv (.i 1))])
.ret)
.skip))
(.seq
(.reg [
.g 4 (.mv (.i 0))])
.ret))))))))
def K110 : List Nat := [0, 1, 11, 12, 13, 16, 19, 4, 5, 6]
noncomputable def b110 : Code := match Try.f110.body with | some c => c | none => .skip
theorem t110 : trCode ⟨Try.prog, K110, [], 20, none⟩ b110 = some c110 := by kernel_rfl
theorem go110 : GoS Try.prog 110 2 K110 [] 20 c110 [.t (.g 4)] := .mk Try.func110 (c := b110) rfl (by kernel_rfl) t110 rfl (by kernel_rfl) rfl rfl

/-- sastrugi/sastrugiref08.may -/
def c111 : ACode :=
  (.seq
(.reg [
.g 2 (.box (.g 0)),
.g 4 (.mv (.i 0))])
(.seq
(.seq
(.reg [
.l 5 (.mv (.g 1)),
.l 6 (.fa (.g 2) 0),
.l 7 (.ld none (.l 6)),
.l 8 (.bin .lss (.l 5) (.l 7)),
.l 9 (.mv (.l 8)),
.lw 10 (.mv (.g 1)) (.l 9) false,
.lw 11 (.fa (.g 2) 1) (.l 9) false,
.lw 12 (.ld none (.l 11)) (.l 9) false,
.lw 13 (.bin .gtr (.l 10) (.l 12)) (.l 9) false,
.g 14 (.pick (.l 9) (.b true) (.l 13))])
(.cond (.g 14)
(.seq
(.reg [
.g 4 (.mv (.i 0))])
.ret)
.skip))
(.seq
(.reg [
.l 15 (.fa (.g 2) 2),
.l 16 (.ld none (.l 15)),
.l 17 (.mv (.g 1)),
.l 18 (.ia 1 (.l 16) (.l 17)),
.l 19 (.ld none (.l 18)),
.g 4 (.mv (.l 19))])
.ret)))
def K111 : List Nat := [0, 1, 14, 4, 2]
noncomputable def b111 : Code := match Try.f111.body with | some c => c | none => .skip
theorem t111 : trCode ⟨Try.prog, K111, [], 20, none⟩ b111 = some c111 := by kernel_rfl
theorem go111 : GoS Try.prog 111 2 K111 [] 20 c111 [.t (.g 4)] := .mk Try.func111 (c := b111) rfl (by kernel_rfl) t111 rfl (by kernel_rfl) rfl rfl

/-- slices.ContainsFunc[[][]int,[]int] -/
def c112 : ACode :=
  (.seq
(.reg [
.g 4 (.mv (.b false))])
(.seq
(.reg [
.l 5 (.mv (.g 0)),
.l 6 (.mv (.g 1)),
.l 7 (.call (.c (.fn 121 [])) [.l 5, .l 6]),
.l 8 (.bin .geq (.l 7) (.i 0)),
.g 4 (.mv (.l 8))])
.ret))
def K112 : List Nat := [0, 1, 4]
noncomputable def b112 : Code := match Try.f112.body with | some c => c | none => .skip
theorem t112 : trCode ⟨Try.prog, K112, [], 9, none⟩ b112 = some c112 := by kernel_rfl
theorem go112 : GoS Try.prog 112 2 K112 [] 9 c112 [.t (.g 4)] := .mk Try.func112 (c := b112) rfl (by kernel_rfl) t112 rfl (by kernel_rfl) rfl rfl

/-- sastrugi/freight.checkWay$1 -/
def c113 : ACode :=
  (.seq
(.reg [
.g 3 (.mv (.b false))])
(.seq
(.reg [
.l 4 (.mv (.g 0)),
.l 5 (.len (.l 4)),
.l 6 (.fa (.g 1) 4),
.l 7 (.ld none (.l 6)),
.l 8 (.len (.l 7)),
.l 9 (.bin .neq (.l 5) (.l 8)),
.g 3 (.mv (.l 9))])
.ret))
def K113 : List Nat := [0, 1, 3]
noncomputable def b113 : Code := match Try.f113.body with | some c => c | none => .skip
theorem t113 : trCode ⟨Try.prog, K113, [], 10, none⟩ b113 = some c113 := by kernel_rfl
theorem go113 : GoS Try.prog 113 2 K113 [] 10 c113 [.t (.g 3)] := .mk Try.func113 (c := b113) rfl (by kernel_rfl) t113 rfl (by kernel_rfl) rfl rfl

/-- slices.stableCmpFunc[sastrugi/api.Order] -/
def c119 : ACode :=
  (.seq
(.reg [
.g 6 (.mv (.i 20))])
(.seq
(.reg [
.l 10 (.mv (.g 6)),
.g 7 (.mv (.i 0)),
.g 8 (.mv (.l 10))])
(.seq
(.block 0
(.loop
(.seq
(.seq
(.reg [
.l 11 (.mv (.g 8)),
.l 12 (.mv (.g 1)),
.g 13 (.bin .leq (.l 11) (.l 12))])
(.cond (.g 13)
.skip
(.exit 0)))
(.block 1
(.seq
(.reg [
.l 14 (.mv (.g 0)),
.l 15 (.mv (.g 7)),
.l 16 (.mv (.g 8)),
.l 17 (.mv (.g 2)),
.l 18 (.call (.c (.fn 124 [])) [.l 14, .l 15, .l 16, .l 17])])
(.seq
(.reg [
.l 19 (.mv (.g 8)),
.g 7 (.mv (.l 19))])
(.reg [
.l 20 (.mv (.g 8)),
.l 21 (.mv (.g 6)),
.l 22 (.bin .add (.l 20) (.l 21)),
.g 8 (.mv (.l 22))])))))))
(.seq
(.reg [
.l 23 (.mv (.g 0)),
.l 24 (.mv (.g 7)),
.l 25 (.mv (.g 1)),
.l 26 (.mv (.g 2)),
.l 27 (.call (.c (.fn 124 [])) [.l 23, .l 24, .l 25, .l 26])])
(.block 2
(.loop
(.seq
(.seq
(.reg [
.l 28 (.mv (.g 6)),
.l 29 (.mv (.g 1)),
.g 30 (.bin .lss (.l 28) (.l 29))])
(.cond (.g 30)
.skip
(.exit 2)))
(.block 3
(.seq
(.reg [
.l 31 (.mv (.g 6)),
.l 32 (.bin .mul (.i 2) (.l 31)),
.g 7 (.mv (.i 0)),
.g 8 (.mv (.l 32))])
(.seq
(.block 4
(.loop
(.seq
(.seq
(.reg [
.l 33 (.mv (.g 8)),
.l 34 (.mv (.g 1)),
.g 35 (.bin .leq (.l 33) (.l 34))])
(.cond (.g 35)
.skip
(.exit 4)))
(.block 5
(.seq
(.reg [
.l 36 (.mv (.g 0)),
.l 37 (.mv (.g 7)),
.l 38 (.mv (.g 7)),
.l 39 (.mv (.g 6)),
.l 40 (.bin .add (.l 38) (.l 39)),
.l 41 (.mv (.g 8)),
.l 42 (.mv (.g 2)),
.l 43 (.call (.c (.fn 125 [])) [.l 36, .l 37, .l 40, .l 41, .l 42])])
(.seq
(.reg [
.l 44 (.mv (.g 8)),
.g 7 (.mv (.l 44))])
(.reg [
.l 45 (.mv (.g 8)),
.l 46 (.mv (.g 6)),
.l 47 (.bin .mul (.i 2) (.l 46)),
.l 48 (.bin .add (.l 45) (.l 47)),
.g 8 (.mv (.l 48))])))))))
(.seq
(.seq
(.reg [
.l 49 (.mv (.g 7)),
.l 50 (.mv (.g 6)),
.l 51 (.bin .add (.l 49) (.l 50)),
.g 9 (.mv (.l 51))])
(.seq
(.reg [
.l 52 (.mv (.g 9)),
.l 53 (.mv (.g 1)),
.g 54 (.bin .lss (.l 52) (.l 53))])
(.cond (.g 54)
(.reg [
.l 55 (.mv (.g 0)),
.l 56 (.mv (.g 7)),
.l 57 (.mv (.g 9)),
.l 58 (.mv (.g 1)),
.l 59 (.mv (.g 2)),
.l 60 (.call (.c (.fn 125 [])) [.l 55, .l 56, .l 57, .l 58, .l 59])])
.skip)))
(.reg [
.l 61 (.mv (.g 6)),
.l 62 (.bin .mul (.l 61) (.i 2)),
.g 6 (.mv (.l 62))]))))))))))))
def K119 : List Nat := [0, 1, 2, 13, 30, 35, 54, 6, 7, 8, 9]
noncomputable def b119 : Code := match Try.f119.body with | some c => c | none => .skip
theorem t119 : trCode ⟨Try.prog, K119, [], 63, none⟩ b119 = some c119 := by kernel_rfl
theorem go119 : GoS Try.prog 119 3 K119 [] 63 c119 [] := .mk Try.func119 (c := b119) rfl (by kernel_rfl) t119 rfl (by kernel_rfl) rfl rfl

/-- cmp.isNaN[int] -/
def c120 : ACode :=
  (.seq
(.reg [
.g 2 (.mv (.b false))])
(.seq
(.reg [
.l 3 (.mv (.g 0)),
.l 4 (.mv (.g 0)),
.l 5 (.bin .neq (.l 3) (.l 4)),
.g 2 (.mv (.l 5))])
.ret))
def K120 : List Nat := [0, 2]
noncomputable def b120 : Code := match Try.f120.body with | some c => c | none => .skip
theorem t120 : trCode ⟨Try.prog, K120, [], 6, none⟩ b120 = some c120 := by kernel_rfl
theorem go120 : GoS Try.prog 120 1 K120 [] 6 c120 [.t (.g 2)] := .mk Try.func120 (c := b120) rfl (by kernel_rfl) t120 rfl (by kernel_rfl) rfl rfl

/-- slices.IndexFunc[[][]int,[]int] -/
def c121 : ACode :=
  (.seq
(.reg [
.g 4 (.mv (.i 0))])
(.seq
(.seq
(.reg [
.l 6 (.mv (.g 0)),
.g 7 (.len (.l 6)),
.g 8 (.mv (.i 0))])
(.block 0
(.loop
(.seq
(.reg [
.g 9 (.bin .lss (.g 8) (.g 7))])
(.seq
(.cond (.g 9)
.skip
(.exit 0))
(.seq
(.block 1
(.seq
(.reg [
.l 10 (.mv (.g 8)),
.g 5 (.mv (.l 10))])
(.seq
(.reg [
.l 11 (.mv (.g 1)),
.l 12 (.mv (.g 0)),
.l 13 (.mv (.g 5)),
.l 14 (.ia 1 (.l 12) (.l 13)),
.l 15 (.ld none (.l 14)),
.g 16 (.call (.l 11) [.l 15])])
(.cond (.g 16)
(.seq
(.reg [
.l 17 (.mv (.g 5)),
.g 4 (.mv (.l 17))])
.ret)
.skip))))
(.reg [
.l 18 (.bin .add (.g 8) (.i 1)),
.g 8 (.mv (.l 18))])))))))
(.seq
(.reg [
.g 4 (.mv (.i (-1)))])
.ret)))
def K121 : List Nat := [0, 1, 9, 16, 4, 7, 8, 5]
noncomputable def b121 : Code := match Try.f121.body with | some c => c | none => .skip
theorem t121 : trCode ⟨Try.prog, K121, [], 19, none⟩ b121 = some c121 := by kernel_rfl
theorem go121 : GoS Try.prog 121 2 K121 [] 19 c121 [.t (.g 4)] := .mk Try.func121 (c := b121) rfl (by kernel_rfl) t121 rfl (by kernel_rfl) rfl rfl

/-- slices.insertionSortCmpFunc[sastrugi/api.Order] -/
def c124 : ACode :=
  (.seq
(.reg [
.l 10 (.mv (.g 1)),
.l 11 (.bin .add (.l 10) (.i 1)),
.g 8 (.mv (.l 11))])
(.block 0
(.loop
(.seq
(.seq
(.reg [
.l 12 (.mv (.g 8)),
.l 13 (.mv (.g 2)),
.g 14 (.bin .lss (.l 12) (.l 13))])
(.cond (.g 14)
.skip
(.exit 0)))
(.seq
(.block 1
(.seq
(.reg [
.l 17 (.mv (.g 8)),
.g 9 (.mv (.l 17))])
(.block 2
(.loop
(.seq
(.seq
(.draw [
.l 18 (.mv (.g 9)) 0,
.l 19 (.mv (.g 1)) 1,
.l 20 (.bin .gtr (.l 18) (.l 19)) 2,
.l 21 (.mv (.l 20)) 3,
.lw 22 (.mv (.g 3)) (.l 21) true 4,
.lw 23 (.mv (.g 0)) (.l 21) true 5,
.lw 24 (.mv (.g 9)) (.l 21) true 6,
.lw 25 (.ia 4 (.l 23) (.l 24)) (.l 21) true 7,
.lw 26 (.ld (some 4) (.l 25)) (.l 21) true 8,
.lw 27 (.mv (.g 0)) (.l 21) true 9,
.lw 28 (.mv (.g 9)) (.l 21) true 10,
.lw 29 (.bin .sub (.l 28) (.i 1)) (.l 21) true 11,
.lw 30 (.ia 4 (.l 27) (.l 29)) (.l 21) true 12,
.lw 31 (.ld (some 4) (.l 30)) (.l 21) true 13,
.lwf 32 (.call (.l 22) [.l 26, .l 31]) (.l 21) true 14,
.lw 33 (.bin .lss (.l 32) (.i 0)) (.l 21) true 15,
.g 34 (.pick (.l 21) (.l 33) (.b false)) 16])
(.cond (.g 34)
.skip
(.exit 2)))
(.seq
(.block 3
(.draw [
.l 37 (.mv (.g 0)) 0,
.l 38 (.mv (.g 9)) 1,
.lf 39 (.mv (.g 0)) 2,
.lf 40 (.mv (.g 9)) 3,
.lf 41 (.bin .sub (.l 40) (.i 1)) 4,
.l 42 (.mv (.g 0)) 5,
.l 43 (.mv (.g 9)) 6,
.l 44 (.bin .sub (.l 43) (.i 1)) 7,
.l 45 (.ia 4 (.l 42) (.l 44)) 8,
.l 46 (.ld (some 4) (.l 45)) 9,
.lf 47 (.mv (.g 0)) 10,
.lf 48 (.mv (.g 9)) 11,
.l 49 (.ia 4 (.l 47) (.l 48)) 12,
.l 50 (.ld (some 4) (.l 49)) 13,
.l 51 (.ia 4 (.l 37) (.l 38)) 14,
.nf (.st 4 (.l 51) (.l 46)) 15,
.lf 52 (.ia 4 (.l 39) (.l 41)) 16,
.n (.st 4 (.l 52) (.l 50)) 17]))
(.reg [
.l 35 (.mv (.g 9)),
.l 36 (.bin .sub (.l 35) (.i 1)),
.g 9 (.mv (.l 36))])))))))
(.reg [
.l 15 (.mv (.g 8)),
.l 16 (.bin .add (.l 15) (.i 1)),
.g 8 (.mv (.l 16))]))))))
def K124 : List Nat := [0, 1, 2, 3, 14, 34, 8, 9]
noncomputable def b124 : Code := match Try.f124.body with | some c => c | none => .skip
theorem t124 : trCode ⟨Try.prog, K124, [], 53, none⟩ b124 = some c124 := by kernel_rfl
theorem go124 : GoS Try.prog 124 4 K124 [] 53 c124 [] := .mk Try.func124 (c := b124) rfl (by kernel_rfl) t124 rfl (by kernel_rfl) rfl rfl

/-- slices.symMergeCmpFunc[sastrugi/api.Order] -/
def c125 : ACode :=
  (.seq
(.seq
(.reg [
.l 25 (.mv (.g 2)),
.l 26 (.mv (.g 1)),
.l 27 (.bin .sub (.l 25) (.l 26)),
.g 28 (.bin .eql (.l 27) (.i 1))])
(.cond (.g 28)
(.seq
(.reg [
.l 29 (.mv (.g 2)),
.g 10 (.mv (.l 29))])
(.seq
(.reg [
.l 30 (.mv (.g 3)),
.g 11 (.mv (.l 30))])
(.seq
(.block 0
(.loop
(.seq
(.seq
(.reg [
.l 31 (.mv (.g 10)),
.l 32 (.mv (.g 11)),
.g 33 (.bin .lss (.l 31) (.l 32))])
(.cond (.g 33)
.skip
(.exit 0)))
(.block 1
(.seq
(.reg [
.l 34 (.mv (.g 10)),
.l 35 (.mv (.g 11)),
.l 36 (.bin .add (.l 34) (.l 35)),
.l 37 (.cv .u64 (.l 36)),
.l 38 (.bin .shr (.l 37) (.c (.lit (.int .u64 1)))),
.l 39 (.cv .i64 (.l 38)),
.g 12 (.mv (.l 39))])
(.seq
(.draw [
.l 40 (.mv (.g 4)) 0,
.l 41 (.mv (.g 0)) 1,
.l 42 (.mv (.g 12)) 2,
.l 43 (.ia 4 (.l 41) (.l 42)) 3,
.l 44 (.ld (some 4) (.l 43)) 4,
.l 45 (.mv (.g 0)) 5,
.l 46 (.mv (.g 1)) 6,
.l 47 (.ia 4 (.l 45) (.l 46)) 7,
.l 48 (.ld (some 4) (.l 47)) 8,
.lf 49 (.call (.l 40) [.l 44, .l 48]) 9,
.g 50 (.bin .lss (.l 49) (.i 0)) 10])
(.cond (.g 50)
(.reg [
.l 51 (.mv (.g 12)),
.l 52 (.bin .add (.l 51) (.i 1)),
.g 10 (.mv (.l 52))])
(.reg [
.l 53 (.mv (.g 12)),
.g 11 (.mv (.l 53))]))))))))
(.seq
(.seq
(.reg [
.l 54 (.mv (.g 1)),
.g 13 (.mv (.l 54))])
(.block 2
(.loop
(.seq
(.seq
(.reg [
.l 55 (.mv (.g 13)),
.l 56 (.mv (.g 10)),
.l 57 (.bin .sub (.l 56) (.i 1)),
.g 58 (.bin .lss (.l 55) (.l 57))])
(.cond (.g 58)
.skip
(.exit 2)))
(.seq
(.block 3
(.draw [
.l 61 (.mv (.g 0)) 0,
.l 62 (.mv (.g 13)) 1,
.lf 63 (.mv (.g 0)) 2,
.lf 64 (.mv (.g 13)) 3,
.lf 65 (.bin .add (.l 64) (.i 1)) 4,
.l 66 (.mv (.g 0)) 5,
.l 67 (.mv (.g 13)) 6,
.l 68 (.bin .add (.l 67) (.i 1)) 7,
.l 69 (.ia 4 (.l 66) (.l 68)) 8,
.l 70 (.ld (some 4) (.l 69)) 9,
.lf 71 (.mv (.g 0)) 10,
.lf 72 (.mv (.g 13)) 11,
.l 73 (.ia 4 (.l 71) (.l 72)) 12,
.l 74 (.ld (some 4) (.l 73)) 13,
.l 75 (.ia 4 (.l 61) (.l 62)) 14,
.nf (.st 4 (.l 75) (.l 70)) 15,
.lf 76 (.ia 4 (.l 63) (.l 65)) 16,
.n (.st 4 (.l 76) (.l 74)) 17]))
(.reg [
.l 59 (.mv (.g 13)),
.l 60 (.bin .add (.l 59) (.i 1)),
.g 13 (.mv (.l 60))]))))))
.ret))))
.skip))
(.seq
(.seq
(.reg [
.l 77 (.mv (.g 3)),
.l 78 (.mv (.g 2)),
.l 79 (.bin .sub (.l 77) (.l 78)),
.g 80 (.bin .eql (.l 79) (.i 1))])
(.cond (.g 80)
(.seq
(.reg [
.l 81 (.mv (.g 1)),
.g 14 (.mv (.l 81))])
(.seq
(.reg [
.l 82 (.mv (.g 2)),
.g 15 (.mv (.l 82))])
(.seq
(.block 4
(.loop
(.seq
(.seq
(.reg [
.l 83 (.mv (.g 14)),
.l 84 (.mv (.g 15)),
.g 85 (.bin .lss (.l 83) (.l 84))])
(.cond (.g 85)
.skip
(.exit 4)))
(.block 5
(.seq
(.reg [
.l 86 (.mv (.g 14)),
.l 87 (.mv (.g 15)),
.l 88 (.bin .add (.l 86) (.l 87)),
.l 89 (.cv .u64 (.l 88)),
.l 90 (.bin .shr (.l 89) (.c (.lit (.int .u64 1)))),
.l 91 (.cv .i64 (.l 90)),
.g 16 (.mv (.l 91))])
(.seq
(.draw [
.l 92 (.mv (.g 4)) 0,
.l 93 (.mv (.g 0)) 1,
.l 94 (.mv (.g 2)) 2,
.l 95 (.ia 4 (.l 93) (.l 94)) 3,
.l 96 (.ld (some 4) (.l 95)) 4,
.l 97 (.mv (.g 0)) 5,
.l 98 (.mv (.g 16)) 6,
.l 99 (.ia 4 (.l 97) (.l 98)) 7,
.l 100 (.ld (some 4) (.l 99)) 8,
.lf 101 (.call (.l 92) [.l 96, .l 100]) 9,
.l 102 (.bin .lss (.l 101) (.i 0)) 10,
.g 103 (.un .not (.l 102)) 11])
(.cond (.g 103)
(.reg [
.l 104 (.mv (.g 16)),
.l 105 (.bin .add (.l 104) (.i 1)),
.g 14 (.mv (.l 105))])
(.reg [
.l 106 (.mv (.g 16)),
.g 15 (.mv (.l 106))]))))))))
(.seq
(.seq
(.reg [
.l 107 (.mv (.g 2)),
.g 17 (.mv (.l 107))])
(.block 6
(.loop
(.seq
(.seq
(.reg [
.l 108 (.mv (.g 17)),
.l 109 (.mv (.g 14)),
.g 110 (.bin .gtr (.l 108) (.l 109))])
(.cond (.g 110)
.skip
(.exit 6)))
(.seq
(.block 7
(.draw [
.l 113 (.mv (.g 0)) 0,
.l 114 (.mv (.g 17)) 1,
.lf 115 (.mv (.g 0)) 2,
.lf 116 (.mv (.g 17)) 3,
.lf 117 (.bin .sub (.l 116) (.i 1)) 4,
.l 118 (.mv (.g 0)) 5,
.l 119 (.mv (.g 17)) 6,
.l 120 (.bin .sub (.l 119) (.i 1)) 7,
.l 121 (.ia 4 (.l 118) (.l 120)) 8,
.l 122 (.ld (some 4) (.l 121)) 9,
.lf 123 (.mv (.g 0)) 10,
.lf 124 (.mv (.g 17)) 11,
.l 125 (.ia 4 (.l 123) (.l 124)) 12,
.l 126 (.ld (some 4) (.l 125)) 13,
.l 127 (.ia 4 (.l 113) (.l 114)) 14,
.nf (.st 4 (.l 127) (.l 122)) 15,
.lf 128 (.ia 4 (.l 115) (.l 117)) 16,
.n (.st 4 (.l 128) (.l 126)) 17]))
(.reg [
.l 111 (.mv (.g 17)),
.l 112 (.bin .sub (.l 111) (.i 1)),
.g 17 (.mv (.l 112))]))))))
.ret))))
.skip))
(.seq
(.reg [
.l 129 (.mv (.g 1)),
.l 130 (.mv (.g 3)),
.l 131 (.bin .add (.l 129) (.l 130)),
.l 132 (.cv .u64 (.l 131)),
.l 133 (.bin .shr (.l 132) (.c (.lit (.int .u64 1)))),
.l 134 (.cv .i64 (.l 133)),
.g 18 (.mv (.l 134))])
(.seq
(.reg [
.l 135 (.mv (.g 18)),
.l 136 (.mv (.g 2)),
.l 137 (.bin .add (.l 135) (.l 136)),
.g 19 (.mv (.l 137))])
(.seq
(.reg [
.g 20 (.mv (.i 0)),
.g 21 (.mv (.i 0))])
(.seq
(.seq
(.reg [
.l 138 (.mv (.g 2)),
.l 139 (.mv (.g 18)),
.g 140 (.bin .gtr (.l 138) (.l 139))])
(.cond (.g 140)
(.seq
(.reg [
.l 141 (.mv (.g 19)),
.l 142 (.mv (.g 3)),
.l 143 (.bin .sub (.l 141) (.l 142)),
.g 20 (.mv (.l 143))])
(.reg [
.l 144 (.mv (.g 18)),
.g 21 (.mv (.l 144))]))
(.seq
(.reg [
.l 145 (.mv (.g 1)),
.g 20 (.mv (.l 145))])
(.reg [
.l 146 (.mv (.g 2)),
.g 21 (.mv (.l 146))]))))
(.seq
(.reg [
.l 147 (.mv (.g 19)),
.l 148 (.bin .sub (.l 147) (.i 1)),
.g 22 (.mv (.l 148))])
(.seq
(.block 8
(.loop
(.seq
(.seq
(.reg [
.l 149 (.mv (.g 20)),
.l 150 (.mv (.g 21)),
.g 151 (.bin .lss (.l 149) (.l 150))])
(.cond (.g 151)
.skip
(.exit 8)))
(.block 9
(.seq
(.reg [
.l 152 (.mv (.g 20)),
.l 153 (.mv (.g 21)),
.l 154 (.bin .add (.l 152) (.l 153)),
.l 155 (.cv .u64 (.l 154)),
.l 156 (.bin .shr (.l 155) (.c (.lit (.int .u64 1)))),
.l 157 (.cv .i64 (.l 156)),
.g 23 (.mv (.l 157))])
(.seq
(.draw [
.l 158 (.mv (.g 4)) 0,
.l 159 (.mv (.g 0)) 1,
.l 160 (.mv (.g 22)) 2,
.l 161 (.mv (.g 23)) 3,
.l 162 (.bin .sub (.l 160) (.l 161)) 4,
.l 163 (.ia 4 (.l 159) (.l 162)) 5,
.l 164 (.ld (some 4) (.l 163)) 6,
.l 165 (.mv (.g 0)) 7,
.l 166 (.mv (.g 23)) 8,
.l 167 (.ia 4 (.l 165) (.l 166)) 9,
.l 168 (.ld (some 4) (.l 167)) 10,
.lf 169 (.call (.l 158) [.l 164, .l 168]) 11,
.l 170 (.bin .lss (.l 169) (.i 0)) 12,
.g 171 (.un .not (.l 170)) 13])
(.cond (.g 171)
(.reg [
.l 172 (.mv (.g 23)),
.l 173 (.bin .add (.l 172) (.i 1)),
.g 20 (.mv (.l 173))])
(.reg [
.l 174 (.mv (.g 23)),
.g 21 (.mv (.l 174))]))))))))
(.seq
(.reg [
.l 175 (.mv (.g 19)),
.l 176 (.mv (.g 20)),
.l 177 (.bin .sub (.l 175) (.l 176)),
.g 24 (.mv (.l 177))])
(.seq
(.seq
(.reg [
.l 178 (.mv (.g 20)),
.l 179 (.mv (.g 2)),
.l 180 (.bin .lss (.l 178) (.l 179)),
.l 181 (.mv (.l 180)),
.lw 182 (.mv (.g 2)) (.l 181) true,
.lw 183 (.mv (.g 24)) (.l 181) true,
.lw 184 (.bin .lss (.l 182) (.l 183)) (.l 181) true,
.g 185 (.pick (.l 181) (.l 184) (.b false))])
(.cond (.g 185)
(.reg [
.l 186 (.mv (.g 0)),
.l 187 (.mv (.g 20)),
.l 188 (.mv (.g 2)),
.l 189 (.mv (.g 24)),
.l 190 (.mv (.g 4)),
.l 191 (.call (.c (.fn 130 [])) [.l 186, .l 187, .l 188, .l 189, .l 190])])
.skip))
(.seq
(.seq
(.reg [
.l 192 (.mv (.g 1)),
.l 193 (.mv (.g 20)),
.l 194 (.bin .lss (.l 192) (.l 193)),
.l 195 (.mv (.l 194)),
.lw 196 (.mv (.g 20)) (.l 195) true,
.lw 197 (.mv (.g 18)) (.l 195) true,
.lw 198 (.bin .lss (.l 196) (.l 197)) (.l 195) true,
.g 199 (.pick (.l 195) (.l 198) (.b false))])
(.cond (.g 199)
(.reg [
.l 200 (.mv (.g 0)),
.l 201 (.mv (.g 1)),
.l 202 (.mv (.g 20)),
.l 203 (.mv (.g 18)),
.l 204 (.mv (.g 4)),
.l 205 (.call (.c (.fn 125 [])) [.l 200, .l 201, .l 202, .l 203, .l 204])])
.skip))
(.seq
(.reg [
.l 206 (.mv (.g 18)),
.l 207 (.mv (.g 24)),
.l 208 (.bin .lss (.l 206) (.l 207)),
.l 209 (.mv (.l 208)),
.lw 210 (.mv (.g 24)) (.l 209) true,
.lw 211 (.mv (.g 3)) (.l 209) true,
.lw 212 (.bin .lss (.l 210) (.l 211)) (.l 209) true,
.g 213 (.pick (.l 209) (.l 212) (.b false))])
(.cond (.g 213)
(.reg [
.l 214 (.mv (.g 0)),
.l 215 (.mv (.g 18)),
.l 216 (.mv (.g 24)),
.l 217 (.mv (.g 3)),
.l 218 (.mv (.g 4)),
.l 219 (.call (.c (.fn 125 [])) [.l 214, .l 215, .l 216, .l 217, .l 218])])
.skip)))))))))))))
def K125 : List Nat := [0, 1, 2, 3, 4, 28, 33, 50, 58, 80, 85, 103, 110, 140, 151, 171, 185, 199, 213, 10, 11, 12, 13, 14, 15, 16, 17, 18, 19, 20, 21, 22, 23, 24]
noncomputable def b125 : Code := match Try.f125.body with | some c => c | none => .skip
theorem t125 : trCode ⟨Try.prog, K125, [], 220, none⟩ b125 = some c125 := by kernel_rfl
theorem go125 : GoS Try.prog 125 5 K125 [] 220 c125 [] := .mk Try.func125 (c := b125) rfl (by kernel_rfl) t125 rfl (by kernel_rfl) rfl rfl

/-- slices.rotateCmpFunc[sastrugi/api.Order] -/
def c130 : ACode :=
  (.seq
(.reg [
.l 12 (.mv (.g 2)),
.l 13 (.mv (.g 1)),
.l 14 (.bin .sub (.l 12) (.l 13)),
.g 10 (.mv (.l 14))])
(.seq
(.reg [
.l 15 (.mv (.g 3)),
.l 16 (.mv (.g 2)),
.l 17 (.bin .sub (.l 15) (.l 16)),
.g 11 (.mv (.l 17))])
(.seq
(.block 0
(.loop
(.seq
(.seq
(.reg [
.l 18 (.mv (.g 10)),
.l 19 (.mv (.g 11)),
.g 20 (.bin .neq (.l 18) (.l 19))])
(.cond (.g 20)
.skip
(.exit 0)))
(.block 1
(.seq
(.reg [
.l 21 (.mv (.g 10)),
.l 22 (.mv (.g 11)),
.g 23 (.bin .gtr (.l 21) (.l 22))])
(.cond (.g 23)
(.seq
(.reg [
.l 24 (.mv (.g 0)),
.l 25 (.mv (.g 2)),
.l 26 (.mv (.g 10)),
.l 27 (.bin .sub (.l 25) (.l 26)),
.l 28 (.mv (.g 2)),
.l 29 (.mv (.g 11)),
.l 30 (.mv (.g 4)),
.l 31 (.call (.c (.fn 132 [])) [.l 24, .l 27, .l 28, .l 29, .l 30])])
(.reg [
.l 32 (.mv (.g 10)),
.l 33 (.mv (.g 11)),
.l 34 (.bin .sub (.l 32) (.l 33)),
.g 10 (.mv (.l 34))]))
(.seq
(.reg [
.l 35 (.mv (.g 0)),
.l 36 (.mv (.g 2)),
.l 37 (.mv (.g 10)),
.l 38 (.bin .sub (.l 36) (.l 37)),
.l 39 (.mv (.g 2)),
.l 40 (.mv (.g 11)),
.l 41 (.bin .add (.l 39) (.l 40)),
.l 42 (.mv (.g 10)),
.l 43 (.bin .sub (.l 41) (.l 42)),
.l 44 (.mv (.g 10)),
.l 45 (.mv (.g 4)),
.l 46 (.call (.c (.fn 132 [])) [.l 35, .l 38, .l 43, .l 44, .l 45])])
(.reg [
.l 47 (.mv (.g 11)),
.l 48 (.mv (.g 10)),
.l 49 (.bin .sub (.l 47) (.l 48)),
.g 11 (.mv (.l 49))]))))))))
(.reg [
.l 50 (.mv (.g 0)),
.l 51 (.mv (.g 2)),
.l 52 (.mv (.g 10)),
.l 53 (.bin .sub (.l 51) (.l 52)),
.l 54 (.mv (.g 2)),
.l 55 (.mv (.g 10)),
.l 56 (.mv (.g 4)),
.l 57 (.call (.c (.fn 132 [])) [.l 50, .l 53, .l 54, .l 55, .l 56])]))))
def K130 : List Nat := [0, 1, 2, 3, 4, 20, 23, 10, 11]
noncomputable def b130 : Code := match Try.f130.body with | some c => c | none => .skip
theorem t130 : trCode ⟨Try.prog, K130, [], 58, none⟩ b130 = some c130 := by kernel_rfl
theorem go130 : GoS Try.prog 130 5 K130 [] 58 c130 [] := .mk Try.func130 (c := b130) rfl (by kernel_rfl) t130 rfl (by kernel_rfl) rfl rfl

/-- slices.swapRangeCmpFunc[sastrugi/api.Order] -/
def c132 : ACode :=
  (.seq
(.reg [
.g 10 (.mv (.i 0))])
(.block 0
(.loop
(.seq
(.seq
(.reg [
.l 11 (.mv (.g 10)),
.l 12 (.mv (.g 3)),
.g 13 (.bin .lss (.l 11) (.l 12))])
(.cond (.g 13)
.skip
(.exit 0)))
(.seq
(.block 1
(.draw [
.l 16 (.mv (.g 0)) 0,
.l 17 (.mv (.g 1)) 1,
.l 18 (.mv (.g 10)) 2,
.l 19 (.bin .add (.l 17) (.l 18)) 3,
.lf 20 (.mv (.g 0)) 4,
.lf 21 (.mv (.g 2)) 5,
.lf 22 (.mv (.g 10)) 6,
.lf 23 (.bin .add (.l 21) (.l 22)) 7,
.l 24 (.mv (.g 0)) 8,
.l 25 (.mv (.g 2)) 9,
.l 26 (.mv (.g 10)) 10,
.l 27 (.bin .add (.l 25) (.l 26)) 11,
.l 28 (.ia 4 (.l 24) (.l 27)) 12,
.l 29 (.ld (some 4) (.l 28)) 13,
.lf 30 (.mv (.g 0)) 14,
.lf 31 (.mv (.g 1)) 15,
.lf 32 (.mv (.g 10)) 16,
.lf 33 (.bin .add (.l 31) (.l 32)) 17,
.l 34 (.ia 4 (.l 30) (.l 33)) 18,
.l 35 (.ld (some 4) (.l 34)) 19,
.l 36 (.ia 4 (.l 16) (.l 19)) 20,
.nf (.st 4 (.l 36) (.l 29)) 21,
.lf 37 (.ia 4 (.l 20) (.l 23)) 22,
.n (.st 4 (.l 37) (.l 35)) 23]))
(.reg [
.l 14 (.mv (.g 10)),
.l 15 (.bin .add (.l 14) (.i 1)),
.g 10 (.mv (.l 15))]))))))
def K132 : List Nat := [0, 1, 2, 3, 4, 13, 10]
noncomputable def b132 : Code := match Try.f132.body with | some c => c | none => .skip
theorem t132 : trCode ⟨Try.prog, K132, [], 38, none⟩ b132 = some c132 := by kernel_rfl
theorem go132 : GoS Try.prog 132 5 K132 [] 38 c132 [] := .mk Try.func132 (c := b132) rfl (by kernel_rfl) t132 rfl (by kernel_rfl) rfl rfl

/-- slices.Index[[]int,int] -/
def c118 : ACode :=
  (.seq
(.reg [
.g 4 (.mv (.i 0))])
(.seq
(.seq
(.reg [
.l 6 (.mv (.g 0)),
.g 7 (.len (.l 6)),
.g 8 (.mv (.i 0))])
(.block 0
(.loop
(.seq
(.reg [
.g 9 (.bin .lss (.g 8) (.g 7))])
(.seq
(.cond (.g 9)
.skip
(.exit 0))
(.seq
(.block 1
(.seq
(.reg [
.l 10 (.mv (.g 8)),
.g 5 (.mv (.l 10))])
(.seq
(.reg [
.l 11 (.mv (.g 1)),
.l 12 (.mv (.g 0)),
.l 13 (.mv (.g 5)),
.l 14 (.ia 1 (.l 12) (.l 13)),
.l 15 (.ld none (.l 14)),
.g 16 (.bin .eql (.l 11) (.l 15))])
(.cond (.g 16)
(.seq
(.reg [
.l 17 (.mv (.g 5)),
.g 4 (.mv (.l 17))])
.ret)
.skip))))
(.reg [
.l 18 (.bin .add (.g 8) (.i 1)),
.g 8 (.mv (.l 18))])))))))
(.seq
(.reg [
.g 4 (.mv (.i (-1)))])
.ret)))
def K118 : List Nat := [0, 1, 9, 16, 4, 7, 8, 5]
noncomputable def b118 : Code := match Try.f118.body with | some c => c | none => .skip
theorem t118 : trCode ⟨Try.prog, K118, [], 19, none⟩ b118 = some c118 := by kernel_rfl
theorem go118 : GoS Try.prog 118 2 K118 [] 19 c118 [.t (.g 4)] := .mk Try.func118 (c := b118) rfl (by kernel_rfl) t118 rfl (by kernel_rfl) rfl rfl

end Go.Sas
