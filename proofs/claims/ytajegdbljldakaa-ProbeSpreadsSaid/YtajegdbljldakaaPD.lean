/-
The code of some functions with its types resolved, printed by a program; that it is the code is checked by the kernel.
Conditions: none.
-/
import Derived.Test.YtajegdbljldakaaP4
import Derived.Test.YtajegdbljldakaaProg
set_option linter.unusedVariables false
set_option linter.unusedSimpArgs false
namespace Go.Sas
open Go.Proofs
set_option maxRecDepth 100000
/-- sastrugi/probe.Stale -/
def c57 : ACode :=
  (.seq
(.reg [
.g 3 (.box (.g 0)),
.g 6 (.mv (.c (.lit (.slice none 0 0)))),
.g 7 (.mv (.i 0))])
(.seq
(.reg [
.l 12 (.ld (some 4) (.g 3)),
.l 13 (.mv (.g 1)),
.l 14 (.call (.c (.fn 74 [])) [.l 12, .l 13]),
.l 11 (.mv (.l 14)),
.l 15 (.ex (.l 11) 0),
.l 16 (.ex (.l 11) 1),
.g 8 (.new [.slice none 0 0, .int .i64 0, .int .i64 0, .int .i64 0, .slice none 0 0, .slice none 0 0]),
.n (.st 6 (.g 8) (.l 15)),
.g 9 (.mv (.l 16))])
(.seq
(.block 0
(.seq
(.reg [
.l 18 (.mv (.g 9)),
.l 19 (.bin .neq (.l 18) (.i 0)),
.g 17 (.mv (.l 19))])
(.cond (.g 17)
(.seq
(.reg [
.l 20 (.mv (.g 9)),
.g 6 (.mv (.c (.lit (.slice none 0 0)))),
.g 7 (.mv (.l 20))])
.ret)
(.seq
(.reg [
.l 22 (.mv (.g 2)),
.l 23 (.call (.c (.fn 75 [])) [.l 22, .i 0, .i 10000]),
.l 24 (.un .not (.l 23)),
.g 21 (.mv (.l 24))])
(.cond (.g 21)
(.seq
(.reg [
.g 6 (.mv (.c (.lit (.slice none 0 0)))),
.g 7 (.mv (.i 2))])
.ret)
.skip)))))
(.seq
(.reg [
.g 10 (.new [.slice none 0 0])])
(.seq
(.reg [
.l 25 (.ld (some 6) (.g 8)),
.l 26 (.mv (.g 1)),
.l 27 (.mv (.g 2)),
.l 28 (.call (.c (.fn 98 [])) [.l 25, .l 26, .l 27]),
.l 29 (.mkf 99 [.g 10]),
.l 30 (.call (.c (.fn 97 [])) [.l 28, .l 29])])
(.seq
(.reg [
.l 31 (.ld none (.g 10)),
.g 6 (.mv (.l 31)),
.g 7 (.mv (.i 0))])
.ret))))))
def K57 : List Nat := [0, 1, 2, 17, 21, 6, 7, 3, 8, 9, 10]
noncomputable def b57 : Code := match Try.f57.body with | some c => c | none => .skip
theorem t57 : trCode ⟨Try.prog, K57, [], 32, none⟩ b57 = some c57 := by kernel_rfl
theorem go57 : GoS Try.prog 57 3 K57 [] 32 c57 [.t (.g 6), .t (.g 7)] := .mk Try.func57 (c := b57) rfl (by kernel_rfl) t57 rfl (by kernel_rfl) rfl rfl
/-- sastrugi/probe.joined[bool] -/
def c97 : ACode :=
  (.seq
(.reg [
.g 4 (.mv (.i 0))])
(.block 0
(.loop
(.seq
(.seq
(.reg [
.l 6 (.mv (.g 4)),
.l 7 (.mv (.g 0)),
.l 8 (.len (.l 7)),
.g 9 (.bin .lss (.l 6) (.l 8))])
(.cond (.g 9)
.skip
(.exit 0)))
(.block 1
(.seq
(.reg [
.l 10 (.mv (.g 4)),
.g 5 (.mv (.l 10))])
(.seq
(.block 2
(.loop
(.seq
(.seq
(.draw [
.l 11 (.mv (.g 5)) 0,
.l 12 (.bin .add (.l 11) (.i 1)) 1,
.l 13 (.mv (.g 0)) 2,
.l 14 (.len (.l 13)) 3,
.l 15 (.bin .lss (.l 12) (.l 14)) 4,
.l 16 (.mv (.l 15)) 5,
.lw 17 (.mv (.g 0)) (.l 16) true 6,
.lw 18 (.mv (.g 5)) (.l 16) true 7,
.lw 19 (.bin .add (.l 18) (.i 1)) (.l 16) true 8,
.lw 20 (.ia 1 (.l 17) (.l 19)) (.l 16) true 9,
.lw 21 (.ld none (.l 20)) (.l 16) true 10,
.lw 22 (.mv (.g 0)) (.l 16) true 11,
.lw 23 (.mv (.g 4)) (.l 16) true 12,
.lw 24 (.ia 1 (.l 22) (.l 23)) (.l 16) true 13,
.lw 25 (.ld none (.l 24)) (.l 16) true 14,
.lw 26 (.binb false (.l 21) (.l 25)) (.l 16) true 15,
.g 27 (.pick (.l 16) (.l 26) (.b false)) 16])
(.cond (.g 27)
.skip
(.exit 2)))
(.block 3
(.reg [
.l 28 (.mv (.g 5)),
.l 29 (.bin .add (.l 28) (.i 1)),
.g 5 (.mv (.l 29))])))))
(.seq
(.reg [
.l 30 (.mv (.g 1)),
.l 31 (.mv (.g 4)),
.l 32 (.mv (.g 5)),
.l 33 (.mv (.g 0)),
.l 34 (.mv (.g 4)),
.l 35 (.ia 1 (.l 33) (.l 34)),
.l 36 (.ld none (.l 35)),
.l 37 (.call (.l 30) [.l 31, .l 32, .l 36])])
(.reg [
.l 38 (.mv (.g 5)),
.l 39 (.bin .add (.l 38) (.i 1)),
.g 4 (.mv (.l 39))])))))))))
def K97 : List Nat := [0, 1, 9, 27, 4, 5]
noncomputable def b97 : Code := match Try.f97.body with | some c => c | none => .skip
theorem t97 : trCode ⟨Try.prog, K97, [], 40, none⟩ b97 = some c97 := by kernel_rfl
theorem go97 : GoS Try.prog 97 2 K97 [] 40 c97 [] := .mk Try.func97 (c := b97) rfl (by kernel_rfl) t97 rfl (by kernel_rfl) rfl rfl
/-- sastrugi/probe.Stale$1 -/
def c99 : ACode :=
  (.seq
(.reg [
.g 7 (.mv (.g 2))])
(.cond (.g 7)
(.reg [
.l 8 (.ld none (.g 3)),
.l 9 (.mv (.g 0)),
.l 10 (.mv (.g 1)),
.l 11 (.mk [.int .i64 0, .int .i64 0] [(0, 1, .l 9), (1, 1, .l 10)]),
.l 12 (.mks false 2 [.l 11]),
.l 13 (.app 2 16 (.l 8) (.l 12)),
.n (.st 1 (.g 3) (.l 13))])
.skip))
def K99 : List Nat := [0, 1, 2, 3, 7]
noncomputable def b99 : Code := match Try.f99.body with | some c => c | none => .skip
theorem t99 : trCode ⟨Try.prog, K99, [], 14, none⟩ b99 = some c99 := by kernel_rfl
theorem go99 : GoS Try.prog 99 4 K99 [] 14 c99 [] := .mk Try.func99 (c := b99) rfl (by kernel_rfl) t99 rfl (by kernel_rfl) rfl rfl
/-- sastrugi/probe.Plan -/
def c59 : ACode :=
  (.seq
(.reg [
.g 4 (.box (.g 0)),
.g 8 (.mv (.c (.lit (.slice none 0 0)))),
.g 9 (.mv (.c (.lit (.slice none 0 0)))),
.g 10 (.mv (.i 0))])
(.seq
(.reg [
.l 17 (.ld (some 4) (.g 4)),
.l 18 (.mv (.g 1)),
.l 19 (.call (.c (.fn 74 [])) [.l 17, .l 18]),
.l 16 (.mv (.l 19)),
.l 20 (.ex (.l 16) 0),
.l 21 (.ex (.l 16) 1),
.g 11 (.new [.slice none 0 0, .int .i64 0, .int .i64 0, .int .i64 0, .slice none 0 0, .slice none 0 0]),
.n (.st 6 (.g 11) (.l 20)),
.g 10 (.mv (.l 21))])
(.seq
(.block 0
(.seq
(.reg [
.l 23 (.mv (.g 10)),
.l 24 (.bin .neq (.l 23) (.i 0)),
.g 22 (.mv (.l 24))])
(.cond (.g 22)
(.seq
(.reg [
.l 25 (.mv (.g 10)),
.g 8 (.mv (.c (.lit (.slice none 0 0)))),
.g 9 (.mv (.c (.lit (.slice none 0 0)))),
.g 10 (.mv (.l 25))])
.ret)
(.seq
(.reg [
.l 27 (.mv (.g 2)),
.l 28 (.call (.c (.fn 75 [])) [.l 27, .i 0, .i 10000]),
.l 29 (.un .not (.l 28)),
.g 26 (.mv (.l 29))])
(.cond (.g 26)
(.seq
(.reg [
.g 8 (.mv (.c (.lit (.slice none 0 0)))),
.g 9 (.mv (.c (.lit (.slice none 0 0)))),
.g 10 (.mv (.i 2))])
.ret)
(.seq
(.reg [
.l 31 (.mv (.g 3)),
.l 32 (.call (.c (.fn 75 [])) [.l 31, .i 1, .i 3]),
.l 33 (.un .not (.l 32)),
.g 30 (.mv (.l 33))])
(.cond (.g 30)
(.seq
(.reg [
.g 8 (.mv (.c (.lit (.slice none 0 0)))),
.g 9 (.mv (.c (.lit (.slice none 0 0)))),
.g 10 (.mv (.i 4))])
.ret)
.skip)))))))
(.seq
(.reg [
.l 34 (.mv (.g 3)),
.l 35 (.bin .sub (.l 34) (.i 1)),
.l 36 (.fa (.g 4) 1),
.l 37 (.iaa 3 1 (.l 36) (.l 35)),
.l 38 (.ld none (.l 37)),
.g 12 (.mv (.l 38))])
(.seq
(.reg [
.g 13 (.mv (.i (-1)))])
(.seq
(.seq
(.reg [
.l 39 (.ld (some 6) (.g 11)),
.l 40 (.mv (.g 1)),
.l 41 (.mv (.g 2)),
.g 42 (.call (.c (.fn 98 [])) [.l 39, .l 40, .l 41]),
.g 43 (.len (.g 42)),
.g 44 (.mv (.i 0))])
(.block 1
(.loop
(.seq
(.reg [
.g 45 (.bin .lss (.g 44) (.g 43))])
(.seq
(.cond (.g 45)
.skip
(.exit 1))
(.seq
(.block 2
(.seq
(.reg [
.l 46 (.mv (.g 44)),
.l 47 (.ia 1 (.g 42) (.g 44)),
.l 48 (.ld none (.l 47)),
.g 14 (.mv (.l 46)),
.g 15 (.mv (.l 48))])
(.seq
(.reg [
.l 49 (.mv (.g 15)),
.l 50 (.mv (.l 49)),
.lw 51 (.mv (.g 14)) (.l 50) true,
.lw 52 (.mv (.g 13)) (.l 50) true,
.lw 53 (.bin .gtr (.l 51) (.l 52)) (.l 50) true,
.g 54 (.pick (.l 50) (.l 53) (.b false))])
(.cond (.g 54)
(.seq
(.reg [
.l 55 (.mv (.g 8)),
.l 56 (.mv (.g 14)),
.l 57 (.mv (.g 12)),
.l 58 (.bin .add (.l 56) (.l 57)),
.l 59 (.fa (.g 11) 5),
.l 60 (.ld none (.l 59)),
.l 61 (.len (.l 60)),
.l 62 (.bin .sub (.l 61) (.i 1)),
.l 63 (.mn [.l 58, .l 62]),
.l 64 (.mks false 1 [.l 63]),
.l 65 (.app 1 8 (.l 55) (.l 64)),
.l 66 (.mv (.g 9)),
.l 67 (.mv (.g 14)),
.l 68 (.mks false 1 [.l 67]),
.l 69 (.app 1 8 (.l 66) (.l 68)),
.g 8 (.mv (.l 65)),
.g 9 (.mv (.l 69))])
(.reg [
.l 70 (.mv (.g 14)),
.l 71 (.mv (.g 12)),
.l 72 (.bin .mul (.i 2) (.l 71)),
.l 73 (.bin .add (.l 70) (.l 72)),
.g 13 (.mv (.l 73))]))
.skip))))
(.reg [
.l 74 (.bin .add (.g 44) (.i 1)),
.g 44 (.mv (.l 74))])))))))
(.seq
(.reg [
.l 75 (.mv (.g 8)),
.l 76 (.mv (.g 9)),
.g 8 (.mv (.l 75)),
.g 9 (.mv (.l 76)),
.g 10 (.mv (.i 0))])
.ret)))))))
def K59 : List Nat := [0, 1, 2, 3, 22, 26, 30, 45, 54, 8, 9, 10, 4, 11, 12, 13, 42, 43, 44, 14, 15]
noncomputable def b59 : Code := match Try.f59.body with | some c => c | none => .skip
theorem t59 : trCode ⟨Try.prog, K59, [], 77, none⟩ b59 = some c59 := by kernel_rfl
theorem go59 : GoS Try.prog 59 4 K59 [] 77 c59 [.t (.g 8), .t (.g 9), .t (.g 10)] := .mk Try.func59 (c := b59) rfl (by kernel_rfl) t59 rfl (by kernel_rfl) rfl rfl
/-- sastrugi/sastrugiref02.stale -/
def c95 : ACode :=
  (.seq
(.reg [
.g 4 (.box (.g 0)),
.g 8 (.mv (.b false))])
(.seq
(.reg [
.l 12 (.ld (some 4) (.g 4)),
.l 13 (.mv (.g 2)),
.l 14 (.call (.c (.fn 112 [])) [.l 12, .l 13]),
.l 15 (.fd none (.l 14) 4),
.g 9 (.mv (.l 15))])
(.seq
(.seq
(.reg [
.g 10 (.mv (.i 0))])
(.block 0
(.loop
(.seq
(.seq
(.reg [
.l 16 (.mv (.g 10)),
.l 17 (.mv (.g 1)),
.l 18 (.len (.l 17)),
.g 19 (.bin .lss (.l 16) (.l 18))])
(.cond (.g 19)
.skip
(.exit 0)))
(.seq
(.block 1
(.seq
(.reg [
.l 22 (.mv (.g 1)),
.l 23 (.mv (.g 10)),
.l 24 (.ia 5 (.l 22) (.l 23)),
.l 25 (.fa (.l 24) 0),
.l 26 (.ld none (.l 25)),
.l 27 (.bin .sub (.l 26) (.i 1)),
.l 28 (.fa (.g 4) 1),
.l 29 (.iaa 3 1 (.l 28) (.l 27)),
.l 30 (.ld none (.l 29)),
.g 11 (.mv (.l 30))])
(.seq
(.draw [
.l 31 (.mv (.g 1)) 0,
.l 32 (.mv (.g 10)) 1,
.l 33 (.ia 5 (.l 31) (.l 32)) 2,
.l 34 (.fa (.l 33) 2) 3,
.l 35 (.ld none (.l 34)) 4,
.l 36 (.mv (.g 3)) 5,
.l 37 (.mv (.g 9)) 6,
.l 38 (.bin .sub (.l 36) (.l 37)) 7,
.l 39 (.mv (.g 3)) 8,
.lf 40 (.call (.c (.fn 80 [])) [.l 35, .l 38, .l 39]) 9,
.l 41 (.mv (.l 40)) 10,
.lw 42 (.mv (.g 2)) (.l 41) true 11,
.lw 43 (.mv (.g 1)) (.l 41) true 12,
.lw 44 (.mv (.g 10)) (.l 41) true 13,
.lw 45 (.ia 5 (.l 43) (.l 44)) (.l 41) true 14,
.lw 46 (.fa (.l 45) 1) (.l 41) true 15,
.lw 47 (.ld none (.l 46)) (.l 41) true 16,
.lw 48 (.mv (.g 11)) (.l 41) true 17,
.lw 49 (.bin .sub (.l 47) (.l 48)) (.l 41) true 18,
.lw 50 (.mv (.g 1)) (.l 41) true 19,
.lw 51 (.mv (.g 10)) (.l 41) true 20,
.lw 52 (.ia 5 (.l 50) (.l 51)) (.l 41) true 21,
.lw 53 (.fa (.l 52) 1) (.l 41) true 22,
.lw 54 (.ld none (.l 53)) (.l 41) true 23,
.lw 55 (.mv (.g 11)) (.l 41) true 24,
.lw 56 (.bin .add (.l 54) (.l 55)) (.l 41) true 25,
.lwf 57 (.call (.c (.fn 80 [])) [.l 42, .l 49, .l 56]) (.l 41) true 26,
.g 58 (.pick (.l 41) (.l 57) (.b false)) 27])
(.cond (.g 58)
(.seq
(.reg [
.g 8 (.mv (.b false))])
.ret)
.skip))))
(.reg [
.l 20 (.mv (.g 10)),
.l 21 (.bin .add (.l 20) (.i 1)),
.g 10 (.mv (.l 21))]))))))
(.seq
(.reg [
.g 8 (.mv (.b true))])
.ret))))
def K95 : List Nat := [0, 1, 2, 3, 19, 58, 8, 4, 9, 10, 11]
noncomputable def b95 : Code := match Try.f95.body with | some c => c | none => .skip
theorem t95 : trCode ⟨Try.prog, K95, [], 59, none⟩ b95 = some c95 := by kernel_rfl
theorem go95 : GoS Try.prog 95 4 K95 [] 59 c95 [.t (.g 8)] := .mk Try.func95 (c := b95) rfl (by kernel_rfl) t95 rfl (by kernel_rfl) rfl rfl
/-- sastrugi/sastrugiref02.Stale -/
def c58 : ACode :=
  (.seq
(.reg [
.g 3 (.box (.g 0)),
.g 6 (.mv (.c (.lit (.slice none 0 0)))),
.g 7 (.mv (.i 0))])
(.seq
(.seq
(.reg [
.l 12 (.ld (some 4) (.g 3)),
.l 13 (.mv (.g 1)),
.l 14 (.call (.c (.fn 36 [])) [.l 12, .l 13]),
.g 8 (.mv (.l 14))])
(.seq
(.reg [
.l 15 (.mv (.g 8)),
.g 16 (.bin .neq (.l 15) (.i 0))])
(.cond (.g 16)
(.seq
(.reg [
.l 17 (.mv (.g 8)),
.g 6 (.mv (.c (.lit (.slice none 0 0)))),
.g 7 (.mv (.l 17))])
.ret)
.skip)))
(.seq
(.seq
(.reg [
.l 18 (.mv (.g 2)),
.l 19 (.call (.c (.fn 80 [])) [.l 18, .i 0, .i 10000]),
.g 20 (.un .not (.l 19))])
(.cond (.g 20)
(.seq
(.reg [
.g 6 (.mv (.c (.lit (.slice none 0 0)))),
.g 7 (.mv (.i 2))])
.ret)
.skip))
(.seq
(.reg [
.g 9 (.mv (.c (.lit (.slice none 0 0))))])
(.seq
(.seq
(.reg [
.g 10 (.mv (.i 0))])
(.block 0
(.loop
(.seq
(.seq
(.reg [
.l 21 (.mv (.g 10)),
.l 22 (.ld (some 4) (.g 3)),
.l 23 (.call (.c (.fn 46 [])) [.l 22]),
.g 24 (.bin .lss (.l 21) (.l 23))])
(.cond (.g 24)
.skip
(.exit 0)))
(.seq
(.block 1
(.seq
(.seq
(.reg [
.l 27 (.ld (some 4) (.g 3)),
.l 28 (.mv (.g 1)),
.l 29 (.mv (.g 10)),
.l 30 (.mv (.g 2)),
.l 31 (.call (.c (.fn 95 [])) [.l 27, .l 28, .l 29, .l 30]),
.g 32 (.un .not (.l 31))])
(.cond (.g 32)
(.exit 1)
.skip))
(.seq
(.reg [
.l 33 (.mv (.g 9)),
.l 34 (.len (.l 33)),
.g 11 (.mv (.l 34))])
(.seq
(.reg [
.l 35 (.mv (.g 11)),
.l 36 (.bin .gtr (.l 35) (.i 0)),
.l 37 (.mv (.l 36)),
.lw 38 (.mv (.g 9)) (.l 37) true,
.lw 39 (.mv (.g 11)) (.l 37) true,
.lw 40 (.bin .sub (.l 39) (.i 1)) (.l 37) true,
.lw 41 (.ia 2 (.l 38) (.l 40)) (.l 37) true,
.lw 42 (.fa (.l 41) 1) (.l 37) true,
.lw 43 (.ld none (.l 42)) (.l 37) true,
.lw 44 (.mv (.g 10)) (.l 37) true,
.lw 45 (.bin .sub (.l 44) (.i 1)) (.l 37) true,
.lw 46 (.bin .eql (.l 43) (.l 45)) (.l 37) true,
.g 47 (.pick (.l 37) (.l 46) (.b false))])
(.cond (.g 47)
(.reg [
.l 48 (.mv (.g 9)),
.l 49 (.mv (.g 11)),
.l 50 (.bin .sub (.l 49) (.i 1)),
.l 51 (.mv (.g 10)),
.l 52 (.ia 2 (.l 48) (.l 50)),
.l 53 (.fa (.l 52) 1),
.n (.st 1 (.l 53) (.l 51))])
(.reg [
.l 54 (.mv (.g 9)),
.l 55 (.mv (.g 10)),
.l 56 (.mv (.g 10)),
.l 57 (.mk [.int .i64 0, .int .i64 0] [(0, 1, .l 55), (1, 1, .l 56)]),
.l 58 (.mks false 2 [.l 57]),
.l 59 (.app 2 16 (.l 54) (.l 58)),
.g 9 (.mv (.l 59))]))))))
(.reg [
.l 25 (.mv (.g 10)),
.l 26 (.bin .add (.l 25) (.i 1)),
.g 10 (.mv (.l 26))]))))))
(.seq
(.reg [
.l 60 (.mv (.g 9)),
.g 6 (.mv (.l 60)),
.g 7 (.mv (.i 0))])
.ret))))))
def K58 : List Nat := [0, 1, 2, 16, 20, 24, 32, 47, 6, 7, 3, 8, 9, 10, 11]
noncomputable def b58 : Code := match Try.f58.body with | some c => c | none => .skip
theorem t58 : trCode ⟨Try.prog, K58, [], 61, none⟩ b58 = some c58 := by kernel_rfl
theorem go58 : GoS Try.prog 58 3 K58 [] 61 c58 [.t (.g 6), .t (.g 7)] := .mk Try.func58 (c := b58) rfl (by kernel_rfl) t58 rfl (by kernel_rfl) rfl rfl
/-- sastrugi/sastrugiref02.Plan -/
def c60 : ACode :=
  (.seq
(.reg [
.g 4 (.box (.g 0)),
.g 8 (.mv (.c (.lit (.slice none 0 0)))),
.g 9 (.mv (.c (.lit (.slice none 0 0)))),
.g 10 (.mv (.i 0))])
(.seq
(.seq
(.reg [
.l 19 (.ld (some 4) (.g 4)),
.l 20 (.mv (.g 1)),
.l 21 (.call (.c (.fn 36 [])) [.l 19, .l 20]),
.g 11 (.mv (.l 21))])
(.seq
(.reg [
.l 22 (.mv (.g 11)),
.g 23 (.bin .neq (.l 22) (.i 0))])
(.cond (.g 23)
(.seq
(.reg [
.l 24 (.mv (.g 11)),
.g 8 (.mv (.c (.lit (.slice none 0 0)))),
.g 9 (.mv (.c (.lit (.slice none 0 0)))),
.g 10 (.mv (.l 24))])
.ret)
.skip)))
(.seq
(.seq
(.reg [
.l 25 (.mv (.g 2)),
.l 26 (.call (.c (.fn 80 [])) [.l 25, .i 0, .i 10000]),
.g 27 (.un .not (.l 26))])
(.cond (.g 27)
(.seq
(.reg [
.g 8 (.mv (.c (.lit (.slice none 0 0)))),
.g 9 (.mv (.c (.lit (.slice none 0 0)))),
.g 10 (.mv (.i 2))])
.ret)
.skip))
(.seq
(.seq
(.reg [
.l 28 (.mv (.g 3)),
.l 29 (.call (.c (.fn 80 [])) [.l 28, .i 1, .i 3]),
.g 30 (.un .not (.l 29))])
(.cond (.g 30)
(.seq
(.reg [
.g 8 (.mv (.c (.lit (.slice none 0 0)))),
.g 9 (.mv (.c (.lit (.slice none 0 0)))),
.g 10 (.mv (.i 4))])
.ret)
.skip))
(.seq
(.reg [
.g 12 (.mv (.c (.lit (.slice none 0 0)))),
.g 13 (.mv (.c (.lit (.slice none 0 0))))])
(.seq
(.draw [
.l 31 (.mv (.g 3)) 0,
.l 32 (.bin .sub (.l 31) (.i 1)) 1,
.l 33 (.fa (.g 4) 1) 2,
.l 34 (.iaa 3 1 (.l 33) (.l 32)) 3,
.l 35 (.ld none (.l 34)) 4,
.l 36 (.ld (some 4) (.g 4)) 5,
.lf 37 (.call (.c (.fn 46 [])) [.l 36]) 6,
.g 14 (.mv (.l 35)) 7,
.g 15 (.mv (.l 37)) 8])
(.seq
(.reg [
.g 16 (.mv (.i (-1)))])
(.seq
(.seq
(.reg [
.g 17 (.mv (.i 0))])
(.block 0
(.loop
(.seq
(.seq
(.reg [
.l 38 (.mv (.g 17)),
.l 39 (.mv (.g 15)),
.g 40 (.bin .lss (.l 38) (.l 39))])
(.cond (.g 40)
.skip
(.exit 0)))
(.seq
(.block 1
(.seq
(.seq
(.reg [
.l 43 (.mv (.g 17)),
.l 44 (.mv (.g 16)),
.l 45 (.bin .leq (.l 43) (.l 44)),
.l 46 (.mv (.l 45)),
.lw 47 (.ld (some 4) (.g 4)) (.l 46) false,
.lw 48 (.mv (.g 1)) (.l 46) false,
.lw 49 (.mv (.g 17)) (.l 46) false,
.lw 50 (.mv (.g 2)) (.l 46) false,
.lw 51 (.call (.c (.fn 95 [])) [.l 47, .l 48, .l 49, .l 50]) (.l 46) false,
.lw 52 (.un .not (.l 51)) (.l 46) false,
.g 53 (.pick (.l 46) (.b true) (.l 52))])
(.cond (.g 53)
(.exit 1)
.skip))
(.seq
(.reg [
.l 54 (.mv (.g 15)),
.l 55 (.bin .sub (.l 54) (.i 1)),
.l 56 (.mv (.g 17)),
.l 57 (.mv (.g 14)),
.l 58 (.bin .add (.l 56) (.l 57)),
.l 59 (.mn [.l 55, .l 58]),
.g 18 (.mv (.l 59))])
(.seq
(.reg [
.l 60 (.mv (.g 12)),
.l 61 (.mv (.g 18)),
.l 62 (.mks false 1 [.l 61]),
.l 63 (.app 1 8 (.l 60) (.l 62)),
.l 64 (.mv (.g 13)),
.l 65 (.mv (.g 17)),
.l 66 (.mks false 1 [.l 65]),
.l 67 (.app 1 8 (.l 64) (.l 66)),
.g 12 (.mv (.l 63)),
.g 13 (.mv (.l 67))])
(.reg [
.l 68 (.mv (.g 18)),
.l 69 (.mv (.g 14)),
.l 70 (.bin .add (.l 68) (.l 69)),
.g 16 (.mv (.l 70))])))))
(.reg [
.l 41 (.mv (.g 17)),
.l 42 (.bin .add (.l 41) (.i 1)),
.g 17 (.mv (.l 42))]))))))
(.seq
(.reg [
.l 71 (.mv (.g 12)),
.l 72 (.mv (.g 13)),
.g 8 (.mv (.l 71)),
.g 9 (.mv (.l 72)),
.g 10 (.mv (.i 0))])
.ret)))))))))
def K60 : List Nat := [0, 1, 2, 3, 23, 27, 30, 40, 53, 8, 9, 10, 4, 11, 12, 13, 14, 15, 16, 17, 18]
noncomputable def b60 : Code := match Try.f60.body with | some c => c | none => .skip
theorem t60 : trCode ⟨Try.prog, K60, [], 73, none⟩ b60 = some c60 := by kernel_rfl
theorem go60 : GoS Try.prog 60 4 K60 [] 73 c60 [.t (.g 8), .t (.g 9), .t (.g 10)] := .mk Try.func60 (c := b60) rfl (by kernel_rfl) t60 rfl (by kernel_rfl) rfl rfl
/-- sastrugi/sastrugikit.SameSpans -/
def c61 : ACode :=
  (.seq
(.reg [
.g 4 (.mv (.b false))])
(.seq
(.seq
(.reg [
.l 6 (.mv (.g 0)),
.l 7 (.len (.l 6)),
.l 8 (.mv (.g 1)),
.l 9 (.len (.l 8)),
.g 10 (.bin .neq (.l 7) (.l 9))])
(.cond (.g 10)
(.seq
(.reg [
.g 4 (.mv (.b false))])
.ret)
.skip))
(.seq
(.seq
(.reg [
.g 5 (.mv (.i 0))])
(.block 0
(.loop
(.seq
(.seq
(.reg [
.l 11 (.mv (.g 5)),
.l 12 (.mv (.g 0)),
.l 13 (.len (.l 12)),
.g 14 (.bin .lss (.l 11) (.l 13))])
(.cond (.g 14)
.skip
(.exit 0)))
(.seq
(.block 1
(.seq
(.draw [
.l 17 (.mv (.g 0)) 0,
.l 18 (.mv (.g 5)) 1,
.l 19 (.ia 2 (.l 17) (.l 18)) 2,
.l 20 (.ld (some 2) (.l 19)) 3,
.l 21 (.mv (.g 1)) 4,
.l 22 (.mv (.g 5)) 5,
.l 23 (.ia 2 (.l 21) (.l 22)) 6,
.l 24 (.ld (some 2) (.l 23)) 7,
.g 25 (.eqs true (.fld 0 none .i (.fld 1 none .i .nil)) (.l 20) (.l 24)) 8])
(.cond (.g 25)
(.seq
(.reg [
.g 4 (.mv (.b false))])
.ret)
.skip)))
(.reg [
.l 15 (.mv (.g 5)),
.l 16 (.bin .add (.l 15) (.i 1)),
.g 5 (.mv (.l 16))]))))))
(.seq
(.reg [
.g 4 (.mv (.b true))])
.ret))))
def K61 : List Nat := [0, 1, 10, 14, 25, 4, 5]
noncomputable def b61 : Code := match Try.f61.body with | some c => c | none => .skip
theorem t61 : trCode ⟨Try.prog, K61, [], 26, none⟩ b61 = some c61 := by kernel_rfl
theorem go61 : GoS Try.prog 61 2 K61 [] 26 c61 [.t (.g 4)] := .mk Try.func61 (c := b61) rfl (by kernel_rfl) t61 rfl (by kernel_rfl) rfl rfl
end Go.Sas
