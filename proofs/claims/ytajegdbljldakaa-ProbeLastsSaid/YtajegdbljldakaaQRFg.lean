/-
The code of some functions with its types resolved, printed by a program; that it is the code is checked by the kernel.
Conditions: none.
-/
import Derived.Test.YtajegdbljldakaaP4
import Derived.Test.YtajegdbljldakaaProg
set_option linter.unusedVariables false
set_option linter.unusedSimpArgs false
namespace Go.Sas
open Go.Proofs
set_option maxRecDepth 100000
/-- sastrugi/probe.Cover -/
def c41 : ACode :=
  (.seq
(.reg [
.g 3 (.box (.g 0)),
.g 6 (.mv (.c (.lit (.slice none 0 0)))),
.g 7 (.mv (.i 0))])
(.seq
(.seq
(.reg [
.l 10 (.ld (some 4) (.g 3)),
.l 11 (.mv (.g 1)),
.l 12 (.call (.c (.fn 37 [])) [.l 10, .l 11]),
.g 8 (.mv (.l 12))])
(.seq
(.reg [
.l 13 (.mv (.g 8)),
.g 14 (.bin .neq (.l 13) (.i 0))])
(.cond (.g 14)
(.seq
(.reg [
.l 15 (.mv (.g 8)),
.g 6 (.mv (.c (.lit (.slice none 0 0)))),
.g 7 (.mv (.l 15))])
.ret)
.skip)))
(.seq
(.seq
(.reg [
.l 16 (.mv (.g 2)),
.l 17 (.call (.c (.fn 75 [])) [.l 16, .i 0, .i 10000]),
.g 18 (.un .not (.l 17))])
(.cond (.g 18)
(.seq
(.reg [
.g 6 (.mv (.c (.lit (.slice none 0 0)))),
.g 7 (.mv (.i 2))])
.ret)
.skip))
(.seq
(.reg [
.g 9 (.new [.slice none 0 0])])
(.seq
(.reg [
.l 19 (.mv (.g 1)),
.l 20 (.mv (.g 2)),
.l 21 (.ld (some 4) (.g 3)),
.l 22 (.call (.c (.fn 79 [])) [.l 21]),
.l 23 (.call (.c (.fn 84 [])) [.l 19, .l 20, .l 22]),
.l 24 (.mkf 85 [.g 9]),
.l 25 (.call (.c (.fn 71 [])) [.l 23, .l 24])])
(.seq
(.reg [
.l 26 (.ld none (.g 9)),
.g 6 (.mv (.l 26)),
.g 7 (.mv (.i 0))])
.ret))))))
def K41 : List Nat := [0, 1, 2, 14, 18, 6, 7, 3, 8, 9]
noncomputable def b41 : Code := match Try.f41.body with | some c => c | none => .skip
theorem t41 : trCode ⟨Try.prog, K41, [], 27, none⟩ b41 = some c41 := by kernel_rfl
theorem go41 : GoS Try.prog 41 3 K41 [] 27 c41 [.t (.g 6), .t (.g 7)] := .mk Try.func41 (c := b41) rfl (by kernel_rfl) t41 rfl (by kernel_rfl) rfl rfl
/-- sastrugi/probe.Cover$1 -/
def c85 : ACode :=
  (.reg [
.l 7 (.ld none (.g 3)),
.l 8 (.mv (.g 0)),
.l 9 (.mv (.g 1)),
.l 10 (.mv (.g 2)),
.l 11 (.mk [.int .i64 0, .int .i64 0, .int .i64 0] [(0, 1, .l 8), (1, 1, .l 9), (2, 1, .l 10)]),
.l 12 (.mks false 3 [.l 11]),
.l 13 (.app 3 24 (.l 7) (.l 12)),
.n (.st 1 (.g 3) (.l 13))])
def K85 : List Nat := [0, 1, 2, 3]
noncomputable def b85 : Code := match Try.f85.body with | some c => c | none => .skip
theorem t85 : trCode ⟨Try.prog, K85, [], 14, none⟩ b85 = some c85 := by kernel_rfl
theorem go85 : GoS Try.prog 85 4 K85 [] 14 c85 [] := .mk Try.func85 (c := b85) rfl (by kernel_rfl) t85 rfl (by kernel_rfl) rfl rfl
/-- sastrugi/sastrugiref02.Cover -/
def c42 : ACode :=
  (.seq
(.reg [
.g 3 (.box (.g 0)),
.g 6 (.mv (.c (.lit (.slice none 0 0)))),
.g 7 (.mv (.i 0))])
(.seq
(.seq
(.reg [
.l 15 (.ld (some 4) (.g 3)),
.l 16 (.mv (.g 1)),
.l 17 (.call (.c (.fn 38 [])) [.l 15, .l 16]),
.g 8 (.mv (.l 17))])
(.seq
(.reg [
.l 18 (.mv (.g 8)),
.g 19 (.bin .neq (.l 18) (.i 0))])
(.cond (.g 19)
(.seq
(.reg [
.l 20 (.mv (.g 8)),
.g 6 (.mv (.c (.lit (.slice none 0 0)))),
.g 7 (.mv (.l 20))])
.ret)
.skip)))
(.seq
(.seq
(.reg [
.l 21 (.mv (.g 2)),
.l 22 (.call (.c (.fn 80 [])) [.l 21, .i 0, .i 10000]),
.g 23 (.un .not (.l 22))])
(.cond (.g 23)
(.seq
(.reg [
.g 6 (.mv (.c (.lit (.slice none 0 0)))),
.g 7 (.mv (.i 2))])
.ret)
.skip))
(.seq
(.reg [
.l 25 (.ld (some 4) (.g 3)),
.l 26 (.mv (.g 1)),
.l 27 (.mv (.g 2)),
.l 28 (.call (.c (.fn 86 [])) [.l 25, .l 26, .l 27]),
.l 24 (.mv (.l 28)),
.l 29 (.ex (.l 24) 0),
.l 30 (.ex (.l 24) 1),
.g 9 (.mv (.l 29)),
.g 10 (.mv (.l 30))])
(.seq
(.reg [
.g 11 (.mv (.c (.lit (.slice none 0 0))))])
(.seq
(.seq
(.reg [
.g 12 (.mv (.i 0))])
(.block 0
(.loop
(.seq
(.seq
(.reg [
.l 31 (.mv (.g 12)),
.l 32 (.mv (.g 9)),
.l 33 (.len (.l 32)),
.g 34 (.bin .lss (.l 31) (.l 33))])
(.cond (.g 34)
.skip
(.exit 0)))
(.seq
(.block 1
(.seq
(.reg [
.g 13 (.mv (.i 2))])
(.seq
(.block 2
(.seq
(.reg [
.l 38 (.mv (.g 10)),
.l 39 (.mv (.g 12)),
.l 40 (.ia 1 (.l 38) (.l 39)),
.l 41 (.ld none (.l 40)),
.g 37 (.mv (.l 41))])
(.cond (.g 37)
(.reg [
.g 13 (.mv (.i 1))])
(.seq
(.reg [
.l 43 (.mv (.g 9)),
.l 44 (.mv (.g 12)),
.l 45 (.ia 1 (.l 43) (.l 44)),
.l 46 (.ld none (.l 45)),
.g 42 (.mv (.l 46))])
(.cond (.g 42)
(.reg [
.g 13 (.mv (.i 3))])
.skip)))))
(.seq
(.reg [
.l 47 (.mv (.g 11)),
.l 48 (.len (.l 47)),
.g 14 (.mv (.l 48))])
(.seq
(.reg [
.l 49 (.mv (.g 14)),
.l 50 (.bin .gtr (.l 49) (.i 0)),
.l 51 (.mv (.l 50)),
.lw 52 (.mv (.g 11)) (.l 51) true,
.lw 53 (.mv (.g 14)) (.l 51) true,
.lw 54 (.bin .sub (.l 53) (.i 1)) (.l 51) true,
.lw 55 (.ia 3 (.l 52) (.l 54)) (.l 51) true,
.lw 56 (.fa (.l 55) 2) (.l 51) true,
.lw 57 (.ld none (.l 56)) (.l 51) true,
.lw 58 (.mv (.g 13)) (.l 51) true,
.lw 59 (.bin .eql (.l 57) (.l 58)) (.l 51) true,
.g 60 (.pick (.l 51) (.l 59) (.b false))])
(.cond (.g 60)
(.reg [
.l 61 (.mv (.g 11)),
.l 62 (.mv (.g 14)),
.l 63 (.bin .sub (.l 62) (.i 1)),
.l 64 (.mv (.g 12)),
.l 65 (.ia 3 (.l 61) (.l 63)),
.l 66 (.fa (.l 65) 1),
.n (.st 1 (.l 66) (.l 64))])
(.reg [
.l 67 (.mv (.g 11)),
.l 68 (.mv (.g 12)),
.l 69 (.mv (.g 12)),
.l 70 (.mv (.g 13)),
.l 71 (.mk [.int .i64 0, .int .i64 0, .int .i64 0] [(0, 1, .l 68), (1, 1, .l 69), (2, 1, .l 70)]),
.l 72 (.mks false 3 [.l 71]),
.l 73 (.app 3 24 (.l 67) (.l 72)),
.g 11 (.mv (.l 73))])))))))
(.reg [
.l 35 (.mv (.g 12)),
.l 36 (.bin .add (.l 35) (.i 1)),
.g 12 (.mv (.l 36))]))))))
(.seq
(.reg [
.l 74 (.mv (.g 11)),
.g 6 (.mv (.l 74)),
.g 7 (.mv (.i 0))])
.ret)))))))
def K42 : List Nat := [0, 1, 2, 19, 23, 34, 37, 42, 60, 6, 7, 3, 8, 9, 10, 11, 12, 13, 14]
noncomputable def b42 : Code := match Try.f42.body with | some c => c | none => .skip
theorem t42 : trCode ⟨Try.prog, K42, [], 75, none⟩ b42 = some c42 := by kernel_rfl
theorem go42 : GoS Try.prog 42 3 K42 [] 75 c42 [.t (.g 6), .t (.g 7)] := .mk Try.func42 (c := b42) rfl (by kernel_rfl) t42 rfl (by kernel_rfl) rfl rfl
/-- sastrugi/sastrugikit.SamePatches -/
def c43 : ACode :=
  (.seq
(.reg [
.g 4 (.mv (.b false))])
(.seq
(.seq
(.reg [
.l 6 (.mv (.g 0)),
.l 7 (.len (.l 6)),
.l 8 (.mv (.g 1)),
.l 9 (.len (.l 8)),
.g 10 (.bin .neq (.l 7) (.l 9))])
(.cond (.g 10)
(.seq
(.reg [
.g 4 (.mv (.b false))])
.ret)
.skip))
(.seq
(.seq
(.reg [
.g 5 (.mv (.i 0))])
(.block 0
(.loop
(.seq
(.seq
(.reg [
.l 11 (.mv (.g 5)),
.l 12 (.mv (.g 0)),
.l 13 (.len (.l 12)),
.g 14 (.bin .lss (.l 11) (.l 13))])
(.cond (.g 14)
.skip
(.exit 0)))
(.seq
(.block 1
(.seq
(.draw [
.l 17 (.mv (.g 0)) 0,
.l 18 (.mv (.g 5)) 1,
.l 19 (.ia 3 (.l 17) (.l 18)) 2,
.l 20 (.ld (some 3) (.l 19)) 3,
.l 21 (.mv (.g 1)) 4,
.l 22 (.mv (.g 5)) 5,
.l 23 (.ia 3 (.l 21) (.l 22)) 6,
.l 24 (.ld (some 3) (.l 23)) 7,
.g 25 (.eqs true (.fld 0 none .i (.fld 1 none .i (.fld 2 none .i .nil))) (.l 20) (.l 24)) 8])
(.cond (.g 25)
(.seq
(.reg [
.g 4 (.mv (.b false))])
.ret)
.skip)))
(.reg [
.l 15 (.mv (.g 5)),
.l 16 (.bin .add (.l 15) (.i 1)),
.g 5 (.mv (.l 16))]))))))
(.seq
(.reg [
.g 4 (.mv (.b true))])
.ret))))
def K43 : List Nat := [0, 1, 10, 14, 25, 4, 5]
noncomputable def b43 : Code := match Try.f43.body with | some c => c | none => .skip
theorem t43 : trCode ⟨Try.prog, K43, [], 26, none⟩ b43 = some c43 := by kernel_rfl
theorem go43 : GoS Try.prog 43 2 K43 [] 26 c43 [.t (.g 4)] := .mk Try.func43 (c := b43) rfl (by kernel_rfl) t43 rfl (by kernel_rfl) rfl rfl
/-- sastrugi/sastrugiref02.cover -/
def c86 : ACode :=
  (.seq
(.reg [
.g 3 (.box (.g 0)),
.g 6 (.mv (.c (.lit (.slice none 0 0)))),
.g 7 (.mv (.c (.lit (.slice none 0 0))))])
(.seq
(.reg [
.l 15 (.ld (some 4) (.g 3)),
.l 16 (.call (.c (.fn 46 [])) [.l 15]),
.g 8 (.mv (.l 16))])
(.seq
(.draw [
.l 17 (.mv (.g 8)) 0,
.l 18 (.newl 1 1 [.bool false] (.l 17) (.l 17)) 1,
.l 19 (.mv (.g 8)) 2,
.l 20 (.newl 1 1 [.bool false] (.l 19) (.l 19)) 3,
.gx 9 (.mv (.l 18)) 4 true [1],
.gx 10 (.mv (.l 20)) 5 true [1, 3]])
(.seq
(.seq
(.reg [
.g 11 (.mv (.i 0))])
(.block 0
(.loop
(.seq
(.seq
(.reg [
.l 21 (.mv (.g 11)),
.l 22 (.mv (.g 1)),
.l 23 (.len (.l 22)),
.g 24 (.bin .lss (.l 21) (.l 23))])
(.cond (.g 24)
.skip
(.exit 0)))
(.seq
(.block 1
(.seq
(.reg [
.l 28 (.mv (.g 8)),
.l 29 (.mv (.g 1)),
.l 30 (.mv (.g 11)),
.l 31 (.mv (.g 2)),
.l 32 (.call (.c (.fn 94 [])) [.l 28, .l 29, .l 30, .l 31]),
.l 27 (.mv (.l 32)),
.l 33 (.ex (.l 27) 0),
.l 34 (.ex (.l 27) 1),
.g 12 (.mv (.l 33)),
.g 13 (.mv (.l 34))])
(.seq
(.reg [
.g 14 (.mv (.i 0))])
(.block 2
(.loop
(.seq
(.seq
(.reg [
.l 35 (.mv (.g 14)),
.l 36 (.mv (.g 8)),
.g 37 (.bin .lss (.l 35) (.l 36))])
(.cond (.g 37)
.skip
(.exit 2)))
(.seq
(.block 3
(.draw [
.l 40 (.mv (.g 9)) 0,
.l 41 (.mv (.g 14)) 1,
.lf 42 (.mv (.g 10)) 2,
.lf 43 (.mv (.g 14)) 3,
.l 44 (.mv (.g 9)) 4,
.l 45 (.mv (.g 14)) 5,
.l 46 (.ia 1 (.l 44) (.l 45)) 6,
.l 47 (.ld none (.l 46)) 7,
.l 48 (.mv (.l 47)) 8,
.lw 49 (.mv (.g 12)) (.l 48) false 9,
.lw 50 (.mv (.g 14)) (.l 48) false 10,
.lw 51 (.ia 1 (.l 49) (.l 50)) (.l 48) false 11,
.lw 52 (.ld none (.l 51)) (.l 48) false 12,
.l 53 (.pick (.l 48) (.b true) (.l 52)) 13,
.lf 54 (.mv (.g 10)) 14,
.lf 55 (.mv (.g 14)) 15,
.l 56 (.ia 1 (.l 54) (.l 55)) 16,
.l 57 (.ld none (.l 56)) 17,
.l 58 (.mv (.l 57)) 18,
.lwf 59 (.mv (.g 13)) (.l 58) false 19,
.lwf 60 (.mv (.g 14)) (.l 58) false 20,
.lw 61 (.ia 1 (.l 59) (.l 60)) (.l 58) false 21,
.lw 62 (.ld none (.l 61)) (.l 58) false 22,
.lf 63 (.pick (.l 58) (.b true) (.l 62)) 23,
.l 64 (.ia 1 (.l 40) (.l 41)) 24,
.nf (.st 1 (.l 64) (.l 53)) 25,
.lf 65 (.ia 1 (.l 42) (.l 43)) 26,
.n (.st 1 (.l 65) (.l 63)) 27]))
(.reg [
.l 38 (.mv (.g 14)),
.l 39 (.bin .add (.l 38) (.i 1)),
.g 14 (.mv (.l 39))]))))))))
(.reg [
.l 25 (.mv (.g 11)),
.l 26 (.bin .add (.l 25) (.i 1)),
.g 11 (.mv (.l 26))]))))))
(.seq
(.reg [
.l 66 (.mv (.g 9)),
.l 67 (.mv (.g 10)),
.g 6 (.mv (.l 66)),
.g 7 (.mv (.l 67))])
.ret)))))
def K86 : List Nat := [0, 1, 2, 24, 37, 6, 7, 3, 8, 9, 10, 11, 12, 13, 14]
noncomputable def b86 : Code := match Try.f86.body with | some c => c | none => .skip
theorem t86 : trCode ⟨Try.prog, K86, [], 68, none⟩ b86 = some c86 := by kernel_rfl
theorem go86 : GoS Try.prog 86 3 K86 [] 68 c86 [.t (.g 6), .t (.g 7)] := .mk Try.func86 (c := b86) rfl (by kernel_rfl) t86 rfl (by kernel_rfl) rfl rfl
/-- sastrugi/sastrugiref02.covered -/
def c94 : ACode :=
  (.seq
(.reg [
.g 8 (.mv (.c (.lit (.slice none 0 0)))),
.g 9 (.mv (.c (.lit (.slice none 0 0))))])
(.seq
(.draw [
.l 15 (.mv (.g 0)) 0,
.l 16 (.newl 1 1 [.bool false] (.l 15) (.l 15)) 1,
.l 17 (.mv (.g 0)) 2,
.l 18 (.newl 1 1 [.bool false] (.l 17) (.l 17)) 3,
.l 19 (.mv (.g 1)) 4,
.l 20 (.mv (.g 2)) 5,
.l 21 (.ia 5 (.l 19) (.l 20)) 6,
.l 22 (.ld (some 5) (.l 21)) 7,
.g 12 (.new [.int .i64 0, .int .i64 0, .int .i64 0, .int .i64 0, .int .i64 0]) 8,
.gx 10 (.mv (.l 16)) 9 true [1, 8],
.gx 11 (.mv (.l 18)) 10 true [1, 3, 8],
.nx (.st 5 (.g 12) (.l 22)) 11 true [1, 3, 8]])
(.seq
(.seq
(.reg [
.l 23 (.fa (.g 12) 0),
.l 24 (.ld none (.l 23)),
.l 25 (.bin .eql (.l 24) (.i 4)),
.l 26 (.mv (.l 25)),
.lw 27 (.fa (.g 12) 3) (.l 26) false,
.lw 28 (.ld none (.l 27)) (.l 26) false,
.lw 29 (.mv (.g 3)) (.l 26) false,
.lw 30 (.bin .gtr (.l 28) (.l 29)) (.l 26) false,
.g 31 (.pick (.l 26) (.b true) (.l 30))])
(.cond (.g 31)
(.seq
(.reg [
.l 32 (.mv (.g 10)),
.l 33 (.mv (.g 11)),
.g 8 (.mv (.l 32)),
.g 9 (.mv (.l 33))])
.ret)
.skip))
(.seq
(.seq
(.reg [
.l 34 (.fa (.g 12) 1),
.l 35 (.ld none (.l 34)),
.g 13 (.mv (.l 35))])
(.block 0
(.loop
(.seq
(.seq
(.reg [
.l 36 (.mv (.g 13)),
.l 37 (.fa (.g 12) 2),
.l 38 (.ld none (.l 37)),
.g 39 (.bin .leq (.l 36) (.l 38))])
(.cond (.g 39)
.skip
(.exit 0)))
(.seq
(.block 1
(.reg [
.l 42 (.mv (.g 10)),
.l 43 (.mv (.g 13)),
.l 44 (.mv (.g 11)),
.l 45 (.mv (.g 13)),
.l 46 (.ia 1 (.l 42) (.l 43)),
.n (.st 1 (.l 46) (.b true)),
.l 47 (.ia 1 (.l 44) (.l 45)),
.n (.st 1 (.l 47) (.b true))]))
(.reg [
.l 40 (.mv (.g 13)),
.l 41 (.bin .add (.l 40) (.i 1)),
.g 13 (.mv (.l 41))]))))))
(.seq
(.reg [
.l 48 (.mv (.g 10)),
.l 49 (.mv (.g 1)),
.l 50 (.mv (.g 2)),
.l 51 (.bin .add (.l 50) (.i 1)),
.l 52 (.fa (.g 12) 3),
.l 53 (.ld none (.l 52)),
.l 54 (.call (.c (.fn 111 [])) [.l 48, .l 49, .l 51, .l 53])])
(.seq
(.reg [
.l 55 (.mv (.g 11)),
.l 56 (.mv (.g 1)),
.l 57 (.mv (.g 2)),
.l 58 (.bin .add (.l 57) (.i 1)),
.l 59 (.fa (.g 12) 3),
.l 60 (.ld none (.l 59)),
.l 61 (.call (.c (.fn 111 [])) [.l 55, .l 56, .l 58, .l 60])])
(.seq
(.seq
(.reg [
.l 62 (.fa (.g 12) 3),
.l 63 (.ld none (.l 62)),
.l 64 (.bin .add (.l 63) (.i 1)),
.g 14 (.mv (.l 64))])
(.block 2
(.loop
(.seq
(.seq
(.reg [
.l 65 (.mv (.g 14)),
.l 66 (.mv (.g 3)),
.g 67 (.bin .leq (.l 65) (.l 66))])
(.cond (.g 67)
.skip
(.exit 2)))
(.seq
(.block 3
(.seq
(.reg [
.l 70 (.mv (.g 10)),
.l 71 (.fa (.g 12) 4),
.l 72 (.ld none (.l 71)),
.l 73 (.call (.c (.fn 96 [])) [.l 70, .l 72]),
.g 10 (.mv (.l 73))])
(.seq
(.reg [
.l 74 (.mv (.g 10)),
.l 75 (.mv (.g 1)),
.l 76 (.mv (.g 14)),
.l 77 (.call (.c (.fn 111 [])) [.l 74, .l 75, .i 0, .l 76])])
(.reg [
.l 78 (.mv (.g 11)),
.l 79 (.mv (.g 1)),
.l 80 (.mv (.g 14)),
.l 81 (.call (.c (.fn 111 [])) [.l 78, .l 79, .i 0, .l 80])]))))
(.reg [
.l 68 (.mv (.g 14)),
.l 69 (.bin .add (.l 68) (.i 1)),
.g 14 (.mv (.l 69))]))))))
(.seq
(.reg [
.l 82 (.mv (.g 10)),
.l 83 (.mv (.g 11)),
.g 8 (.mv (.l 82)),
.g 9 (.mv (.l 83))])
.ret))))))))
def K94 : List Nat := [0, 1, 2, 3, 31, 39, 67, 8, 9, 12, 10, 11, 13, 14]
noncomputable def b94 : Code := match Try.f94.body with | some c => c | none => .skip
theorem t94 : trCode ⟨Try.prog, K94, [], 84, none⟩ b94 = some c94 := by kernel_rfl
theorem go94 : GoS Try.prog 94 4 K94 [] 84 c94 [.t (.g 8), .t (.g 9)] := .mk Try.func94 (c := b94) rfl (by kernel_rfl) t94 rfl (by kernel_rfl) rfl rfl
/-- sastrugi/sastrugiref02.spread -/
def c96 : ACode :=
  (.seq
(.reg [
.g 4 (.mv (.c (.lit (.slice none 0 0))))])
(.seq
(.reg [
.l 8 (.mv (.g 0)),
.l 9 (.len (.l 8)),
.l 10 (.mksl 1 1 [.bool false] (.l 9) (.l 9)),
.g 5 (.mv (.l 10))])
(.seq
(.seq
(.reg [
.g 6 (.mv (.i 0))])
(.block 0
(.loop
(.seq
(.seq
(.reg [
.l 11 (.mv (.g 6)),
.l 12 (.mv (.g 0)),
.l 13 (.len (.l 12)),
.g 14 (.bin .lss (.l 11) (.l 13))])
(.cond (.g 14)
.skip
(.exit 0)))
(.seq
(.block 1
(.seq
(.reg [
.l 17 (.mv (.g 6)),
.l 18 (.mv (.g 1)),
.l 19 (.bin .sub (.l 17) (.l 18)),
.l 20 (.mx [.i 0, .l 19]),
.g 7 (.mv (.l 20))])
(.block 2
(.loop
(.seq
(.seq
(.reg [
.l 21 (.mv (.g 7)),
.l 22 (.mv (.g 6)),
.l 23 (.mv (.g 1)),
.l 24 (.bin .add (.l 22) (.l 23)),
.l 25 (.bin .leq (.l 21) (.l 24)),
.l 26 (.mv (.l 25)),
.lw 27 (.mv (.g 7)) (.l 26) true,
.lw 28 (.mv (.g 0)) (.l 26) true,
.lw 29 (.len (.l 28)) (.l 26) true,
.lw 30 (.bin .lss (.l 27) (.l 29)) (.l 26) true,
.g 31 (.pick (.l 26) (.l 30) (.b false))])
(.cond (.g 31)
.skip
(.exit 2)))
(.seq
(.block 3
(.reg [
.l 34 (.mv (.g 5)),
.l 35 (.mv (.g 6)),
.l 36 (.mv (.g 5)),
.l 37 (.mv (.g 6)),
.l 38 (.ia 1 (.l 36) (.l 37)),
.l 39 (.ld none (.l 38)),
.l 40 (.mv (.l 39)),
.lw 41 (.mv (.g 0)) (.l 40) false,
.lw 42 (.mv (.g 7)) (.l 40) false,
.lw 43 (.ia 1 (.l 41) (.l 42)) (.l 40) false,
.lw 44 (.ld none (.l 43)) (.l 40) false,
.l 45 (.pick (.l 40) (.b true) (.l 44)),
.l 46 (.ia 1 (.l 34) (.l 35)),
.n (.st 1 (.l 46) (.l 45))]))
(.reg [
.l 32 (.mv (.g 7)),
.l 33 (.bin .add (.l 32) (.i 1)),
.g 7 (.mv (.l 33))])))))))
(.reg [
.l 15 (.mv (.g 6)),
.l 16 (.bin .add (.l 15) (.i 1)),
.g 6 (.mv (.l 16))]))))))
(.seq
(.reg [
.l 47 (.mv (.g 5)),
.g 4 (.mv (.l 47))])
.ret))))
def K96 : List Nat := [0, 1, 14, 31, 4, 5, 6, 7]
noncomputable def b96 : Code := match Try.f96.body with | some c => c | none => .skip
theorem t96 : trCode ⟨Try.prog, K96, [], 48, none⟩ b96 = some c96 := by kernel_rfl
theorem go96 : GoS Try.prog 96 2 K96 [] 48 c96 [.t (.g 4)] := .mk Try.func96 (c := b96) rfl (by kernel_rfl) t96 rfl (by kernel_rfl) rfl rfl
/-- sastrugi/sastrugiref02.taken -/
def c111 : ACode :=
  (.seq
(.reg [
.l 10 (.mv (.g 2)),
.g 8 (.mv (.l 10))])
(.block 0
(.loop
(.seq
(.seq
(.reg [
.l 11 (.mv (.g 8)),
.l 12 (.mv (.g 1)),
.l 13 (.len (.l 12)),
.g 14 (.bin .lss (.l 11) (.l 13))])
(.cond (.g 14)
.skip
(.exit 0)))
(.seq
(.block 1
(.seq
(.seq
(.reg [
.l 17 (.mv (.g 1)),
.l 18 (.mv (.g 8)),
.l 19 (.ia 5 (.l 17) (.l 18)),
.l 20 (.fa (.l 19) 0),
.l 21 (.ld none (.l 20)),
.l 22 (.bin .neq (.l 21) (.i 4)),
.l 23 (.mv (.l 22)),
.lw 24 (.mv (.g 1)) (.l 23) false,
.lw 25 (.mv (.g 8)) (.l 23) false,
.lw 26 (.ia 5 (.l 24) (.l 25)) (.l 23) false,
.lw 27 (.fa (.l 26) 3) (.l 23) false,
.lw 28 (.ld none (.l 27)) (.l 23) false,
.lw 29 (.mv (.g 3)) (.l 23) false,
.lw 30 (.bin .neq (.l 28) (.l 29)) (.l 23) false,
.g 31 (.pick (.l 23) (.b true) (.l 30))])
(.cond (.g 31)
(.exit 1)
.skip))
(.seq
(.reg [
.l 32 (.mv (.g 1)),
.l 33 (.mv (.g 8)),
.l 34 (.ia 5 (.l 32) (.l 33)),
.l 35 (.fa (.l 34) 1),
.l 36 (.ld none (.l 35)),
.g 9 (.mv (.l 36))])
(.block 2
(.loop
(.seq
(.seq
(.reg [
.l 37 (.mv (.g 9)),
.l 38 (.mv (.g 1)),
.l 39 (.mv (.g 8)),
.l 40 (.ia 5 (.l 38) (.l 39)),
.l 41 (.fa (.l 40) 2),
.l 42 (.ld none (.l 41)),
.g 43 (.bin .leq (.l 37) (.l 42))])
(.cond (.g 43)
.skip
(.exit 2)))
(.seq
(.block 3
(.reg [
.l 46 (.mv (.g 0)),
.l 47 (.mv (.g 9)),
.l 48 (.ia 1 (.l 46) (.l 47)),
.n (.st 1 (.l 48) (.b false))]))
(.reg [
.l 44 (.mv (.g 9)),
.l 45 (.bin .add (.l 44) (.i 1)),
.g 9 (.mv (.l 45))]))))))))
(.reg [
.l 15 (.mv (.g 8)),
.l 16 (.bin .add (.l 15) (.i 1)),
.g 8 (.mv (.l 16))]))))))
def K111 : List Nat := [0, 1, 2, 3, 14, 31, 43, 8, 9]
noncomputable def b111 : Code := match Try.f111.body with | some c => c | none => .skip
theorem t111 : trCode ⟨Try.prog, K111, [], 49, none⟩ b111 = some c111 := by kernel_rfl
theorem go111 : GoS Try.prog 111 4 K111 [] 49 c111 [] := .mk Try.func111 (c := b111) rfl (by kernel_rfl) t111 rfl (by kernel_rfl) rfl rfl
end Go.Sas
