/-
The code of some functions with its types resolved, printed by a program; that it is the code is checked by the kernel.
Conditions: none.
-/
import Derived.Test.YthpjckoklnhbcaaYB
import Derived.Test.YthpjckoklnhbcaaProg
set_option linter.unusedVariables false
set_option linter.unusedSimpArgs false
namespace Go.Sas
open Go.Proofs
set_option maxRecDepth 100000
/-- sastrugi/sastrugilaw08.big -/
def c16 : ACode :=
  (.seq
(.reg [
.g 1 (.box (.g 0)),
.g 2 (.mv (.b false))])
(.seq
(.reg [
.l 3 (.fa (.g 1) 4),
.l 4 (.ld none (.l 3)),
.l 5 (.len (.l 4)),
.l 6 (.bin .gtr (.l 5) (.i 60)),
.l 7 (.mv (.l 6)),
.lw 8 (.fa (.g 1) 4) (.l 7) true,
.lw 9 (.ld none (.l 8)) (.l 7) true,
.lw 10 (.len (.l 9)) (.l 7) true,
.lw 11 (.bin .leq (.l 10) (.i 200)) (.l 7) true,
.l 12 (.pick (.l 7) (.l 11) (.b false)),
.l 13 (.mv (.l 12)),
.lw 14 (.fa (.g 1) 4) (.l 13) false,
.lw 15 (.ld none (.l 14)) (.l 13) false,
.lw 16 (.len (.l 15)) (.l 13) false,
.lw 17 (.bin .gtr (.l 16) (.i 209)) (.l 13) false,
.l 18 (.pick (.l 13) (.b true) (.l 17)),
.l 19 (.mv (.l 18)),
.lw 20 (.fa (.g 1) 5) (.l 19) false,
.lw 21 (.ld none (.l 20)) (.l 19) false,
.lw 22 (.len (.l 21)) (.l 19) false,
.lw 23 (.bin .gtr (.l 22) (.i 15)) (.l 19) false,
.l 24 (.pick (.l 19) (.b true) (.l 23)),
.g 2 (.mv (.l 24))])
.ret))
def K16 : List Nat := [0, 2, 1]
noncomputable def b16 : Code := match Try.f16.body with | some c => c | none => .skip
theorem t16 : trCode ⟨Try.prog, K16, [], 25, none⟩ b16 = some c16 := by kernel_rfl
theorem go16 : GoS Try.prog 16 1 K16 [] 25 c16 [.t (.g 2)] := .mk Try.func16 (c := b16) rfl (by kernel_rfl) t16 rfl (by kernel_rfl) rfl rfl

/-- sastrugi/sastrugilaw08.awake -/
def c17 : ACode :=
  (.seq
(.reg [
.g 0 (.mv (.b false))])
(.seq
(.reg [
.l 9 (.call (.c (.fn 62 [])) []),
.l 10 (.call (.c (.fn 24 [])) [.l 9]),
.l 8 (.mv (.l 10)),
.l 11 (.ex (.l 8) 0),
.l 12 (.ex (.l 8) 1),
.l 13 (.ex (.l 8) 2),
.g 1 (.mv (.l 11)),
.g 2 (.mv (.l 12)),
.g 3 (.mv (.l 13))])
(.seq
(.reg [
.l 15 (.call (.c (.fn 62 [])) []),
.l 16 (.call (.c (.fn 26 [])) [.l 15]),
.l 14 (.mv (.l 16)),
.l 17 (.ex (.l 14) 0),
.l 18 (.ex (.l 14) 1),
.g 4 (.mv (.l 17)),
.g 5 (.mv (.l 18))])
(.seq
(.reg [
.l 20 (.call (.c (.fn 62 [])) []),
.l 21 (.mks false 1 [.i 1, .i 0]),
.l 22 (.call (.c (.fn 30 [])) [.l 20, .l 21]),
.l 19 (.mv (.l 22)),
.l 23 (.ex (.l 19) 0),
.l 24 (.ex (.l 19) 1),
.g 6 (.new [.int .i64 0, .int .i64 0]),
.n (.st 2 (.g 6) (.l 23)),
.g 7 (.mv (.l 24))])
(.seq
(.draw [
.l 25 (.mv (.g 3)) 0,
.l 26 (.bin .eql (.l 25) (.i 0)) 1,
.l 27 (.mv (.l 26)) 2,
.lw 28 (.mv (.g 5)) (.l 27) true 3,
.lw 29 (.bin .eql (.l 28) (.i 0)) (.l 27) true 4,
.l 30 (.pick (.l 27) (.l 29) (.b false)) 5,
.l 31 (.mv (.l 30)) 6,
.lw 32 (.mv (.g 7)) (.l 31) true 7,
.lw 33 (.bin .eql (.l 32) (.i 0)) (.l 31) true 8,
.l 34 (.pick (.l 31) (.l 33) (.b false)) 9,
.l 35 (.mv (.l 34)) 10,
.lw 36 (.mv (.g 2)) (.l 35) true 11,
.lw 37 (.bin .eql (.l 36) (.i 30)) (.l 35) true 12,
.l 38 (.pick (.l 35) (.l 37) (.b false)) 13,
.l 39 (.mv (.l 38)) 14,
.lw 40 (.mv (.g 4)) (.l 39) true 15,
.lw 41 (.bin .eql (.l 40) (.i 30)) (.l 39) true 16,
.l 42 (.pick (.l 39) (.l 41) (.b false)) 17,
.l 43 (.mv (.l 42)) 18,
.lw 44 (.ld (some 2) (.g 6)) (.l 43) true 19,
.lwf 45 (.call (.c (.fn 53 [])) [.i 0, .i 65]) (.l 43) true 20,
.lw 46 (.eqs false (.fld 0 none .i (.fld 1 none .i .nil)) (.l 44) (.l 45)) (.l 43) true 21,
.l 47 (.pick (.l 43) (.l 46) (.b false)) 22,
.l 48 (.mv (.l 47)) 23,
.lw 49 (.mv (.g 1)) (.l 48) true 24,
.lw 50 (.mks false 1 [.i 0, .i 1]) (.l 48) true 25,
.lwf 51 (.call (.c (.fn 28 [])) [.l 49, .l 50]) (.l 48) true 26,
.l 52 (.pick (.l 48) (.l 51) (.b false)) 27,
.g 0 (.mv (.l 52)) 28])
.ret)))))
def K17 : List Nat := [0, 1, 2, 3, 4, 5, 6, 7]
noncomputable def b17 : Code := match Try.f17.body with | some c => c | none => .skip
theorem t17 : trCode ⟨Try.prog, K17, [], 53, none⟩ b17 = some c17 := by kernel_rfl
theorem go17 : GoS Try.prog 17 0 K17 [] 53 c17 [.t (.g 0)] := .mk Try.func17 (c := b17) rfl (by kernel_rfl) t17 rfl (by kernel_rfl) rfl rfl

/-- sastrugi/freight.Check -/
def c19 : ACode :=
  (.seq
(.reg [
.g 1 (.box (.g 0)),
.g 2 (.mv (.i 0))])
(.seq
(.block 0
(.seq
(.reg [
.l 12 (.fa (.g 1) 4),
.l 13 (.ld none (.l 12)),
.l 14 (.len (.l 13)),
.l 15 (.bin .eql (.l 14) (.i 0)),
.g 11 (.mv (.l 15))])
(.cond (.g 11)
(.seq
(.reg [
.g 2 (.mv (.i 6))])
.ret)
(.seq
(.reg [
.l 17 (.fa (.g 1) 4),
.l 18 (.ld none (.l 17)),
.l 19 (.len (.l 18)),
.l 20 (.bin .gtr (.l 19) (.i 200)),
.g 16 (.mv (.l 20))])
(.cond (.g 16)
(.seq
(.reg [
.g 2 (.mv (.i 8))])
.ret)
.skip)))))
(.seq
(.seq
(.reg [
.l 21 (.fa (.g 1) 4),
.g 22 (.ld none (.l 21)),
.g 23 (.len (.g 22)),
.g 24 (.mv (.i 0))])
(.block 1
(.loop
(.seq
(.reg [
.g 25 (.bin .lss (.g 24) (.g 23))])
(.seq
(.cond (.g 25)
.skip
(.exit 1))
(.seq
(.block 2
(.seq
(.reg [
.l 26 (.ia 2 (.g 22) (.g 24)),
.l 27 (.ld (some 2) (.l 26)),
.g 4 (.new [.int .i64 0, .int .i64 0]),
.n (.st 2 (.g 4) (.l 27))])
(.seq
(.reg [
.l 28 (.ld (some 2) (.g 4)),
.l 29 (.call (.c (.fn 64 [])) [.l 28, .i 0, .i 1000000]),
.g 5 (.mv (.l 29))])
(.seq
(.reg [
.l 30 (.mv (.g 5)),
.g 31 (.bin .neq (.l 30) (.i 0))])
(.cond (.g 31)
(.seq
(.reg [
.l 32 (.mv (.g 5)),
.g 2 (.mv (.l 32))])
.ret)
.skip)))))
(.reg [
.l 33 (.bin .add (.g 24) (.i 1)),
.g 24 (.mv (.l 33))])))))))
(.seq
(.seq
(.reg [
.l 34 (.fa (.g 1) 0),
.l 35 (.ld (some 2) (.l 34)),
.l 36 (.fa (.g 1) 2),
.l 37 (.ld (some 2) (.l 36)),
.g 38 (.mk [.int .i64 0, .int .i64 0, .int .i64 0, .int .i64 0] [(0, 2, .l 35), (2, 2, .l 37)]),
.g 39 (.mv (.i 0))])
(.block 3
(.loop
(.seq
(.reg [
.g 40 (.bin .lss (.g 39) (.i 2))])
(.seq
(.cond (.g 40)
.skip
(.exit 3))
(.seq
(.block 4
(.seq
(.reg [
.l 41 (.ix 2 2 (some 2) (.g 38) (.g 39)),
.g 7 (.new [.int .i64 0, .int .i64 0]),
.n (.st 2 (.g 7) (.l 41))])
(.seq
(.reg [
.l 42 (.ld (some 2) (.g 7)),
.l 43 (.fa (.g 1) 4),
.l 44 (.ld none (.l 43)),
.l 45 (.len (.l 44)),
.l 46 (.bin .sub (.l 45) (.i 1)),
.l 47 (.call (.c (.fn 64 [])) [.l 42, .i 0, .l 46]),
.g 8 (.mv (.l 47))])
(.seq
(.reg [
.l 48 (.mv (.g 8)),
.g 49 (.bin .neq (.l 48) (.i 0))])
(.cond (.g 49)
(.seq
(.reg [
.l 50 (.mv (.g 8)),
.g 2 (.mv (.l 50))])
.ret)
.skip)))))
(.reg [
.l 51 (.bin .add (.g 39) (.i 1)),
.g 39 (.mv (.l 51))])))))))
(.seq
(.block 5
(.seq
(.reg [
.l 53 (.fa (.g 1) 5),
.l 54 (.ld none (.l 53)),
.l 55 (.len (.l 54)),
.l 56 (.bin .eql (.l 55) (.i 0)),
.g 52 (.mv (.l 56))])
(.cond (.g 52)
(.seq
(.reg [
.g 2 (.mv (.i 6))])
.ret)
(.seq
(.reg [
.l 58 (.fa (.g 1) 5),
.l 59 (.ld none (.l 58)),
.l 60 (.len (.l 59)),
.l 61 (.bin .gtr (.l 60) (.i 6)),
.g 57 (.mv (.l 61))])
(.cond (.g 57)
(.seq
(.reg [
.g 2 (.mv (.i 8))])
.ret)
.skip)))))
(.seq
(.seq
(.reg [
.l 62 (.fa (.g 1) 5),
.g 63 (.ld none (.l 62)),
.g 64 (.len (.g 63)),
.g 65 (.mv (.i 0))])
(.block 6
(.loop
(.seq
(.reg [
.g 66 (.bin .lss (.g 65) (.g 64))])
(.seq
(.cond (.g 66)
.skip
(.exit 6))
(.seq
(.block 7
(.seq
(.reg [
.l 67 (.ia 4 (.g 63) (.g 65)),
.l 68 (.ld (some 4) (.l 67)),
.g 10 (.new [.int .i64 0, .int .i64 0, .int .i64 0, .int .i64 0]),
.n (.st 4 (.g 10) (.l 68))])
(.block 8
(.seq
(.reg [
.l 70 (.fa (.g 10) 0),
.l 71 (.ld none (.l 70)),
.l 72 (.call (.c (.fn 65 [])) [.l 71, .i 1, .i 1000000]),
.l 73 (.un .not (.l 72)),
.l 74 (.mv (.l 73)),
.lw 75 (.fa (.g 10) 1) (.l 74) false,
.lw 76 (.ld none (.l 75)) (.l 74) false,
.lw 77 (.call (.c (.fn 65 [])) [.l 76, .i 0, .i 200]) (.l 74) false,
.lw 78 (.un .not (.l 77)) (.l 74) false,
.l 79 (.pick (.l 74) (.b true) (.l 78)),
.l 80 (.mv (.l 79)),
.lw 81 (.fa (.g 10) 2) (.l 80) false,
.lw 82 (.ld none (.l 81)) (.l 80) false,
.lw 83 (.call (.c (.fn 65 [])) [.l 82, .i 0, .i 1000000]) (.l 80) false,
.lw 84 (.un .not (.l 83)) (.l 80) false,
.l 85 (.pick (.l 80) (.b true) (.l 84)),
.l 86 (.mv (.l 85)),
.lw 87 (.fa (.g 10) 3) (.l 86) false,
.lw 88 (.ld none (.l 87)) (.l 86) false,
.lw 89 (.call (.c (.fn 65 [])) [.l 88, .i 0, .i 1000000]) (.l 86) false,
.lw 90 (.un .not (.l 89)) (.l 86) false,
.l 91 (.pick (.l 86) (.b true) (.l 90)),
.g 69 (.mv (.l 91))])
(.cond (.g 69)
(.seq
(.reg [
.g 2 (.mv (.i 2))])
.ret)
(.seq
(.reg [
.l 93 (.fa (.g 10) 2),
.l 94 (.ld none (.l 93)),
.l 95 (.fa (.g 10) 3),
.l 96 (.ld none (.l 95)),
.l 97 (.bin .gtr (.l 94) (.l 96)),
.g 92 (.mv (.l 97))])
(.cond (.g 92)
(.seq
(.reg [
.g 2 (.mv (.i 11))])
.ret)
.skip)))))))
(.reg [
.l 98 (.bin .add (.g 65) (.i 1)),
.g 65 (.mv (.l 98))])))))))
(.seq
(.reg [
.g 2 (.mv (.i 0))])
.ret)))))))
def K19 : List Nat := [0, 11, 16, 25, 31, 40, 49, 52, 57, 66, 69, 92, 2, 1, 22, 23, 24, 4, 5, 38, 39, 7, 8, 63, 64, 65, 10]
noncomputable def b19 : Code := match Try.f19.body with | some c => c | none => .skip
theorem t19 : trCode ⟨Try.prog, K19, [], 99, none⟩ b19 = some c19 := by kernel_rfl
theorem go19 : GoS Try.prog 19 1 K19 [] 99 c19 [.t (.g 2)] := .mk Try.func19 (c := b19) rfl (by kernel_rfl) t19 rfl (by kernel_rfl) rfl rfl

/-- sastrugi/sastrugiref08.Check -/
def c20 : ACode :=
  (.seq
(.reg [
.g 1 (.box (.g 0)),
.g 2 (.mv (.i 0))])
(.seq
(.seq
(.reg [
.l 9 (.fa (.g 1) 4),
.l 10 (.ld none (.l 9)),
.l 11 (.len (.l 10)),
.g 12 (.bin .eql (.l 11) (.i 0))])
(.cond (.g 12)
(.seq
(.reg [
.g 2 (.mv (.i 6))])
.ret)
.skip))
(.seq
(.seq
(.reg [
.l 13 (.fa (.g 1) 4),
.l 14 (.ld none (.l 13)),
.l 15 (.len (.l 14)),
.g 16 (.bin .gtr (.l 15) (.i 200))])
(.cond (.g 16)
(.seq
(.reg [
.g 2 (.mv (.i 8))])
.ret)
.skip))
(.seq
(.seq
(.reg [
.g 3 (.mv (.i 0))])
(.block 0
(.loop
(.seq
(.seq
(.reg [
.l 17 (.mv (.g 3)),
.l 18 (.fa (.g 1) 4),
.l 19 (.ld none (.l 18)),
.l 20 (.len (.l 19)),
.g 21 (.bin .lss (.l 17) (.l 20))])
(.cond (.g 21)
.skip
(.exit 0)))
(.seq
(.block 1
(.seq
(.reg [
.l 24 (.fa (.g 1) 4),
.l 25 (.ld none (.l 24)),
.l 26 (.mv (.g 3)),
.l 27 (.ia 2 (.l 25) (.l 26)),
.l 28 (.ld (some 2) (.l 27)),
.l 29 (.call (.c (.fn 66 [])) [.l 28, .i 0, .i 1000000]),
.g 4 (.mv (.l 29))])
(.seq
(.reg [
.l 30 (.mv (.g 4)),
.g 31 (.bin .neq (.l 30) (.i 0))])
(.cond (.g 31)
(.seq
(.reg [
.l 32 (.mv (.g 4)),
.g 2 (.mv (.l 32))])
.ret)
.skip))))
(.reg [
.l 22 (.mv (.g 3)),
.l 23 (.bin .add (.l 22) (.i 1)),
.g 3 (.mv (.l 23))]))))))
(.seq
(.seq
(.reg [
.l 33 (.fa (.g 1) 0),
.l 34 (.ld (some 2) (.l 33)),
.l 35 (.fa (.g 1) 4),
.l 36 (.ld none (.l 35)),
.l 37 (.len (.l 36)),
.l 38 (.bin .sub (.l 37) (.i 1)),
.l 39 (.call (.c (.fn 66 [])) [.l 34, .i 0, .l 38]),
.g 5 (.mv (.l 39))])
(.seq
(.reg [
.l 40 (.mv (.g 5)),
.g 41 (.bin .neq (.l 40) (.i 0))])
(.cond (.g 41)
(.seq
(.reg [
.l 42 (.mv (.g 5)),
.g 2 (.mv (.l 42))])
.ret)
.skip)))
(.seq
(.seq
(.reg [
.l 43 (.fa (.g 1) 2),
.l 44 (.ld (some 2) (.l 43)),
.l 45 (.fa (.g 1) 4),
.l 46 (.ld none (.l 45)),
.l 47 (.len (.l 46)),
.l 48 (.bin .sub (.l 47) (.i 1)),
.l 49 (.call (.c (.fn 66 [])) [.l 44, .i 0, .l 48]),
.g 6 (.mv (.l 49))])
(.seq
(.reg [
.l 50 (.mv (.g 6)),
.g 51 (.bin .neq (.l 50) (.i 0))])
(.cond (.g 51)
(.seq
(.reg [
.l 52 (.mv (.g 6)),
.g 2 (.mv (.l 52))])
.ret)
.skip)))
(.seq
(.seq
(.reg [
.l 53 (.fa (.g 1) 5),
.l 54 (.ld none (.l 53)),
.l 55 (.len (.l 54)),
.g 56 (.bin .eql (.l 55) (.i 0))])
(.cond (.g 56)
(.seq
(.reg [
.g 2 (.mv (.i 6))])
.ret)
.skip))
(.seq
(.seq
(.reg [
.l 57 (.fa (.g 1) 5),
.l 58 (.ld none (.l 57)),
.l 59 (.len (.l 58)),
.g 60 (.bin .gtr (.l 59) (.i 6))])
(.cond (.g 60)
(.seq
(.reg [
.g 2 (.mv (.i 8))])
.ret)
.skip))
(.seq
(.seq
(.reg [
.g 7 (.mv (.i 0))])
(.block 2
(.loop
(.seq
(.seq
(.reg [
.l 61 (.mv (.g 7)),
.l 62 (.fa (.g 1) 5),
.l 63 (.ld none (.l 62)),
.l 64 (.len (.l 63)),
.g 65 (.bin .lss (.l 61) (.l 64))])
(.cond (.g 65)
.skip
(.exit 2)))
(.seq
(.block 3
(.seq
(.reg [
.l 68 (.fa (.g 1) 5),
.l 69 (.ld none (.l 68)),
.l 70 (.mv (.g 7)),
.l 71 (.ia 4 (.l 69) (.l 70)),
.l 72 (.ld (some 4) (.l 71)),
.g 8 (.new [.int .i64 0, .int .i64 0, .int .i64 0, .int .i64 0]),
.n (.st 4 (.g 8) (.l 72))])
(.seq
(.seq
(.reg [
.l 73 (.fa (.g 8) 0),
.l 74 (.ld none (.l 73)),
.l 75 (.call (.c (.fn 67 [])) [.l 74, .i 1, .i 1000000]),
.l 76 (.un .not (.l 75)),
.l 77 (.mv (.l 76)),
.lw 78 (.fa (.g 8) 1) (.l 77) false,
.lw 79 (.ld none (.l 78)) (.l 77) false,
.lw 80 (.call (.c (.fn 67 [])) [.l 79, .i 0, .i 200]) (.l 77) false,
.lw 81 (.un .not (.l 80)) (.l 77) false,
.l 82 (.pick (.l 77) (.b true) (.l 81)),
.l 83 (.mv (.l 82)),
.lw 84 (.fa (.g 8) 2) (.l 83) false,
.lw 85 (.ld none (.l 84)) (.l 83) false,
.lw 86 (.call (.c (.fn 67 [])) [.l 85, .i 0, .i 1000000]) (.l 83) false,
.lw 87 (.un .not (.l 86)) (.l 83) false,
.l 88 (.pick (.l 83) (.b true) (.l 87)),
.l 89 (.mv (.l 88)),
.lw 90 (.fa (.g 8) 3) (.l 89) false,
.lw 91 (.ld none (.l 90)) (.l 89) false,
.lw 92 (.call (.c (.fn 67 [])) [.l 91, .i 0, .i 1000000]) (.l 89) false,
.lw 93 (.un .not (.l 92)) (.l 89) false,
.g 94 (.pick (.l 89) (.b true) (.l 93))])
(.cond (.g 94)
(.seq
(.reg [
.g 2 (.mv (.i 2))])
.ret)
.skip))
(.seq
(.reg [
.l 95 (.fa (.g 8) 2),
.l 96 (.ld none (.l 95)),
.l 97 (.fa (.g 8) 3),
.l 98 (.ld none (.l 97)),
.g 99 (.bin .gtr (.l 96) (.l 98))])
(.cond (.g 99)
(.seq
(.reg [
.g 2 (.mv (.i 11))])
.ret)
.skip)))))
(.reg [
.l 66 (.mv (.g 7)),
.l 67 (.bin .add (.l 66) (.i 1)),
.g 7 (.mv (.l 67))]))))))
(.seq
(.reg [
.g 2 (.mv (.i 0))])
.ret))))))))))
def K20 : List Nat := [0, 12, 16, 21, 31, 41, 51, 56, 60, 65, 94, 99, 2, 1, 3, 4, 5, 6, 7, 8]
noncomputable def b20 : Code := match Try.f20.body with | some c => c | none => .skip
theorem t20 : trCode ⟨Try.prog, K20, [], 100, none⟩ b20 = some c20 := by kernel_rfl
theorem go20 : GoS Try.prog 20 1 K20 [] 100 c20 [.t (.g 2)] := .mk Try.func20 (c := b20) rfl (by kernel_rfl) t20 rfl (by kernel_rfl) rfl rfl

/-- sastrugi/freight.Best -/
def c24 : ACode :=
  (.seq
(.reg [
.g 1 (.box (.g 0)),
.g 2 (.new [.slice none 0 0]),
.g 3 (.new [.int .i64 0]),
.g 4 (.mv (.i 0))])
(.seq
(.seq
(.reg [
.l 9 (.ld (some 6) (.g 1)),
.l 10 (.call (.c (.fn 19 [])) [.l 9]),
.g 5 (.mv (.l 10))])
(.seq
(.reg [
.l 11 (.mv (.g 5)),
.g 12 (.bin .neq (.l 11) (.i 0))])
(.cond (.g 12)
(.seq
(.reg [
.l 13 (.mv (.g 5)),
.n (.st 1 (.g 2) (.c (.lit (.slice none 0 0)))),
.n (.st 1 (.g 3) (.i 0)),
.g 4 (.mv (.l 13))])
.ret)
.skip)))
(.seq
(.reg [
.l 14 (.ld (some 6) (.g 1)),
.l 15 (.call (.c (.fn 71 [])) [.l 14]),
.g 6 (.new [.int .i64 0, .int .i64 0, .int .i64 0, .int .i64 0, .slice none 0 0, .slice none 0 0, .int .i64 0, .int .i64 0, .slice none 0 0]),
.n (.st 9 (.g 6) (.l 15))])
(.seq
(.seq
(.reg [
.l 16 (.fa (.g 1) 5),
.l 17 (.ld none (.l 16)),
.l 18 (.len (.l 17)),
.g 19 (.call (.c (.fn 72 [])) [.l 18])])
(.block 0
(.rng (.g 19) [20]
(.reg [
.g 7 (.mv (.g 20))])
(.block 1
(.seq
(.reg [
.l 21 (.ld (some 9) (.g 6)),
.l 22 (.mv (.g 7)),
.l 23 (.call (.c (.fn 73 [])) [.l 21, .l 22]),
.g 8 (.mv (.l 23))])
(.seq
(.reg [
.l 24 (.ld none (.g 2)),
.l 25 (.eqn false (.l 24)),
.l 26 (.mv (.l 25)),
.lw 27 (.mv (.g 8)) (.l 26) false,
.lw 28 (.ld none (.g 3)) (.l 26) false,
.lw 29 (.bin .lss (.l 27) (.l 28)) (.l 26) false,
.g 30 (.pick (.l 26) (.b true) (.l 29))])
(.cond (.g 30)
(.reg [
.l 31 (.mv (.g 7)),
.l 32 (.mv (.g 8)),
.n (.st 1 (.g 2) (.l 31)),
.n (.st 1 (.g 3) (.l 32))])
.skip)))))))
(.seq
(.draw [
.l 33 (.ld none (.g 2)) 0,
.lf 34 (.ld none (.g 3)) 1,
.nf (.st 1 (.g 2) (.l 33)) 2,
.nf (.st 1 (.g 3) (.l 34)) 3,
.gf 4 (.mv (.i 0)) 4])
.ret)))))
def K24 : List Nat := [0, 12, 19, 20, 30, 2, 3, 4, 1, 5, 6, 7, 8]
noncomputable def b24 : Code := match Try.f24.body with | some c => c | none => .skip
theorem t24 : trCode ⟨Try.prog, K24, [], 35, none⟩ b24 = some c24 := by kernel_rfl
theorem go24 : GoS Try.prog 24 1 K24 [] 35 c24 [.cell (.g 2) none, .cell (.g 3) none, .t (.g 4)] := .mk Try.func24 (c := b24) rfl (by kernel_rfl) t24 rfl (by kernel_rfl) rfl rfl

/-- sastrugi/sastrugiref08.Best -/
def c25 : ACode :=
  (.seq
(.reg [
.g 1 (.box (.g 0)),
.g 2 (.mv (.c (.lit (.slice none 0 0)))),
.g 3 (.mv (.i 0)),
.g 4 (.mv (.i 0))])
(.seq
(.seq
(.reg [
.l 12 (.ld (some 6) (.g 1)),
.l 13 (.call (.c (.fn 20 [])) [.l 12]),
.g 5 (.mv (.l 13))])
(.seq
(.reg [
.l 14 (.mv (.g 5)),
.g 15 (.bin .neq (.l 14) (.i 0))])
(.cond (.g 15)
(.seq
(.reg [
.l 16 (.mv (.g 5)),
.g 2 (.mv (.c (.lit (.slice none 0 0)))),
.g 3 (.mv (.i 0)),
.g 4 (.mv (.l 16))])
.ret)
.skip)))
(.seq
(.reg [
.l 17 (.ld (some 6) (.g 1)),
.l 18 (.call (.c (.fn 74 [])) [.l 17]),
.g 6 (.new [.int .i64 0, .int .i64 0, .slice none 0 0]),
.n (.st 3 (.g 6) (.l 18))])
(.seq
(.reg [
.l 19 (.fa (.g 1) 5),
.l 20 (.ld none (.l 19)),
.l 21 (.len (.l 20)),
.l 22 (.mksl 1 8 [.int .i64 0] (.l 21) (.l 21)),
.g 7 (.mv (.l 22))])
(.seq
(.seq
(.reg [
.g 8 (.mv (.i 0))])
(.block 0
(.loop
(.seq
(.seq
(.reg [
.l 23 (.mv (.g 8)),
.l 24 (.mv (.g 7)),
.l 25 (.len (.l 24)),
.g 26 (.bin .lss (.l 23) (.l 25))])
(.cond (.g 26)
.skip
(.exit 0)))
(.seq
(.block 1
(.reg [
.l 29 (.mv (.g 7)),
.l 30 (.mv (.g 8)),
.l 31 (.mv (.g 8)),
.l 32 (.ia 1 (.l 29) (.l 30)),
.n (.st 1 (.l 32) (.l 31))]))
(.reg [
.l 27 (.mv (.g 8)),
.l 28 (.bin .add (.l 27) (.i 1)),
.g 8 (.mv (.l 28))]))))))
(.seq
(.draw [
.l 33 (.mks false 1 []) 0,
.l 34 (.mv (.g 7)) 1,
.l 36 (.ld (some 6) (.g 1)) 3,
.l 37 (.ld (some 3) (.g 6)) 4,
.l 38 (.mv (.g 7)) 5,
.lf 35 (.app 1 8 (.l 33) (.l 34)) 2,
.lf 39 (.call (.c (.fn 75 [])) [.l 36, .l 37, .l 38]) 6,
.g 9 (.mv (.l 35)) 7,
.g 10 (.mv (.l 39)) 8])
(.seq
(.block 2
(.loop
(.seq
(.seq
(.reg [
.l 40 (.mv (.g 7)),
.g 41 (.call (.c (.fn 29 [])) [.l 40])])
(.cond (.g 41)
.skip
(.exit 2)))
(.block 3
(.seq
(.reg [
.l 42 (.ld (some 6) (.g 1)),
.l 43 (.ld (some 3) (.g 6)),
.l 44 (.mv (.g 7)),
.l 45 (.call (.c (.fn 75 [])) [.l 42, .l 43, .l 44]),
.g 11 (.mv (.l 45))])
(.seq
(.reg [
.l 46 (.mv (.g 11)),
.l 47 (.mv (.g 10)),
.g 48 (.bin .lss (.l 46) (.l 47))])
(.cond (.g 48)
(.reg [
.l 49 (.mks false 1 []),
.l 50 (.mv (.g 7)),
.l 51 (.app 1 8 (.l 49) (.l 50)),
.l 52 (.mv (.g 11)),
.g 9 (.mv (.l 51)),
.g 10 (.mv (.l 52))])
.skip)))))))
(.seq
(.reg [
.l 53 (.mv (.g 9)),
.l 54 (.mv (.g 10)),
.g 2 (.mv (.l 53)),
.g 3 (.mv (.l 54)),
.g 4 (.mv (.i 0))])
.ret))))))))
def K25 : List Nat := [0, 15, 26, 41, 48, 2, 3, 4, 1, 5, 6, 7, 8, 9, 10, 11]
noncomputable def b25 : Code := match Try.f25.body with | some c => c | none => .skip
theorem t25 : trCode ⟨Try.prog, K25, [], 55, none⟩ b25 = some c25 := by kernel_rfl
theorem go25 : GoS Try.prog 25 1 K25 [] 55 c25 [.t (.g 2), .t (.g 3), .t (.g 4)] := .mk Try.func25 (c := b25) rfl (by kernel_rfl) t25 rfl (by kernel_rfl) rfl rfl

/-- sastrugi/freight.Bound -/
def c26 : ACode :=
  (.seq
(.reg [
.g 1 (.box (.g 0)),
.g 2 (.mv (.i 0)),
.g 3 (.mv (.i 0))])
(.seq
(.seq
(.reg [
.l 21 (.ld (some 6) (.g 1)),
.l 22 (.call (.c (.fn 19 [])) [.l 21]),
.g 4 (.mv (.l 22))])
(.seq
(.reg [
.l 23 (.mv (.g 4)),
.g 24 (.bin .neq (.l 23) (.i 0))])
(.cond (.g 24)
(.seq
(.reg [
.l 25 (.mv (.g 4)),
.g 2 (.mv (.i 0)),
.g 3 (.mv (.l 25))])
.ret)
.skip)))
(.seq
(.reg [
.l 26 (.ld (some 6) (.g 1)),
.l 27 (.call (.c (.fn 71 [])) [.l 26]),
.g 5 (.new [.int .i64 0, .int .i64 0, .int .i64 0, .int .i64 0, .slice none 0 0, .slice none 0 0, .int .i64 0, .int .i64 0, .slice none 0 0]),
.n (.st 9 (.g 5) (.l 27))])
(.seq
(.reg [
.g 6 (.mv (.c (.lit (.slice none 0 0))))])
(.seq
(.reg [
.g 7 (.mv (.i 0))])
(.seq
(.seq
(.reg [
.l 28 (.fa (.g 1) 4),
.l 29 (.ld none (.l 28)),
.g 30 (.len (.l 29)),
.g 31 (.mv (.i 0))])
(.block 0
(.loop
(.seq
(.reg [
.g 32 (.bin .lss (.g 31) (.g 30))])
(.seq
(.cond (.g 32)
.skip
(.exit 0))
(.seq
(.block 1
(.seq
(.reg [
.l 33 (.mv (.g 31)),
.g 8 (.mv (.l 33))])
(.seq
(.reg [
.l 34 (.mv (.g 7)),
.l 35 (.ld (some 9) (.g 5)),
.l 36 (.mv (.g 8)),
.l 37 (.call (.c (.fn 76 [])) [.l 35, .l 36]),
.l 38 (.bin .add (.l 34) (.l 37)),
.g 7 (.mv (.l 38))])
(.reg [
.l 39 (.mv (.g 6)),
.l 40 (.mv (.g 7)),
.l 41 (.mks false 1 [.l 40]),
.l 42 (.app 1 8 (.l 39) (.l 41)),
.g 6 (.mv (.l 42))]))))
(.reg [
.l 43 (.bin .add (.g 31) (.i 1)),
.g 31 (.mv (.l 43))])))))))
(.seq
(.reg [
.g 9 (.mv (.i 0))])
(.seq
(.seq
(.reg [
.l 44 (.fa (.g 1) 5),
.g 45 (.ld none (.l 44)),
.g 46 (.len (.g 45)),
.g 47 (.mv (.i 0))])
(.block 2
(.loop
(.seq
(.reg [
.g 48 (.bin .lss (.g 47) (.g 46))])
(.seq
(.cond (.g 48)
.skip
(.exit 2))
(.seq
(.block 3
(.seq
(.reg [
.l 49 (.ia 4 (.g 45) (.g 47)),
.l 50 (.ld (some 4) (.l 49)),
.g 11 (.new [.int .i64 0, .int .i64 0, .int .i64 0, .int .i64 0]),
.n (.st 4 (.g 11) (.l 50))])
(.reg [
.l 51 (.mv (.g 9)),
.l 52 (.fa (.g 11) 0),
.l 53 (.ld none (.l 52)),
.l 54 (.fa (.g 11) 3),
.l 55 (.ld none (.l 54)),
.l 56 (.bin .mul (.l 53) (.l 55)),
.l 57 (.bin .add (.l 51) (.l 56)),
.g 9 (.mv (.l 57))])))
(.reg [
.l 58 (.bin .add (.g 47) (.i 1)),
.g 47 (.mv (.l 58))])))))))
(.seq
(.reg [
.g 12 (.mv (.c (.fn 77 [])))])
(.seq
(.seq
(.reg [
.l 59 (.ld (some 6) (.g 1)),
.l 60 (.mv (.g 12)),
.g 61 (.call (.c (.fn 78 [])) [.l 59, .l 60]),
.g 62 (.len (.g 61)),
.g 63 (.mv (.i 0))])
(.block 4
(.loop
(.seq
(.reg [
.g 64 (.bin .lss (.g 63) (.g 62))])
(.seq
(.cond (.g 64)
.skip
(.exit 4))
(.seq
(.block 5
(.seq
(.reg [
.l 65 (.ia 4 (.g 61) (.g 63)),
.l 66 (.ld (some 4) (.l 65)),
.g 14 (.new [.int .i64 0, .int .i64 0, .int .i64 0, .int .i64 0]),
.n (.st 4 (.g 14) (.l 66))])
(.seq
(.reg [
.l 67 (.fa (.g 14) 0),
.l 68 (.ld none (.l 67)),
.l 69 (.mv (.g 7)),
.l 70 (.mn [.l 68, .l 69]),
.g 15 (.mv (.l 70))])
(.seq
(.reg [
.l 71 (.mv (.g 9)),
.l 72 (.mv (.g 15)),
.l 73 (.mv (.g 12)),
.l 74 (.ld (some 4) (.g 14)),
.l 75 (.call (.l 73) [.l 74]),
.l 76 (.bin .mul (.l 72) (.l 75)),
.l 77 (.bin .sub (.l 71) (.l 76)),
.g 9 (.mv (.l 77))])
(.reg [
.l 78 (.mv (.g 7)),
.l 79 (.mv (.g 15)),
.l 80 (.bin .sub (.l 78) (.l 79)),
.g 7 (.mv (.l 80))])))))
(.reg [
.l 81 (.bin .add (.g 63) (.i 1)),
.g 63 (.mv (.l 81))])))))))
(.seq
(.seq
(.reg [
.l 82 (.ld (some 6) (.g 1)),
.g 83 (.call (.c (.fn 78 [])) [.l 82, .c (.fn 79 [])]),
.g 84 (.len (.g 83)),
.g 85 (.mv (.i 0))])
(.block 6
(.loop
(.seq
(.reg [
.g 86 (.bin .lss (.g 85) (.g 84))])
(.seq
(.cond (.g 86)
.skip
(.exit 6))
(.seq
(.block 7
(.seq
(.reg [
.l 87 (.ia 4 (.g 83) (.g 85)),
.l 88 (.ld (some 4) (.l 87)),
.g 17 (.new [.int .i64 0, .int .i64 0, .int .i64 0, .int .i64 0]),
.n (.st 4 (.g 17) (.l 88))])
(.seq
(.reg [
.l 89 (.mv (.g 6)),
.l 90 (.fa (.g 17) 1),
.l 91 (.ld none (.l 90)),
.l 92 (.mv (.g 6)),
.l 93 (.len (.l 92)),
.l 94 (.bin .sub (.l 93) (.i 1)),
.l 95 (.mn [.l 91, .l 94]),
.l 96 (.sl 1 (.l 89) (some (.l 95)) none none),
.g 18 (.mv (.l 96))])
(.seq
(.draw [
.l 97 (.fa (.g 17) 0) 0,
.l 98 (.ld none (.l 97)) 1,
.l 99 (.mv (.g 18)) 2,
.lf 100 (.call (.c (.fn 80 [])) [.l 99]) 3,
.l 101 (.mn [.l 98, .l 100]) 4,
.g 19 (.mv (.l 101)) 5])
(.seq
(.reg [
.l 102 (.mv (.g 9)),
.l 103 (.mv (.g 19)),
.l 104 (.fa (.g 17) 2),
.l 105 (.ld none (.l 104)),
.l 106 (.bin .mul (.l 103) (.l 105)),
.l 107 (.bin .sub (.l 102) (.l 106)),
.g 9 (.mv (.l 107))])
(.seq
(.reg [
.l 108 (.mv (.g 18)),
.g 109 (.len (.l 108)),
.g 110 (.mv (.i 0))])
(.block 8
(.loop
(.seq
(.reg [
.g 111 (.bin .lss (.g 110) (.g 109))])
(.seq
(.cond (.g 111)
.skip
(.exit 8))
(.seq
(.block 9
(.seq
(.reg [
.l 112 (.mv (.g 110)),
.g 20 (.mv (.l 112))])
(.reg [
.l 113 (.mv (.g 18)),
.l 114 (.mv (.g 20)),
.l 115 (.ia 1 (.l 113) (.l 114)),
.l 116 (.ld none (.l 115)),
.l 117 (.mv (.g 19)),
.l 118 (.bin .sub (.l 116) (.l 117)),
.l 119 (.ia 1 (.l 113) (.l 114)),
.n (.st 1 (.l 119) (.l 118))])))
(.reg [
.l 120 (.bin .add (.g 110) (.i 1)),
.g 110 (.mv (.l 120))]))))))))))))
(.reg [
.l 121 (.bin .add (.g 85) (.i 1)),
.g 85 (.mv (.l 121))])))))))
(.seq
(.reg [
.l 122 (.mv (.g 9)),
.g 2 (.mv (.l 122)),
.g 3 (.mv (.i 0))])
.ret))))))))))))
def K26 : List Nat := [0, 24, 32, 48, 64, 86, 111, 2, 3, 1, 4, 5, 6, 7, 30, 31, 8, 9, 45, 46, 47, 11, 12, 61, 62, 63, 14, 15, 83, 84, 85, 17, 18, 19, 109, 110, 20]
noncomputable def b26 : Code := match Try.f26.body with | some c => c | none => .skip
theorem t26 : trCode ⟨Try.prog, K26, [], 123, none⟩ b26 = some c26 := by kernel_rfl
theorem go26 : GoS Try.prog 26 1 K26 [] 123 c26 [.t (.g 2), .t (.g 3)] := .mk Try.func26 (c := b26) rfl (by kernel_rfl) t26 rfl (by kernel_rfl) rfl rfl

/-- sastrugi/sastrugiref08.Bound -/
def c27 : ACode :=
  (.seq
(.reg [
.g 1 (.box (.g 0)),
.g 2 (.mv (.i 0)),
.g 3 (.mv (.i 0))])
(.seq
(.seq
(.reg [
.l 21 (.ld (some 6) (.g 1)),
.l 22 (.call (.c (.fn 20 [])) [.l 21]),
.g 4 (.mv (.l 22))])
(.seq
(.reg [
.l 23 (.mv (.g 4)),
.g 24 (.bin .neq (.l 23) (.i 0))])
(.cond (.g 24)
(.seq
(.reg [
.l 25 (.mv (.g 4)),
.g 2 (.mv (.i 0)),
.g 3 (.mv (.l 25))])
.ret)
.skip)))
(.seq
(.reg [
.l 26 (.ld (some 6) (.g 1)),
.l 27 (.call (.c (.fn 74 [])) [.l 26]),
.l 28 (.call (.c (.fn 81 [])) [.l 27]),
.g 5 (.mv (.l 28))])
(.seq
(.reg [
.l 29 (.mv (.g 5)),
.l 30 (.len (.l 29)),
.g 6 (.mv (.i 0)),
.g 7 (.mv (.l 30))])
(.seq
(.reg [
.g 8 (.mv (.c (.lit (.slice none 0 0)))),
.g 9 (.mv (.c (.lit (.slice none 0 0))))])
(.seq
(.seq
(.reg [
.g 10 (.mv (.i 0))])
(.block 0
(.loop
(.seq
(.seq
(.reg [
.l 31 (.mv (.g 10)),
.l 32 (.fa (.g 1) 5),
.l 33 (.ld none (.l 32)),
.l 34 (.len (.l 33)),
.g 35 (.bin .lss (.l 31) (.l 34))])
(.cond (.g 35)
.skip
(.exit 0)))
(.seq
(.block 1
(.seq
(.reg [
.l 38 (.fa (.g 1) 5),
.l 39 (.ld none (.l 38)),
.l 40 (.mv (.g 10)),
.l 41 (.ia 4 (.l 39) (.l 40)),
.l 42 (.ld (some 4) (.l 41)),
.g 11 (.new [.int .i64 0, .int .i64 0, .int .i64 0, .int .i64 0]),
.n (.st 4 (.g 11) (.l 42))])
(.seq
(.reg [
.l 43 (.mv (.g 6)),
.l 44 (.fa (.g 11) 0),
.l 45 (.ld none (.l 44)),
.l 46 (.fa (.g 11) 3),
.l 47 (.ld none (.l 46)),
.l 48 (.bin .mul (.l 45) (.l 47)),
.l 49 (.bin .add (.l 43) (.l 48)),
.g 6 (.mv (.l 49))])
(.draw [
.l 50 (.mv (.g 8)) 0,
.l 51 (.fa (.g 11) 3) 1,
.l 52 (.ld none (.l 51)) 2,
.l 53 (.fa (.g 11) 2) 3,
.l 54 (.ld none (.l 53)) 4,
.l 55 (.bin .sub (.l 52) (.l 54)) 5,
.l 56 (.mks false 1 [.l 55]) 6,
.l 58 (.mv (.g 9)) 8,
.l 59 (.fa (.g 11) 2) 9,
.l 60 (.ld none (.l 59)) 10,
.l 61 (.mks false 1 [.l 60]) 11,
.lf 57 (.app 1 8 (.l 50) (.l 56)) 7,
.lf 62 (.app 1 8 (.l 58) (.l 61)) 12,
.g 8 (.mv (.l 57)) 13,
.g 9 (.mv (.l 62)) 14]))))
(.reg [
.l 36 (.mv (.g 10)),
.l 37 (.bin .add (.l 36) (.i 1)),
.g 10 (.mv (.l 37))]))))))
(.seq
(.reg [
.l 63 (.mv (.g 5)),
.l 64 (.mv (.g 7)),
.l 65 (.bin .sub (.l 64) (.i 1)),
.l 66 (.ia 1 (.l 63) (.l 65)),
.l 67 (.ld none (.l 66)),
.g 12 (.mv (.l 67))])
(.seq
(.reg [
.l 68 (.mv (.g 8)),
.l 69 (.call (.c (.fn 82 [])) [.l 68]),
.g 13 (.mv (.l 69))])
(.seq
(.seq
(.reg [
.g 14 (.mv (.i 0))])
(.block 2
(.loop
(.seq
(.seq
(.reg [
.l 70 (.mv (.g 14)),
.l 71 (.mv (.g 13)),
.l 72 (.len (.l 71)),
.g 73 (.bin .lss (.l 70) (.l 72))])
(.cond (.g 73)
.skip
(.exit 2)))
(.seq
(.block 3
(.seq
(.draw [
.l 76 (.mv (.g 12)) 0,
.l 77 (.fa (.g 1) 5) 1,
.l 78 (.ld none (.l 77)) 2,
.l 79 (.mv (.g 13)) 3,
.l 80 (.mv (.g 14)) 4,
.l 81 (.ia 1 (.l 79) (.l 80)) 5,
.l 82 (.ld none (.l 81)) 6,
.l 83 (.ia 4 (.l 78) (.l 82)) 7,
.l 84 (.fa (.l 83) 0) 8,
.l 85 (.ld none (.l 84)) 9,
.l 86 (.mn [.l 76, .l 85]) 10,
.g 15 (.mv (.l 86)) 11])
(.reg [
.l 87 (.mv (.g 6)),
.l 88 (.mv (.g 15)),
.l 89 (.mv (.g 8)),
.l 90 (.mv (.g 13)),
.l 91 (.mv (.g 14)),
.l 92 (.ia 1 (.l 90) (.l 91)),
.l 93 (.ld none (.l 92)),
.l 94 (.ia 1 (.l 89) (.l 93)),
.l 95 (.ld none (.l 94)),
.l 96 (.bin .mul (.l 88) (.l 95)),
.l 97 (.bin .sub (.l 87) (.l 96)),
.l 98 (.mv (.g 12)),
.l 99 (.mv (.g 15)),
.l 100 (.bin .sub (.l 98) (.l 99)),
.g 6 (.mv (.l 97)),
.g 12 (.mv (.l 100))])))
(.reg [
.l 74 (.mv (.g 14)),
.l 75 (.bin .add (.l 74) (.i 1)),
.g 14 (.mv (.l 75))]))))))
(.seq
(.reg [
.l 101 (.mv (.g 9)),
.l 102 (.call (.c (.fn 82 [])) [.l 101]),
.g 13 (.mv (.l 102))])
(.seq
(.seq
(.reg [
.g 16 (.mv (.i 0))])
(.block 4
(.loop
(.seq
(.seq
(.reg [
.l 103 (.mv (.g 16)),
.l 104 (.mv (.g 13)),
.l 105 (.len (.l 104)),
.g 106 (.bin .lss (.l 103) (.l 105))])
(.cond (.g 106)
.skip
(.exit 4)))
(.seq
(.block 5
(.seq
(.draw [
.l 109 (.fa (.g 1) 5) 0,
.l 110 (.ld none (.l 109)) 1,
.l 111 (.mv (.g 13)) 2,
.l 112 (.mv (.g 16)) 3,
.l 113 (.ia 1 (.l 111) (.l 112)) 4,
.l 114 (.ld none (.l 113)) 5,
.l 115 (.ia 4 (.l 110) (.l 114)) 6,
.l 116 (.ld (some 4) (.l 115)) 7,
.g 17 (.new [.int .i64 0, .int .i64 0, .int .i64 0, .int .i64 0]) 8,
.nx (.st 4 (.g 17) (.l 116)) 9 true [8]])
(.seq
(.reg [
.l 117 (.fa (.g 17) 0),
.l 118 (.ld none (.l 117)),
.g 18 (.mv (.l 118))])
(.seq
(.seq
(.reg [
.l 119 (.fa (.g 17) 1),
.l 120 (.ld none (.l 119)),
.l 121 (.mv (.g 7)),
.l 122 (.bin .sub (.l 121) (.i 1)),
.l 123 (.mn [.l 120, .l 122]),
.g 19 (.mv (.l 123))])
(.block 6
(.loop
(.seq
(.seq
(.reg [
.l 124 (.mv (.g 19)),
.l 125 (.mv (.g 7)),
.g 126 (.bin .lss (.l 124) (.l 125))])
(.cond (.g 126)
.skip
(.exit 6)))
(.seq
(.block 7
(.reg [
.l 129 (.mv (.g 18)),
.l 130 (.mv (.g 5)),
.l 131 (.mv (.g 19)),
.l 132 (.ia 1 (.l 130) (.l 131)),
.l 133 (.ld none (.l 132)),
.l 134 (.mn [.l 129, .l 133]),
.g 18 (.mv (.l 134))]))
(.reg [
.l 127 (.mv (.g 19)),
.l 128 (.bin .add (.l 127) (.i 1)),
.g 19 (.mv (.l 128))]))))))
(.seq
(.seq
(.reg [
.l 135 (.fa (.g 17) 1),
.l 136 (.ld none (.l 135)),
.l 137 (.mv (.g 7)),
.l 138 (.bin .sub (.l 137) (.i 1)),
.l 139 (.mn [.l 136, .l 138]),
.g 20 (.mv (.l 139))])
(.block 8
(.loop
(.seq
(.seq
(.reg [
.l 140 (.mv (.g 20)),
.l 141 (.mv (.g 7)),
.g 142 (.bin .lss (.l 140) (.l 141))])
(.cond (.g 142)
.skip
(.exit 8)))
(.seq
(.block 9
(.reg [
.l 145 (.mv (.g 5)),
.l 146 (.mv (.g 20)),
.l 147 (.mv (.g 5)),
.l 148 (.mv (.g 20)),
.l 149 (.ia 1 (.l 147) (.l 148)),
.l 150 (.ld none (.l 149)),
.l 151 (.mv (.g 18)),
.l 152 (.bin .sub (.l 150) (.l 151)),
.l 153 (.ia 1 (.l 145) (.l 146)),
.n (.st 1 (.l 153) (.l 152))]))
(.reg [
.l 143 (.mv (.g 20)),
.l 144 (.bin .add (.l 143) (.i 1)),
.g 20 (.mv (.l 144))]))))))
(.reg [
.l 154 (.mv (.g 6)),
.l 155 (.mv (.g 18)),
.l 156 (.fa (.g 17) 2),
.l 157 (.ld none (.l 156)),
.l 158 (.bin .mul (.l 155) (.l 157)),
.l 159 (.bin .sub (.l 154) (.l 158)),
.g 6 (.mv (.l 159))]))))))
(.reg [
.l 107 (.mv (.g 16)),
.l 108 (.bin .add (.l 107) (.i 1)),
.g 16 (.mv (.l 108))]))))))
(.seq
(.reg [
.l 160 (.mv (.g 6)),
.g 2 (.mv (.l 160)),
.g 3 (.mv (.i 0))])
.ret))))))))))))
def K27 : List Nat := [0, 24, 35, 73, 106, 126, 142, 2, 3, 1, 4, 5, 6, 7, 8, 9, 10, 11, 12, 13, 14, 15, 16, 17, 18, 19, 20]
noncomputable def b27 : Code := match Try.f27.body with | some c => c | none => .skip
theorem t27 : trCode ⟨Try.prog, K27, [], 161, none⟩ b27 = some c27 := by kernel_rfl
theorem go27 : GoS Try.prog 27 1 K27 [] 161 c27 [.t (.g 2), .t (.g 3)] := .mk Try.func27 (c := b27) rfl (by kernel_rfl) t27 rfl (by kernel_rfl) rfl rfl

/-- sastrugi/sastrugiref08.Next -/
def c29 : ACode :=
  (.seq
(.reg [
.g 2 (.mv (.b false))])
(.seq
(.reg [
.l 7 (.mv (.g 0)),
.l 8 (.len (.l 7)),
.l 9 (.bin .sub (.l 8) (.i 2)),
.g 3 (.mv (.l 9))])
(.seq
(.block 0
(.loop
(.seq
(.seq
(.draw [
.l 10 (.mv (.g 3)) 0,
.l 11 (.bin .geq (.l 10) (.i 0)) 1,
.l 12 (.mv (.l 11)) 2,
.lw 13 (.mv (.g 0)) (.l 12) true 3,
.lw 14 (.mv (.g 3)) (.l 12) true 4,
.lw 15 (.ia 1 (.l 13) (.l 14)) (.l 12) true 5,
.lw 16 (.ld none (.l 15)) (.l 12) true 6,
.lw 17 (.mv (.g 0)) (.l 12) true 7,
.lw 18 (.mv (.g 3)) (.l 12) true 8,
.lw 19 (.bin .add (.l 18) (.i 1)) (.l 12) true 9,
.lw 20 (.ia 1 (.l 17) (.l 19)) (.l 12) true 10,
.lw 21 (.ld none (.l 20)) (.l 12) true 11,
.lw 22 (.bin .geq (.l 16) (.l 21)) (.l 12) true 12,
.g 23 (.pick (.l 12) (.l 22) (.b false)) 13])
(.cond (.g 23)
.skip
(.exit 0)))
(.block 1
(.reg [
.l 24 (.mv (.g 3)),
.l 25 (.bin .sub (.l 24) (.i 1)),
.g 3 (.mv (.l 25))])))))
(.seq
(.seq
(.reg [
.l 26 (.mv (.g 3)),
.g 27 (.bin .lss (.l 26) (.i 0))])
(.cond (.g 27)
(.seq
(.reg [
.g 2 (.mv (.b false))])
.ret)
.skip))
(.seq
(.reg [
.l 28 (.mv (.g 0)),
.l 29 (.len (.l 28)),
.l 30 (.bin .sub (.l 29) (.i 1)),
.g 4 (.mv (.l 30))])
(.seq
(.block 2
(.loop
(.seq
(.seq
(.draw [
.l 31 (.mv (.g 0)) 0,
.l 32 (.mv (.g 4)) 1,
.l 33 (.ia 1 (.l 31) (.l 32)) 2,
.l 34 (.ld none (.l 33)) 3,
.l 35 (.mv (.g 0)) 4,
.l 36 (.mv (.g 3)) 5,
.l 37 (.ia 1 (.l 35) (.l 36)) 6,
.l 38 (.ld none (.l 37)) 7,
.g 39 (.bin .leq (.l 34) (.l 38)) 8])
(.cond (.g 39)
.skip
(.exit 2)))
(.block 3
(.reg [
.l 40 (.mv (.g 4)),
.l 41 (.bin .sub (.l 40) (.i 1)),
.g 4 (.mv (.l 41))])))))
(.seq
(.draw [
.l 42 (.mv (.g 0)) 0,
.l 43 (.mv (.g 3)) 1,
.lf 44 (.mv (.g 0)) 2,
.lf 45 (.mv (.g 4)) 3,
.l 46 (.mv (.g 0)) 4,
.l 47 (.mv (.g 4)) 5,
.l 48 (.ia 1 (.l 46) (.l 47)) 6,
.l 49 (.ld none (.l 48)) 7,
.lf 50 (.mv (.g 0)) 8,
.lf 51 (.mv (.g 3)) 9,
.l 52 (.ia 1 (.l 50) (.l 51)) 10,
.l 53 (.ld none (.l 52)) 11,
.l 54 (.ia 1 (.l 42) (.l 43)) 12,
.nf (.st 1 (.l 54) (.l 49)) 13,
.lf 55 (.ia 1 (.l 44) (.l 45)) 14,
.n (.st 1 (.l 55) (.l 53)) 15])
(.seq
(.seq
(.reg [
.l 56 (.mv (.g 3)),
.l 57 (.bin .add (.l 56) (.i 1)),
.l 58 (.mv (.g 0)),
.l 59 (.len (.l 58)),
.l 60 (.bin .sub (.l 59) (.i 1)),
.g 5 (.mv (.l 57)),
.g 6 (.mv (.l 60))])
(.block 4
(.loop
(.seq
(.seq
(.reg [
.l 61 (.mv (.g 5)),
.l 62 (.mv (.g 6)),
.g 63 (.bin .lss (.l 61) (.l 62))])
(.cond (.g 63)
.skip
(.exit 4)))
(.seq
(.block 5
(.draw [
.l 68 (.mv (.g 0)) 0,
.l 69 (.mv (.g 5)) 1,
.lf 70 (.mv (.g 0)) 2,
.lf 71 (.mv (.g 6)) 3,
.l 72 (.mv (.g 0)) 4,
.l 73 (.mv (.g 6)) 5,
.l 74 (.ia 1 (.l 72) (.l 73)) 6,
.l 75 (.ld none (.l 74)) 7,
.lf 76 (.mv (.g 0)) 8,
.lf 77 (.mv (.g 5)) 9,
.l 78 (.ia 1 (.l 76) (.l 77)) 10,
.l 79 (.ld none (.l 78)) 11,
.l 80 (.ia 1 (.l 68) (.l 69)) 12,
.nf (.st 1 (.l 80) (.l 75)) 13,
.lf 81 (.ia 1 (.l 70) (.l 71)) 14,
.n (.st 1 (.l 81) (.l 79)) 15]))
(.reg [
.l 64 (.mv (.g 5)),
.l 65 (.bin .add (.l 64) (.i 1)),
.l 66 (.mv (.g 6)),
.l 67 (.bin .sub (.l 66) (.i 1)),
.g 5 (.mv (.l 65)),
.g 6 (.mv (.l 67))]))))))
(.seq
(.reg [
.g 2 (.mv (.b true))])
.ret)))))))))
def K29 : List Nat := [0, 23, 27, 39, 63, 2, 3, 4, 5, 6]
noncomputable def b29 : Code := match Try.f29.body with | some c => c | none => .skip
theorem t29 : trCode ⟨Try.prog, K29, [], 82, none⟩ b29 = some c29 := by kernel_rfl
theorem go29 : GoS Try.prog 29 1 K29 [] 82 c29 [.t (.g 2)] := .mk Try.func29 (c := b29) rfl (by kernel_rfl) t29 rfl (by kernel_rfl) rfl rfl

/-- sastrugi/freight.Range -/
def c30 : ACode :=
  (.seq
(.reg [
.g 2 (.box (.g 0)),
.g 4 (.new [.int .i64 0, .int .i64 0]),
.g 5 (.mv (.i 0))])
(.seq
(.seq
(.reg [
.l 7 (.ld (some 6) (.g 2)),
.l 8 (.mv (.g 1)),
.l 9 (.call (.c (.fn 83 [])) [.l 7, .l 8]),
.g 6 (.mv (.l 9))])
(.seq
(.reg [
.l 10 (.mv (.g 6)),
.g 11 (.bin .neq (.l 10) (.i 0))])
(.cond (.g 11)
(.seq
(.reg [
.l 12 (.mk [.int .i64 0, .int .i64 0] []),
.l 13 (.mv (.g 6)),
.n (.st 2 (.g 4) (.l 12)),
.g 5 (.mv (.l 13))])
.ret)
.skip)))
(.seq
(.draw [
.l 14 (.ld (some 6) (.g 2)) 0,
.l 16 (.mv (.g 1)) 2,
.l 18 (.ld (some 6) (.g 2)) 4,
.l 20 (.mv (.g 1)) 6,
.lf 15 (.call (.c (.fn 84 [])) [.l 14]) 1,
.lf 17 (.call (.c (.fn 73 [])) [.l 15, .l 16]) 3,
.lf 19 (.call (.c (.fn 71 [])) [.l 18]) 5,
.lf 21 (.call (.c (.fn 73 [])) [.l 19, .l 20]) 7,
.l 22 (.mk [.int .i64 0, .int .i64 0] [(0, 1, .l 17), (1, 1, .l 21)]) 8,
.nf (.st 2 (.g 4) (.l 22)) 9,
.gf 5 (.mv (.i 0)) 10])
.ret)))
def K30 : List Nat := [0, 1, 11, 4, 5, 2, 6]
noncomputable def b30 : Code := match Try.f30.body with | some c => c | none => .skip
theorem t30 : trCode ⟨Try.prog, K30, [], 23, none⟩ b30 = some c30 := by kernel_rfl
theorem go30 : GoS Try.prog 30 2 K30 [] 23 c30 [.cell (.g 4) (some 2), .t (.g 5)] := .mk Try.func30 (c := b30) rfl (by kernel_rfl) t30 rfl (by kernel_rfl) rfl rfl

/-- sastrugi/sastrugiref08.Range -/
def c32 : ACode :=
  (.seq
(.reg [
.g 2 (.box (.g 0)),
.g 4 (.new [.int .i64 0, .int .i64 0]),
.g 5 (.mv (.i 0))])
(.seq
(.seq
(.reg [
.l 8 (.ld (some 6) (.g 2)),
.l 9 (.call (.c (.fn 20 [])) [.l 8]),
.g 6 (.mv (.l 9))])
(.seq
(.reg [
.l 10 (.mv (.g 6)),
.g 11 (.bin .neq (.l 10) (.i 0))])
(.cond (.g 11)
(.seq
(.reg [
.l 12 (.mk [.int .i64 0, .int .i64 0] []),
.l 13 (.mv (.g 6)),
.n (.st 2 (.g 4) (.l 12)),
.g 5 (.mv (.l 13))])
.ret)
.skip)))
(.seq
(.seq
(.reg [
.l 14 (.ld (some 6) (.g 2)),
.l 15 (.mv (.g 1)),
.l 16 (.call (.c (.fn 85 [])) [.l 14, .l 15]),
.g 7 (.mv (.l 16))])
(.seq
(.reg [
.l 17 (.mv (.g 7)),
.g 18 (.bin .neq (.l 17) (.i 0))])
(.cond (.g 18)
(.seq
(.reg [
.l 19 (.mk [.int .i64 0, .int .i64 0] []),
.l 20 (.mv (.g 7)),
.n (.st 2 (.g 4) (.l 19)),
.g 5 (.mv (.l 20))])
.ret)
.skip)))
(.seq
(.draw [
.l 21 (.ld (some 6) (.g 2)) 0,
.l 22 (.ld (some 6) (.g 2)) 1,
.l 24 (.mv (.g 1)) 3,
.l 26 (.ld (some 6) (.g 2)) 5,
.l 27 (.ld (some 6) (.g 2)) 6,
.l 29 (.mv (.g 1)) 8,
.lf 23 (.call (.c (.fn 86 [])) [.l 22]) 2,
.lf 25 (.call (.c (.fn 75 [])) [.l 21, .l 23, .l 24]) 4,
.lf 28 (.call (.c (.fn 74 [])) [.l 27]) 7,
.lf 30 (.call (.c (.fn 75 [])) [.l 26, .l 28, .l 29]) 9,
.l 31 (.mk [.int .i64 0, .int .i64 0] [(0, 1, .l 25), (1, 1, .l 30)]) 10,
.nf (.st 2 (.g 4) (.l 31)) 11,
.gf 5 (.mv (.i 0)) 12])
.ret))))
def K32 : List Nat := [0, 1, 11, 18, 4, 5, 2, 6, 7]
noncomputable def b32 : Code := match Try.f32.body with | some c => c | none => .skip
theorem t32 : trCode ⟨Try.prog, K32, [], 32, none⟩ b32 = some c32 := by kernel_rfl
theorem go32 : GoS Try.prog 32 2 K32 [] 32 c32 [.cell (.g 4) (some 2), .t (.g 5)] := .mk Try.func32 (c := b32) rfl (by kernel_rfl) t32 rfl (by kernel_rfl) rfl rfl

/-- sastrugi/freight.Promise -/
def c33 : ACode :=
  (.seq
(.reg [
.g 2 (.box (.g 0)),
.g 4 (.mv (.c (.lit (.slice none 0 0)))),
.g 5 (.mv (.i 0))])
(.seq
(.seq
(.reg [
.l 16 (.ld (some 6) (.g 2)),
.l 17 (.mv (.g 1)),
.l 18 (.call (.c (.fn 83 [])) [.l 16, .l 17]),
.g 6 (.mv (.l 18))])
(.seq
(.reg [
.l 19 (.mv (.g 6)),
.g 20 (.bin .neq (.l 19) (.i 0))])
(.cond (.g 20)
(.seq
(.reg [
.l 21 (.mv (.g 6)),
.g 4 (.mv (.c (.lit (.slice none 0 0)))),
.g 5 (.mv (.l 21))])
.ret)
.skip)))
(.seq
(.draw [
.l 22 (.ld (some 6) (.g 2)) 0,
.l 24 (.ld (some 6) (.g 2)) 2,
.g 7 (.new [.int .i64 0, .int .i64 0, .int .i64 0, .int .i64 0, .slice none 0 0, .slice none 0 0, .int .i64 0, .int .i64 0, .slice none 0 0]) 4,
.g 8 (.new [.int .i64 0, .int .i64 0, .int .i64 0, .int .i64 0, .slice none 0 0, .slice none 0 0, .int .i64 0, .int .i64 0, .slice none 0 0]) 5,
.lf 23 (.call (.c (.fn 71 [])) [.l 22]) 1,
.lf 25 (.call (.c (.fn 84 [])) [.l 24]) 3,
.nx (.st 9 (.g 7) (.l 23)) 6 true [4, 5],
.nx (.st 9 (.g 8) (.l 25)) 7 true [4, 5]])
(.seq
(.draw [
.l 27 (.ld (some 9) (.g 7)) 0,
.l 28 (.ld (some 9) (.g 7)) 1,
.l 29 (.mv (.g 1)) 2,
.lf 30 (.call (.c (.fn 88 [])) [.l 28, .l 29]) 3,
.lf 31 (.call (.c (.fn 87 [])) [.l 27, .l 30]) 4,
.l 26 (.mv (.l 31)) 5,
.l 32 (.ex (.l 26) 0) 6,
.l 33 (.ex (.l 26) 1) 7,
.g 9 (.mv (.l 32)) 8,
.l 10 (.mv (.l 33)) 9])
(.seq
(.draw [
.l 35 (.ld (some 9) (.g 8)) 0,
.l 36 (.ld (some 9) (.g 8)) 1,
.l 37 (.mv (.g 1)) 2,
.lf 38 (.call (.c (.fn 88 [])) [.l 36, .l 37]) 3,
.lf 39 (.call (.c (.fn 87 [])) [.l 35, .l 38]) 4,
.l 34 (.mv (.l 39)) 5,
.l 40 (.ex (.l 34) 0) 6,
.l 41 (.ex (.l 34) 1) 7,
.g 11 (.mv (.l 40)) 8,
.l 12 (.mv (.l 41)) 9])
(.seq
(.reg [
.g 13 (.mv (.c (.lit (.slice none 0 0))))])
(.seq
(.seq
(.reg [
.l 42 (.fa (.g 2) 5),
.g 43 (.ld none (.l 42)),
.g 44 (.len (.g 43)),
.g 45 (.mv (.i 0))])
(.block 0
(.loop
(.seq
(.reg [
.g 46 (.bin .lss (.g 45) (.g 44))])
(.seq
(.cond (.g 46)
.skip
(.exit 0))
(.seq
(.block 1
(.seq
(.reg [
.l 47 (.mv (.g 45)),
.l 48 (.ia 4 (.g 43) (.g 45)),
.l 49 (.ld (some 4) (.l 48)),
.g 15 (.new [.int .i64 0, .int .i64 0, .int .i64 0, .int .i64 0]),
.g 14 (.mv (.l 47)),
.n (.st 4 (.g 15) (.l 49))])
(.block 2
(.seq
(.draw [
.l 54 (.mv (.g 9)) 0,
.l 55 (.mv (.g 14)) 1,
.l 56 (.ia 4 (.l 54) (.l 55)) 2,
.l 57 (.fa (.l 56) 0) 3,
.l 58 (.ld none (.l 57)) 4,
.l 59 (.fa (.g 15) 0) 5,
.l 60 (.ld none (.l 59)) 6,
.l 61 (.bin .eql (.l 58) (.l 60)) 7,
.g 53 (.mv (.l 61)) 8])
(.cond (.g 53)
(.reg [
.l 62 (.mv (.g 13)),
.l 63 (.mks false 1 [.i 1]),
.l 64 (.app 1 8 (.l 62) (.l 63)),
.g 13 (.mv (.l 64))])
(.seq
(.draw [
.l 66 (.mv (.g 11)) 0,
.l 67 (.mv (.g 14)) 1,
.l 68 (.ia 4 (.l 66) (.l 67)) 2,
.l 69 (.fa (.l 68) 0) 3,
.l 70 (.ld none (.l 69)) 4,
.l 71 (.fa (.g 15) 0) 5,
.l 72 (.ld none (.l 71)) 6,
.l 73 (.bin .lss (.l 70) (.l 72)) 7,
.g 65 (.mv (.l 73)) 8])
(.cond (.g 65)
(.reg [
.l 74 (.mv (.g 13)),
.l 75 (.mks false 1 [.i 2]),
.l 76 (.app 1 8 (.l 74) (.l 75)),
.g 13 (.mv (.l 76))])
(.reg [
.l 50 (.mv (.g 13)),
.l 51 (.mks false 1 [.i 3]),
.l 52 (.app 1 8 (.l 50) (.l 51)),
.g 13 (.mv (.l 52))]))))))))
(.reg [
.l 77 (.bin .add (.g 45) (.i 1)),
.g 45 (.mv (.l 77))])))))))
(.seq
(.reg [
.l 78 (.mv (.g 13)),
.g 4 (.mv (.l 78)),
.g 5 (.mv (.i 0))])
.ret))))))))
def K33 : List Nat := [0, 1, 20, 46, 53, 65, 4, 5, 2, 6, 7, 8, 9, 11, 13, 43, 44, 45, 15, 14]
noncomputable def b33 : Code := match Try.f33.body with | some c => c | none => .skip
theorem t33 : trCode ⟨Try.prog, K33, [], 79, none⟩ b33 = some c33 := by kernel_rfl
theorem go33 : GoS Try.prog 33 2 K33 [] 79 c33 [.t (.g 4), .t (.g 5)] := .mk Try.func33 (c := b33) rfl (by kernel_rfl) t33 rfl (by kernel_rfl) rfl rfl

/-- sastrugi/sastrugiref08.Promise -/
def c34 : ACode :=
  (.seq
(.reg [
.g 2 (.box (.g 0)),
.g 4 (.mv (.c (.lit (.slice none 0 0)))),
.g 5 (.mv (.i 0))])
(.seq
(.seq
(.reg [
.l 14 (.ld (some 6) (.g 2)),
.l 15 (.call (.c (.fn 20 [])) [.l 14]),
.g 6 (.mv (.l 15))])
(.seq
(.reg [
.l 16 (.mv (.g 6)),
.g 17 (.bin .neq (.l 16) (.i 0))])
(.cond (.g 17)
(.seq
(.reg [
.l 18 (.mv (.g 6)),
.g 4 (.mv (.c (.lit (.slice none 0 0)))),
.g 5 (.mv (.l 18))])
.ret)
.skip)))
(.seq
(.seq
(.reg [
.l 19 (.ld (some 6) (.g 2)),
.l 20 (.mv (.g 1)),
.l 21 (.call (.c (.fn 85 [])) [.l 19, .l 20]),
.g 7 (.mv (.l 21))])
(.seq
(.reg [
.l 22 (.mv (.g 7)),
.g 23 (.bin .neq (.l 22) (.i 0))])
(.cond (.g 23)
(.seq
(.reg [
.l 24 (.mv (.g 7)),
.g 4 (.mv (.c (.lit (.slice none 0 0)))),
.g 5 (.mv (.l 24))])
.ret)
.skip)))
(.seq
(.draw [
.l 26 (.ld (some 6) (.g 2)) 0,
.l 27 (.ld (some 6) (.g 2)) 1,
.l 28 (.ld (some 6) (.g 2)) 2,
.l 30 (.mv (.g 1)) 4,
.lf 29 (.call (.c (.fn 74 [])) [.l 28]) 3,
.lf 31 (.call (.c (.fn 90 [])) [.l 27, .l 29, .l 30]) 5,
.lf 32 (.call (.c (.fn 89 [])) [.l 26, .l 31]) 6,
.l 25 (.mv (.l 32)) 7,
.l 33 (.ex (.l 25) 0) 8,
.l 34 (.ex (.l 25) 1) 9,
.g 8 (.mv (.l 33)) 10,
.l 9 (.mv (.l 34)) 11])
(.seq
(.draw [
.l 36 (.ld (some 6) (.g 2)) 0,
.l 37 (.ld (some 6) (.g 2)) 1,
.l 38 (.ld (some 6) (.g 2)) 2,
.l 40 (.mv (.g 1)) 4,
.lf 39 (.call (.c (.fn 86 [])) [.l 38]) 3,
.lf 41 (.call (.c (.fn 90 [])) [.l 37, .l 39, .l 40]) 5,
.lf 42 (.call (.c (.fn 89 [])) [.l 36, .l 41]) 6,
.l 35 (.mv (.l 42)) 7,
.l 43 (.ex (.l 35) 0) 8,
.l 44 (.ex (.l 35) 1) 9,
.g 10 (.mv (.l 43)) 10,
.l 11 (.mv (.l 44)) 11])
(.seq
(.reg [
.g 12 (.mv (.c (.lit (.slice none 0 0))))])
(.seq
(.seq
(.reg [
.g 13 (.mv (.i 0))])
(.block 0
(.loop
(.seq
(.seq
(.reg [
.l 45 (.mv (.g 13)),
.l 46 (.fa (.g 2) 5),
.l 47 (.ld none (.l 46)),
.l 48 (.len (.l 47)),
.g 49 (.bin .lss (.l 45) (.l 48))])
(.cond (.g 49)
.skip
(.exit 0)))
(.seq
(.block 1
(.block 2
(.seq
(.draw [
.l 56 (.mv (.g 8)) 0,
.l 57 (.mv (.g 13)) 1,
.l 58 (.ia 4 (.l 56) (.l 57)) 2,
.l 59 (.fa (.l 58) 0) 3,
.l 60 (.ld none (.l 59)) 4,
.l 61 (.fa (.g 2) 5) 5,
.l 62 (.ld none (.l 61)) 6,
.l 63 (.mv (.g 13)) 7,
.l 64 (.ia 4 (.l 62) (.l 63)) 8,
.l 65 (.fa (.l 64) 0) 9,
.l 66 (.ld none (.l 65)) 10,
.l 67 (.bin .eql (.l 60) (.l 66)) 11,
.g 55 (.mv (.l 67)) 12])
(.cond (.g 55)
(.reg [
.l 68 (.mv (.g 12)),
.l 69 (.mks false 1 [.i 1]),
.l 70 (.app 1 8 (.l 68) (.l 69)),
.g 12 (.mv (.l 70))])
(.seq
(.draw [
.l 72 (.mv (.g 10)) 0,
.l 73 (.mv (.g 13)) 1,
.l 74 (.ia 4 (.l 72) (.l 73)) 2,
.l 75 (.fa (.l 74) 0) 3,
.l 76 (.ld none (.l 75)) 4,
.l 77 (.fa (.g 2) 5) 5,
.l 78 (.ld none (.l 77)) 6,
.l 79 (.mv (.g 13)) 7,
.l 80 (.ia 4 (.l 78) (.l 79)) 8,
.l 81 (.fa (.l 80) 0) 9,
.l 82 (.ld none (.l 81)) 10,
.l 83 (.bin .lss (.l 76) (.l 82)) 11,
.g 71 (.mv (.l 83)) 12])
(.cond (.g 71)
(.reg [
.l 84 (.mv (.g 12)),
.l 85 (.mks false 1 [.i 2]),
.l 86 (.app 1 8 (.l 84) (.l 85)),
.g 12 (.mv (.l 86))])
(.reg [
.l 52 (.mv (.g 12)),
.l 53 (.mks false 1 [.i 3]),
.l 54 (.app 1 8 (.l 52) (.l 53)),
.g 12 (.mv (.l 54))])))))))
(.reg [
.l 50 (.mv (.g 13)),
.l 51 (.bin .add (.l 50) (.i 1)),
.g 13 (.mv (.l 51))]))))))
(.seq
(.reg [
.l 87 (.mv (.g 12)),
.g 4 (.mv (.l 87)),
.g 5 (.mv (.i 0))])
.ret))))))))
def K34 : List Nat := [0, 1, 17, 23, 49, 55, 71, 4, 5, 2, 6, 7, 8, 10, 12, 13]
noncomputable def b34 : Code := match Try.f34.body with | some c => c | none => .skip
theorem t34 : trCode ⟨Try.prog, K34, [], 88, none⟩ b34 = some c34 := by kernel_rfl
theorem go34 : GoS Try.prog 34 2 K34 [] 88 c34 [.t (.g 4), .t (.g 5)] := .mk Try.func34 (c := b34) rfl (by kernel_rfl) t34 rfl (by kernel_rfl) rfl rfl

/-- sastrugi/sastrugilaw08.season -/
def c62 : ACode :=
  (.seq
(.reg [
.g 0 (.new [.int .i64 0, .int .i64 0, .int .i64 0, .int .i64 0, .slice none 0 0, .slice none 0 0])])
(.seq
(.reg [
.l 3 (.call (.c (.fn 53 [])) [.i 1, .i 2]),
.l 4 (.call (.c (.fn 53 [])) [.i 4, .i 5]),
.l 5 (.mk [.int .i64 0, .int .i64 0, .int .i64 0, .int .i64 0] [(0, 1, .i 4), (1, 1, .i 3), (2, 1, .i 5), (3, 1, .i 20)]),
.l 6 (.mk [.int .i64 0, .int .i64 0, .int .i64 0, .int .i64 0] [(0, 1, .i 5), (1, 1, .i 5), (2, 1, .i 1), (3, 1, .i 10)]),
.l 7 (.mks false 4 [.l 5, .l 6]),
.l 8 (.mk [.int .i64 0, .int .i64 0, .int .i64 0, .int .i64 0, .slice none 0 0, .slice none 0 0] [(0, 2, .l 3), (2, 2, .l 4), (5, 1, .l 7)]),
.g 1 (.new [.int .i64 0, .int .i64 0, .int .i64 0, .int .i64 0, .slice none 0 0, .slice none 0 0]),
.n (.st 6 (.g 1) (.l 8))])
(.seq
(.seq
(.reg [
.g 2 (.mv (.i 0))])
(.block 0
(.loop
(.seq
(.seq
(.reg [
.l 9 (.mv (.g 2)),
.g 10 (.bin .lss (.l 9) (.i 7))])
(.cond (.g 10)
.skip
(.exit 0)))
(.seq
(.block 1
(.draw [
.l 13 (.fa (.g 1) 4) 0,
.l 14 (.ld none (.l 13)) 1,
.lf 15 (.call (.c (.fn 53 [])) [.i 2, .i 3]) 2,
.l 16 (.mks false 2 [.l 15]) 3,
.lf 17 (.app 2 16 (.l 14) (.l 16)) 4,
.l 18 (.fa (.g 1) 4) 5,
.n (.st 1 (.l 18) (.l 17)) 6]))
(.reg [
.l 11 (.mv (.g 2)),
.l 12 (.bin .add (.l 11) (.i 1)),
.g 2 (.mv (.l 12))]))))))
(.seq
(.reg [
.l 19 (.ld (some 6) (.g 1)),
.n (.st 6 (.g 0) (.l 19))])
.ret))))
def K62 : List Nat := [10, 0, 1, 2]
noncomputable def b62 : Code := match Try.f62.body with | some c => c | none => .skip
theorem t62 : trCode ⟨Try.prog, K62, [], 20, none⟩ b62 = some c62 := by kernel_rfl
theorem go62 : GoS Try.prog 62 0 K62 [] 20 c62 [.cell (.g 0) (some 6)] := .mk Try.func62 (c := b62) rfl (by kernel_rfl) t62 rfl (by kernel_rfl) rfl rfl

/-- sastrugi/freight.checkSpan -/
def c64 : ACode :=
  (.seq
(.reg [
.g 3 (.box (.g 0)),
.g 6 (.mv (.i 0))])
(.seq
(.block 0
(.seq
(.reg [
.l 8 (.fa (.g 3) 0),
.l 9 (.ld none (.l 8)),
.l 10 (.mv (.g 1)),
.l 11 (.mv (.g 2)),
.l 12 (.call (.c (.fn 65 [])) [.l 9, .l 10, .l 11]),
.l 13 (.un .not (.l 12)),
.l 14 (.mv (.l 13)),
.lw 15 (.fa (.g 3) 1) (.l 14) false,
.lw 16 (.ld none (.l 15)) (.l 14) false,
.lw 17 (.mv (.g 1)) (.l 14) false,
.lw 18 (.mv (.g 2)) (.l 14) false,
.lw 19 (.call (.c (.fn 65 [])) [.l 16, .l 17, .l 18]) (.l 14) false,
.lw 20 (.un .not (.l 19)) (.l 14) false,
.l 21 (.pick (.l 14) (.b true) (.l 20)),
.g 7 (.mv (.l 21))])
(.cond (.g 7)
(.seq
(.reg [
.g 6 (.mv (.i 2))])
.ret)
(.seq
(.reg [
.l 23 (.fa (.g 3) 0),
.l 24 (.ld none (.l 23)),
.l 25 (.fa (.g 3) 1),
.l 26 (.ld none (.l 25)),
.l 27 (.bin .gtr (.l 24) (.l 26)),
.g 22 (.mv (.l 27))])
(.cond (.g 22)
(.seq
(.reg [
.g 6 (.mv (.i 11))])
.ret)
.skip)))))
(.seq
(.reg [
.g 6 (.mv (.i 0))])
.ret)))
def K64 : List Nat := [0, 1, 2, 7, 22, 6, 3]
noncomputable def b64 : Code := match Try.f64.body with | some c => c | none => .skip
theorem t64 : trCode ⟨Try.prog, K64, [], 28, none⟩ b64 = some c64 := by kernel_rfl
theorem go64 : GoS Try.prog 64 3 K64 [] 28 c64 [.t (.g 6)] := .mk Try.func64 (c := b64) rfl (by kernel_rfl) t64 rfl (by kernel_rfl) rfl rfl

/-- sastrugi/freight.in -/
def c65 : ACode :=
  (.seq
(.reg [
.g 6 (.mv (.b false))])
(.seq
(.reg [
.l 7 (.mv (.g 1)),
.l 8 (.mv (.g 0)),
.l 9 (.bin .leq (.l 7) (.l 8)),
.l 10 (.mv (.l 9)),
.lw 11 (.mv (.g 0)) (.l 10) true,
.lw 12 (.mv (.g 2)) (.l 10) true,
.lw 13 (.bin .leq (.l 11) (.l 12)) (.l 10) true,
.l 14 (.pick (.l 10) (.l 13) (.b false)),
.g 6 (.mv (.l 14))])
.ret))
def K65 : List Nat := [0, 1, 2, 6]
noncomputable def b65 : Code := match Try.f65.body with | some c => c | none => .skip
theorem t65 : trCode ⟨Try.prog, K65, [], 15, none⟩ b65 = some c65 := by kernel_rfl
theorem go65 : GoS Try.prog 65 3 K65 [] 15 c65 [.t (.g 6)] := .mk Try.func65 (c := b65) rfl (by kernel_rfl) t65 rfl (by kernel_rfl) rfl rfl

/-- sastrugi/sastrugiref08.checkSpan -/
def c66 : ACode :=
  (.seq
(.reg [
.g 3 (.box (.g 0)),
.g 6 (.mv (.i 0))])
(.seq
(.seq
(.reg [
.l 7 (.fa (.g 3) 0),
.l 8 (.ld none (.l 7)),
.l 9 (.mv (.g 1)),
.l 10 (.mv (.g 2)),
.l 11 (.call (.c (.fn 67 [])) [.l 8, .l 9, .l 10]),
.l 12 (.un .not (.l 11)),
.l 13 (.mv (.l 12)),
.lw 14 (.fa (.g 3) 1) (.l 13) false,
.lw 15 (.ld none (.l 14)) (.l 13) false,
.lw 16 (.mv (.g 1)) (.l 13) false,
.lw 17 (.mv (.g 2)) (.l 13) false,
.lw 18 (.call (.c (.fn 67 [])) [.l 15, .l 16, .l 17]) (.l 13) false,
.lw 19 (.un .not (.l 18)) (.l 13) false,
.g 20 (.pick (.l 13) (.b true) (.l 19))])
(.cond (.g 20)
(.seq
(.reg [
.g 6 (.mv (.i 2))])
.ret)
.skip))
(.seq
(.seq
(.reg [
.l 21 (.fa (.g 3) 0),
.l 22 (.ld none (.l 21)),
.l 23 (.fa (.g 3) 1),
.l 24 (.ld none (.l 23)),
.g 25 (.bin .gtr (.l 22) (.l 24))])
(.cond (.g 25)
(.seq
(.reg [
.g 6 (.mv (.i 11))])
.ret)
.skip))
(.seq
(.reg [
.g 6 (.mv (.i 0))])
.ret))))
def K66 : List Nat := [0, 1, 2, 20, 25, 6, 3]
noncomputable def b66 : Code := match Try.f66.body with | some c => c | none => .skip
theorem t66 : trCode ⟨Try.prog, K66, [], 26, none⟩ b66 = some c66 := by kernel_rfl
theorem go66 : GoS Try.prog 66 3 K66 [] 26 c66 [.t (.g 6)] := .mk Try.func66 (c := b66) rfl (by kernel_rfl) t66 rfl (by kernel_rfl) rfl rfl

/-- sastrugi/sastrugiref08.within -/
def c67 : ACode :=
  (.seq
(.reg [
.g 6 (.mv (.b false))])
(.seq
(.reg [
.l 7 (.mv (.g 0)),
.l 8 (.mv (.g 1)),
.l 9 (.bin .geq (.l 7) (.l 8)),
.l 10 (.mv (.l 9)),
.lw 11 (.mv (.g 0)) (.l 10) true,
.lw 12 (.mv (.g 2)) (.l 10) true,
.lw 13 (.bin .leq (.l 11) (.l 12)) (.l 10) true,
.l 14 (.pick (.l 10) (.l 13) (.b false)),
.g 6 (.mv (.l 14))])
.ret))
def K67 : List Nat := [0, 1, 2, 6]
noncomputable def b67 : Code := match Try.f67.body with | some c => c | none => .skip
theorem t67 : trCode ⟨Try.prog, K67, [], 15, none⟩ b67 = some c67 := by kernel_rfl
theorem go67 : GoS Try.prog 67 3 K67 [] 15 c67 [.t (.g 6)] := .mk Try.func67 (c := b67) rfl (by kernel_rfl) t67 rfl (by kernel_rfl) rfl rfl

/-- sastrugi/freight.worst -/
def c71 : ACode :=
  (.seq
(.reg [
.g 1 (.box (.g 0)),
.g 2 (.new [.int .i64 0, .int .i64 0, .int .i64 0, .int .i64 0, .slice none 0 0, .slice none 0 0, .int .i64 0, .int .i64 0, .slice none 0 0])])
(.seq
(.reg [
.l 6 (.fa (.g 1) 0),
.l 7 (.fa (.l 6) 1),
.l 8 (.ld none (.l 7)),
.l 9 (.fa (.g 1) 2),
.l 10 (.fa (.l 9) 0),
.l 11 (.ld none (.l 10)),
.l 12 (.mk [.int .i64 0, .int .i64 0, .slice none 0 0] [(0, 1, .l 8), (1, 1, .l 11)]),
.g 3 (.new [.int .i64 0, .int .i64 0, .slice none 0 0]),
.n (.st 3 (.g 3) (.l 12))])
(.seq
(.seq
(.reg [
.l 13 (.fa (.g 1) 4),
.g 14 (.ld none (.l 13)),
.g 15 (.len (.g 14)),
.g 16 (.mv (.i 0))])
(.block 0
(.loop
(.seq
(.reg [
.g 17 (.bin .lss (.g 16) (.g 15))])
(.seq
(.cond (.g 17)
.skip
(.exit 0))
(.seq
(.block 1
(.seq
(.reg [
.l 18 (.ia 2 (.g 14) (.g 16)),
.l 19 (.ld (some 2) (.l 18)),
.g 5 (.new [.int .i64 0, .int .i64 0]),
.n (.st 2 (.g 5) (.l 19))])
(.reg [
.l 20 (.fa (.g 3) 2),
.l 21 (.ld none (.l 20)),
.l 22 (.fa (.g 5) 0),
.l 23 (.ld none (.l 22)),
.l 24 (.mks false 1 [.l 23]),
.l 25 (.app 1 8 (.l 21) (.l 24)),
.l 26 (.fa (.g 3) 2),
.n (.st 1 (.l 26) (.l 25))])))
(.reg [
.l 27 (.bin .add (.g 16) (.i 1)),
.g 16 (.mv (.l 27))])))))))
(.seq
(.reg [
.l 28 (.ld (some 6) (.g 1)),
.l 29 (.ld (some 3) (.g 3)),
.l 30 (.mk [.int .i64 0, .int .i64 0, .int .i64 0, .int .i64 0, .slice none 0 0, .slice none 0 0, .int .i64 0, .int .i64 0, .slice none 0 0] [(0, 6, .l 28), (6, 3, .l 29)]),
.n (.st 9 (.g 2) (.l 30))])
.ret))))
def K71 : List Nat := [0, 17, 2, 1, 3, 14, 15, 16, 5]
noncomputable def b71 : Code := match Try.f71.body with | some c => c | none => .skip
theorem t71 : trCode ⟨Try.prog, K71, [], 31, none⟩ b71 = some c71 := by kernel_rfl
theorem go71 : GoS Try.prog 71 1 K71 [] 31 c71 [.cell (.g 2) (some 9)] := .mk Try.func71 (c := b71) rfl (by kernel_rfl) t71 rfl (by kernel_rfl) rfl rfl

/-- sastrugi/freight.plans -/
def c72 : ACode :=
  (.seq
(.reg [
.g 1 (.box (.g 0)),
.g 2 (.mv (.c (.lit (.nilFunc))))])
(.seq
(.reg [
.l 3 (.mkf 103 [.g 1]),
.g 2 (.mv (.l 3))])
.ret))
def K72 : List Nat := [0, 2, 1]
noncomputable def b72 : Code := match Try.f72.body with | some c => c | none => .skip
theorem t72 : trCode ⟨Try.prog, K72, [], 4, none⟩ b72 = some c72 := by kernel_rfl
theorem go72 : GoS Try.prog 72 1 K72 [] 4 c72 [.t (.g 2)] := .mk Try.func72 (c := b72) rfl (by kernel_rfl) t72 rfl (by kernel_rfl) rfl rfl

/-- (sastrugi/freight.season).cost -/
def c73 : ACode :=
  (.seq
(.reg [
.g 2 (.box (.g 0)),
.g 4 (.mv (.i 0))])
(.seq
(.draw [
.l 8 (.ld (some 9) (.g 2)) 0,
.l 9 (.ld (some 9) (.g 2)) 1,
.l 10 (.mv (.g 1)) 2,
.lf 11 (.call (.c (.fn 88 [])) [.l 9, .l 10]) 3,
.lf 12 (.call (.c (.fn 87 [])) [.l 8, .l 11]) 4,
.l 7 (.mv (.l 12)) 5,
.l 13 (.ex (.l 7) 0) 6,
.l 14 (.ex (.l 7) 1) 7,
.l 5 (.mv (.l 13)) 8,
.g 6 (.mv (.l 14)) 9])
(.seq
(.reg [
.l 15 (.mv (.g 6)),
.g 4 (.mv (.l 15))])
.ret)))
def K73 : List Nat := [0, 1, 4, 2, 6]
noncomputable def b73 : Code := match Try.f73.body with | some c => c | none => .skip
theorem t73 : trCode ⟨Try.prog, K73, [], 16, none⟩ b73 = some c73 := by kernel_rfl
theorem go73 : GoS Try.prog 73 2 K73 [] 16 c73 [.t (.g 4)] := .mk Try.func73 (c := b73) rfl (by kernel_rfl) t73 rfl (by kernel_rfl) rfl rfl

/-- sastrugi/sastrugiref08.Worst -/
def c74 : ACode :=
  (.seq
(.reg [
.g 1 (.box (.g 0)),
.g 2 (.new [.int .i64 0, .int .i64 0, .slice none 0 0])])
(.seq
(.reg [
.l 5 (.fa (.g 1) 0),
.l 6 (.fa (.l 5) 1),
.l 7 (.ld none (.l 6)),
.l 8 (.fa (.g 1) 2),
.l 9 (.fa (.l 8) 0),
.l 10 (.ld none (.l 9)),
.l 11 (.mk [.int .i64 0, .int .i64 0, .slice none 0 0] [(0, 1, .l 7), (1, 1, .l 10)]),
.g 3 (.new [.int .i64 0, .int .i64 0, .slice none 0 0]),
.n (.st 3 (.g 3) (.l 11))])
(.seq
(.seq
(.reg [
.g 4 (.mv (.i 0))])
(.block 0
(.loop
(.seq
(.seq
(.reg [
.l 12 (.mv (.g 4)),
.l 13 (.fa (.g 1) 4),
.l 14 (.ld none (.l 13)),
.l 15 (.len (.l 14)),
.g 16 (.bin .lss (.l 12) (.l 15))])
(.cond (.g 16)
.skip
(.exit 0)))
(.seq
(.block 1
(.draw [
.l 19 (.fa (.g 3) 2) 0,
.l 20 (.ld none (.l 19)) 1,
.l 21 (.fa (.g 1) 4) 2,
.l 22 (.ld none (.l 21)) 3,
.l 23 (.mv (.g 4)) 4,
.l 24 (.ia 2 (.l 22) (.l 23)) 5,
.l 25 (.fa (.l 24) 0) 6,
.l 26 (.ld none (.l 25)) 7,
.l 27 (.mks false 1 [.l 26]) 8,
.lf 28 (.app 1 8 (.l 20) (.l 27)) 9,
.l 29 (.fa (.g 3) 2) 10,
.n (.st 1 (.l 29) (.l 28)) 11]))
(.reg [
.l 17 (.mv (.g 4)),
.l 18 (.bin .add (.l 17) (.i 1)),
.g 4 (.mv (.l 18))]))))))
(.seq
(.reg [
.l 30 (.ld (some 3) (.g 3)),
.n (.st 3 (.g 2) (.l 30))])
.ret))))
def K74 : List Nat := [0, 16, 2, 1, 3, 4]
noncomputable def b74 : Code := match Try.f74.body with | some c => c | none => .skip
theorem t74 : trCode ⟨Try.prog, K74, [], 31, none⟩ b74 = some c74 := by kernel_rfl
theorem go74 : GoS Try.prog 74 1 K74 [] 31 c74 [.cell (.g 2) (some 3)] := .mk Try.func74 (c := b74) rfl (by kernel_rfl) t74 rfl (by kernel_rfl) rfl rfl

/-- sastrugi/sastrugiref08.cost -/
def c75 : ACode :=
  (.seq
(.reg [
.g 3 (.box (.g 0)),
.g 4 (.box (.g 1)),
.g 6 (.mv (.i 0))])
(.seq
(.draw [
.l 10 (.ld (some 6) (.g 3)) 0,
.l 11 (.ld (some 6) (.g 3)) 1,
.l 12 (.ld (some 3) (.g 4)) 2,
.l 13 (.mv (.g 2)) 3,
.lf 14 (.call (.c (.fn 90 [])) [.l 11, .l 12, .l 13]) 4,
.lf 15 (.call (.c (.fn 89 [])) [.l 10, .l 14]) 5,
.l 9 (.mv (.l 15)) 6,
.l 16 (.ex (.l 9) 0) 7,
.l 17 (.ex (.l 9) 1) 8,
.l 7 (.mv (.l 16)) 9,
.g 8 (.mv (.l 17)) 10])
(.seq
(.reg [
.l 18 (.mv (.g 8)),
.g 6 (.mv (.l 18))])
.ret)))
def K75 : List Nat := [0, 1, 2, 6, 3, 4, 8]
noncomputable def b75 : Code := match Try.f75.body with | some c => c | none => .skip
theorem t75 : trCode ⟨Try.prog, K75, [], 19, none⟩ b75 = some c75 := by kernel_rfl
theorem go75 : GoS Try.prog 75 3 K75 [] 19 c75 [.t (.g 6)] := .mk Try.func75 (c := b75) rfl (by kernel_rfl) t75 rfl (by kernel_rfl) rfl rfl

/-- (sastrugi/freight.season).room -/
def c76 : ACode :=
  (.seq
(.reg [
.g 2 (.box (.g 0)),
.g 4 (.mv (.i 0))])
(.seq
(.seq
(.reg [
.l 5 (.mv (.g 1)),
.l 6 (.fa (.g 2) 6),
.l 7 (.fa (.l 6) 0),
.l 8 (.ld none (.l 7)),
.l 9 (.fa (.g 2) 6),
.l 10 (.fa (.l 9) 1),
.l 11 (.ld none (.l 10)),
.l 12 (.call (.c (.fn 65 [])) [.l 5, .l 8, .l 11]),
.g 13 (.un .not (.l 12))])
(.cond (.g 13)
(.seq
(.reg [
.g 4 (.mv (.i 0))])
.ret)
.skip))
(.seq
(.reg [
.l 14 (.fa (.g 2) 6),
.l 15 (.fa (.l 14) 2),
.l 16 (.ld none (.l 15)),
.l 17 (.mv (.g 1)),
.l 18 (.ia 1 (.l 16) (.l 17)),
.l 19 (.ld none (.l 18)),
.g 4 (.mv (.l 19))])
.ret)))
def K76 : List Nat := [0, 1, 13, 4, 2]
noncomputable def b76 : Code := match Try.f76.body with | some c => c | none => .skip
theorem t76 : trCode ⟨Try.prog, K76, [], 20, none⟩ b76 = some c76 := by kernel_rfl
theorem go76 : GoS Try.prog 76 2 K76 [] 20 c76 [.t (.g 4)] := .mk Try.func76 (c := b76) rfl (by kernel_rfl) t76 rfl (by kernel_rfl) rfl rfl

end Go.Sas
