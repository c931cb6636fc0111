/-
The code of some functions with its types resolved, printed by a program; that it is the code is checked by the kernel.
The code of some functions with its types resolved, printed by a program; that it is the code is checked by the kernel.
The code of some functions with its types resolved, printed by a program; that it is the code is checked by the kernel.
Conditions: none.
-/
import Derived.Test.YtajegdbljldakaaP4
import Derived.Test.YtajegdbljldakaaProg
set_option linter.unusedVariables false
set_option linter.unusedSimpArgs false
namespace Go.Sas
open Go.Proofs
set_option maxRecDepth 100000
/-- sastrugi/probe.Check -/
def c33 : ACode :=
  (.seq
(.reg [
.g 1 (.box (.g 0)),
.g 2 (.mv (.i 0))])
(.seq
(.block 0
(.seq
(.reg [
.l 8 (.fa (.g 1) 0),
.l 9 (.ld none (.l 8)),
.l 10 (.len (.l 9)),
.l 11 (.bin .eql (.l 10) (.i 0)),
.g 7 (.mv (.l 11))])
(.cond (.g 7)
(.seq
(.reg [
.g 2 (.mv (.i 6))])
.ret)
(.seq
(.reg [
.l 13 (.fa (.g 1) 0),
.l 14 (.ld none (.l 13)),
.l 15 (.len (.l 14)),
.l 16 (.bin .gtr (.l 15) (.i 20)),
.g 12 (.mv (.l 16))])
(.cond (.g 12)
(.seq
(.reg [
.g 2 (.mv (.i 8))])
.ret)
.skip)))))
(.seq
(.seq
(.reg [
.l 17 (.fa (.g 1) 0),
.g 18 (.ld none (.l 17)),
.g 19 (.len (.g 18)),
.g 20 (.mv (.i 0))])
(.block 1
(.loop
(.seq
(.reg [
.g 21 (.bin .lss (.g 20) (.g 19))])
(.seq
(.cond (.g 21)
.skip
(.exit 1))
(.seq
(.block 2
(.seq
(.reg [
.l 22 (.ia 5 (.g 18) (.g 20)),
.l 23 (.ld (some 5) (.l 22)),
.g 4 (.new [.int .i64 0, .int .i64 0, .int .i64 0, .int .i64 0, .int .i64 0]),
.n (.st 5 (.g 4) (.l 23))])
(.seq
(.reg [
.l 24 (.fa (.g 4) 0),
.l 25 (.ld none (.l 24)),
.l 26 (.call (.c (.fn 75 [])) [.l 25, .i 1, .i 1000]),
.l 27 (.un .not (.l 26)),
.l 28 (.mv (.l 27)),
.lw 29 (.fa (.g 4) 1) (.l 28) false,
.lw 30 (.ld none (.l 29)) (.l 28) false,
.lw 31 (.call (.c (.fn 75 [])) [.l 30, .i 0, .i 3000]) (.l 28) false,
.lw 32 (.un .not (.l 31)) (.l 28) false,
.l 33 (.pick (.l 28) (.b true) (.l 32)),
.l 34 (.mv (.l 33)),
.lw 35 (.fa (.g 4) 2) (.l 34) false,
.lw 36 (.ld none (.l 35)) (.l 34) false,
.lw 37 (.call (.c (.fn 75 [])) [.l 36, .i 0, .i 1000]) (.l 34) false,
.lw 38 (.un .not (.l 37)) (.l 34) false,
.l 39 (.pick (.l 34) (.b true) (.l 38)),
.l 40 (.mv (.l 39)),
.lw 41 (.fa (.g 4) 3) (.l 40) false,
.lw 42 (.ld none (.l 41)) (.l 40) false,
.lw 43 (.call (.c (.fn 75 [])) [.l 42, .i 0, .i 1000]) (.l 40) false,
.lw 44 (.un .not (.l 43)) (.l 40) false,
.l 45 (.pick (.l 40) (.b true) (.l 44)),
.l 46 (.mv (.l 45)),
.lw 47 (.fa (.g 4) 4) (.l 46) false,
.lw 48 (.ld none (.l 47)) (.l 46) false,
.lw 49 (.call (.c (.fn 75 [])) [.l 48, .i 0, .i 10000]) (.l 46) false,
.lw 50 (.un .not (.l 49)) (.l 46) false,
.g 51 (.pick (.l 46) (.b true) (.l 50))])
(.cond (.g 51)
(.seq
(.reg [
.g 2 (.mv (.i 2))])
.ret)
.skip))))
(.reg [
.l 52 (.bin .add (.g 20) (.i 1)),
.g 20 (.mv (.l 52))])))))))
(.seq
(.seq
(.reg [
.l 53 (.ld (some 4) (.g 1)),
.l 54 (.call (.c (.fn 79 [])) [.l 53]),
.g 55 (.bin .gtr (.l 54) (.i 1000))])
(.cond (.g 55)
(.seq
(.reg [
.g 2 (.mv (.i 8))])
.ret)
.skip))
(.seq
(.seq
(.reg [
.l 56 (.fa (.g 1) 1),
.g 57 (.ld (some 3) (.l 56)),
.g 58 (.mv (.i 0))])
(.block 3
(.loop
(.seq
(.reg [
.g 59 (.bin .lss (.g 58) (.i 3))])
(.seq
(.cond (.g 59)
.skip
(.exit 3))
(.seq
(.block 4
(.seq
(.reg [
.l 60 (.ix 3 1 none (.g 57) (.g 58)),
.g 6 (.mv (.l 60))])
(.seq
(.reg [
.l 61 (.mv (.g 6)),
.l 62 (.call (.c (.fn 75 [])) [.l 61, .i 0, .i 50]),
.g 63 (.un .not (.l 62))])
(.cond (.g 63)
(.seq
(.reg [
.g 2 (.mv (.i 2))])
.ret)
.skip))))
(.reg [
.l 64 (.bin .add (.g 58) (.i 1)),
.g 58 (.mv (.l 64))])))))))
(.seq
(.reg [
.g 2 (.mv (.i 0))])
.ret))))))
def K33 : List Nat := [0, 7, 12, 21, 51, 55, 59, 63, 2, 1, 18, 19, 20, 4, 57, 58, 6]
noncomputable def b33 : Code := match Try.f33.body with | some c => c | none => .skip
theorem t33 : trCode ⟨Try.prog, K33, [], 65, none⟩ b33 = some c33 := by kernel_rfl
theorem go33 : GoS Try.prog 33 1 K33 [] 65 c33 [.t (.g 2)] := .mk Try.func33 (c := b33) rfl (by kernel_rfl) t33 rfl (by kernel_rfl) rfl rfl
/-- sastrugi/probe.looked -/
def c74 : ACode :=
  (.seq
(.reg [
.g 2 (.box (.g 0)),
.g 4 (.new [.slice none 0 0, .int .i64 0, .int .i64 0, .int .i64 0, .slice none 0 0, .slice none 0 0]),
.g 5 (.mv (.i 0))])
(.seq
(.seq
(.reg [
.l 8 (.ld (some 4) (.g 2)),
.l 9 (.call (.c (.fn 33 [])) [.l 8]),
.g 6 (.mv (.l 9))])
(.seq
(.reg [
.l 10 (.mv (.g 6)),
.g 11 (.bin .neq (.l 10) (.i 0))])
(.cond (.g 11)
(.seq
(.reg [
.l 12 (.mk [.slice none 0 0, .int .i64 0, .int .i64 0, .int .i64 0, .slice none 0 0, .slice none 0 0] []),
.l 13 (.mv (.g 6)),
.n (.st 6 (.g 4) (.l 12)),
.g 5 (.mv (.l 13))])
.ret)
.skip)))
(.seq
(.reg [
.l 14 (.ld (some 4) (.g 2)),
.l 15 (.call (.c (.fn 103 [])) [.l 14]),
.g 7 (.new [.slice none 0 0, .int .i64 0, .int .i64 0, .int .i64 0, .slice none 0 0, .slice none 0 0]),
.n (.st 6 (.g 7) (.l 15))])
(.seq
(.draw [
.l 16 (.ld (some 6) (.g 7)) 0,
.l 17 (.ld (some 6) (.g 7)) 1,
.l 18 (.mv (.g 1)) 2,
.lf 19 (.call (.c (.fn 104 [])) [.l 17, .l 18]) 3,
.nf (.st 6 (.g 4) (.l 16)) 4,
.gf 5 (.mv (.l 19)) 5])
.ret))))
def K74 : List Nat := [0, 1, 11, 4, 5, 2, 6, 7]
noncomputable def b74 : Code := match Try.f74.body with | some c => c | none => .skip
theorem t74 : trCode ⟨Try.prog, K74, [], 20, none⟩ b74 = some c74 := by kernel_rfl
theorem go74 : GoS Try.prog 74 2 K74 [] 20 c74 [.cell (.g 4) (some 6), .t (.g 5)] := .mk Try.func74 (c := b74) rfl (by kernel_rfl) t74 rfl (by kernel_rfl) rfl rfl
/-- sastrugi/probe.in -/
def c75 : ACode :=
  (.seq
(.reg [
.g 6 (.mv (.b false))])
(.seq
(.reg [
.l 7 (.mv (.g 1)),
.l 8 (.mv (.g 0)),
.l 9 (.bin .leq (.l 7) (.l 8)),
.l 10 (.mv (.l 9)),
.lw 11 (.mv (.g 0)) (.l 10) true,
.lw 12 (.mv (.g 2)) (.l 10) true,
.lw 13 (.bin .leq (.l 11) (.l 12)) (.l 10) true,
.l 14 (.pick (.l 10) (.l 13) (.b false)),
.g 6 (.mv (.l 14))])
.ret))
def K75 : List Nat := [0, 1, 2, 6]
noncomputable def b75 : Code := match Try.f75.body with | some c => c | none => .skip
theorem t75 : trCode ⟨Try.prog, K75, [], 15, none⟩ b75 = some c75 := by kernel_rfl
theorem go75 : GoS Try.prog 75 3 K75 [] 15 c75 [.t (.g 6)] := .mk Try.func75 (c := b75) rfl (by kernel_rfl) t75 rfl (by kernel_rfl) rfl rfl
/-- sastrugi/probe.places -/
def c79 : ACode :=
  (.seq
(.reg [
.g 1 (.box (.g 0)),
.g 2 (.mv (.i 0))])
(.seq
(.reg [
.g 3 (.mv (.i 0))])
(.seq
(.seq
(.reg [
.l 6 (.fa (.g 1) 0),
.g 7 (.ld none (.l 6)),
.g 8 (.len (.g 7)),
.g 9 (.mv (.i 0))])
(.block 0
(.loop
(.seq
(.reg [
.g 10 (.bin .lss (.g 9) (.g 8))])
(.seq
(.cond (.g 10)
.skip
(.exit 0))
(.seq
(.block 1
(.seq
(.reg [
.l 11 (.ia 5 (.g 7) (.g 9)),
.l 12 (.ld (some 5) (.l 11)),
.g 5 (.new [.int .i64 0, .int .i64 0, .int .i64 0, .int .i64 0, .int .i64 0]),
.n (.st 5 (.g 5) (.l 12))])
(.reg [
.l 13 (.mv (.g 3)),
.l 14 (.fa (.g 5) 0),
.l 15 (.ld none (.l 14)),
.l 16 (.bin .add (.l 13) (.l 15)),
.g 3 (.mv (.l 16))])))
(.reg [
.l 17 (.bin .add (.g 9) (.i 1)),
.g 9 (.mv (.l 17))])))))))
(.seq
(.reg [
.l 18 (.mv (.g 3)),
.g 2 (.mv (.l 18))])
.ret))))
def K79 : List Nat := [0, 10, 2, 1, 3, 7, 8, 9, 5]
noncomputable def b79 : Code := match Try.f79.body with | some c => c | none => .skip
theorem t79 : trCode ⟨Try.prog, K79, [], 19, none⟩ b79 = some c79 := by kernel_rfl
theorem go79 : GoS Try.prog 79 1 K79 [] 19 c79 [.t (.g 2)] := .mk Try.func79 (c := b79) rfl (by kernel_rfl) t79 rfl (by kernel_rfl) rfl rfl
/-- sastrugi/probe.groundOf -/
def c103 : ACode :=
  (.seq
(.reg [
.g 1 (.box (.g 0)),
.g 2 (.new [.slice none 0 0, .int .i64 0, .int .i64 0, .int .i64 0, .slice none 0 0, .slice none 0 0])])
(.seq
(.reg [
.l 7 (.ld (some 4) (.g 1)),
.l 8 (.mk [.slice none 0 0, .int .i64 0, .int .i64 0, .int .i64 0, .slice none 0 0, .slice none 0 0] [(0, 4, .l 7)]),
.g 3 (.new [.slice none 0 0, .int .i64 0, .int .i64 0, .int .i64 0, .slice none 0 0, .slice none 0 0]),
.n (.st 6 (.g 3) (.l 8))])
(.seq
(.reg [
.g 4 (.new [.int .i64 0]),
.n (.st 1 (.g 4) (.i 0))])
(.seq
(.seq
(.reg [
.l 9 (.ld (some 4) (.g 1)),
.g 10 (.call (.c (.fn 113 [])) [.l 9])])
(.block 0
(.rng (.g 10) [11, 12]
(.reg [
.g 6 (.new [.int .i64 0, .int .i64 0, .int .i64 0, .int .i64 0, .int .i64 0]),
.n (.st 5 (.g 6) (.g 12))])
(.block 1
(.seq
(.draw [
.l 13 (.fa (.g 3) 4) 0,
.l 14 (.ld none (.l 13)) 1,
.l 15 (.ld none (.g 4)) 2,
.l 16 (.mks false 1 [.l 15]) 3,
.l 18 (.fa (.g 3) 5) 5,
.l 19 (.ld none (.l 18)) 6,
.lf 20 (.ld (some 5) (.g 6)) 7,
.l 21 (.mks false 5 [.l 20]) 8,
.lf 17 (.app 1 8 (.l 14) (.l 16)) 4,
.l 23 (.fa (.g 3) 4) 10,
.lf 22 (.app 5 40 (.l 19) (.l 21)) 9,
.nf (.st 1 (.l 23) (.l 17)) 11,
.lf 24 (.fa (.g 3) 5) 12,
.n (.st 1 (.l 24) (.l 22)) 13])
(.reg [
.l 25 (.ld none (.g 4)),
.l 26 (.fa (.g 6) 1),
.l 27 (.ld none (.l 26)),
.l 28 (.bin .add (.l 25) (.l 27)),
.n (.st 1 (.g 4) (.l 28))]))))))
(.seq
(.reg [
.l 29 (.ld (some 6) (.g 3)),
.n (.st 6 (.g 2) (.l 29))])
.ret)))))
def K103 : List Nat := [0, 10, 11, 12, 2, 1, 3, 4, 6]
noncomputable def b103 : Code := match Try.f103.body with | some c => c | none => .skip
theorem t103 : trCode ⟨Try.prog, K103, [], 30, none⟩ b103 = some c103 := by kernel_rfl
theorem go103 : GoS Try.prog 103 1 K103 [] 30 c103 [.cell (.g 2) (some 6)] := .mk Try.func103 (c := b103) rfl (by kernel_rfl) t103 rfl (by kernel_rfl) rfl rfl
/-- sastrugi/probe.checkLooks -/
def c104 : ACode :=
  (.seq
(.reg [
.g 2 (.box (.g 0)),
.g 4 (.mv (.i 0))])
(.seq
(.seq
(.reg [
.l 11 (.mv (.g 1)),
.l 12 (.len (.l 11)),
.g 13 (.bin .gtr (.l 12) (.i 200))])
(.cond (.g 13)
(.seq
(.reg [
.g 4 (.mv (.i 8))])
.ret)
.skip))
(.seq
(.seq
(.reg [
.g 14 (.mv (.g 1)),
.g 15 (.len (.g 14)),
.g 16 (.mv (.i 0))])
(.block 0
(.loop
(.seq
(.reg [
.g 17 (.bin .lss (.g 16) (.g 15))])
(.seq
(.cond (.g 17)
.skip
(.exit 0))
(.seq
(.block 1
(.seq
(.reg [
.l 18 (.ia 5 (.g 14) (.g 16)),
.l 19 (.ld (some 5) (.l 18)),
.g 6 (.new [.int .i64 0, .int .i64 0, .int .i64 0, .int .i64 0, .int .i64 0]),
.n (.st 5 (.g 6) (.l 19))])
(.block 2
(.seq
(.reg [
.l 21 (.fa (.g 6) 0),
.l 22 (.ld none (.l 21)),
.l 23 (.call (.c (.fn 75 [])) [.l 22, .i 1, .i 3]),
.l 24 (.un .not (.l 23)),
.g 20 (.mv (.l 24))])
(.cond (.g 20)
(.seq
(.reg [
.g 4 (.mv (.i 4))])
.ret)
(.seq
(.reg [
.l 26 (.fa (.g 6) 1),
.l 27 (.ld none (.l 26)),
.l 28 (.fa (.g 2) 5),
.l 29 (.ld none (.l 28)),
.l 30 (.len (.l 29)),
.l 31 (.bin .sub (.l 30) (.i 1)),
.l 32 (.call (.c (.fn 75 [])) [.l 27, .i 0, .l 31]),
.l 33 (.un .not (.l 32)),
.g 25 (.mv (.l 33))])
(.cond (.g 25)
(.seq
(.reg [
.g 4 (.mv (.i 7))])
.ret)
(.seq
(.reg [
.l 35 (.fa (.g 6) 2),
.l 36 (.ld none (.l 35)),
.l 37 (.call (.c (.fn 75 [])) [.l 36, .i 0, .i 10000]),
.l 38 (.un .not (.l 37)),
.l 39 (.mv (.l 38)),
.lw 40 (.fa (.g 6) 3) (.l 39) false,
.lw 41 (.fa (.l 40) 0) (.l 39) false,
.lw 42 (.ld none (.l 41)) (.l 39) false,
.lw 43 (.call (.c (.fn 75 [])) [.l 42, .i 0, .i 3000]) (.l 39) false,
.lw 44 (.un .not (.l 43)) (.l 39) false,
.l 45 (.pick (.l 39) (.b true) (.l 44)),
.l 46 (.mv (.l 45)),
.lw 47 (.fa (.g 6) 3) (.l 46) false,
.lw 48 (.fa (.l 47) 1) (.l 46) false,
.lw 49 (.ld none (.l 48)) (.l 46) false,
.lw 50 (.call (.c (.fn 75 [])) [.l 49, .i 0, .i 3000]) (.l 46) false,
.lw 51 (.un .not (.l 50)) (.l 46) false,
.l 52 (.pick (.l 46) (.b true) (.l 51)),
.g 34 (.mv (.l 52))])
(.cond (.g 34)
(.seq
(.reg [
.g 4 (.mv (.i 2))])
.ret)
(.seq
(.reg [
.l 54 (.fa (.g 6) 3),
.l 55 (.fa (.l 54) 0),
.l 56 (.ld none (.l 55)),
.l 57 (.fa (.g 6) 3),
.l 58 (.fa (.l 57) 1),
.l 59 (.ld none (.l 58)),
.l 60 (.bin .gtr (.l 56) (.l 59)),
.g 53 (.mv (.l 60))])
(.cond (.g 53)
(.seq
(.reg [
.g 4 (.mv (.i 11))])
.ret)
.skip)))))))))))
(.reg [
.l 61 (.bin .add (.g 16) (.i 1)),
.g 16 (.mv (.l 61))])))))))
(.seq
(.seq
(.reg [
.g 62 (.mv (.g 1)),
.g 63 (.len (.g 62)),
.g 64 (.mv (.i 0))])
(.block 3
(.loop
(.seq
(.reg [
.g 65 (.bin .lss (.g 64) (.g 63))])
(.seq
(.cond (.g 65)
.skip
(.exit 3))
(.seq
(.block 4
(.seq
(.reg [
.l 66 (.ia 5 (.g 62) (.g 64)),
.l 67 (.ld (some 5) (.l 66)),
.g 8 (.new [.int .i64 0, .int .i64 0, .int .i64 0, .int .i64 0, .int .i64 0]),
.n (.st 5 (.g 8) (.l 67))])
(.seq
(.reg [
.g 68 (.mv (.g 1)),
.g 69 (.len (.g 68)),
.g 70 (.mv (.i 0))])
(.block 5
(.loop
(.seq
(.reg [
.g 71 (.bin .lss (.g 70) (.g 69))])
(.seq
(.cond (.g 71)
.skip
(.exit 5))
(.seq
(.block 6
(.seq
(.reg [
.l 72 (.ia 5 (.g 68) (.g 70)),
.l 73 (.ld (some 5) (.l 72)),
.g 10 (.new [.int .i64 0, .int .i64 0, .int .i64 0, .int .i64 0, .int .i64 0]),
.n (.st 5 (.g 10) (.l 73))])
(.seq
(.draw [
.l 74 (.fa (.g 10) 3) 0,
.l 75 (.fa (.l 74) 0) 1,
.l 76 (.ld none (.l 75)) 2,
.l 77 (.fa (.g 8) 3) 3,
.l 78 (.fa (.l 77) 1) 4,
.l 79 (.ld none (.l 78)) 5,
.l 80 (.ld (some 6) (.g 2)) 6,
.l 81 (.ld (some 5) (.g 8)) 7,
.l 82 (.fa (.g 10) 1) 8,
.l 83 (.ld none (.l 82)) 9,
.l 84 (.fa (.g 10) 2) 10,
.l 85 (.ld none (.l 84)) 11,
.lf 86 (.call (.c (.fn 106 [])) [.l 80, .l 81, .l 83, .l 85]) 12,
.l 87 (.bin .add (.l 79) (.l 86)) 13,
.g 88 (.bin .gtr (.l 76) (.l 87)) 14])
(.cond (.g 88)
(.seq
(.reg [
.g 4 (.mv (.i 12))])
.ret)
.skip))))
(.reg [
.l 89 (.bin .add (.g 70) (.i 1)),
.g 70 (.mv (.l 89))])))))))))
(.reg [
.l 90 (.bin .add (.g 64) (.i 1)),
.g 64 (.mv (.l 90))])))))))
(.seq
(.reg [
.g 4 (.mv (.i 0))])
.ret)))))
def K104 : List Nat := [0, 1, 13, 17, 20, 25, 34, 53, 65, 71, 88, 4, 2, 14, 15, 16, 6, 62, 63, 64, 8, 68, 69, 70, 10]
noncomputable def b104 : Code := match Try.f104.body with | some c => c | none => .skip
theorem t104 : trCode ⟨Try.prog, K104, [], 91, none⟩ b104 = some c104 := by kernel_rfl
theorem go104 : GoS Try.prog 104 2 K104 [] 91 c104 [.t (.g 4)] := .mk Try.func104 (c := b104) rfl (by kernel_rfl) t104 rfl (by kernel_rfl) rfl rfl
/-- (sastrugi/probe.ground).below -/
def c105 : ACode :=
  (.seq
(.reg [
.g 4 (.box (.g 0)),
.g 5 (.box (.g 1)),
.g 8 (.mv (.i 0))])
(.seq
(.seq
(.reg [
.l 9 (.mv (.g 3)),
.l 10 (.fa (.g 5) 2),
.l 11 (.ld none (.l 10)),
.g 12 (.bin .geq (.l 9) (.l 11))])
(.cond (.g 12)
(.seq
(.reg [
.l 13 (.ld (some 6) (.g 4)),
.l 14 (.fa (.g 5) 1),
.l 15 (.ld none (.l 14)),
.l 16 (.mv (.g 2)),
.l 17 (.mv (.g 3)),
.l 18 (.fa (.g 5) 2),
.l 19 (.ld none (.l 18)),
.l 20 (.bin .sub (.l 17) (.l 19)),
.l 21 (.call (.c (.fn 115 [])) [.l 13, .l 15, .l 16, .l 20, .c (.fn 116 [])]),
.g 8 (.mv (.l 21))])
.ret)
.skip))
(.seq
(.reg [
.l 22 (.ld (some 6) (.g 4)),
.l 23 (.fa (.g 5) 1),
.l 24 (.ld none (.l 23)),
.l 25 (.mv (.g 2)),
.l 26 (.fa (.g 5) 2),
.l 27 (.ld none (.l 26)),
.l 28 (.mv (.g 3)),
.l 29 (.bin .sub (.l 27) (.l 28)),
.l 30 (.call (.c (.fn 115 [])) [.l 22, .l 24, .l 25, .l 29, .c (.fn 117 [])]),
.g 8 (.mv (.l 30))])
.ret)))
def K105 : List Nat := [0, 1, 2, 3, 12, 8, 4, 5]
noncomputable def b105 : Code := match Try.f105.body with | some c => c | none => .skip
theorem t105 : trCode ⟨Try.prog, K105, [], 31, none⟩ b105 = some c105 := by kernel_rfl
theorem go105 : GoS Try.prog 105 4 K105 [] 31 c105 [.t (.g 8)] := .mk Try.func105 (c := b105) rfl (by kernel_rfl) t105 rfl (by kernel_rfl) rfl rfl
/-- (sastrugi/probe.ground).above -/
def c106 : ACode :=
  (.seq
(.reg [
.g 4 (.box (.g 0)),
.g 5 (.box (.g 1)),
.g 8 (.mv (.i 0))])
(.seq
(.seq
(.reg [
.l 9 (.mv (.g 3)),
.l 10 (.fa (.g 5) 2),
.l 11 (.ld none (.l 10)),
.g 12 (.bin .geq (.l 9) (.l 11))])
(.cond (.g 12)
(.seq
(.reg [
.l 13 (.ld (some 6) (.g 4)),
.l 14 (.fa (.g 5) 1),
.l 15 (.ld none (.l 14)),
.l 16 (.mv (.g 2)),
.l 17 (.mv (.g 3)),
.l 18 (.fa (.g 5) 2),
.l 19 (.ld none (.l 18)),
.l 20 (.bin .sub (.l 17) (.l 19)),
.l 21 (.call (.c (.fn 115 [])) [.l 13, .l 15, .l 16, .l 20, .c (.fn 117 [])]),
.g 8 (.mv (.l 21))])
.ret)
.skip))
(.seq
(.reg [
.l 22 (.ld (some 6) (.g 4)),
.l 23 (.fa (.g 5) 1),
.l 24 (.ld none (.l 23)),
.l 25 (.mv (.g 2)),
.l 26 (.fa (.g 5) 2),
.l 27 (.ld none (.l 26)),
.l 28 (.mv (.g 3)),
.l 29 (.bin .sub (.l 27) (.l 28)),
.l 30 (.call (.c (.fn 115 [])) [.l 22, .l 24, .l 25, .l 29, .c (.fn 116 [])]),
.g 8 (.mv (.l 30))])
.ret)))
def K106 : List Nat := [0, 1, 2, 3, 12, 8, 4, 5]
noncomputable def b106 : Code := match Try.f106.body with | some c => c | none => .skip
theorem t106 : trCode ⟨Try.prog, K106, [], 31, none⟩ b106 = some c106 := by kernel_rfl
theorem go106 : GoS Try.prog 106 4 K106 [] 31 c106 [.t (.g 8)] := .mk Try.func106 (c := b106) rfl (by kernel_rfl) t106 rfl (by kernel_rfl) rfl rfl
/-- sastrugi/probe.road -/
def c113 : ACode :=
  (.seq
(.reg [
.g 1 (.box (.g 0)),
.g 2 (.mv (.c (.lit (.nilFunc))))])
(.seq
(.reg [
.l 3 (.mkf 122 [.g 1]),
.g 2 (.mv (.l 3))])
.ret))
def K113 : List Nat := [0, 2, 1]
noncomputable def b113 : Code := match Try.f113.body with | some c => c | none => .skip
theorem t113 : trCode ⟨Try.prog, K113, [], 4, none⟩ b113 = some c113 := by kernel_rfl
theorem go113 : GoS Try.prog 113 1 K113 [] 4 c113 [.t (.g 2)] := .mk Try.func113 (c := b113) rfl (by kernel_rfl) t113 rfl (by kernel_rfl) rfl rfl
/-- (sastrugi/probe.ground).cost -/
def c115 : ACode :=
  (.seq
(.reg [
.g 5 (.box (.g 0)),
.g 6 (.box (.g 1)),
.g 7 (.box (.g 2)),
.g 8 (.box (.g 3)),
.g 9 (.box (.g 4)),
.g 10 (.mv (.i 0))])
(.seq
(.reg [
.l 17 (.ld none (.g 6)),
.l 18 (.ld none (.g 7)),
.l 19 (.mn [.l 17, .l 18]),
.g 11 (.mv (.l 19))])
(.seq
(.reg [
.l 20 (.mkf 123 [.g 5, .g 6, .g 7, .g 8, .g 9]),
.g 12 (.mv (.l 20))])
(.seq
(.reg [
.l 21 (.mv (.g 12)),
.l 22 (.ld none (.g 6)),
.l 23 (.call (.l 21) [.l 22]),
.g 13 (.mv (.l 23))])
(.seq
(.reg [
.g 14 (.mv (.i 0))])
(.seq
(.seq
(.reg [
.l 24 (.fa (.g 5) 0),
.l 25 (.fa (.l 24) 0),
.g 26 (.ld none (.l 25)),
.g 27 (.len (.g 26)),
.g 28 (.mv (.i 0))])
(.block 0
(.loop
(.seq
(.reg [
.g 29 (.bin .lss (.g 28) (.g 27))])
(.seq
(.cond (.g 29)
.skip
(.exit 0))
(.seq
(.block 1
(.seq
(.reg [
.l 30 (.ia 5 (.g 26) (.g 28)),
.l 31 (.ld (some 5) (.l 30)),
.g 16 (.new [.int .i64 0, .int .i64 0, .int .i64 0, .int .i64 0, .int .i64 0]),
.n (.st 5 (.g 16) (.l 31))])
(.seq
(.reg [
.l 32 (.mv (.g 13)),
.l 33 (.mv (.g 12)),
.l 34 (.mv (.g 11)),
.l 35 (.mv (.g 14)),
.l 36 (.mx [.l 34, .l 35]),
.l 37 (.mv (.g 14)),
.l 38 (.fa (.g 16) 0),
.l 39 (.ld none (.l 38)),
.l 40 (.bin .add (.l 37) (.l 39)),
.l 41 (.bin .sub (.l 40) (.i 1)),
.l 42 (.mn [.l 36, .l 41]),
.l 43 (.call (.l 33) [.l 42]),
.l 44 (.mn [.l 32, .l 43]),
.g 13 (.mv (.l 44))])
(.reg [
.l 45 (.mv (.g 14)),
.l 46 (.fa (.g 16) 0),
.l 47 (.ld none (.l 46)),
.l 48 (.bin .add (.l 45) (.l 47)),
.g 14 (.mv (.l 48))]))))
(.reg [
.l 49 (.bin .add (.g 28) (.i 1)),
.g 28 (.mv (.l 49))])))))))
(.seq
(.reg [
.l 50 (.mv (.g 13)),
.g 10 (.mv (.l 50))])
.ret)))))))
def K115 : List Nat := [0, 1, 2, 3, 4, 29, 10, 5, 6, 7, 8, 9, 11, 12, 13, 14, 26, 27, 28, 16]
noncomputable def b115 : Code := match Try.f115.body with | some c => c | none => .skip
theorem t115 : trCode ⟨Try.prog, K115, [], 51, none⟩ b115 = some c115 := by kernel_rfl
theorem go115 : GoS Try.prog 115 5 K115 [] 51 c115 [.t (.g 10)] := .mk Try.func115 (c := b115) rfl (by kernel_rfl) t115 rfl (by kernel_rfl) rfl rfl
/-- sastrugi/probe.thin -/
def c116 : ACode :=
  (.seq
(.reg [
.g 1 (.box (.g 0)),
.g 2 (.mv (.i 0))])
(.seq
(.reg [
.l 3 (.fa (.g 1) 2),
.l 4 (.ld none (.l 3)),
.g 2 (.mv (.l 4))])
.ret))
def K116 : List Nat := [0, 2, 1]
noncomputable def b116 : Code := match Try.f116.body with | some c => c | none => .skip
theorem t116 : trCode ⟨Try.prog, K116, [], 5, none⟩ b116 = some c116 := by kernel_rfl
theorem go116 : GoS Try.prog 116 1 K116 [] 5 c116 [.t (.g 2)] := .mk Try.func116 (c := b116) rfl (by kernel_rfl) t116 rfl (by kernel_rfl) rfl rfl
/-- sastrugi/probe.grow -/
def c117 : ACode :=
  (.seq
(.reg [
.g 1 (.box (.g 0)),
.g 2 (.mv (.i 0))])
(.seq
(.reg [
.l 3 (.fa (.g 1) 3),
.l 4 (.ld none (.l 3)),
.g 2 (.mv (.l 4))])
.ret))
def K117 : List Nat := [0, 2, 1]
noncomputable def b117 : Code := match Try.f117.body with | some c => c | none => .skip
theorem t117 : trCode ⟨Try.prog, K117, [], 5, none⟩ b117 = some c117 := by kernel_rfl
theorem go117 : GoS Try.prog 117 1 K117 [] 5 c117 [.t (.g 2)] := .mk Try.func117 (c := b117) rfl (by kernel_rfl) t117 rfl (by kernel_rfl) rfl rfl
/-- sastrugi/probe.road$1 -/
def c122 : ACode :=
  (.seq
(.reg [
.g 3 (.mv (.i 0))])
(.seq
(.reg [
.l 6 (.fa (.g 1) 0),
.g 7 (.ld none (.l 6)),
.g 8 (.len (.g 7)),
.g 9 (.mv (.i 0))])
(.block 0
(.loop
(.seq
(.reg [
.g 10 (.bin .lss (.g 9) (.g 8))])
(.seq
(.cond (.g 10)
.skip
(.exit 0))
(.seq
(.block 1
(.seq
(.reg [
.l 11 (.ia 5 (.g 7) (.g 9)),
.l 12 (.ld (some 5) (.l 11)),
.g 5 (.new [.int .i64 0, .int .i64 0, .int .i64 0, .int .i64 0, .int .i64 0]),
.n (.st 5 (.g 5) (.l 12))])
(.seq
(.reg [
.l 13 (.fa (.g 5) 0),
.g 14 (.ld none (.l 13)),
.g 15 (.mv (.i 0))])
(.block 2
(.loop
(.seq
(.reg [
.g 16 (.bin .lss (.g 15) (.g 14))])
(.seq
(.cond (.g 16)
.skip
(.exit 2))
(.seq
(.block 3
(.seq
(.seq
(.reg [
.l 17 (.mv (.g 0)),
.l 18 (.mv (.g 3)),
.l 19 (.ld (some 5) (.g 5)),
.l 20 (.call (.l 17) [.l 18, .l 19]),
.g 21 (.un .not (.l 20))])
(.cond (.g 21)
.ret
.skip))
(.reg [
.l 22 (.mv (.g 3)),
.l 23 (.bin .add (.l 22) (.i 1)),
.g 3 (.mv (.l 23))])))
(.reg [
.l 24 (.bin .add (.g 15) (.i 1)),
.g 15 (.mv (.l 24))])))))))))
(.reg [
.l 25 (.bin .add (.g 9) (.i 1)),
.g 9 (.mv (.l 25))]))))))))
def K122 : List Nat := [0, 1, 10, 16, 21, 3, 7, 8, 9, 5, 14, 15]
noncomputable def b122 : Code := match Try.f122.body with | some c => c | none => .skip
theorem t122 : trCode ⟨Try.prog, K122, [], 26, none⟩ b122 = some c122 := by kernel_rfl
theorem go122 : GoS Try.prog 122 2 K122 [] 26 c122 [] := .mk Try.func122 (c := b122) rfl (by kernel_rfl) t122 rfl (by kernel_rfl) rfl rfl
/-- (sastrugi/probe.ground).cost$1 -/
def c123 : ACode :=
  (.seq
(.reg [
.g 7 (.mv (.i 0))])
(.seq
(.draw [
.l 8 (.ld (some 6) (.g 1)) 0,
.l 9 (.ld none (.g 2)) 1,
.l 10 (.mv (.g 0)) 2,
.l 12 (.ld (some 6) (.g 1)) 4,
.l 13 (.mv (.g 0)) 5,
.l 14 (.ld none (.g 3)) 6,
.l 17 (.ld none (.g 4)) 9,
.l 18 (.ld none (.g 5)) 10,
.l 19 (.fa (.g 1) 5) 11,
.l 20 (.ld none (.l 19)) 12,
.l 21 (.mv (.g 0)) 13,
.l 22 (.ia 5 (.l 20) (.l 21)) 14,
.l 23 (.ld (some 5) (.l 22)) 15,
.lf 11 (.call (.c (.fn 124 [])) [.l 8, .l 9, .l 10]) 3,
.lf 15 (.call (.c (.fn 124 [])) [.l 12, .l 13, .l 14]) 7,
.l 16 (.bin .add (.l 11) (.l 15)) 8,
.lf 24 (.call (.l 18) [.l 23]) 16,
.l 25 (.bin .mul (.l 17) (.l 24)) 17,
.l 26 (.bin .add (.l 16) (.l 25)) 18,
.g 7 (.mv (.l 26)) 19])
.ret))
def K123 : List Nat := [0, 1, 2, 3, 4, 5, 7]
noncomputable def b123 : Code := match Try.f123.body with | some c => c | none => .skip
theorem t123 : trCode ⟨Try.prog, K123, [], 27, none⟩ b123 = some c123 := by kernel_rfl
theorem go123 : GoS Try.prog 123 6 K123 [] 27 c123 [.t (.g 7)] := .mk Try.func123 (c := b123) rfl (by kernel_rfl) t123 rfl (by kernel_rfl) rfl rfl
/-- (sastrugi/probe.ground).apart -/
def c124 : ACode :=
  (.seq
(.reg [
.g 3 (.box (.g 0)),
.g 6 (.mv (.i 0))])
(.seq
(.draw [
.l 7 (.fa (.g 3) 4) 0,
.l 8 (.ld none (.l 7)) 1,
.l 9 (.mv (.g 1)) 2,
.l 10 (.ia 1 (.l 8) (.l 9)) 3,
.l 11 (.ld none (.l 10)) 4,
.l 12 (.fa (.g 3) 4) 5,
.l 13 (.ld none (.l 12)) 6,
.l 14 (.mv (.g 2)) 7,
.l 15 (.ia 1 (.l 13) (.l 14)) 8,
.l 16 (.ld none (.l 15)) 9,
.l 17 (.bin .sub (.l 11) (.l 16)) 10,
.l 18 (.fa (.g 3) 4) 11,
.l 19 (.ld none (.l 18)) 12,
.l 20 (.mv (.g 2)) 13,
.l 21 (.ia 1 (.l 19) (.l 20)) 14,
.l 22 (.ld none (.l 21)) 15,
.l 23 (.fa (.g 3) 4) 16,
.l 24 (.ld none (.l 23)) 17,
.l 25 (.mv (.g 1)) 18,
.l 26 (.ia 1 (.l 24) (.l 25)) 19,
.l 27 (.ld none (.l 26)) 20,
.l 28 (.bin .sub (.l 22) (.l 27)) 21,
.l 29 (.mx [.l 17, .l 28]) 22,
.g 6 (.mv (.l 29)) 23])
.ret))
def K124 : List Nat := [0, 1, 2, 6, 3]
noncomputable def b124 : Code := match Try.f124.body with | some c => c | none => .skip
theorem t124 : trCode ⟨Try.prog, K124, [], 30, none⟩ b124 = some c124 := by kernel_rfl
theorem go124 : GoS Try.prog 124 3 K124 [] 30 c124 [.t (.g 6)] := .mk Try.func124 (c := b124) rfl (by kernel_rfl) t124 rfl (by kernel_rfl) rfl rfl
/-- (sastrugi/probe.ground).known -/
def c76 : ACode :=
  (.seq
(.reg [
.g 4 (.box (.g 0)),
.g 8 (.new [.int .i64 0, .int .i64 0])])
(.seq
(.reg [
.l 12 (.mk [.int .i64 0, .int .i64 0] [(1, 1, .i 3000)]),
.g 9 (.new [.int .i64 0, .int .i64 0]),
.n (.st 2 (.g 9) (.l 12))])
(.seq
(.seq
(.reg [
.g 13 (.mv (.g 1)),
.g 14 (.len (.g 13)),
.g 15 (.mv (.i 0))])
(.block 0
(.loop
(.seq
(.reg [
.g 16 (.bin .lss (.g 15) (.g 14))])
(.seq
(.cond (.g 16)
.skip
(.exit 0))
(.seq
(.block 1
(.seq
(.reg [
.l 17 (.ia 5 (.g 13) (.g 15)),
.l 18 (.ld (some 5) (.l 17)),
.g 11 (.new [.int .i64 0, .int .i64 0, .int .i64 0, .int .i64 0, .int .i64 0]),
.n (.st 5 (.g 11) (.l 18))])
(.seq
(.draw [
.l 19 (.fa (.g 9) 0) 0,
.l 20 (.ld none (.l 19)) 1,
.l 21 (.fa (.g 11) 3) 2,
.l 22 (.fa (.l 21) 0) 3,
.l 23 (.ld none (.l 22)) 4,
.l 24 (.ld (some 6) (.g 4)) 5,
.l 25 (.ld (some 5) (.g 11)) 6,
.l 26 (.mv (.g 2)) 7,
.l 27 (.mv (.g 3)) 8,
.lf 28 (.call (.c (.fn 105 [])) [.l 24, .l 25, .l 26, .l 27]) 9,
.l 29 (.bin .sub (.l 23) (.l 28)) 10,
.l 30 (.mx [.l 20, .l 29]) 11,
.l 31 (.fa (.g 9) 0) 12,
.n (.st 1 (.l 31) (.l 30)) 13])
(.draw [
.l 32 (.fa (.g 9) 1) 0,
.l 33 (.ld none (.l 32)) 1,
.l 34 (.fa (.g 11) 3) 2,
.l 35 (.fa (.l 34) 1) 3,
.l 36 (.ld none (.l 35)) 4,
.l 37 (.ld (some 6) (.g 4)) 5,
.l 38 (.ld (some 5) (.g 11)) 6,
.l 39 (.mv (.g 2)) 7,
.l 40 (.mv (.g 3)) 8,
.lf 41 (.call (.c (.fn 106 [])) [.l 37, .l 38, .l 39, .l 40]) 9,
.l 42 (.bin .add (.l 36) (.l 41)) 10,
.l 43 (.mn [.l 33, .l 42]) 11,
.l 44 (.fa (.g 9) 1) 12,
.n (.st 1 (.l 44) (.l 43)) 13]))))
(.reg [
.l 45 (.bin .add (.g 15) (.i 1)),
.g 15 (.mv (.l 45))])))))))
(.seq
(.reg [
.l 46 (.ld (some 2) (.g 9)),
.n (.st 2 (.g 8) (.l 46))])
.ret))))
def K76 : List Nat := [0, 1, 2, 3, 16, 8, 4, 9, 13, 14, 15, 11]
noncomputable def b76 : Code := match Try.f76.body with | some c => c | none => .skip
theorem t76 : trCode ⟨Try.prog, K76, [], 47, none⟩ b76 = some c76 := by kernel_rfl
theorem go76 : GoS Try.prog 76 4 K76 [] 47 c76 [.cell (.g 8) (some 2)] := .mk Try.func76 (c := b76) rfl (by kernel_rfl) t76 rfl (by kernel_rfl) rfl rfl
/-- sastrugi/probe.Known -/
def c25 : ACode :=
  (.seq
(.reg [
.g 4 (.box (.g 0)),
.g 8 (.new [.int .i64 0, .int .i64 0]),
.g 9 (.mv (.i 0))])
(.seq
(.reg [
.l 13 (.ld (some 4) (.g 4)),
.l 14 (.mv (.g 1)),
.l 15 (.call (.c (.fn 74 [])) [.l 13, .l 14]),
.l 12 (.mv (.l 15)),
.l 16 (.ex (.l 12) 0),
.l 17 (.ex (.l 12) 1),
.g 10 (.new [.slice none 0 0, .int .i64 0, .int .i64 0, .int .i64 0, .slice none 0 0, .slice none 0 0]),
.n (.st 6 (.g 10) (.l 16)),
.g 11 (.mv (.l 17))])
(.seq
(.block 0
(.seq
(.reg [
.l 19 (.mv (.g 11)),
.l 20 (.bin .neq (.l 19) (.i 0)),
.g 18 (.mv (.l 20))])
(.cond (.g 18)
(.seq
(.reg [
.l 21 (.mk [.int .i64 0, .int .i64 0] []),
.l 22 (.mv (.g 11)),
.n (.st 2 (.g 8) (.l 21)),
.g 9 (.mv (.l 22))])
.ret)
(.seq
(.reg [
.l 24 (.mv (.g 2)),
.l 25 (.fa (.g 10) 5),
.l 26 (.ld none (.l 25)),
.l 27 (.len (.l 26)),
.l 28 (.bin .sub (.l 27) (.i 1)),
.l 29 (.call (.c (.fn 75 [])) [.l 24, .i 0, .l 28]),
.l 30 (.un .not (.l 29)),
.g 23 (.mv (.l 30))])
(.cond (.g 23)
(.seq
(.reg [
.l 31 (.mk [.int .i64 0, .int .i64 0] []),
.n (.st 2 (.g 8) (.l 31)),
.g 9 (.mv (.i 7))])
.ret)
(.seq
(.reg [
.l 33 (.mv (.g 3)),
.l 34 (.call (.c (.fn 75 [])) [.l 33, .i 0, .i 10000]),
.l 35 (.un .not (.l 34)),
.g 32 (.mv (.l 35))])
(.cond (.g 32)
(.seq
(.reg [
.l 36 (.mk [.int .i64 0, .int .i64 0] []),
.n (.st 2 (.g 8) (.l 36)),
.g 9 (.mv (.i 2))])
.ret)
.skip)))))))
(.seq
(.reg [
.l 37 (.ld (some 6) (.g 10)),
.l 38 (.mv (.g 1)),
.l 39 (.mv (.g 2)),
.l 40 (.mv (.g 3)),
.l 41 (.call (.c (.fn 76 [])) [.l 37, .l 38, .l 39, .l 40]),
.n (.st 2 (.g 8) (.l 41)),
.g 9 (.mv (.i 0))])
.ret))))
def K25 : List Nat := [0, 1, 2, 3, 18, 23, 32, 8, 9, 4, 10, 11]
noncomputable def b25 : Code := match Try.f25.body with | some c => c | none => .skip
theorem t25 : trCode ⟨Try.prog, K25, [], 42, none⟩ b25 = some c25 := by kernel_rfl
theorem go25 : GoS Try.prog 25 4 K25 [] 42 c25 [.cell (.g 8) (some 2), .t (.g 9)] := .mk Try.func25 (c := b25) rfl (by kernel_rfl) t25 rfl (by kernel_rfl) rfl rfl
/-- sastrugi/probe.CheckMarks -/
def c37 : ACode :=
  (.seq
(.reg [
.g 2 (.box (.g 0)),
.g 4 (.mv (.i 0))])
(.seq
(.seq
(.reg [
.l 6 (.ld (some 4) (.g 2)),
.l 7 (.call (.c (.fn 33 [])) [.l 6]),
.g 5 (.mv (.l 7))])
(.seq
(.reg [
.l 8 (.mv (.g 5)),
.g 9 (.bin .neq (.l 8) (.i 0))])
(.cond (.g 9)
(.seq
(.reg [
.l 10 (.mv (.g 5)),
.g 4 (.mv (.l 10))])
.ret)
.skip)))
(.seq
(.reg [
.l 11 (.ld (some 4) (.g 2)),
.l 12 (.call (.c (.fn 79 [])) [.l 11]),
.l 13 (.mv (.g 1)),
.l 14 (.call (.c (.fn 82 [])) [.l 12, .l 13]),
.g 4 (.mv (.l 14))])
.ret)))
def K37 : List Nat := [0, 1, 9, 4, 2, 5]
noncomputable def b37 : Code := match Try.f37.body with | some c => c | none => .skip
theorem t37 : trCode ⟨Try.prog, K37, [], 15, none⟩ b37 = some c37 := by kernel_rfl
theorem go37 : GoS Try.prog 37 2 K37 [] 15 c37 [.t (.g 4)] := .mk Try.func37 (c := b37) rfl (by kernel_rfl) t37 rfl (by kernel_rfl) rfl rfl
/-- sastrugi/probe.checkMarks -/
def c82 : ACode :=
  (.seq
(.reg [
.g 4 (.mv (.i 0))])
(.seq
(.seq
(.reg [
.l 7 (.mv (.g 1)),
.l 8 (.len (.l 7)),
.g 9 (.bin .gtr (.l 8) (.i 100))])
(.cond (.g 9)
(.seq
(.reg [
.g 4 (.mv (.i 8))])
.ret)
.skip))
(.seq
(.seq
(.reg [
.g 10 (.mv (.g 1)),
.g 11 (.len (.g 10)),
.g 12 (.mv (.i 0))])
(.block 0
(.loop
(.seq
(.reg [
.g 13 (.bin .lss (.g 12) (.g 11))])
(.seq
(.cond (.g 13)
.skip
(.exit 0))
(.seq
(.block 1
(.seq
(.reg [
.l 14 (.ia 5 (.g 10) (.g 12)),
.l 15 (.ld (some 5) (.l 14)),
.g 6 (.new [.int .i64 0, .int .i64 0, .int .i64 0, .int .i64 0, .int .i64 0]),
.n (.st 5 (.g 6) (.l 15))])
(.block 2
(.seq
(.reg [
.l 17 (.fa (.g 6) 0),
.l 18 (.ld none (.l 17)),
.l 19 (.call (.c (.fn 75 [])) [.l 18, .i 1, .i 4]),
.l 20 (.un .not (.l 19)),
.g 16 (.mv (.l 20))])
(.cond (.g 16)
(.seq
(.reg [
.g 4 (.mv (.i 4))])
.ret)
(.seq
(.reg [
.l 22 (.fa (.g 6) 1),
.l 23 (.ld none (.l 22)),
.l 24 (.mv (.g 0)),
.l 25 (.bin .sub (.l 24) (.i 1)),
.l 26 (.call (.c (.fn 75 [])) [.l 23, .i 0, .l 25]),
.l 27 (.un .not (.l 26)),
.l 28 (.mv (.l 27)),
.lw 29 (.fa (.g 6) 2) (.l 28) false,
.lw 30 (.ld none (.l 29)) (.l 28) false,
.lw 31 (.mv (.g 0)) (.l 28) false,
.lw 32 (.bin .sub (.l 31) (.i 1)) (.l 28) false,
.lw 33 (.call (.c (.fn 75 [])) [.l 30, .i 0, .l 32]) (.l 28) false,
.lw 34 (.un .not (.l 33)) (.l 28) false,
.l 35 (.pick (.l 28) (.b true) (.l 34)),
.g 21 (.mv (.l 35))])
(.cond (.g 21)
(.seq
(.reg [
.g 4 (.mv (.i 7))])
.ret)
(.seq
(.reg [
.l 37 (.fa (.g 6) 1),
.l 38 (.ld none (.l 37)),
.l 39 (.fa (.g 6) 2),
.l 40 (.ld none (.l 39)),
.l 41 (.bin .gtr (.l 38) (.l 40)),
.g 36 (.mv (.l 41))])
(.cond (.g 36)
(.seq
(.reg [
.g 4 (.mv (.i 11))])
.ret)
(.seq
(.reg [
.l 43 (.fa (.g 6) 3),
.l 44 (.ld none (.l 43)),
.l 45 (.call (.c (.fn 75 [])) [.l 44, .i 0, .i 10000]),
.l 46 (.un .not (.l 45)),
.l 47 (.mv (.l 46)),
.lw 48 (.fa (.g 6) 4) (.l 47) false,
.lw 49 (.ld none (.l 48)) (.l 47) false,
.lw 50 (.call (.c (.fn 75 [])) [.l 49, .i 0, .i 100]) (.l 47) false,
.lw 51 (.un .not (.l 50)) (.l 47) false,
.l 52 (.pick (.l 47) (.b true) (.l 51)),
.g 42 (.mv (.l 52))])
(.cond (.g 42)
(.seq
(.reg [
.g 4 (.mv (.i 2))])
.ret)
.skip)))))))))))
(.reg [
.l 53 (.bin .add (.g 12) (.i 1)),
.g 12 (.mv (.l 53))])))))))
(.seq
(.reg [
.g 4 (.mv (.i 0))])
.ret))))
def K82 : List Nat := [0, 1, 9, 13, 16, 21, 36, 42, 4, 10, 11, 12, 6]
noncomputable def b82 : Code := match Try.f82.body with | some c => c | none => .skip
theorem t82 : trCode ⟨Try.prog, K82, [], 54, none⟩ b82 = some c82 := by kernel_rfl
theorem go82 : GoS Try.prog 82 2 K82 [] 54 c82 [.t (.g 4)] := .mk Try.func82 (c := b82) rfl (by kernel_rfl) t82 rfl (by kernel_rfl) rfl rfl
end Go.Sas
namespace Go.Sas
open Go.Proofs
set_option maxRecDepth 100000
end Go.Sas
namespace Go.Sas
open Go.Proofs
set_option maxRecDepth 100000
/-- sastrugi/sastrugilaw02.awake -/
def c28 : ACode :=
  (.seq
(.reg [
.g 0 (.mv (.b false))])
(.seq
(.reg [
.l 6 (.call (.c (.fn 77 [])) []),
.l 7 (.call (.c (.fn 78 [])) []),
.l 8 (.call (.c (.fn 25 [])) [.l 6, .l 7, .i 4, .i 14]),
.l 5 (.mv (.l 8)),
.l 9 (.ex (.l 5) 0),
.l 10 (.ex (.l 5) 1),
.g 1 (.new [.int .i64 0, .int .i64 0]),
.n (.st 2 (.g 1) (.l 9)),
.g 2 (.mv (.l 10))])
(.seq
(.reg [
.l 12 (.call (.c (.fn 77 [])) []),
.l 13 (.call (.c (.fn 78 [])) []),
.l 14 (.call (.c (.fn 24 [])) [.l 12, .l 13, .c (.lit (.slice none 0 0)), .i 450, .i 10]),
.l 11 (.mv (.l 14)),
.l 15 (.ex (.l 11) 0),
.l 16 (.ex (.l 11) 1),
.g 3 (.mv (.l 15)),
.g 4 (.mv (.l 16))])
(.seq
(.draw [
.l 17 (.mv (.g 2)) 0,
.l 18 (.bin .eql (.l 17) (.i 0)) 1,
.l 19 (.mv (.l 18)) 2,
.lw 20 (.mv (.g 4)) (.l 19) true 3,
.lw 21 (.bin .eql (.l 20) (.i 0)) (.l 19) true 4,
.l 22 (.pick (.l 19) (.l 21) (.b false)) 5,
.l 23 (.mv (.l 22)) 6,
.lw 24 (.ld (some 2) (.g 1)) (.l 23) true 7,
.lwf 25 (.call (.c (.fn 21 [])) [.i 412, .i 580]) (.l 23) true 8,
.lw 26 (.eqs false (.fld 0 none .i (.fld 1 none .i .nil)) (.l 24) (.l 25)) (.l 23) true 9,
.l 27 (.pick (.l 23) (.l 26) (.b false)) 10,
.l 28 (.mv (.l 27)) 11,
.lw 29 (.mv (.g 3)) (.l 28) true 12,
.lw 30 (.mk [.int .i64 0, .int .i64 0, .int .i64 0] [(0, 1, .i 1), (1, 1, .i 3), (2, 1, .i 3)]) (.l 28) true 13,
.lw 31 (.mk [.int .i64 0, .int .i64 0, .int .i64 0] [(0, 1, .i 4), (1, 1, .i 4), (2, 1, .i 1)]) (.l 28) true 14,
.lw 32 (.mks false 3 [.l 30, .l 31]) (.l 28) true 15,
.lwf 33 (.call (.c (.fn 52 [])) [.l 29, .l 32]) (.l 28) true 16,
.l 34 (.pick (.l 28) (.l 33) (.b false)) 17,
.g 0 (.mv (.l 34)) 18])
.ret))))
def K28 : List Nat := [0, 1, 2, 3, 4]
noncomputable def b28 : Code := match Try.f28.body with | some c => c | none => .skip
theorem t28 : trCode ⟨Try.prog, K28, [], 35, none⟩ b28 = some c28 := by kernel_rfl
theorem go28 : GoS Try.prog 28 0 K28 [] 35 c28 [.t (.g 0)] := .mk Try.func28 (c := b28) rfl (by kernel_rfl) t28 rfl (by kernel_rfl) rfl rfl
/-- sastrugi/sastrugilaw02.road -/
def c77 : ACode :=
  (.seq
(.reg [
.g 0 (.new [.slice none 0 0, .int .i64 0, .int .i64 0, .int .i64 0])])
(.seq
(.reg [
.l 1 (.mk [.int .i64 0, .int .i64 0, .int .i64 0, .int .i64 0, .int .i64 0] [(0, 1, .i 3), (1, 1, .i 10), (2, 1, .i 2), (3, 1, .i 1), (4, 1, .i 24)]),
.l 2 (.mk [.int .i64 0, .int .i64 0, .int .i64 0, .int .i64 0, .int .i64 0] [(0, 1, .i 2), (1, 1, .i 50), (2, 1, .i 5), (4, 1, .i 12)]),
.l 3 (.mks false 5 [.l 1, .l 2]),
.l 4 (.mk [.int .i64 0, .int .i64 0, .int .i64 0] [(0, 1, .i 0), (1, 1, .i 1), (2, 1, .i 2)]),
.l 5 (.mk [.slice none 0 0, .int .i64 0, .int .i64 0, .int .i64 0] [(0, 1, .l 3), (1, 3, .l 4)]),
.n (.st 4 (.g 0) (.l 5))])
.ret))
def K77 : List Nat := [0]
noncomputable def b77 : Code := match Try.f77.body with | some c => c | none => .skip
theorem t77 : trCode ⟨Try.prog, K77, [], 6, none⟩ b77 = some c77 := by kernel_rfl
theorem go77 : GoS Try.prog 77 0 K77 [] 6 c77 [.cell (.g 0) (some 4)] := .mk Try.func77 (c := b77) rfl (by kernel_rfl) t77 rfl (by kernel_rfl) rfl rfl
/-- sastrugi/sastrugilaw02.looked -/
def c78 : ACode :=
  (.seq
(.reg [
.g 0 (.mv (.c (.lit (.slice none 0 0))))])
(.seq
(.reg [
.l 1 (.call (.c (.fn 107 [])) [.i 0, .i 10, .i 500]),
.l 2 (.mks false 5 [.l 1]),
.g 0 (.mv (.l 2))])
.ret))
def K78 : List Nat := [0]
noncomputable def b78 : Code := match Try.f78.body with | some c => c | none => .skip
theorem t78 : trCode ⟨Try.prog, K78, [], 3, none⟩ b78 = some c78 := by kernel_rfl
theorem go78 : GoS Try.prog 78 0 K78 [] 3 c78 [.t (.g 0)] := .mk Try.func78 (c := b78) rfl (by kernel_rfl) t78 rfl (by kernel_rfl) rfl rfl
/-- sastrugi/sastrugilaw02.core -/
def c107 : ACode :=
  (.seq
(.reg [
.g 6 (.new [.int .i64 0, .int .i64 0, .int .i64 0, .int .i64 0, .int .i64 0])])
(.seq
(.reg [
.l 7 (.mv (.g 0)),
.l 8 (.mv (.g 1)),
.l 9 (.mv (.g 2)),
.l 10 (.mv (.g 2)),
.l 11 (.call (.c (.fn 21 [])) [.l 9, .l 10]),
.l 12 (.mk [.int .i64 0, .int .i64 0, .int .i64 0, .int .i64 0, .int .i64 0] [(0, 1, .i 1), (1, 1, .l 7), (2, 1, .l 8), (3, 2, .l 11)]),
.n (.st 5 (.g 6) (.l 12))])
.ret))
def K107 : List Nat := [0, 1, 2, 6]
noncomputable def b107 : Code := match Try.f107.body with | some c => c | none => .skip
theorem t107 : trCode ⟨Try.prog, K107, [], 13, none⟩ b107 = some c107 := by kernel_rfl
theorem go107 : GoS Try.prog 107 3 K107 [] 13 c107 [.cell (.g 6) (some 5)] := .mk Try.func107 (c := b107) rfl (by kernel_rfl) t107 rfl (by kernel_rfl) rfl rfl
/-- sastrugi/sastrugilaw02.span -/
def c21 : ACode :=
  (.seq
(.reg [
.g 4 (.new [.int .i64 0, .int .i64 0])])
(.seq
(.reg [
.l 5 (.mv (.g 0)),
.l 6 (.mv (.g 1)),
.l 7 (.mk [.int .i64 0, .int .i64 0] [(0, 1, .l 5), (1, 1, .l 6)]),
.n (.st 2 (.g 4) (.l 7))])
.ret))
def K21 : List Nat := [0, 1, 4]
noncomputable def b21 : Code := match Try.f21.body with | some c => c | none => .skip
theorem t21 : trCode ⟨Try.prog, K21, [], 8, none⟩ b21 = some c21 := by kernel_rfl
theorem go21 : GoS Try.prog 21 2 K21 [] 8 c21 [.cell (.g 4) (some 2)] := .mk Try.func21 (c := b21) rfl (by kernel_rfl) t21 rfl (by kernel_rfl) rfl rfl
/-- sastrugi/sastrugikit.SameClosures -/
def c52 : ACode :=
  (.seq
(.reg [
.g 4 (.mv (.b false))])
(.seq
(.seq
(.reg [
.l 6 (.mv (.g 0)),
.l 7 (.len (.l 6)),
.l 8 (.mv (.g 1)),
.l 9 (.len (.l 8)),
.g 10 (.bin .neq (.l 7) (.l 9))])
(.cond (.g 10)
(.seq
(.reg [
.g 4 (.mv (.b false))])
.ret)
.skip))
(.seq
(.seq
(.reg [
.g 5 (.mv (.i 0))])
(.block 0
(.loop
(.seq
(.seq
(.reg [
.l 11 (.mv (.g 5)),
.l 12 (.mv (.g 0)),
.l 13 (.len (.l 12)),
.g 14 (.bin .lss (.l 11) (.l 13))])
(.cond (.g 14)
.skip
(.exit 0)))
(.seq
(.block 1
(.seq
(.draw [
.l 17 (.mv (.g 0)) 0,
.l 18 (.mv (.g 5)) 1,
.l 19 (.ia 3 (.l 17) (.l 18)) 2,
.l 20 (.ld (some 3) (.l 19)) 3,
.l 21 (.mv (.g 1)) 4,
.l 22 (.mv (.g 5)) 5,
.l 23 (.ia 3 (.l 21) (.l 22)) 6,
.l 24 (.ld (some 3) (.l 23)) 7,
.g 25 (.eqs true (.fld 0 none .i (.fld 1 none .i (.fld 2 none .i .nil))) (.l 20) (.l 24)) 8])
(.cond (.g 25)
(.seq
(.reg [
.g 4 (.mv (.b false))])
.ret)
.skip)))
(.reg [
.l 15 (.mv (.g 5)),
.l 16 (.bin .add (.l 15) (.i 1)),
.g 5 (.mv (.l 16))]))))))
(.seq
(.reg [
.g 4 (.mv (.b true))])
.ret))))
def K52 : List Nat := [0, 1, 10, 14, 25, 4, 5]
noncomputable def b52 : Code := match Try.f52.body with | some c => c | none => .skip
theorem t52 : trCode ⟨Try.prog, K52, [], 26, none⟩ b52 = some c52 := by kernel_rfl
theorem go52 : GoS Try.prog 52 2 K52 [] 26 c52 [.t (.g 4)] := .mk Try.func52 (c := b52) rfl (by kernel_rfl) t52 rfl (by kernel_rfl) rfl rfl
end Go.Sas
