/-
The code of some functions with its types resolved, printed by a program; that it is the code is checked by the kernel.
The code of some functions with its types resolved, printed by a program; that it is the code is checked by the kernel.
Conditions: none.
-/
import Derived.Test.YtajegdbljldakaaP4
import Derived.Test.YtajegdbljldakaaProg
set_option linter.unusedVariables false
set_option linter.unusedSimpArgs false
namespace Go.Sas
open Go.Proofs
set_option maxRecDepth 100000
/-- sastrugi/probe.stale -/
def c98 : ACode :=
  (.seq
(.reg [
.g 3 (.box (.g 0)),
.g 4 (.box (.g 1)),
.g 5 (.box (.g 2)),
.g 6 (.mv (.c (.lit (.slice none 0 0))))])
(.seq
(.reg [
.l 13 (.fa (.g 3) 5),
.l 14 (.ld none (.l 13)),
.l 15 (.len (.l 14)),
.l 16 (.mksl 1 1 [.bool false] (.l 15) (.l 15)),
.g 7 (.new [.slice none 0 0]),
.n (.st 1 (.g 7) (.l 16))])
(.seq
(.seq
(.reg [
.l 17 (.fa (.g 3) 0),
.l 18 (.ld (some 4) (.l 17)),
.g 19 (.call (.c (.fn 113 [])) [.l 18])])
(.block 0
(.rng (.g 19) [20, 21]
(.seq
(.reg [
.g 8 (.mv (.g 20))])
(.reg [
.g 9 (.new [.int .i64 0, .int .i64 0, .int .i64 0, .int .i64 0, .int .i64 0]),
.n (.st 5 (.g 9) (.g 21))]))
(.block 1
(.seq
(.reg [
.l 22 (.ld none (.g 7)),
.l 23 (.mv (.g 8)),
.l 24 (.ia 1 (.l 22) (.l 23)),
.n (.st 1 (.l 24) (.b true))])
(.seq
(.reg [
.g 25 (.ld none (.g 4)),
.g 26 (.len (.g 25)),
.g 27 (.mv (.i 0))])
(.block 2
(.loop
(.seq
(.reg [
.g 28 (.bin .lss (.g 27) (.g 26))])
(.seq
(.cond (.g 28)
.skip
(.exit 2))
(.seq
(.block 3
(.seq
(.reg [
.l 29 (.ia 5 (.g 25) (.g 27)),
.l 30 (.ld (some 5) (.l 29)),
.g 11 (.new [.int .i64 0, .int .i64 0, .int .i64 0, .int .i64 0, .int .i64 0]),
.n (.st 5 (.g 11) (.l 30))])
(.seq
(.reg [
.l 31 (.fa (.g 3) 0),
.l 32 (.fa (.l 31) 1),
.l 33 (.ld (some 3) (.l 32)),
.g 12 (.new [.int .i64 0, .int .i64 0, .int .i64 0]),
.n (.st 3 (.g 12) (.l 33))])
(.seq
(.draw [
.l 34 (.mv (.g 8)) 0,
.l 35 (.fa (.g 11) 1) 1,
.l 36 (.ld none (.l 35)) 2,
.l 37 (.fa (.g 11) 0) 3,
.l 38 (.ld none (.l 37)) 4,
.l 39 (.bin .sub (.l 38) (.i 1)) 5,
.l 40 (.iaa 3 1 (.g 12) (.l 39)) 6,
.l 41 (.ld none (.l 40)) 7,
.l 42 (.bin .sub (.l 36) (.l 41)) 8,
.l 43 (.fa (.g 11) 1) 9,
.l 44 (.ld none (.l 43)) 10,
.l 45 (.fa (.g 11) 0) 11,
.l 46 (.ld none (.l 45)) 12,
.l 47 (.bin .sub (.l 46) (.i 1)) 13,
.l 48 (.iaa 3 1 (.g 12) (.l 47)) 14,
.l 49 (.ld none (.l 48)) 15,
.l 50 (.bin .add (.l 44) (.l 49)) 16,
.lf 51 (.call (.c (.fn 75 [])) [.l 34, .l 42, .l 50]) 17,
.l 52 (.mv (.l 51)) 18,
.lw 53 (.fa (.g 11) 2) (.l 52) true 19,
.lw 54 (.ld none (.l 53)) (.l 52) true 20,
.lw 55 (.ld none (.g 5)) (.l 52) true 21,
.lw 56 (.fa (.g 9) 4) (.l 52) true 22,
.lw 57 (.ld none (.l 56)) (.l 52) true 23,
.lw 58 (.bin .sub (.l 55) (.l 57)) (.l 52) true 24,
.lw 59 (.ld none (.g 5)) (.l 52) true 25,
.lwf 60 (.call (.c (.fn 75 [])) [.l 54, .l 58, .l 59]) (.l 52) true 26,
.g 61 (.pick (.l 52) (.l 60) (.b false)) 27])
(.cond (.g 61)
(.reg [
.l 62 (.ld none (.g 7)),
.l 63 (.mv (.g 8)),
.l 64 (.ia 1 (.l 62) (.l 63)),
.n (.st 1 (.l 64) (.b false))])
.skip)))))
(.reg [
.l 65 (.bin .add (.g 27) (.i 1)),
.g 27 (.mv (.l 65))]))))))))))))
(.seq
(.reg [
.l 66 (.ld none (.g 7)),
.g 6 (.mv (.l 66))])
.ret))))
def K98 : List Nat := [0, 1, 2, 19, 20, 21, 28, 61, 6, 3, 4, 5, 7, 8, 9, 25, 26, 27, 11, 12]
noncomputable def b98 : Code := match Try.f98.body with | some c => c | none => .skip
theorem t98 : trCode ⟨Try.prog, K98, [], 67, none⟩ b98 = some c98 := by kernel_rfl
theorem go98 : GoS Try.prog 98 3 K98 [] 67 c98 [.t (.g 6)] := .mk Try.func98 (c := b98) rfl (by kernel_rfl) t98 rfl (by kernel_rfl) rfl rfl
/-- sastrugi/probe.asked -/
def c70 : ACode :=
  (.seq
(.reg [
.g 5 (.box (.g 0)),
.g 10 (.new [.slice none 0 0, .int .i64 0, .int .i64 0, .int .i64 0, .slice none 0 0, .slice none 0 0]),
.g 11 (.mv (.c (.lit (.slice none 0 0)))),
.g 12 (.mv (.c (.lit (.slice none 0 0)))),
.g 13 (.mv (.i 0))])
(.seq
(.reg [
.l 20 (.ld (some 4) (.g 5)),
.l 21 (.mv (.g 1)),
.l 22 (.call (.c (.fn 74 [])) [.l 20, .l 21]),
.l 19 (.mv (.l 22)),
.l 23 (.ex (.l 19) 0),
.l 24 (.ex (.l 19) 1),
.n (.st 6 (.g 10) (.l 23)),
.g 13 (.mv (.l 24))])
(.seq
(.seq
(.reg [
.l 25 (.mv (.g 13)),
.g 26 (.bin .neq (.l 25) (.i 0))])
(.cond (.g 26)
(.seq
(.reg [
.l 27 (.ld (some 6) (.g 10)),
.l 28 (.mv (.g 13)),
.n (.st 6 (.g 10) (.l 27)),
.g 11 (.mv (.c (.lit (.slice none 0 0)))),
.g 12 (.mv (.c (.lit (.slice none 0 0)))),
.g 13 (.mv (.l 28))])
.ret)
.skip))
(.seq
(.seq
(.reg [
.l 29 (.fa (.g 10) 5),
.l 30 (.ld none (.l 29)),
.l 31 (.len (.l 30)),
.l 32 (.mv (.g 2)),
.l 33 (.call (.c (.fn 82 [])) [.l 31, .l 32]),
.g 14 (.mv (.l 33))])
(.seq
(.reg [
.l 34 (.mv (.g 14)),
.g 35 (.bin .neq (.l 34) (.i 0))])
(.cond (.g 35)
(.seq
(.reg [
.l 36 (.ld (some 6) (.g 10)),
.l 37 (.mv (.g 14)),
.n (.st 6 (.g 10) (.l 36)),
.g 11 (.mv (.c (.lit (.slice none 0 0)))),
.g 12 (.mv (.c (.lit (.slice none 0 0)))),
.g 13 (.mv (.l 37))])
.ret)
.skip)))
(.seq
(.seq
(.reg [
.l 38 (.mv (.g 3)),
.l 39 (.call (.c (.fn 75 [])) [.l 38, .i 0, .i 3000]),
.l 40 (.un .not (.l 39)),
.l 41 (.mv (.l 40)),
.lw 42 (.mv (.g 4)) (.l 41) false,
.lw 43 (.call (.c (.fn 75 [])) [.l 42, .i 0, .i 10000]) (.l 41) false,
.lw 44 (.un .not (.l 43)) (.l 41) false,
.g 45 (.pick (.l 41) (.b true) (.l 44))])
(.cond (.g 45)
(.seq
(.reg [
.l 46 (.ld (some 6) (.g 10)),
.n (.st 6 (.g 10) (.l 46)),
.g 11 (.mv (.c (.lit (.slice none 0 0)))),
.g 12 (.mv (.c (.lit (.slice none 0 0)))),
.g 13 (.mv (.i 2))])
.ret)
.skip))
(.seq
(.seq
(.reg [
.g 47 (.mv (.g 1)),
.g 48 (.len (.g 47)),
.g 49 (.mv (.i 0))])
(.block 0
(.loop
(.seq
(.reg [
.g 50 (.bin .lss (.g 49) (.g 48))])
(.seq
(.cond (.g 50)
.skip
(.exit 0))
(.seq
(.block 1
(.seq
(.reg [
.l 51 (.ia 5 (.g 47) (.g 49)),
.l 52 (.ld (some 5) (.l 51)),
.g 16 (.new [.int .i64 0, .int .i64 0, .int .i64 0, .int .i64 0, .int .i64 0]),
.n (.st 5 (.g 16) (.l 52))])
(.seq
(.reg [
.l 53 (.fa (.g 16) 2),
.l 54 (.ld none (.l 53)),
.l 55 (.mv (.g 4)),
.g 56 (.bin .leq (.l 54) (.l 55))])
(.cond (.g 56)
(.reg [
.l 57 (.mv (.g 11)),
.l 58 (.ld (some 5) (.g 16)),
.l 59 (.mks false 5 [.l 58]),
.l 60 (.app 5 40 (.l 57) (.l 59)),
.g 11 (.mv (.l 60))])
.skip))))
(.reg [
.l 61 (.bin .add (.g 49) (.i 1)),
.g 49 (.mv (.l 61))])))))))
(.seq
(.seq
(.reg [
.g 62 (.mv (.g 2)),
.g 63 (.len (.g 62)),
.g 64 (.mv (.i 0))])
(.block 2
(.loop
(.seq
(.reg [
.g 65 (.bin .lss (.g 64) (.g 63))])
(.seq
(.cond (.g 65)
.skip
(.exit 2))
(.seq
(.block 3
(.seq
(.reg [
.l 66 (.ia 5 (.g 62) (.g 64)),
.l 67 (.ld (some 5) (.l 66)),
.g 18 (.new [.int .i64 0, .int .i64 0, .int .i64 0, .int .i64 0, .int .i64 0]),
.n (.st 5 (.g 18) (.l 67))])
(.seq
(.reg [
.l 68 (.fa (.g 18) 3),
.l 69 (.ld none (.l 68)),
.l 70 (.mv (.g 4)),
.g 71 (.bin .leq (.l 69) (.l 70))])
(.cond (.g 71)
(.reg [
.l 72 (.mv (.g 12)),
.l 73 (.ld (some 5) (.g 18)),
.l 74 (.mks false 5 [.l 73]),
.l 75 (.app 5 40 (.l 72) (.l 74)),
.g 12 (.mv (.l 75))])
.skip))))
(.reg [
.l 76 (.bin .add (.g 64) (.i 1)),
.g 64 (.mv (.l 76))])))))))
(.seq
(.reg [
.l 77 (.ld (some 6) (.g 10)),
.l 78 (.mv (.g 11)),
.l 79 (.mv (.g 12)),
.n (.st 6 (.g 10) (.l 77)),
.g 11 (.mv (.l 78)),
.g 12 (.mv (.l 79)),
.g 13 (.mv (.i 0))])
.ret))))))))
def K70 : List Nat := [0, 1, 2, 3, 4, 26, 35, 45, 50, 56, 65, 71, 10, 11, 12, 13, 5, 14, 47, 48, 49, 16, 62, 63, 64, 18]
noncomputable def b70 : Code := match Try.f70.body with | some c => c | none => .skip
theorem t70 : trCode ⟨Try.prog, K70, [], 80, none⟩ b70 = some c70 := by kernel_rfl
theorem go70 : GoS Try.prog 70 5 K70 [] 80 c70 [.cell (.g 10) (some 6), .t (.g 11), .t (.g 12), .t (.g 13)] := .mk Try.func70 (c := b70) rfl (by kernel_rfl) t70 rfl (by kernel_rfl) rfl rfl
/-- sastrugi/probe.joined[int] -/
def c71 : ACode :=
  (.seq
(.reg [
.g 4 (.mv (.i 0))])
(.block 0
(.loop
(.seq
(.seq
(.reg [
.l 6 (.mv (.g 4)),
.l 7 (.mv (.g 0)),
.l 8 (.len (.l 7)),
.g 9 (.bin .lss (.l 6) (.l 8))])
(.cond (.g 9)
.skip
(.exit 0)))
(.block 1
(.seq
(.reg [
.l 10 (.mv (.g 4)),
.g 5 (.mv (.l 10))])
(.seq
(.block 2
(.loop
(.seq
(.seq
(.draw [
.l 11 (.mv (.g 5)) 0,
.l 12 (.bin .add (.l 11) (.i 1)) 1,
.l 13 (.mv (.g 0)) 2,
.l 14 (.len (.l 13)) 3,
.l 15 (.bin .lss (.l 12) (.l 14)) 4,
.l 16 (.mv (.l 15)) 5,
.lw 17 (.mv (.g 0)) (.l 16) true 6,
.lw 18 (.mv (.g 5)) (.l 16) true 7,
.lw 19 (.bin .add (.l 18) (.i 1)) (.l 16) true 8,
.lw 20 (.ia 1 (.l 17) (.l 19)) (.l 16) true 9,
.lw 21 (.ld none (.l 20)) (.l 16) true 10,
.lw 22 (.mv (.g 0)) (.l 16) true 11,
.lw 23 (.mv (.g 4)) (.l 16) true 12,
.lw 24 (.ia 1 (.l 22) (.l 23)) (.l 16) true 13,
.lw 25 (.ld none (.l 24)) (.l 16) true 14,
.lw 26 (.bin .eql (.l 21) (.l 25)) (.l 16) true 15,
.g 27 (.pick (.l 16) (.l 26) (.b false)) 16])
(.cond (.g 27)
.skip
(.exit 2)))
(.block 3
(.reg [
.l 28 (.mv (.g 5)),
.l 29 (.bin .add (.l 28) (.i 1)),
.g 5 (.mv (.l 29))])))))
(.seq
(.reg [
.l 30 (.mv (.g 1)),
.l 31 (.mv (.g 4)),
.l 32 (.mv (.g 5)),
.l 33 (.mv (.g 0)),
.l 34 (.mv (.g 4)),
.l 35 (.ia 1 (.l 33) (.l 34)),
.l 36 (.ld none (.l 35)),
.l 37 (.call (.l 30) [.l 31, .l 32, .l 36])])
(.reg [
.l 38 (.mv (.g 5)),
.l 39 (.bin .add (.l 38) (.i 1)),
.g 4 (.mv (.l 39))])))))))))
def K71 : List Nat := [0, 1, 9, 27, 4, 5]
noncomputable def b71 : Code := match Try.f71.body with | some c => c | none => .skip
theorem t71 : trCode ⟨Try.prog, K71, [], 40, none⟩ b71 = some c71 := by kernel_rfl
theorem go71 : GoS Try.prog 71 2 K71 [] 40 c71 [] := .mk Try.func71 (c := b71) rfl (by kernel_rfl) t71 rfl (by kernel_rfl) rfl rfl
/-- sastrugi/probe.Close$1 -/
def c73 : ACode :=
  (.seq
(.reg [
.l 7 (.mv (.g 2)),
.g 8 (.bin .neq (.l 7) (.i 0))])
(.cond (.g 8)
(.reg [
.l 9 (.ld none (.g 3)),
.l 10 (.mv (.g 0)),
.l 11 (.mv (.g 1)),
.l 12 (.mv (.g 2)),
.l 13 (.mk [.int .i64 0, .int .i64 0, .int .i64 0] [(0, 1, .l 10), (1, 1, .l 11), (2, 1, .l 12)]),
.l 14 (.mks false 3 [.l 13]),
.l 15 (.app 3 24 (.l 9) (.l 14)),
.n (.st 1 (.g 3) (.l 15))])
.skip))
def K73 : List Nat := [0, 1, 2, 3, 8]
noncomputable def b73 : Code := match Try.f73.body with | some c => c | none => .skip
theorem t73 : trCode ⟨Try.prog, K73, [], 16, none⟩ b73 = some c73 := by kernel_rfl
theorem go73 : GoS Try.prog 73 4 K73 [] 16 c73 [] := .mk Try.func73 (c := b73) rfl (by kernel_rfl) t73 rfl (by kernel_rfl) rfl rfl
/-- sastrugi/probe.reasons -/
def c72 : ACode :=
  (.seq
(.reg [
.g 5 (.box (.g 0)),
.g 10 (.mv (.c (.lit (.slice none 0 0))))])
(.seq
(.reg [
.l 15 (.fa (.g 5) 5),
.l 16 (.ld none (.l 15)),
.l 17 (.len (.l 16)),
.l 18 (.mksl 1 8 [.int .i64 0] (.l 17) (.l 17)),
.g 11 (.mv (.l 18))])
(.seq
(.reg [
.l 19 (.ld (some 6) (.g 5)),
.l 20 (.mv (.g 1)),
.l 21 (.mv (.g 4)),
.l 22 (.call (.c (.fn 98 [])) [.l 19, .l 20, .l 21]),
.g 12 (.mv (.l 22))])
(.seq
(.reg [
.l 23 (.mv (.g 2)),
.l 24 (.mv (.g 4)),
.l 25 (.mv (.g 11)),
.l 26 (.len (.l 25)),
.l 27 (.call (.c (.fn 84 [])) [.l 23, .l 24, .l 26]),
.g 13 (.mv (.l 27))])
(.seq
(.seq
(.reg [
.l 28 (.mv (.g 11)),
.g 29 (.len (.l 28)),
.g 30 (.mv (.i 0))])
(.block 0
(.loop
(.seq
(.reg [
.g 31 (.bin .lss (.g 30) (.g 29))])
(.seq
(.cond (.g 31)
.skip
(.exit 0))
(.seq
(.block 1
(.seq
(.reg [
.l 32 (.mv (.g 30)),
.g 14 (.mv (.l 32))])
(.block 2
(.seq
(.reg [
.l 34 (.ld (some 6) (.g 5)),
.l 35 (.mv (.g 1)),
.l 36 (.mv (.g 14)),
.l 37 (.mv (.g 4)),
.l 38 (.call (.c (.fn 76 [])) [.l 34, .l 35, .l 36, .l 37]),
.l 39 (.fd none (.l 38) 0),
.l 40 (.mv (.g 3)),
.l 41 (.bin .lss (.l 39) (.l 40)),
.g 33 (.mv (.l 41))])
(.cond (.g 33)
(.reg [
.l 42 (.mv (.g 11)),
.l 43 (.mv (.g 14)),
.l 44 (.ia 1 (.l 42) (.l 43)),
.n (.st 1 (.l 44) (.i 1))])
(.seq
(.reg [
.l 46 (.mv (.g 13)),
.l 47 (.mv (.g 14)),
.l 48 (.ia 1 (.l 46) (.l 47)),
.l 49 (.ld none (.l 48)),
.l 50 (.bin .neq (.l 49) (.i 2)),
.g 45 (.mv (.l 50))])
(.cond (.g 45)
(.reg [
.l 51 (.mv (.g 11)),
.l 52 (.mv (.g 14)),
.l 53 (.ia 1 (.l 51) (.l 52)),
.n (.st 1 (.l 53) (.i 2))])
(.seq
(.reg [
.l 55 (.mv (.g 12)),
.l 56 (.mv (.g 14)),
.l 57 (.ia 1 (.l 55) (.l 56)),
.l 58 (.ld none (.l 57)),
.g 54 (.mv (.l 58))])
(.cond (.g 54)
(.reg [
.l 59 (.mv (.g 11)),
.l 60 (.mv (.g 14)),
.l 61 (.ia 1 (.l 59) (.l 60)),
.n (.st 1 (.l 61) (.i 3))])
.skip)))))))))
(.reg [
.l 62 (.bin .add (.g 30) (.i 1)),
.g 30 (.mv (.l 62))])))))))
(.seq
(.reg [
.l 63 (.mv (.g 11)),
.g 10 (.mv (.l 63))])
.ret))))))
def K72 : List Nat := [0, 1, 2, 3, 4, 31, 33, 45, 54, 10, 5, 11, 12, 13, 29, 30, 14]
noncomputable def b72 : Code := match Try.f72.body with | some c => c | none => .skip
theorem t72 : trCode ⟨Try.prog, K72, [], 64, none⟩ b72 = some c72 := by kernel_rfl
theorem go72 : GoS Try.prog 72 5 K72 [] 64 c72 [.t (.g 10)] := .mk Try.func72 (c := b72) rfl (by kernel_rfl) t72 rfl (by kernel_rfl) rfl rfl
/-- sastrugi/probe.Close -/
def c24 : ACode :=
  (.seq
(.reg [
.g 5 (.box (.g 0)),
.g 10 (.mv (.c (.lit (.slice none 0 0)))),
.g 11 (.mv (.i 0))])
(.seq
(.reg [
.l 18 (.ld (some 4) (.g 5)),
.l 19 (.mv (.g 1)),
.l 20 (.mv (.g 2)),
.l 21 (.mv (.g 3)),
.l 22 (.mv (.g 4)),
.l 23 (.call (.c (.fn 70 [])) [.l 18, .l 19, .l 20, .l 21, .l 22]),
.l 17 (.mv (.l 23)),
.l 24 (.ex (.l 17) 0),
.l 25 (.ex (.l 17) 1),
.l 26 (.ex (.l 17) 2),
.l 27 (.ex (.l 17) 3),
.g 12 (.new [.slice none 0 0, .int .i64 0, .int .i64 0, .int .i64 0, .slice none 0 0, .slice none 0 0]),
.n (.st 6 (.g 12) (.l 24)),
.g 13 (.mv (.l 25)),
.g 14 (.mv (.l 26)),
.g 15 (.mv (.l 27))])
(.seq
(.seq
(.reg [
.l 28 (.mv (.g 15)),
.g 29 (.bin .neq (.l 28) (.i 0))])
(.cond (.g 29)
(.seq
(.reg [
.l 30 (.mv (.g 15)),
.g 10 (.mv (.c (.lit (.slice none 0 0)))),
.g 11 (.mv (.l 30))])
.ret)
.skip))
(.seq
(.reg [
.g 16 (.new [.slice none 0 0])])
(.seq
(.reg [
.l 31 (.ld (some 6) (.g 12)),
.l 32 (.mv (.g 13)),
.l 33 (.mv (.g 14)),
.l 34 (.mv (.g 3)),
.l 35 (.mv (.g 4)),
.l 36 (.call (.c (.fn 72 [])) [.l 31, .l 32, .l 33, .l 34, .l 35]),
.l 37 (.mkf 73 [.g 16]),
.l 38 (.call (.c (.fn 71 [])) [.l 36, .l 37])])
(.seq
(.reg [
.l 39 (.ld none (.g 16)),
.g 10 (.mv (.l 39)),
.g 11 (.mv (.i 0))])
.ret))))))
def K24 : List Nat := [0, 1, 2, 3, 4, 29, 10, 11, 5, 12, 13, 14, 15, 16]
noncomputable def b24 : Code := match Try.f24.body with | some c => c | none => .skip
theorem t24 : trCode ⟨Try.prog, K24, [], 40, none⟩ b24 = some c24 := by kernel_rfl
theorem go24 : GoS Try.prog 24 5 K24 [] 40 c24 [.t (.g 10), .t (.g 11)] := .mk Try.func24 (c := b24) rfl (by kernel_rfl) t24 rfl (by kernel_rfl) rfl rfl
/-- sastrugi/probe.verdicts -/
def c84 : ACode :=
  (.seq
(.reg [
.g 6 (.mv (.c (.lit (.slice none 0 0))))])
(.seq
(.reg [
.l 12 (.mks false 1 [.i 2]),
.l 13 (.mv (.g 2)),
.l 14 (.call (.c (.fn 108 [])) [.l 12, .l 13]),
.g 7 (.new [.slice none 0 0]),
.n (.st 1 (.g 7) (.l 14))])
(.seq
(.reg [
.l 15 (.mkf 109 [.g 7]),
.g 8 (.mv (.l 15))])
(.seq
(.seq
(.reg [
.l 16 (.mv (.g 0)),
.g 17 (.len (.l 16)),
.g 18 (.mv (.i 0))])
(.block 0
(.loop
(.seq
(.reg [
.g 19 (.bin .lss (.g 18) (.g 17))])
(.seq
(.cond (.g 19)
.skip
(.exit 0))
(.seq
(.block 1
(.seq
(.reg [
.l 20 (.mv (.g 18)),
.g 9 (.mv (.l 20))])
(.seq
(.reg [
.l 22 (.mv (.g 0)),
.l 23 (.mv (.g 9)),
.l 24 (.mv (.g 1)),
.l 25 (.mv (.g 2)),
.l 26 (.call (.c (.fn 110 [])) [.l 22, .l 23, .l 24, .l 25]),
.l 21 (.mv (.l 26)),
.l 27 (.ex (.l 21) 0),
.l 28 (.ex (.l 21) 1),
.g 10 (.mv (.l 27)),
.g 11 (.mv (.l 28))])
(.seq
(.reg [
.l 29 (.mv (.g 8)),
.l 30 (.mv (.g 10)),
.l 31 (.call (.l 29) [.l 30, .i 3])])
(.reg [
.l 32 (.mv (.g 8)),
.l 33 (.mv (.g 11)),
.l 34 (.call (.l 32) [.l 33, .i 1])])))))
(.reg [
.l 35 (.bin .add (.g 18) (.i 1)),
.g 18 (.mv (.l 35))])))))))
(.seq
(.reg [
.l 36 (.ld none (.g 7)),
.g 6 (.mv (.l 36))])
.ret)))))
def K84 : List Nat := [0, 1, 2, 19, 6, 7, 8, 17, 18, 9, 10, 11]
noncomputable def b84 : Code := match Try.f84.body with | some c => c | none => .skip
theorem t84 : trCode ⟨Try.prog, K84, [], 37, none⟩ b84 = some c84 := by kernel_rfl
theorem go84 : GoS Try.prog 84 3 K84 [] 37 c84 [.t (.g 6)] := .mk Try.func84 (c := b84) rfl (by kernel_rfl) t84 rfl (by kernel_rfl) rfl rfl
/-- slices.Repeat[[]int,int] -/
def c108 : ACode :=
  (.seq
(.reg [
.g 4 (.mv (.c (.lit (.slice none 0 0))))])
(.seq
(.seq
(.reg [
.l 9 (.mv (.g 1)),
.g 10 (.bin .lss (.l 9) (.i 0))])
(.cond (.g 10)
(.other .skip)
.skip))
(.seq
(.reg [
.l 13 (.mv (.g 0)),
.l 14 (.len (.l 13)),
.l 15 (.cv .u64 (.l 14)),
.l 16 (.mv (.g 1)),
.l 17 (.cv .u64 (.l 16)),
.l 18 (.call (.c (.fn 118 [])) [.l 15, .l 17]),
.l 12 (.mv (.l 18)),
.l 19 (.ex (.l 12) 0),
.l 20 (.ex (.l 12) 1),
.g 5 (.mv (.l 19)),
.g 6 (.mv (.l 20))])
(.seq
(.seq
(.reg [
.l 21 (.mv (.g 5)),
.l 22 (.bin .gtr (.l 21) (.c (.lit (.int .u64 0)))),
.l 23 (.mv (.l 22)),
.lw 24 (.mv (.g 6)) (.l 23) false,
.lw 25 (.bin .gtr (.l 24) (.c (.lit (.int .u64 9223372036854775807)))) (.l 23) false,
.g 26 (.pick (.l 23) (.b true) (.l 25))])
(.cond (.g 26)
(.other .skip)
.skip))
(.seq
(.reg [
.l 28 (.mv (.g 6)),
.l 29 (.cv .i64 (.l 28)),
.l 30 (.mksl 1 8 [.int .i64 0] (.l 29) (.l 29)),
.g 7 (.mv (.l 30))])
(.seq
(.reg [
.l 31 (.mv (.g 7)),
.l 32 (.mv (.g 0)),
.l 33 (.cpy 1 (.l 31) (.l 32)),
.g 8 (.mv (.l 33))])
(.seq
(.block 0
(.loop
(.seq
(.seq
(.reg [
.l 34 (.mv (.g 8)),
.l 35 (.mv (.g 7)),
.l 36 (.len (.l 35)),
.g 37 (.bin .lss (.l 34) (.l 36))])
(.cond (.g 37)
.skip
(.exit 0)))
(.block 1
(.draw [
.l 38 (.mv (.g 8)) 0,
.l 39 (.mv (.g 7)) 1,
.l 40 (.mv (.g 8)) 2,
.l 41 (.sl 1 (.l 39) (some (.l 40)) none none) 3,
.l 42 (.mv (.g 7)) 4,
.l 43 (.mv (.g 8)) 5,
.l 44 (.sl 1 (.l 42) none (some (.l 43)) none) 6,
.lf 45 (.cpy 1 (.l 41) (.l 44)) 7,
.l 46 (.bin .add (.l 38) (.l 45)) 8,
.g 8 (.mv (.l 46)) 9])))))
(.seq
(.reg [
.l 47 (.mv (.g 7)),
.g 4 (.mv (.l 47))])
.ret))))))))
def K108 : List Nat := [0, 1, 10, 26, 37, 4, 5, 6, 7, 8]
noncomputable def b108 : Code := match Try.f108.body with | some c => c | none => .skip
theorem t108 : trCode ⟨Try.prog, K108, [], 48, none⟩ b108 = some c108 := by kernel_rfl
theorem go108 : GoS Try.prog 108 2 K108 [] 48 c108 [.t (.g 4)] := .mk Try.func108 (c := b108) rfl (by kernel_rfl) t108 rfl (by kernel_rfl) rfl rfl
/-- sastrugi/probe.verdicts$1 -/
def c109 : ACode :=
  (.seq
(.reg [
.g 8 (.mv (.g 0)),
.g 9 (.len (.g 8)),
.g 10 (.mv (.i 0))])
(.block 0
(.loop
(.seq
(.reg [
.g 11 (.bin .lss (.g 10) (.g 9))])
(.seq
(.cond (.g 11)
.skip
(.exit 0))
(.seq
(.block 1
(.seq
(.reg [
.l 12 (.ia 2 (.g 8) (.g 10)),
.l 13 (.ld (some 2) (.l 12)),
.g 6 (.new [.int .i64 0, .int .i64 0]),
.n (.st 2 (.g 6) (.l 13))])
(.seq
(.reg [
.l 14 (.fa (.g 6) 0),
.l 15 (.ld none (.l 14)),
.g 7 (.mv (.l 15))])
(.block 2
(.loop
(.seq
(.seq
(.reg [
.l 16 (.mv (.g 7)),
.l 17 (.fa (.g 6) 1),
.l 18 (.ld none (.l 17)),
.g 19 (.bin .leq (.l 16) (.l 18))])
(.cond (.g 19)
.skip
(.exit 2)))
(.seq
(.block 3
(.seq
(.reg [
.l 22 (.ld none (.g 2)),
.l 23 (.mv (.g 7)),
.l 24 (.ia 1 (.l 22) (.l 23)),
.l 25 (.ld none (.l 24)),
.g 26 (.bin .neq (.l 25) (.i 1))])
(.cond (.g 26)
(.reg [
.l 27 (.ld none (.g 2)),
.l 28 (.mv (.g 7)),
.l 29 (.mv (.g 1)),
.l 30 (.ia 1 (.l 27) (.l 28)),
.n (.st 1 (.l 30) (.l 29))])
.skip)))
(.reg [
.l 20 (.mv (.g 7)),
.l 21 (.bin .add (.l 20) (.i 1)),
.g 7 (.mv (.l 21))]))))))))
(.reg [
.l 31 (.bin .add (.g 10) (.i 1)),
.g 10 (.mv (.l 31))])))))))
def K109 : List Nat := [0, 1, 2, 11, 19, 26, 8, 9, 10, 6, 7]
noncomputable def b109 : Code := match Try.f109.body with | some c => c | none => .skip
theorem t109 : trCode ⟨Try.prog, K109, [], 32, none⟩ b109 = some c109 := by kernel_rfl
theorem go109 : GoS Try.prog 109 3 K109 [] 32 c109 [] := .mk Try.func109 (c := b109) rfl (by kernel_rfl) t109 rfl (by kernel_rfl) rfl rfl
/-- math/bits.Mul -/
def c118 : ACode :=
  (.seq
(.reg [
.g 4 (.mv (.c (.lit (.int .u64 0)))),
.g 5 (.mv (.c (.lit (.int .u64 0))))])
(.seq
(.cond (.b false)
(.seq
(.reg [
.l 11 (.mv (.g 0)),
.l 12 (.cv .u32 (.l 11)),
.l 13 (.mv (.g 1)),
.l 14 (.cv .u32 (.l 13)),
.l 15 (.call (.c (.fn 125 [])) [.l 12, .l 14]),
.l 10 (.mv (.l 15)),
.l 16 (.ex (.l 10) 0),
.l 17 (.ex (.l 10) 1),
.g 6 (.mv (.l 16)),
.g 7 (.mv (.l 17))])
(.seq
(.reg [
.l 18 (.mv (.g 6)),
.l 19 (.cv .u64 (.l 18)),
.l 20 (.mv (.g 7)),
.l 21 (.cv .u64 (.l 20)),
.g 4 (.mv (.l 19)),
.g 5 (.mv (.l 21))])
.ret))
.skip)
(.seq
(.reg [
.l 23 (.mv (.g 0)),
.l 24 (.mv (.g 1)),
.l 25 (.call (.c (.fn 126 [])) [.l 23, .l 24]),
.l 22 (.mv (.l 25)),
.l 26 (.ex (.l 22) 0),
.l 27 (.ex (.l 22) 1),
.g 8 (.mv (.l 26)),
.g 9 (.mv (.l 27))])
(.seq
(.reg [
.l 28 (.mv (.g 8)),
.l 29 (.mv (.g 9)),
.g 4 (.mv (.l 28)),
.g 5 (.mv (.l 29))])
.ret))))
def K118 : List Nat := [0, 1, 4, 5, 6, 7, 8, 9]
noncomputable def b118 : Code := match Try.f118.body with | some c => c | none => .skip
theorem t118 : trCode ⟨Try.prog, K118, [], 30, none⟩ b118 = some c118 := by kernel_rfl
theorem go118 : GoS Try.prog 118 2 K118 [] 30 c118 [.t (.g 4), .t (.g 5)] := .mk Try.func118 (c := b118) rfl (by kernel_rfl) t118 rfl (by kernel_rfl) rfl rfl
/-- math/bits.Mul64 -/
def c126 : ACode :=
  (.seq
(.reg [
.g 4 (.mv (.c (.lit (.int .u64 0)))),
.g 5 (.mv (.c (.lit (.int .u64 0))))])
(.seq
(.reg [
.l 14 (.mv (.g 0)),
.l 15 (.bin .and (.l 14) (.c (.lit (.int .u64 4294967295)))),
.g 6 (.mv (.l 15))])
(.seq
(.reg [
.l 16 (.mv (.g 0)),
.l 17 (.bin .shr (.l 16) (.c (.lit (.int .u64 32)))),
.g 7 (.mv (.l 17))])
(.seq
(.reg [
.l 18 (.mv (.g 1)),
.l 19 (.bin .and (.l 18) (.c (.lit (.int .u64 4294967295)))),
.g 8 (.mv (.l 19))])
(.seq
(.reg [
.l 20 (.mv (.g 1)),
.l 21 (.bin .shr (.l 20) (.c (.lit (.int .u64 32)))),
.g 9 (.mv (.l 21))])
(.seq
(.reg [
.l 22 (.mv (.g 6)),
.l 23 (.mv (.g 8)),
.l 24 (.bin .mul (.l 22) (.l 23)),
.g 10 (.mv (.l 24))])
(.seq
(.reg [
.l 25 (.mv (.g 7)),
.l 26 (.mv (.g 8)),
.l 27 (.bin .mul (.l 25) (.l 26)),
.l 28 (.mv (.g 10)),
.l 29 (.bin .shr (.l 28) (.c (.lit (.int .u64 32)))),
.l 30 (.bin .add (.l 27) (.l 29)),
.g 11 (.mv (.l 30))])
(.seq
(.reg [
.l 31 (.mv (.g 11)),
.l 32 (.bin .and (.l 31) (.c (.lit (.int .u64 4294967295)))),
.g 12 (.mv (.l 32))])
(.seq
(.reg [
.l 33 (.mv (.g 11)),
.l 34 (.bin .shr (.l 33) (.c (.lit (.int .u64 32)))),
.g 13 (.mv (.l 34))])
(.seq
(.reg [
.l 35 (.mv (.g 12)),
.l 36 (.mv (.g 6)),
.l 37 (.mv (.g 9)),
.l 38 (.bin .mul (.l 36) (.l 37)),
.l 39 (.bin .add (.l 35) (.l 38)),
.g 12 (.mv (.l 39))])
(.seq
(.reg [
.l 40 (.mv (.g 7)),
.l 41 (.mv (.g 9)),
.l 42 (.bin .mul (.l 40) (.l 41)),
.l 43 (.mv (.g 13)),
.l 44 (.bin .add (.l 42) (.l 43)),
.l 45 (.mv (.g 12)),
.l 46 (.bin .shr (.l 45) (.c (.lit (.int .u64 32)))),
.l 47 (.bin .add (.l 44) (.l 46)),
.g 4 (.mv (.l 47))])
(.seq
(.reg [
.l 48 (.mv (.g 0)),
.l 49 (.mv (.g 1)),
.l 50 (.bin .mul (.l 48) (.l 49)),
.g 5 (.mv (.l 50))])
.ret))))))))))))
def K126 : List Nat := [0, 1, 4, 5, 6, 7, 8, 9, 10, 11, 12, 13]
noncomputable def b126 : Code := match Try.f126.body with | some c => c | none => .skip
theorem t126 : trCode ⟨Try.prog, K126, [], 51, none⟩ b126 = some c126 := by kernel_rfl
theorem go126 : GoS Try.prog 126 2 K126 [] 51 c126 [.t (.g 4), .t (.g 5)] := .mk Try.func126 (c := b126) rfl (by kernel_rfl) t126 rfl (by kernel_rfl) rfl rfl
/-- sastrugi/probe.covered -/
def c110 : ACode :=
  (.seq
(.reg [
.g 7 (.box (.g 3)),
.g 8 (.new [.slice none 0 0]),
.g 9 (.mv (.c (.lit (.slice none 0 0))))])
(.seq
(.reg [
.l 15 (.mv (.g 0)),
.l 16 (.mv (.g 1)),
.l 17 (.ia 5 (.l 15) (.l 16)),
.l 18 (.ld (some 5) (.l 17)),
.g 10 (.new [.int .i64 0, .int .i64 0, .int .i64 0, .int .i64 0, .int .i64 0]),
.n (.st 5 (.g 10) (.l 18))])
(.seq
(.seq
(.reg [
.l 19 (.fa (.g 10) 0),
.l 20 (.ld none (.l 19)),
.l 21 (.bin .eql (.l 20) (.i 4)),
.l 22 (.mv (.l 21)),
.lw 23 (.fa (.g 10) 3) (.l 22) false,
.lw 24 (.ld none (.l 23)) (.l 22) false,
.lw 25 (.mv (.g 2)) (.l 22) false,
.lw 26 (.bin .gtr (.l 24) (.l 25)) (.l 22) false,
.g 27 (.pick (.l 22) (.b true) (.l 26))])
(.cond (.g 27)
(.seq
(.reg [
.n (.st 1 (.g 8) (.c (.lit (.slice none 0 0)))),
.g 9 (.mv (.c (.lit (.slice none 0 0))))])
.ret)
.skip))
(.seq
(.reg [
.l 28 (.fa (.g 10) 1),
.l 29 (.ld none (.l 28)),
.l 30 (.fa (.g 10) 2),
.l 31 (.ld none (.l 30)),
.l 32 (.mk [.int .i64 0, .int .i64 0] [(0, 1, .l 29), (1, 1, .l 31)]),
.l 33 (.mks false 2 [.l 32]),
.n (.st 1 (.g 8) (.l 33))])
(.seq
(.reg [
.l 34 (.ld none (.g 8)),
.g 9 (.mv (.l 34))])
(.seq
(.reg [
.l 35 (.fa (.g 10) 3),
.l 36 (.ld none (.l 35)),
.g 11 (.new [.int .i64 0]),
.n (.st 1 (.g 11) (.l 36))])
(.seq
(.reg [
.l 37 (.mkf 119 [.g 11, .g 10, .g 8, .g 7]),
.g 12 (.mv (.l 37))])
(.seq
(.seq
(.reg [
.l 38 (.mv (.g 0)),
.l 39 (.mv (.g 1)),
.l 40 (.mv (.g 2)),
.g 41 (.call (.c (.fn 120 [])) [.l 38, .l 39, .l 40]),
.g 42 (.len (.g 41)),
.g 43 (.mv (.i 0))])
(.block 0
(.loop
(.seq
(.reg [
.g 44 (.bin .lss (.g 43) (.g 42))])
(.seq
(.cond (.g 44)
.skip
(.exit 0))
(.seq
(.block 1
(.seq
(.reg [
.l 45 (.ia 5 (.g 41) (.g 43)),
.l 46 (.ld (some 5) (.l 45)),
.g 14 (.new [.int .i64 0, .int .i64 0, .int .i64 0, .int .i64 0, .int .i64 0]),
.n (.st 5 (.g 14) (.l 46))])
(.seq
(.reg [
.l 47 (.mv (.g 12)),
.l 48 (.fa (.g 14) 3),
.l 49 (.ld none (.l 48)),
.l 50 (.call (.l 47) [.l 49])])
(.draw [
.l 51 (.ld none (.g 8)) 0,
.l 52 (.fa (.g 14) 1) 1,
.l 53 (.ld none (.l 52)) 2,
.l 54 (.fa (.g 14) 2) 3,
.l 55 (.ld none (.l 54)) 4,
.l 57 (.mv (.g 9)) 6,
.lf 58 (.fa (.g 14) 1) 7,
.l 59 (.ld none (.l 58)) 8,
.lf 60 (.fa (.g 14) 2) 9,
.l 61 (.ld none (.l 60)) 10,
.lf 56 (.call (.c (.fn 121 [])) [.l 51, .l 53, .l 55]) 5,
.lf 62 (.call (.c (.fn 121 [])) [.l 57, .l 59, .l 61]) 11,
.nf (.st 1 (.g 8) (.l 56)) 12,
.gf 9 (.mv (.l 62)) 13]))))
(.reg [
.l 63 (.bin .add (.g 43) (.i 1)),
.g 43 (.mv (.l 63))])))))))
(.seq
(.reg [
.l 64 (.mv (.g 12)),
.l 65 (.mv (.g 2)),
.l 66 (.call (.l 64) [.l 65])])
(.seq
(.reg [
.l 67 (.ld none (.g 8)),
.l 68 (.mv (.g 9)),
.n (.st 1 (.g 8) (.l 67)),
.g 9 (.mv (.l 68))])
.ret))))))))))
def K110 : List Nat := [0, 1, 2, 3, 27, 44, 8, 9, 7, 10, 11, 12, 41, 42, 43, 14]
noncomputable def b110 : Code := match Try.f110.body with | some c => c | none => .skip
theorem t110 : trCode ⟨Try.prog, K110, [], 69, none⟩ b110 = some c110 := by kernel_rfl
theorem go110 : GoS Try.prog 110 4 K110 [] 69 c110 [.cell (.g 8) none, .t (.g 9)] := .mk Try.func110 (c := b110) rfl (by kernel_rfl) t110 rfl (by kernel_rfl) rfl rfl
/-- sastrugi/probe.covered$1 -/
def c119 : ACode :=
  (.seq
(.reg [
.l 10 (.mv (.g 0)),
.l 11 (.ld none (.g 1)),
.l 12 (.bin .sub (.l 10) (.l 11)),
.l 13 (.fa (.g 2) 4),
.l 14 (.ld none (.l 13)),
.l 15 (.bin .mul (.l 12) (.l 14)),
.g 6 (.mv (.l 15))])
(.seq
(.reg [
.l 16 (.ld none (.g 3)),
.l 17 (.len (.l 16)),
.l 18 (.mksl 2 16 [.int .i64 0, .int .i64 0] (.i 0) (.l 17)),
.g 7 (.mv (.l 18))])
(.seq
(.seq
(.reg [
.g 19 (.ld none (.g 3)),
.g 20 (.len (.g 19)),
.g 21 (.mv (.i 0))])
(.block 0
(.loop
(.seq
(.reg [
.g 22 (.bin .lss (.g 21) (.g 20))])
(.seq
(.cond (.g 22)
.skip
(.exit 0))
(.seq
(.block 1
(.seq
(.reg [
.l 23 (.ia 2 (.g 19) (.g 21)),
.l 24 (.ld (some 2) (.l 23)),
.g 9 (.new [.int .i64 0, .int .i64 0]),
.n (.st 2 (.g 9) (.l 24))])
(.reg [
.l 25 (.mv (.g 7)),
.l 26 (.fa (.g 9) 0),
.l 27 (.ld none (.l 26)),
.l 28 (.mv (.g 6)),
.l 29 (.bin .sub (.l 27) (.l 28)),
.l 30 (.mx [.i 0, .l 29]),
.l 31 (.ld none (.g 4)),
.l 32 (.bin .sub (.l 31) (.i 1)),
.l 33 (.fa (.g 9) 1),
.l 34 (.ld none (.l 33)),
.l 35 (.mv (.g 6)),
.l 36 (.bin .add (.l 34) (.l 35)),
.l 37 (.mn [.l 32, .l 36]),
.l 38 (.mk [.int .i64 0, .int .i64 0] [(0, 1, .l 30), (1, 1, .l 37)]),
.l 39 (.mks false 2 [.l 38]),
.l 40 (.app 2 16 (.l 25) (.l 39)),
.g 7 (.mv (.l 40))])))
(.reg [
.l 41 (.bin .add (.g 21) (.i 1)),
.g 21 (.mv (.l 41))])))))))
(.reg [
.l 42 (.mv (.g 7)),
.l 43 (.mv (.g 0)),
.n (.st 1 (.g 3) (.l 42)),
.n (.st 1 (.g 1) (.l 43))]))))
def K119 : List Nat := [0, 1, 2, 3, 4, 22, 6, 7, 19, 20, 21, 9]
noncomputable def b119 : Code := match Try.f119.body with | some c => c | none => .skip
theorem t119 : trCode ⟨Try.prog, K119, [], 44, none⟩ b119 = some c119 := by kernel_rfl
theorem go119 : GoS Try.prog 119 5 K119 [] 44 c119 [] := .mk Try.func119 (c := b119) rfl (by kernel_rfl) t119 rfl (by kernel_rfl) rfl rfl
/-- sastrugi/probe.mends -/
def c120 : ACode :=
  (.seq
(.reg [
.g 6 (.mv (.c (.lit (.slice none 0 0))))])
(.seq
(.reg [
.g 7 (.mv (.c (.lit (.slice none 0 0))))])
(.seq
(.seq
(.reg [
.g 10 (.mv (.g 0)),
.g 11 (.len (.g 10)),
.g 12 (.mv (.i 0))])
(.block 0
(.loop
(.seq
(.reg [
.g 13 (.bin .lss (.g 12) (.g 11))])
(.seq
(.cond (.g 13)
.skip
(.exit 0))
(.seq
(.block 1
(.seq
(.reg [
.l 14 (.mv (.g 12)),
.l 15 (.ia 5 (.g 10) (.g 12)),
.l 16 (.ld (some 5) (.l 15)),
.g 9 (.new [.int .i64 0, .int .i64 0, .int .i64 0, .int .i64 0, .int .i64 0]),
.g 8 (.mv (.l 14)),
.n (.st 5 (.g 9) (.l 16))])
(.seq
(.draw [
.l 17 (.fa (.g 9) 0) 0,
.l 18 (.ld none (.l 17)) 1,
.l 19 (.bin .eql (.l 18) (.i 4)) 2,
.l 20 (.mv (.l 19)) 3,
.lw 21 (.fa (.g 9) 3) (.l 20) true 4,
.lw 22 (.ld none (.l 21)) (.l 20) true 5,
.lw 23 (.mv (.g 2)) (.l 20) true 6,
.lw 24 (.bin .leq (.l 22) (.l 23)) (.l 20) true 7,
.l 25 (.pick (.l 20) (.l 24) (.b false)) 8,
.l 26 (.mv (.l 25)) 9,
.lw 27 (.fa (.g 9) 3) (.l 26) true 10,
.lw 28 (.ld none (.l 27)) (.l 26) true 11,
.lw 29 (.mv (.g 0)) (.l 26) true 12,
.lw 30 (.mv (.g 1)) (.l 26) true 13,
.lw 31 (.ia 5 (.l 29) (.l 30)) (.l 26) true 14,
.lw 32 (.fa (.l 31) 3) (.l 26) true 15,
.lw 33 (.ld none (.l 32)) (.l 26) true 16,
.lw 34 (.bin .gtr (.l 28) (.l 33)) (.l 26) true 17,
.lw 35 (.mv (.l 34)) (.l 26) true 18,
.lw 36 (.fa (.g 9) 3) (.l 35) false 19,
.lw 37 (.ld none (.l 36)) (.l 35) false 20,
.lw 38 (.mv (.g 0)) (.l 35) false 21,
.lw 39 (.mv (.g 1)) (.l 35) false 22,
.lw 40 (.ia 5 (.l 38) (.l 39)) (.l 35) false 23,
.lw 41 (.fa (.l 40) 3) (.l 35) false 24,
.lw 42 (.ld none (.l 41)) (.l 35) false 25,
.lw 43 (.bin .eql (.l 37) (.l 42)) (.l 35) false 26,
.lw 44 (.mv (.l 43)) (.l 35) false 27,
.lw 45 (.mv (.g 8)) (.l 44) true 28,
.lw 46 (.mv (.g 1)) (.l 44) true 29,
.lw 47 (.bin .gtr (.l 45) (.l 46)) (.l 44) true 30,
.lw 48 (.pick (.l 44) (.l 47) (.b false)) (.l 35) false 31,
.lw 49 (.pick (.l 35) (.b true) (.l 48)) (.l 26) true 32,
.g 50 (.pick (.l 26) (.l 49) (.b false)) 33])
(.cond (.g 50)
(.reg [
.l 51 (.mv (.g 7)),
.l 52 (.ld (some 5) (.g 9)),
.l 53 (.mks false 5 [.l 52]),
.l 54 (.app 5 40 (.l 51) (.l 53)),
.g 7 (.mv (.l 54))])
.skip))))
(.reg [
.l 55 (.bin .add (.g 12) (.i 1)),
.g 12 (.mv (.l 55))])))))))
(.seq
(.reg [
.l 56 (.mv (.g 7)),
.l 57 (.call (.c (.fn 127 [])) [.l 56, .c (.fn 128 [])])])
(.seq
(.reg [
.l 58 (.mv (.g 7)),
.g 6 (.mv (.l 58))])
.ret)))))
def K120 : List Nat := [0, 1, 2, 13, 50, 6, 7, 10, 11, 12, 9, 8]
noncomputable def b120 : Code := match Try.f120.body with | some c => c | none => .skip
theorem t120 : trCode ⟨Try.prog, K120, [], 59, none⟩ b120 = some c120 := by kernel_rfl
theorem go120 : GoS Try.prog 120 3 K120 [] 59 c120 [.t (.g 6)] := .mk Try.func120 (c := b120) rfl (by kernel_rfl) t120 rfl (by kernel_rfl) rfl rfl
/-- sastrugi/probe.without -/
def c121 : ACode :=
  (.seq
(.reg [
.g 6 (.mv (.c (.lit (.slice none 0 0))))])
(.seq
(.reg [
.g 7 (.mv (.c (.lit (.slice none 0 0))))])
(.seq
(.seq
(.reg [
.g 12 (.mv (.g 0)),
.g 13 (.len (.g 12)),
.g 14 (.mv (.i 0))])
(.block 0
(.loop
(.seq
(.reg [
.g 15 (.bin .lss (.g 14) (.g 13))])
(.seq
(.cond (.g 15)
.skip
(.exit 0))
(.seq
(.block 1
(.seq
(.reg [
.l 16 (.ia 2 (.g 12) (.g 14)),
.l 17 (.ld (some 2) (.l 16)),
.g 9 (.new [.int .i64 0, .int .i64 0]),
.n (.st 2 (.g 9) (.l 17))])
(.seq
(.seq
(.reg [
.l 18 (.fa (.g 9) 0),
.l 19 (.ld none (.l 18)),
.l 20 (.fa (.g 9) 1),
.l 21 (.ld none (.l 20)),
.l 22 (.mv (.g 1)),
.l 23 (.bin .sub (.l 22) (.i 1)),
.l 24 (.mn [.l 21, .l 23]),
.l 25 (.mk [.int .i64 0, .int .i64 0] [(0, 1, .l 19), (1, 1, .l 24)]),
.g 10 (.new [.int .i64 0, .int .i64 0]),
.n (.st 2 (.g 10) (.l 25))])
(.seq
(.reg [
.l 26 (.fa (.g 10) 0),
.l 27 (.ld none (.l 26)),
.l 28 (.fa (.g 10) 1),
.l 29 (.ld none (.l 28)),
.g 30 (.bin .leq (.l 27) (.l 29))])
(.cond (.g 30)
(.reg [
.l 31 (.mv (.g 7)),
.l 32 (.ld (some 2) (.g 10)),
.l 33 (.mks false 2 [.l 32]),
.l 34 (.app 2 16 (.l 31) (.l 33)),
.g 7 (.mv (.l 34))])
.skip)))
(.seq
(.reg [
.l 35 (.fa (.g 9) 0),
.l 36 (.ld none (.l 35)),
.l 37 (.mv (.g 2)),
.l 38 (.bin .add (.l 37) (.i 1)),
.l 39 (.mx [.l 36, .l 38]),
.l 40 (.fa (.g 9) 1),
.l 41 (.ld none (.l 40)),
.l 42 (.mk [.int .i64 0, .int .i64 0] [(0, 1, .l 39), (1, 1, .l 41)]),
.g 11 (.new [.int .i64 0, .int .i64 0]),
.n (.st 2 (.g 11) (.l 42))])
(.seq
(.reg [
.l 43 (.fa (.g 11) 0),
.l 44 (.ld none (.l 43)),
.l 45 (.fa (.g 11) 1),
.l 46 (.ld none (.l 45)),
.g 47 (.bin .leq (.l 44) (.l 46))])
(.cond (.g 47)
(.reg [
.l 48 (.mv (.g 7)),
.l 49 (.ld (some 2) (.g 11)),
.l 50 (.mks false 2 [.l 49]),
.l 51 (.app 2 16 (.l 48) (.l 50)),
.g 7 (.mv (.l 51))])
.skip))))))
(.reg [
.l 52 (.bin .add (.g 14) (.i 1)),
.g 14 (.mv (.l 52))])))))))
(.seq
(.reg [
.l 53 (.mv (.g 7)),
.g 6 (.mv (.l 53))])
.ret))))
def K121 : List Nat := [0, 1, 2, 15, 30, 47, 6, 7, 12, 13, 14, 9, 10, 11]
noncomputable def b121 : Code := match Try.f121.body with | some c => c | none => .skip
theorem t121 : trCode ⟨Try.prog, K121, [], 54, none⟩ b121 = some c121 := by kernel_rfl
theorem go121 : GoS Try.prog 121 3 K121 [] 54 c121 [.t (.g 6)] := .mk Try.func121 (c := b121) rfl (by kernel_rfl) t121 rfl (by kernel_rfl) rfl rfl
/-- slices.SortStableFunc[[]sastrugi/api.Mark,sastrugi/api.Mark] -/
def c127 : ACode :=
  (.reg [
.l 4 (.mv (.g 0)),
.l 5 (.mv (.g 0)),
.l 6 (.len (.l 5)),
.l 7 (.mv (.g 1)),
.l 8 (.call (.c (.fn 130 [])) [.l 4, .l 6, .l 7])])
def K127 : List Nat := [0, 1]
noncomputable def b127 : Code := match Try.f127.body with | some c => c | none => .skip
theorem t127 : trCode ⟨Try.prog, K127, [], 9, none⟩ b127 = some c127 := by kernel_rfl
theorem go127 : GoS Try.prog 127 2 K127 [] 9 c127 [] := .mk Try.func127 (c := b127) rfl (by kernel_rfl) t127 rfl (by kernel_rfl) rfl rfl
/-- sastrugi/probe.mends$1 -/
def c128 : ACode :=
  (.seq
(.reg [
.g 2 (.box (.g 0)),
.g 3 (.box (.g 1)),
.g 4 (.mv (.i 0))])
(.seq
(.reg [
.l 5 (.fa (.g 2) 3),
.l 6 (.ld none (.l 5)),
.l 7 (.fa (.g 3) 3),
.l 8 (.ld none (.l 7)),
.l 9 (.call (.c (.fn 129 [])) [.l 6, .l 8]),
.g 4 (.mv (.l 9))])
.ret))
def K128 : List Nat := [0, 1, 4, 2, 3]
noncomputable def b128 : Code := match Try.f128.body with | some c => c | none => .skip
theorem t128 : trCode ⟨Try.prog, K128, [], 10, none⟩ b128 = some c128 := by kernel_rfl
theorem go128 : GoS Try.prog 128 2 K128 [] 10 c128 [.t (.g 4)] := .mk Try.func128 (c := b128) rfl (by kernel_rfl) t128 rfl (by kernel_rfl) rfl rfl
/-- cmp.Compare[int] -/
def c129 : ACode :=
  (.seq
(.reg [
.g 4 (.mv (.i 0))])
(.seq
(.reg [
.l 7 (.mv (.g 0)),
.l 8 (.call (.c (.fn 131 [])) [.l 7]),
.g 5 (.mv (.l 8))])
(.seq
(.reg [
.l 9 (.mv (.g 1)),
.l 10 (.call (.c (.fn 131 [])) [.l 9]),
.g 6 (.mv (.l 10))])
(.seq
(.seq
(.reg [
.g 11 (.mv (.g 5))])
(.cond (.g 11)
(.seq
(.seq
(.reg [
.g 12 (.mv (.g 6))])
(.cond (.g 12)
(.seq
(.reg [
.g 4 (.mv (.i 0))])
.ret)
.skip))
(.seq
(.reg [
.g 4 (.mv (.i (-1)))])
.ret))
.skip))
(.seq
(.seq
(.reg [
.g 13 (.mv (.g 6))])
(.cond (.g 13)
(.seq
(.reg [
.g 4 (.mv (.i 1))])
.ret)
.skip))
(.seq
(.seq
(.reg [
.l 14 (.mv (.g 0)),
.l 15 (.mv (.g 1)),
.g 16 (.bin .lss (.l 14) (.l 15))])
(.cond (.g 16)
(.seq
(.reg [
.g 4 (.mv (.i (-1)))])
.ret)
.skip))
(.seq
(.seq
(.reg [
.l 17 (.mv (.g 0)),
.l 18 (.mv (.g 1)),
.g 19 (.bin .gtr (.l 17) (.l 18))])
(.cond (.g 19)
(.seq
(.reg [
.g 4 (.mv (.i 1))])
.ret)
.skip))
(.seq
(.reg [
.g 4 (.mv (.i 0))])
.ret))))))))
def K129 : List Nat := [0, 1, 11, 12, 13, 16, 19, 4, 5, 6]
noncomputable def b129 : Code := match Try.f129.body with | some c => c | none => .skip
theorem t129 : trCode ⟨Try.prog, K129, [], 20, none⟩ b129 = some c129 := by kernel_rfl
theorem go129 : GoS Try.prog 129 2 K129 [] 20 c129 [.t (.g 4)] := .mk Try.func129 (c := b129) rfl (by kernel_rfl) t129 rfl (by kernel_rfl) rfl rfl
/-- slices.stableCmpFunc[sastrugi/api.Mark] -/
def c130 : ACode :=
  (.seq
(.reg [
.g 6 (.mv (.i 20))])
(.seq
(.reg [
.l 10 (.mv (.g 6)),
.g 7 (.mv (.i 0)),
.g 8 (.mv (.l 10))])
(.seq
(.block 0
(.loop
(.seq
(.seq
(.reg [
.l 11 (.mv (.g 8)),
.l 12 (.mv (.g 1)),
.g 13 (.bin .leq (.l 11) (.l 12))])
(.cond (.g 13)
.skip
(.exit 0)))
(.block 1
(.seq
(.reg [
.l 14 (.mv (.g 0)),
.l 15 (.mv (.g 7)),
.l 16 (.mv (.g 8)),
.l 17 (.mv (.g 2)),
.l 18 (.call (.c (.fn 132 [])) [.l 14, .l 15, .l 16, .l 17])])
(.seq
(.reg [
.l 19 (.mv (.g 8)),
.g 7 (.mv (.l 19))])
(.reg [
.l 20 (.mv (.g 8)),
.l 21 (.mv (.g 6)),
.l 22 (.bin .add (.l 20) (.l 21)),
.g 8 (.mv (.l 22))])))))))
(.seq
(.reg [
.l 23 (.mv (.g 0)),
.l 24 (.mv (.g 7)),
.l 25 (.mv (.g 1)),
.l 26 (.mv (.g 2)),
.l 27 (.call (.c (.fn 132 [])) [.l 23, .l 24, .l 25, .l 26])])
(.block 2
(.loop
(.seq
(.seq
(.reg [
.l 28 (.mv (.g 6)),
.l 29 (.mv (.g 1)),
.g 30 (.bin .lss (.l 28) (.l 29))])
(.cond (.g 30)
.skip
(.exit 2)))
(.block 3
(.seq
(.reg [
.l 31 (.mv (.g 6)),
.l 32 (.bin .mul (.i 2) (.l 31)),
.g 7 (.mv (.i 0)),
.g 8 (.mv (.l 32))])
(.seq
(.block 4
(.loop
(.seq
(.seq
(.reg [
.l 33 (.mv (.g 8)),
.l 34 (.mv (.g 1)),
.g 35 (.bin .leq (.l 33) (.l 34))])
(.cond (.g 35)
.skip
(.exit 4)))
(.block 5
(.seq
(.reg [
.l 36 (.mv (.g 0)),
.l 37 (.mv (.g 7)),
.l 38 (.mv (.g 7)),
.l 39 (.mv (.g 6)),
.l 40 (.bin .add (.l 38) (.l 39)),
.l 41 (.mv (.g 8)),
.l 42 (.mv (.g 2)),
.l 43 (.call (.c (.fn 133 [])) [.l 36, .l 37, .l 40, .l 41, .l 42])])
(.seq
(.reg [
.l 44 (.mv (.g 8)),
.g 7 (.mv (.l 44))])
(.reg [
.l 45 (.mv (.g 8)),
.l 46 (.mv (.g 6)),
.l 47 (.bin .mul (.i 2) (.l 46)),
.l 48 (.bin .add (.l 45) (.l 47)),
.g 8 (.mv (.l 48))])))))))
(.seq
(.seq
(.reg [
.l 49 (.mv (.g 7)),
.l 50 (.mv (.g 6)),
.l 51 (.bin .add (.l 49) (.l 50)),
.g 9 (.mv (.l 51))])
(.seq
(.reg [
.l 52 (.mv (.g 9)),
.l 53 (.mv (.g 1)),
.g 54 (.bin .lss (.l 52) (.l 53))])
(.cond (.g 54)
(.reg [
.l 55 (.mv (.g 0)),
.l 56 (.mv (.g 7)),
.l 57 (.mv (.g 9)),
.l 58 (.mv (.g 1)),
.l 59 (.mv (.g 2)),
.l 60 (.call (.c (.fn 133 [])) [.l 55, .l 56, .l 57, .l 58, .l 59])])
.skip)))
(.reg [
.l 61 (.mv (.g 6)),
.l 62 (.bin .mul (.l 61) (.i 2)),
.g 6 (.mv (.l 62))]))))))))))))
def K130 : List Nat := [0, 1, 2, 13, 30, 35, 54, 6, 7, 8, 9]
noncomputable def b130 : Code := match Try.f130.body with | some c => c | none => .skip
theorem t130 : trCode ⟨Try.prog, K130, [], 63, none⟩ b130 = some c130 := by kernel_rfl
theorem go130 : GoS Try.prog 130 3 K130 [] 63 c130 [] := .mk Try.func130 (c := b130) rfl (by kernel_rfl) t130 rfl (by kernel_rfl) rfl rfl
/-- cmp.isNaN[int] -/
def c131 : ACode :=
  (.seq
(.reg [
.g 2 (.mv (.b false))])
(.seq
(.reg [
.l 3 (.mv (.g 0)),
.l 4 (.mv (.g 0)),
.l 5 (.bin .neq (.l 3) (.l 4)),
.g 2 (.mv (.l 5))])
.ret))
def K131 : List Nat := [0, 2]
noncomputable def b131 : Code := match Try.f131.body with | some c => c | none => .skip
theorem t131 : trCode ⟨Try.prog, K131, [], 6, none⟩ b131 = some c131 := by kernel_rfl
theorem go131 : GoS Try.prog 131 1 K131 [] 6 c131 [.t (.g 2)] := .mk Try.func131 (c := b131) rfl (by kernel_rfl) t131 rfl (by kernel_rfl) rfl rfl
/-- slices.insertionSortCmpFunc[sastrugi/api.Mark] -/
def c132 : ACode :=
  (.seq
(.reg [
.l 10 (.mv (.g 1)),
.l 11 (.bin .add (.l 10) (.i 1)),
.g 8 (.mv (.l 11))])
(.block 0
(.loop
(.seq
(.seq
(.reg [
.l 12 (.mv (.g 8)),
.l 13 (.mv (.g 2)),
.g 14 (.bin .lss (.l 12) (.l 13))])
(.cond (.g 14)
.skip
(.exit 0)))
(.seq
(.block 1
(.seq
(.reg [
.l 17 (.mv (.g 8)),
.g 9 (.mv (.l 17))])
(.block 2
(.loop
(.seq
(.seq
(.draw [
.l 18 (.mv (.g 9)) 0,
.l 19 (.mv (.g 1)) 1,
.l 20 (.bin .gtr (.l 18) (.l 19)) 2,
.l 21 (.mv (.l 20)) 3,
.lw 22 (.mv (.g 3)) (.l 21) true 4,
.lw 23 (.mv (.g 0)) (.l 21) true 5,
.lw 24 (.mv (.g 9)) (.l 21) true 6,
.lw 25 (.ia 5 (.l 23) (.l 24)) (.l 21) true 7,
.lw 26 (.ld (some 5) (.l 25)) (.l 21) true 8,
.lw 27 (.mv (.g 0)) (.l 21) true 9,
.lw 28 (.mv (.g 9)) (.l 21) true 10,
.lw 29 (.bin .sub (.l 28) (.i 1)) (.l 21) true 11,
.lw 30 (.ia 5 (.l 27) (.l 29)) (.l 21) true 12,
.lw 31 (.ld (some 5) (.l 30)) (.l 21) true 13,
.lwf 32 (.call (.l 22) [.l 26, .l 31]) (.l 21) true 14,
.lw 33 (.bin .lss (.l 32) (.i 0)) (.l 21) true 15,
.g 34 (.pick (.l 21) (.l 33) (.b false)) 16])
(.cond (.g 34)
.skip
(.exit 2)))
(.seq
(.block 3
(.draw [
.l 37 (.mv (.g 0)) 0,
.l 38 (.mv (.g 9)) 1,
.lf 39 (.mv (.g 0)) 2,
.lf 40 (.mv (.g 9)) 3,
.lf 41 (.bin .sub (.l 40) (.i 1)) 4,
.l 42 (.mv (.g 0)) 5,
.l 43 (.mv (.g 9)) 6,
.l 44 (.bin .sub (.l 43) (.i 1)) 7,
.l 45 (.ia 5 (.l 42) (.l 44)) 8,
.l 46 (.ld (some 5) (.l 45)) 9,
.lf 47 (.mv (.g 0)) 10,
.lf 48 (.mv (.g 9)) 11,
.l 49 (.ia 5 (.l 47) (.l 48)) 12,
.l 50 (.ld (some 5) (.l 49)) 13,
.l 51 (.ia 5 (.l 37) (.l 38)) 14,
.nf (.st 5 (.l 51) (.l 46)) 15,
.lf 52 (.ia 5 (.l 39) (.l 41)) 16,
.n (.st 5 (.l 52) (.l 50)) 17]))
(.reg [
.l 35 (.mv (.g 9)),
.l 36 (.bin .sub (.l 35) (.i 1)),
.g 9 (.mv (.l 36))])))))))
(.reg [
.l 15 (.mv (.g 8)),
.l 16 (.bin .add (.l 15) (.i 1)),
.g 8 (.mv (.l 16))]))))))
def K132 : List Nat := [0, 1, 2, 3, 14, 34, 8, 9]
noncomputable def b132 : Code := match Try.f132.body with | some c => c | none => .skip
theorem t132 : trCode ⟨Try.prog, K132, [], 53, none⟩ b132 = some c132 := by kernel_rfl
theorem go132 : GoS Try.prog 132 4 K132 [] 53 c132 [] := .mk Try.func132 (c := b132) rfl (by kernel_rfl) t132 rfl (by kernel_rfl) rfl rfl
end Go.Sas
namespace Go.Sas
open Go.Proofs
set_option maxRecDepth 100000
/-- sastrugi/sastrugiref02.Close -/
def c51 : ACode :=
  (.seq
(.reg [
.g 5 (.box (.g 0)),
.g 10 (.mv (.c (.lit (.slice none 0 0)))),
.g 11 (.mv (.i 0))])
(.seq
(.seq
(.reg [
.l 17 (.ld (some 4) (.g 5)),
.l 18 (.mv (.g 1)),
.l 19 (.mv (.g 2)),
.l 20 (.mv (.g 3)),
.l 21 (.mv (.g 4)),
.l 22 (.call (.c (.fn 88 [])) [.l 17, .l 18, .l 19, .l 20, .l 21]),
.g 12 (.mv (.l 22))])
(.seq
(.reg [
.l 23 (.mv (.g 12)),
.g 24 (.bin .neq (.l 23) (.i 0))])
(.cond (.g 24)
(.seq
(.reg [
.l 25 (.mv (.g 12)),
.g 10 (.mv (.c (.lit (.slice none 0 0)))),
.g 11 (.mv (.l 25))])
.ret)
.skip)))
(.seq
(.draw [
.l 26 (.ld (some 4) (.g 5)) 0,
.l 27 (.mv (.g 1)) 1,
.l 28 (.mv (.g 4)) 2,
.l 30 (.mv (.g 2)) 4,
.l 31 (.mv (.g 4)) 5,
.l 33 (.mv (.g 3)) 7,
.l 34 (.mv (.g 4)) 8,
.lf 29 (.call (.c (.fn 90 [])) [.l 27, .l 28]) 3,
.lf 32 (.call (.c (.fn 91 [])) [.l 30, .l 31]) 6,
.lf 35 (.call (.c (.fn 89 [])) [.l 26, .l 29, .l 32, .l 33, .l 34]) 9,
.g 13 (.mv (.l 35)) 10])
(.seq
(.reg [
.g 14 (.mv (.c (.lit (.slice none 0 0))))])
(.seq
(.seq
(.reg [
.g 15 (.mv (.i 0))])
(.block 0
(.loop
(.seq
(.seq
(.reg [
.l 36 (.mv (.g 15)),
.l 37 (.mv (.g 13)),
.l 38 (.len (.l 37)),
.g 39 (.bin .lss (.l 36) (.l 38))])
(.cond (.g 39)
.skip
(.exit 0)))
(.seq
(.block 1
(.seq
(.seq
(.reg [
.l 42 (.mv (.g 13)),
.l 43 (.mv (.g 15)),
.l 44 (.ia 1 (.l 42) (.l 43)),
.l 45 (.ld none (.l 44)),
.g 46 (.bin .eql (.l 45) (.i 0))])
(.cond (.g 46)
(.exit 1)
.skip))
(.seq
(.reg [
.l 47 (.mv (.g 14)),
.l 48 (.len (.l 47)),
.g 16 (.mv (.l 48))])
(.seq
(.draw [
.l 49 (.mv (.g 16)) 0,
.l 50 (.bin .gtr (.l 49) (.i 0)) 1,
.l 51 (.mv (.l 50)) 2,
.lw 52 (.mv (.g 14)) (.l 51) true 3,
.lw 53 (.mv (.g 16)) (.l 51) true 4,
.lw 54 (.bin .sub (.l 53) (.i 1)) (.l 51) true 5,
.lw 55 (.ia 3 (.l 52) (.l 54)) (.l 51) true 6,
.lw 56 (.fa (.l 55) 1) (.l 51) true 7,
.lw 57 (.ld none (.l 56)) (.l 51) true 8,
.lw 58 (.mv (.g 15)) (.l 51) true 9,
.lw 59 (.bin .sub (.l 58) (.i 1)) (.l 51) true 10,
.lw 60 (.bin .eql (.l 57) (.l 59)) (.l 51) true 11,
.l 61 (.pick (.l 51) (.l 60) (.b false)) 12,
.l 62 (.mv (.l 61)) 13,
.lw 63 (.mv (.g 14)) (.l 62) true 14,
.lw 64 (.mv (.g 16)) (.l 62) true 15,
.lw 65 (.bin .sub (.l 64) (.i 1)) (.l 62) true 16,
.lw 66 (.ia 3 (.l 63) (.l 65)) (.l 62) true 17,
.lw 67 (.fa (.l 66) 2) (.l 62) true 18,
.lw 68 (.ld none (.l 67)) (.l 62) true 19,
.lw 69 (.mv (.g 13)) (.l 62) true 20,
.lw 70 (.mv (.g 15)) (.l 62) true 21,
.lw 71 (.ia 1 (.l 69) (.l 70)) (.l 62) true 22,
.lw 72 (.ld none (.l 71)) (.l 62) true 23,
.lw 73 (.bin .eql (.l 68) (.l 72)) (.l 62) true 24,
.g 74 (.pick (.l 62) (.l 73) (.b false)) 25])
(.cond (.g 74)
(.reg [
.l 75 (.mv (.g 14)),
.l 76 (.mv (.g 16)),
.l 77 (.bin .sub (.l 76) (.i 1)),
.l 78 (.mv (.g 15)),
.l 79 (.ia 3 (.l 75) (.l 77)),
.l 80 (.fa (.l 79) 1),
.n (.st 1 (.l 80) (.l 78))])
(.reg [
.l 81 (.mv (.g 14)),
.l 82 (.mv (.g 15)),
.l 83 (.mv (.g 15)),
.l 84 (.mv (.g 13)),
.l 85 (.mv (.g 15)),
.l 86 (.ia 1 (.l 84) (.l 85)),
.l 87 (.ld none (.l 86)),
.l 88 (.mk [.int .i64 0, .int .i64 0, .int .i64 0] [(0, 1, .l 82), (1, 1, .l 83), (2, 1, .l 87)]),
.l 89 (.mks false 3 [.l 88]),
.l 90 (.app 3 24 (.l 81) (.l 89)),
.g 14 (.mv (.l 90))]))))))
(.reg [
.l 40 (.mv (.g 15)),
.l 41 (.bin .add (.l 40) (.i 1)),
.g 15 (.mv (.l 41))]))))))
(.seq
(.reg [
.l 91 (.mv (.g 14)),
.g 10 (.mv (.l 91)),
.g 11 (.mv (.i 0))])
.ret))))))
def K51 : List Nat := [0, 1, 2, 3, 4, 24, 39, 46, 74, 10, 11, 5, 12, 13, 14, 15, 16]
noncomputable def b51 : Code := match Try.f51.body with | some c => c | none => .skip
theorem t51 : trCode ⟨Try.prog, K51, [], 92, none⟩ b51 = some c51 := by kernel_rfl
theorem go51 : GoS Try.prog 51 5 K51 [] 92 c51 [.t (.g 10), .t (.g 11)] := .mk Try.func51 (c := b51) rfl (by kernel_rfl) t51 rfl (by kernel_rfl) rfl rfl
/-- sastrugi/sastrugiref02.checkGate -/
def c88 : ACode :=
  (.seq
(.reg [
.g 5 (.box (.g 0)),
.g 10 (.mv (.i 0))])
(.seq
(.seq
(.reg [
.l 13 (.ld (some 4) (.g 5)),
.l 14 (.mv (.g 1)),
.l 15 (.call (.c (.fn 36 [])) [.l 13, .l 14]),
.g 11 (.mv (.l 15))])
(.seq
(.reg [
.l 16 (.mv (.g 11)),
.g 17 (.bin .neq (.l 16) (.i 0))])
(.cond (.g 17)
(.seq
(.reg [
.l 18 (.mv (.g 11)),
.g 10 (.mv (.l 18))])
.ret)
.skip)))
(.seq
(.seq
(.reg [
.l 19 (.ld (some 4) (.g 5)),
.l 20 (.mv (.g 2)),
.l 21 (.call (.c (.fn 38 [])) [.l 19, .l 20]),
.g 12 (.mv (.l 21))])
(.seq
(.reg [
.l 22 (.mv (.g 12)),
.g 23 (.bin .neq (.l 22) (.i 0))])
(.cond (.g 23)
(.seq
(.reg [
.l 24 (.mv (.g 12)),
.g 10 (.mv (.l 24))])
.ret)
.skip)))
(.seq
(.seq
(.reg [
.l 25 (.mv (.g 3)),
.l 26 (.call (.c (.fn 80 [])) [.l 25, .i 0, .i 3000]),
.l 27 (.un .not (.l 26)),
.l 28 (.mv (.l 27)),
.lw 29 (.mv (.g 4)) (.l 28) false,
.lw 30 (.call (.c (.fn 80 [])) [.l 29, .i 0, .i 10000]) (.l 28) false,
.lw 31 (.un .not (.l 30)) (.l 28) false,
.g 32 (.pick (.l 28) (.b true) (.l 31))])
(.cond (.g 32)
(.seq
(.reg [
.g 10 (.mv (.i 2))])
.ret)
.skip))
(.seq
(.reg [
.g 10 (.mv (.i 0))])
.ret)))))
def K88 : List Nat := [0, 1, 2, 3, 4, 17, 23, 32, 10, 5, 11, 12]
noncomputable def b88 : Code := match Try.f88.body with | some c => c | none => .skip
theorem t88 : trCode ⟨Try.prog, K88, [], 33, none⟩ b88 = some c88 := by kernel_rfl
theorem go88 : GoS Try.prog 88 5 K88 [] 33 c88 [.t (.g 10)] := .mk Try.func88 (c := b88) rfl (by kernel_rfl) t88 rfl (by kernel_rfl) rfl rfl
/-- sastrugi/sastrugiref02.shut -/
def c89 : ACode :=
  (.seq
(.reg [
.g 5 (.box (.g 0)),
.g 10 (.mv (.c (.lit (.slice none 0 0))))])
(.seq
(.reg [
.l 16 (.ld (some 4) (.g 5)),
.l 17 (.mv (.g 2)),
.l 18 (.mv (.g 4)),
.l 19 (.call (.c (.fn 86 [])) [.l 16, .l 17, .l 18]),
.l 15 (.mv (.l 19)),
.l 20 (.ex (.l 15) 0),
.l 21 (.ex (.l 15) 1),
.g 11 (.mv (.l 20)),
.l 12 (.mv (.l 21))])
(.seq
(.reg [
.l 22 (.mv (.g 11)),
.l 23 (.len (.l 22)),
.l 24 (.mksl 1 8 [.int .i64 0] (.l 23) (.l 23)),
.g 13 (.mv (.l 24))])
(.seq
(.seq
(.reg [
.g 14 (.mv (.i 0))])
(.block 0
(.loop
(.seq
(.seq
(.reg [
.l 25 (.mv (.g 14)),
.l 26 (.mv (.g 13)),
.l 27 (.len (.l 26)),
.g 28 (.bin .lss (.l 25) (.l 27))])
(.cond (.g 28)
.skip
(.exit 0)))
(.seq
(.block 1
(.block 2
(.seq
(.reg [
.l 32 (.ld (some 4) (.g 5)),
.l 33 (.mv (.g 1)),
.l 34 (.mv (.g 14)),
.l 35 (.mv (.g 4)),
.l 36 (.call (.c (.fn 87 [])) [.l 32, .l 33, .l 34, .l 35]),
.l 37 (.fd none (.l 36) 0),
.l 38 (.mv (.g 3)),
.l 39 (.bin .lss (.l 37) (.l 38)),
.g 31 (.mv (.l 39))])
(.cond (.g 31)
(.reg [
.l 40 (.mv (.g 13)),
.l 41 (.mv (.g 14)),
.l 42 (.ia 1 (.l 40) (.l 41)),
.n (.st 1 (.l 42) (.i 1))])
(.seq
(.reg [
.l 44 (.mv (.g 11)),
.l 45 (.mv (.g 14)),
.l 46 (.ia 1 (.l 44) (.l 45)),
.l 47 (.ld none (.l 46)),
.g 43 (.mv (.l 47))])
(.cond (.g 43)
(.reg [
.l 48 (.mv (.g 13)),
.l 49 (.mv (.g 14)),
.l 50 (.ia 1 (.l 48) (.l 49)),
.n (.st 1 (.l 50) (.i 2))])
(.seq
(.reg [
.l 52 (.ld (some 4) (.g 5)),
.l 53 (.mv (.g 1)),
.l 54 (.mv (.g 14)),
.l 55 (.mv (.g 4)),
.l 56 (.call (.c (.fn 95 [])) [.l 52, .l 53, .l 54, .l 55]),
.g 51 (.mv (.l 56))])
(.cond (.g 51)
(.reg [
.l 57 (.mv (.g 13)),
.l 58 (.mv (.g 14)),
.l 59 (.ia 1 (.l 57) (.l 58)),
.n (.st 1 (.l 59) (.i 3))])
.skip))))))))
(.reg [
.l 29 (.mv (.g 14)),
.l 30 (.bin .add (.l 29) (.i 1)),
.g 14 (.mv (.l 30))]))))))
(.seq
(.reg [
.l 60 (.mv (.g 13)),
.g 10 (.mv (.l 60))])
.ret)))))
def K89 : List Nat := [0, 1, 2, 3, 4, 28, 31, 43, 51, 10, 5, 11, 13, 14]
noncomputable def b89 : Code := match Try.f89.body with | some c => c | none => .skip
theorem t89 : trCode ⟨Try.prog, K89, [], 61, none⟩ b89 = some c89 := by kernel_rfl
theorem go89 : GoS Try.prog 89 5 K89 [] 61 c89 [.t (.g 10)] := .mk Try.func89 (c := b89) rfl (by kernel_rfl) t89 rfl (by kernel_rfl) rfl rfl
/-- sastrugi/sastrugiref02.past -/
def c90 : ACode :=
  (.seq
(.reg [
.g 4 (.mv (.c (.lit (.slice none 0 0))))])
(.seq
(.reg [
.g 5 (.mv (.c (.lit (.slice none 0 0))))])
(.seq
(.seq
(.reg [
.g 6 (.mv (.i 0))])
(.block 0
(.loop
(.seq
(.seq
(.reg [
.l 7 (.mv (.g 6)),
.l 8 (.mv (.g 0)),
.l 9 (.len (.l 8)),
.g 10 (.bin .lss (.l 7) (.l 9))])
(.cond (.g 10)
.skip
(.exit 0)))
(.seq
(.block 1
(.seq
(.reg [
.l 13 (.mv (.g 0)),
.l 14 (.mv (.g 6)),
.l 15 (.ia 5 (.l 13) (.l 14)),
.l 16 (.fa (.l 15) 2),
.l 17 (.ld none (.l 16)),
.l 18 (.mv (.g 1)),
.g 19 (.bin .leq (.l 17) (.l 18))])
(.cond (.g 19)
(.reg [
.l 20 (.mv (.g 5)),
.l 21 (.mv (.g 0)),
.l 22 (.mv (.g 6)),
.l 23 (.ia 5 (.l 21) (.l 22)),
.l 24 (.ld (some 5) (.l 23)),
.l 25 (.mks false 5 [.l 24]),
.l 26 (.app 5 40 (.l 20) (.l 25)),
.g 5 (.mv (.l 26))])
.skip)))
(.reg [
.l 11 (.mv (.g 6)),
.l 12 (.bin .add (.l 11) (.i 1)),
.g 6 (.mv (.l 12))]))))))
(.seq
(.reg [
.l 27 (.mv (.g 5)),
.g 4 (.mv (.l 27))])
.ret))))
def K90 : List Nat := [0, 1, 10, 19, 4, 5, 6]
noncomputable def b90 : Code := match Try.f90.body with | some c => c | none => .skip
theorem t90 : trCode ⟨Try.prog, K90, [], 28, none⟩ b90 = some c90 := by kernel_rfl
theorem go90 : GoS Try.prog 90 2 K90 [] 28 c90 [.t (.g 4)] := .mk Try.func90 (c := b90) rfl (by kernel_rfl) t90 rfl (by kernel_rfl) rfl rfl
/-- sastrugi/sastrugiref02.marked -/
def c91 : ACode :=
  (.seq
(.reg [
.g 4 (.mv (.c (.lit (.slice none 0 0))))])
(.seq
(.reg [
.g 5 (.mv (.c (.lit (.slice none 0 0))))])
(.seq
(.seq
(.reg [
.g 6 (.mv (.i 0))])
(.block 0
(.loop
(.seq
(.seq
(.reg [
.l 7 (.mv (.g 6)),
.l 8 (.mv (.g 0)),
.l 9 (.len (.l 8)),
.g 10 (.bin .lss (.l 7) (.l 9))])
(.cond (.g 10)
.skip
(.exit 0)))
(.seq
(.block 1
(.seq
(.reg [
.l 13 (.mv (.g 0)),
.l 14 (.mv (.g 6)),
.l 15 (.ia 5 (.l 13) (.l 14)),
.l 16 (.fa (.l 15) 3),
.l 17 (.ld none (.l 16)),
.l 18 (.mv (.g 1)),
.g 19 (.bin .leq (.l 17) (.l 18))])
(.cond (.g 19)
(.reg [
.l 20 (.mv (.g 5)),
.l 21 (.mv (.g 0)),
.l 22 (.mv (.g 6)),
.l 23 (.ia 5 (.l 21) (.l 22)),
.l 24 (.ld (some 5) (.l 23)),
.l 25 (.mks false 5 [.l 24]),
.l 26 (.app 5 40 (.l 20) (.l 25)),
.g 5 (.mv (.l 26))])
.skip)))
(.reg [
.l 11 (.mv (.g 6)),
.l 12 (.bin .add (.l 11) (.i 1)),
.g 6 (.mv (.l 12))]))))))
(.seq
(.reg [
.l 27 (.mv (.g 5)),
.g 4 (.mv (.l 27))])
.ret))))
def K91 : List Nat := [0, 1, 10, 19, 4, 5, 6]
noncomputable def b91 : Code := match Try.f91.body with | some c => c | none => .skip
theorem t91 : trCode ⟨Try.prog, K91, [], 28, none⟩ b91 = some c91 := by kernel_rfl
theorem go91 : GoS Try.prog 91 2 K91 [] 28 c91 [.t (.g 4)] := .mk Try.func91 (c := b91) rfl (by kernel_rfl) t91 rfl (by kernel_rfl) rfl rfl
/-- sastrugi/sastrugiref02.Lasts -/
def c55 : ACode :=
  (.seq
(.reg [
.g 6 (.box (.g 0)),
.g 12 (.mv (.i 0)),
.g 13 (.mv (.i 0))])
(.seq
(.seq
(.reg [
.l 23 (.ld (some 4) (.g 6)),
.l 24 (.mv (.g 1)),
.l 25 (.mv (.g 2)),
.l 26 (.mv (.g 3)),
.l 27 (.mv (.g 4)),
.l 28 (.call (.c (.fn 88 [])) [.l 23, .l 24, .l 25, .l 26, .l 27]),
.g 14 (.mv (.l 28))])
(.seq
(.reg [
.l 29 (.mv (.g 14)),
.g 30 (.bin .neq (.l 29) (.i 0))])
(.cond (.g 30)
(.seq
(.reg [
.l 31 (.mv (.g 14)),
.g 12 (.mv (.i 0)),
.g 13 (.mv (.l 31))])
.ret)
.skip)))
(.seq
(.seq
(.reg [
.l 32 (.mv (.g 5)),
.l 33 (.ld (some 4) (.g 6)),
.l 34 (.call (.c (.fn 46 [])) [.l 33]),
.l 35 (.bin .sub (.l 34) (.i 1)),
.l 36 (.call (.c (.fn 80 [])) [.l 32, .i 0, .l 35]),
.g 37 (.un .not (.l 36))])
(.cond (.g 37)
(.seq
(.reg [
.g 12 (.mv (.i 0)),
.g 13 (.mv (.i 7))])
.ret)
.skip))
(.seq
(.reg [
.l 38 (.mv (.g 1)),
.l 39 (.mv (.g 4)),
.l 40 (.call (.c (.fn 90 [])) [.l 38, .l 39]),
.l 41 (.mv (.g 2)),
.l 42 (.mv (.g 4)),
.l 43 (.call (.c (.fn 91 [])) [.l 41, .l 42]),
.g 1 (.mv (.l 40)),
.g 2 (.mv (.l 43))])
(.seq
(.reg [
.g 15 (.mv (.i (-1)))])
(.seq
(.reg [
.l 44 (.ld (some 4) (.g 6)),
.l 45 (.call (.c (.fn 46 [])) [.l 44]),
.g 16 (.mv (.l 45))])
(.seq
(.reg [
.g 17 (.mv (.c (.lit (.slice none 0 0))))])
(.seq
(.seq
(.reg [
.g 18 (.mv (.i 0))])
(.block 0
(.loop
(.seq
(.seq
(.reg [
.l 46 (.mv (.g 18)),
.l 47 (.mv (.g 2)),
.l 48 (.len (.l 47)),
.g 49 (.bin .lss (.l 46) (.l 48))])
(.cond (.g 49)
.skip
(.exit 0)))
(.seq
(.block 1
(.seq
(.reg [
.l 53 (.mv (.g 16)),
.l 54 (.mv (.g 2)),
.l 55 (.mv (.g 18)),
.l 56 (.mv (.g 4)),
.l 57 (.call (.c (.fn 94 [])) [.l 53, .l 54, .l 55, .l 56]),
.l 52 (.mv (.l 57)),
.l 58 (.ex (.l 52) 0),
.l 59 (.ex (.l 52) 1),
.g 19 (.mv (.l 58)),
.l 20 (.mv (.l 59))])
(.reg [
.l 60 (.mv (.g 17)),
.l 61 (.mv (.g 19)),
.l 62 (.mks false 1 [.l 61]),
.l 63 (.app 1 24 (.l 60) (.l 62)),
.g 17 (.mv (.l 63))])))
(.reg [
.l 50 (.mv (.g 18)),
.l 51 (.bin .add (.l 50) (.i 1)),
.g 18 (.mv (.l 51))]))))))
(.seq
(.seq
(.reg [
.l 64 (.mv (.g 4)),
.g 21 (.mv (.l 64))])
(.block 2
(.loop
(.seq
(.seq
(.reg [
.l 65 (.mv (.g 21)),
.g 66 (.bin .leq (.l 65) (.i 10000))])
(.cond (.g 66)
.skip
(.exit 2)))
(.seq
(.block 3
(.seq
(.seq
(.reg [
.l 69 (.ld (some 4) (.g 6)),
.l 70 (.mv (.g 1)),
.l 71 (.mv (.g 5)),
.l 72 (.mv (.g 21)),
.l 73 (.call (.c (.fn 87 [])) [.l 69, .l 70, .l 71, .l 72]),
.l 74 (.fd none (.l 73) 0),
.l 75 (.mv (.g 3)),
.l 76 (.bin .lss (.l 74) (.l 75)),
.l 77 (.mv (.l 76)),
.lw 78 (.ld (some 4) (.g 6)) (.l 77) false,
.lw 79 (.mv (.g 1)) (.l 77) false,
.lw 80 (.mv (.g 5)) (.l 77) false,
.lw 81 (.mv (.g 21)) (.l 77) false,
.lw 82 (.call (.c (.fn 95 [])) [.l 78, .l 79, .l 80, .l 81]) (.l 77) false,
.g 83 (.pick (.l 77) (.b true) (.l 82))])
(.cond (.g 83)
(.seq
(.reg [
.l 84 (.mv (.g 15)),
.g 12 (.mv (.l 84)),
.g 13 (.mv (.i 0))])
.ret)
.skip))
(.seq
(.seq
(.reg [
.g 22 (.mv (.i 0))])
(.block 4
(.loop
(.seq
(.seq
(.reg [
.l 85 (.mv (.g 22)),
.l 86 (.mv (.g 17)),
.l 87 (.len (.l 86)),
.g 88 (.bin .lss (.l 85) (.l 87))])
(.cond (.g 88)
.skip
(.exit 4)))
(.seq
(.block 5
(.seq
(.seq
(.reg [
.l 91 (.mv (.g 17)),
.l 92 (.mv (.g 22)),
.l 93 (.ia 1 (.l 91) (.l 92)),
.l 94 (.ld none (.l 93)),
.l 95 (.mv (.g 5)),
.l 96 (.ia 1 (.l 94) (.l 95)),
.g 97 (.ld none (.l 96))])
(.cond (.g 97)
(.seq
(.reg [
.l 98 (.mv (.g 15)),
.g 12 (.mv (.l 98)),
.g 13 (.mv (.i 0))])
.ret)
.skip))
(.draw [
.l 99 (.mv (.g 17)) 0,
.l 100 (.mv (.g 22)) 1,
.l 101 (.mv (.g 17)) 2,
.l 102 (.mv (.g 22)) 3,
.l 103 (.ia 1 (.l 101) (.l 102)) 4,
.l 104 (.ld none (.l 103)) 5,
.l 105 (.mv (.g 2)) 6,
.l 106 (.mv (.g 22)) 7,
.l 107 (.ia 5 (.l 105) (.l 106)) 8,
.l 108 (.fa (.l 107) 4) 9,
.l 109 (.ld none (.l 108)) 10,
.lf 110 (.call (.c (.fn 96 [])) [.l 104, .l 109]) 11,
.l 111 (.ia 1 (.l 99) (.l 100)) 12,
.n (.st 1 (.l 111) (.l 110)) 13])))
(.reg [
.l 89 (.mv (.g 22)),
.l 90 (.bin .add (.l 89) (.i 1)),
.g 22 (.mv (.l 90))]))))))
(.reg [
.l 112 (.mv (.g 21)),
.g 15 (.mv (.l 112))]))))
(.reg [
.l 67 (.mv (.g 21)),
.l 68 (.bin .add (.l 67) (.i 1)),
.g 21 (.mv (.l 68))]))))))
(.seq
(.reg [
.l 113 (.mv (.g 15)),
.g 12 (.mv (.l 113)),
.g 13 (.mv (.i 0))])
.ret))))))))))
def K55 : List Nat := [0, 1, 2, 3, 4, 5, 30, 37, 49, 66, 83, 88, 97, 12, 13, 6, 14, 15, 16, 17, 18, 19, 21, 22]
noncomputable def b55 : Code := match Try.f55.body with | some c => c | none => .skip
theorem t55 : trCode ⟨Try.prog, K55, [], 114, none⟩ b55 = some c55 := by kernel_rfl
theorem go55 : GoS Try.prog 55 6 K55 [] 114 c55 [.t (.g 12), .t (.g 13)] := .mk Try.func55 (c := b55) rfl (by kernel_rfl) t55 rfl (by kernel_rfl) rfl rfl
/-- sastrugi/probe.Lasts -/
def c54 : ACode :=
  (.seq
(.reg [
.g 6 (.box (.g 0)),
.g 9 (.box (.g 3)),
.g 10 (.box (.g 4)),
.g 11 (.box (.g 5)),
.g 12 (.mv (.i 0)),
.g 13 (.mv (.i 0))])
(.seq
(.reg [
.l 20 (.ld (some 4) (.g 6)),
.l 21 (.mv (.g 1)),
.l 22 (.mv (.g 2)),
.l 23 (.ld none (.g 9)),
.l 24 (.ld none (.g 10)),
.l 25 (.call (.c (.fn 70 [])) [.l 20, .l 21, .l 22, .l 23, .l 24]),
.l 19 (.mv (.l 25)),
.l 26 (.ex (.l 19) 0),
.l 27 (.ex (.l 19) 1),
.l 28 (.ex (.l 19) 2),
.l 29 (.ex (.l 19) 3),
.g 14 (.new [.slice none 0 0, .int .i64 0, .int .i64 0, .int .i64 0, .slice none 0 0, .slice none 0 0]),
.g 15 (.new [.slice none 0 0]),
.g 16 (.new [.slice none 0 0]),
.n (.st 6 (.g 14) (.l 26)),
.n (.st 1 (.g 15) (.l 27)),
.n (.st 1 (.g 16) (.l 28)),
.g 17 (.mv (.l 29))])
(.seq
(.seq
(.reg [
.l 30 (.mv (.g 17)),
.g 31 (.bin .neq (.l 30) (.i 0))])
(.cond (.g 31)
(.seq
(.reg [
.l 32 (.mv (.g 17)),
.g 12 (.mv (.i 0)),
.g 13 (.mv (.l 32))])
.ret)
.skip))
(.seq
(.seq
(.reg [
.l 33 (.ld none (.g 11)),
.l 34 (.fa (.g 14) 5),
.l 35 (.ld none (.l 34)),
.l 36 (.len (.l 35)),
.l 37 (.bin .sub (.l 36) (.i 1)),
.l 38 (.call (.c (.fn 75 [])) [.l 33, .i 0, .l 37]),
.g 39 (.un .not (.l 38))])
(.cond (.g 39)
(.seq
(.reg [
.g 12 (.mv (.i 0)),
.g 13 (.mv (.i 7))])
.ret)
.skip))
(.seq
(.reg [
.l 40 (.ld none (.g 10)),
.l 41 (.bin .sub (.i 10000) (.l 40)),
.l 42 (.bin .add (.l 41) (.i 1)),
.l 43 (.mkf 93 [.g 14, .g 15, .g 16, .g 9, .g 10, .g 11]),
.l 44 (.call (.c (.fn 92 [])) [.l 42, .l 43]),
.g 18 (.mv (.l 44))])
(.seq
(.seq
(.reg [
.l 45 (.mv (.g 18)),
.g 46 (.bin .eql (.l 45) (.i 0))])
(.cond (.g 46)
(.seq
(.reg [
.g 12 (.mv (.i (-1))),
.g 13 (.mv (.i 0))])
.ret)
.skip))
(.seq
(.reg [
.l 47 (.ld none (.g 10)),
.l 48 (.mv (.g 18)),
.l 49 (.bin .add (.l 47) (.l 48)),
.l 50 (.bin .sub (.l 49) (.i 1)),
.g 12 (.mv (.l 50)),
.g 13 (.mv (.i 0))])
.ret)))))))
def K54 : List Nat := [0, 1, 2, 3, 4, 5, 31, 39, 46, 12, 13, 6, 9, 10, 11, 14, 15, 16, 17, 18]
noncomputable def b54 : Code := match Try.f54.body with | some c => c | none => .skip
theorem t54 : trCode ⟨Try.prog, K54, [], 51, none⟩ b54 = some c54 := by kernel_rfl
theorem go54 : GoS Try.prog 54 6 K54 [] 51 c54 [.t (.g 12), .t (.g 13)] := .mk Try.func54 (c := b54) rfl (by kernel_rfl) t54 rfl (by kernel_rfl) rfl rfl
/-- sort.Search -/
def c92 : ACode :=
  (.seq
(.reg [
.g 4 (.mv (.i 0))])
(.seq
(.reg [
.l 8 (.mv (.g 0)),
.g 5 (.mv (.i 0)),
.g 6 (.mv (.l 8))])
(.seq
(.block 0
(.loop
(.seq
(.seq
(.reg [
.l 9 (.mv (.g 5)),
.l 10 (.mv (.g 6)),
.g 11 (.bin .lss (.l 9) (.l 10))])
(.cond (.g 11)
.skip
(.exit 0)))
(.block 1
(.seq
(.reg [
.l 12 (.mv (.g 5)),
.l 13 (.mv (.g 6)),
.l 14 (.bin .add (.l 12) (.l 13)),
.l 15 (.cv .u64 (.l 14)),
.l 16 (.bin .shr (.l 15) (.c (.lit (.int .u64 1)))),
.l 17 (.cv .i64 (.l 16)),
.g 7 (.mv (.l 17))])
(.seq
(.reg [
.l 18 (.mv (.g 1)),
.l 19 (.mv (.g 7)),
.l 20 (.call (.l 18) [.l 19]),
.g 21 (.un .not (.l 20))])
(.cond (.g 21)
(.reg [
.l 22 (.mv (.g 7)),
.l 23 (.bin .add (.l 22) (.i 1)),
.g 5 (.mv (.l 23))])
(.reg [
.l 24 (.mv (.g 7)),
.g 6 (.mv (.l 24))]))))))))
(.seq
(.reg [
.l 25 (.mv (.g 5)),
.g 4 (.mv (.l 25))])
.ret))))
def K92 : List Nat := [0, 1, 11, 21, 4, 5, 6, 7]
noncomputable def b92 : Code := match Try.f92.body with | some c => c | none => .skip
theorem t92 : trCode ⟨Try.prog, K92, [], 26, none⟩ b92 = some c92 := by kernel_rfl
theorem go92 : GoS Try.prog 92 2 K92 [] 26 c92 [.t (.g 4)] := .mk Try.func92 (c := b92) rfl (by kernel_rfl) t92 rfl (by kernel_rfl) rfl rfl
/-- sastrugi/probe.Lasts$1 -/
def c93 : ACode :=
  (.seq
(.reg [
.g 8 (.mv (.b false))])
(.seq
(.draw [
.l 9 (.ld (some 6) (.g 1)) 0,
.l 10 (.ld none (.g 2)) 1,
.l 11 (.ld none (.g 3)) 2,
.l 12 (.ld none (.g 4)) 3,
.l 13 (.ld none (.g 5)) 4,
.l 14 (.mv (.g 0)) 5,
.l 15 (.bin .add (.l 13) (.l 14)) 6,
.l 17 (.ld none (.g 6)) 8,
.lf 16 (.call (.c (.fn 72 [])) [.l 9, .l 10, .l 11, .l 12, .l 15]) 7,
.l 18 (.ia 1 (.l 16) (.l 17)) 9,
.l 19 (.ld none (.l 18)) 10,
.l 20 (.bin .neq (.l 19) (.i 0)) 11,
.g 8 (.mv (.l 20)) 12])
.ret))
def K93 : List Nat := [0, 1, 2, 3, 4, 5, 6, 8]
noncomputable def b93 : Code := match Try.f93.body with | some c => c | none => .skip
theorem t93 : trCode ⟨Try.prog, K93, [], 21, none⟩ b93 = some c93 := by kernel_rfl
theorem go93 : GoS Try.prog 93 7 K93 [] 21 c93 [.t (.g 8)] := .mk Try.func93 (c := b93) rfl (by kernel_rfl) t93 rfl (by kernel_rfl) rfl rfl
/-- sastrugi/sastrugikit.ShutAt -/
def c27 : ACode :=
  (.seq
(.reg [
.g 4 (.mv (.i 0))])
(.seq
(.seq
(.reg [
.g 5 (.mv (.i 0))])
(.block 0
(.loop
(.seq
(.seq
(.reg [
.l 6 (.mv (.g 5)),
.l 7 (.mv (.g 0)),
.l 8 (.len (.l 7)),
.g 9 (.bin .lss (.l 6) (.l 8))])
(.cond (.g 9)
.skip
(.exit 0)))
(.seq
(.block 1
(.seq
(.reg [
.l 12 (.mv (.g 1)),
.l 13 (.mv (.g 0)),
.l 14 (.mv (.g 5)),
.l 15 (.ia 3 (.l 13) (.l 14)),
.l 16 (.fa (.l 15) 0),
.l 17 (.ld none (.l 16)),
.l 18 (.bin .geq (.l 12) (.l 17)),
.l 19 (.mv (.l 18)),
.lw 20 (.mv (.g 1)) (.l 19) true,
.lw 21 (.mv (.g 0)) (.l 19) true,
.lw 22 (.mv (.g 5)) (.l 19) true,
.lw 23 (.ia 3 (.l 21) (.l 22)) (.l 19) true,
.lw 24 (.fa (.l 23) 1) (.l 19) true,
.lw 25 (.ld none (.l 24)) (.l 19) true,
.lw 26 (.bin .leq (.l 20) (.l 25)) (.l 19) true,
.g 27 (.pick (.l 19) (.l 26) (.b false))])
(.cond (.g 27)
(.seq
(.reg [
.l 28 (.mv (.g 0)),
.l 29 (.mv (.g 5)),
.l 30 (.ia 3 (.l 28) (.l 29)),
.l 31 (.fa (.l 30) 2),
.l 32 (.ld none (.l 31)),
.g 4 (.mv (.l 32))])
.ret)
.skip)))
(.reg [
.l 10 (.mv (.g 5)),
.l 11 (.bin .add (.l 10) (.i 1)),
.g 5 (.mv (.l 11))]))))))
(.seq
(.reg [
.g 4 (.mv (.i 0))])
.ret)))
def K27 : List Nat := [0, 1, 9, 27, 4, 5]
noncomputable def b27 : Code := match Try.f27.body with | some c => c | none => .skip
theorem t27 : trCode ⟨Try.prog, K27, [], 33, none⟩ b27 = some c27 := by kernel_rfl
theorem go27 : GoS Try.prog 27 2 K27 [] 33 c27 [.t (.g 4)] := .mk Try.func27 (c := b27) rfl (by kernel_rfl) t27 rfl (by kernel_rfl) rfl rfl
/-- sastrugi/sastrugilaw02.short -/
def c53 : ACode :=
  (.seq
(.reg [
.g 1 (.box (.g 0)),
.g 2 (.mv (.b false))])
(.seq
(.seq
(.reg [
.g 3 (.mv (.i 0))])
(.block 0
(.loop
(.seq
(.seq
(.reg [
.l 4 (.mv (.g 3)),
.l 5 (.fa (.g 1) 0),
.l 6 (.ld none (.l 5)),
.l 7 (.len (.l 6)),
.g 8 (.bin .lss (.l 4) (.l 7))])
(.cond (.g 8)
.skip
(.exit 0)))
(.seq
(.block 1
(.seq
(.reg [
.l 11 (.fa (.g 1) 0),
.l 12 (.ld none (.l 11)),
.l 13 (.mv (.g 3)),
.l 14 (.ia 5 (.l 12) (.l 13)),
.l 15 (.fa (.l 14) 4),
.l 16 (.ld none (.l 15)),
.g 17 (.bin .gtr (.l 16) (.i 60))])
(.cond (.g 17)
(.seq
(.reg [
.g 2 (.mv (.b false))])
.ret)
.skip)))
(.reg [
.l 9 (.mv (.g 3)),
.l 10 (.bin .add (.l 9) (.i 1)),
.g 3 (.mv (.l 10))]))))))
(.seq
(.reg [
.g 2 (.mv (.b true))])
.ret)))
def K53 : List Nat := [0, 8, 17, 2, 1, 3]
noncomputable def b53 : Code := match Try.f53.body with | some c => c | none => .skip
theorem t53 : trCode ⟨Try.prog, K53, [], 18, none⟩ b53 = some c53 := by kernel_rfl
theorem go53 : GoS Try.prog 53 1 K53 [] 18 c53 [.t (.g 2)] := .mk Try.func53 (c := b53) rfl (by kernel_rfl) t53 rfl (by kernel_rfl) rfl rfl
end Go.Sas
