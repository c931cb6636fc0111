/-
The code of some functions with its types resolved, printed by a program; that it is the code is checked by the kernel.
The code of some functions with its types resolved, printed by a program; that it is the code is checked by the kernel.
Conditions: none.
-/
import Derived.Test.YtpokfjhlilbpfaaDoorP4d
import Derived.Test.YtpokfjhlilbpfaaDoorProg
set_option linter.unusedVariables false
set_option linter.unusedSimpArgs false
namespace Go.Sas
open Go.Proofs
set_option maxRecDepth 100000
/-- sastrugi/sastrugilaw02.ProbeKnown -/
def c3 : ACode :=
  (.seq
(.reg [
  ⟨(some (true, 0)), .mv (.c (.lit (.bool false))), none⟩])
(.seq
(.reg [
  ⟨(some (false, 15)), .mks false 1 [.c (.lit (.int .i64 0)), .c (.lit (.int .i64 1)), .c (.lit (.int .i64 4)), .c (.lit (.int .i64 0)), .c (.lit (.int .i64 0)), .c (.lit (.int .i64 4))], none⟩,
  ⟨(some (false, 16)), .mks false 1 [.c (.lit (.int .i64 10)), .c (.lit (.int .i64 10)), .c (.lit (.int .i64 10)), .c (.lit (.int .i64 14)), .c (.lit (.int .i64 6)), .c (.lit (.int .i64 14))], none⟩,
  ⟨(some (true, 1)), .mv (.l 15), none⟩,
  ⟨(some (true, 2)), .mv (.l 16), none⟩])
(.seq
(.reg [
  ⟨(some (false, 17)), .call (.c (.fn 4 [])) [.c (.lit (.int .i64 500)), .c (.lit (.int .i64 500))], none⟩,
  ⟨(some (false, 18)), .call (.c (.fn 4 [])) [.c (.lit (.int .i64 490)), .c (.lit (.int .i64 510))], none⟩,
  ⟨(some (false, 19)), .call (.c (.fn 4 [])) [.c (.lit (.int .i64 420)), .c (.lit (.int .i64 580))], none⟩,
  ⟨(some (false, 20)), .call (.c (.fn 4 [])) [.c (.lit (.int .i64 492)), .c (.lit (.int .i64 504))], none⟩,
  ⟨(some (false, 21)), .call (.c (.fn 4 [])) [.c (.lit (.int .i64 496)), .c (.lit (.int .i64 508))], none⟩,
  ⟨(some (false, 22)), .call (.c (.fn 4 [])) [.c (.lit (.int .i64 412)), .c (.lit (.int .i64 580))], none⟩,
  ⟨(some (false, 23)), .mks false 2 [.l 17, .l 18, .l 19, .l 20, .l 21, .l 22], none⟩,
  ⟨(some (true, 3)), .mv (.l 23), none⟩])
(.seq
(.seq
(.reg [
  ⟨(some (true, 4)), .mv (.c (.lit (.int .i64 0))), none⟩])
(.block 0
(.loop
(.seq
(.seq
(.reg [
  ⟨(some (false, 24)), .mv (.g 4), none⟩,
  ⟨(some (false, 25)), .mv (.g 3), none⟩,
  ⟨(some (false, 26)), .len (.l 25), none⟩,
  ⟨(some (true, 27)), .bin .lss (.l 24) (.l 26), none⟩])
(.cond (.g 27)
.skip
(.exit 0)))
(.seq
(.block 1
(.seq
(.draw [
  ⟨⟨(some (false, 33)), .mv (.g 1), none⟩, 2, true, []⟩,
  ⟨⟨(some (false, 34)), .mv (.g 4), none⟩, 3, true, []⟩,
  ⟨⟨(some (false, 35)), .ia 1 (.l 33) (.l 34), none⟩, 4, true, []⟩,
  ⟨⟨(some (false, 36)), .ld none (.l 35), none⟩, 5, true, []⟩,
  ⟨⟨(some (false, 37)), .mv (.g 2), none⟩, 6, true, []⟩,
  ⟨⟨(some (false, 38)), .mv (.g 4), none⟩, 7, true, []⟩,
  ⟨⟨(some (false, 39)), .ia 1 (.l 37) (.l 38), none⟩, 8, true, []⟩,
  ⟨⟨(some (false, 40)), .ld none (.l 39), none⟩, 9, true, []⟩,
  ⟨⟨(some (true, 5)), .new [.int .i64 0, .int .i64 0], none⟩, 14, true, []⟩,
  ⟨⟨(some (false, 31)), .call (.c (.fn 6 [])) [], none⟩, 0, false, []⟩,
  ⟨⟨(some (false, 32)), .call (.c (.fn 7 [])) [], none⟩, 1, false, []⟩,
  ⟨⟨(some (false, 41)), .call (.c (.fn 5 [])) [.l 31, .l 32, .l 36, .l 40], none⟩, 10, false, []⟩,
  ⟨⟨(some (false, 30)), .mv (.l 41), none⟩, 11, true, []⟩,
  ⟨⟨(some (false, 42)), .ex (.l 30) 0, none⟩, 12, true, []⟩,
  ⟨⟨(some (false, 43)), .ex (.l 30) 1, none⟩, 13, false, []⟩,
  ⟨⟨none, .st 2 (.g 5) (.l 42), none⟩, 15, false, [14]⟩,
  ⟨⟨(some (true, 6)), .mv (.l 43), none⟩, 16, false, [14]⟩])
(.seq
(.draw [
  ⟨⟨(some (false, 44)), .mv (.g 6), none⟩, 0, true, []⟩,
  ⟨⟨(some (false, 45)), .bin .neq (.l 44) (.c (.lit (.int .i64 0))), none⟩, 1, true, []⟩,
  ⟨⟨(some (false, 46)), .mv (.l 45), none⟩, 2, true, []⟩,
  ⟨⟨(some (false, 47)), .ld (some 2) (.g 5), (some (.l 46, false))⟩, 3, true, []⟩,
  ⟨⟨(some (false, 48)), .mv (.g 3), (some (.l 46, false))⟩, 4, true, []⟩,
  ⟨⟨(some (false, 49)), .mv (.g 4), (some (.l 46, false))⟩, 5, true, []⟩,
  ⟨⟨(some (false, 50)), .ia 2 (.l 48) (.l 49), (some (.l 46, false))⟩, 6, true, []⟩,
  ⟨⟨(some (false, 51)), .ld (some 2) (.l 50), (some (.l 46, false))⟩, 7, true, []⟩,
  ⟨⟨(some (false, 52)), .eqs true (.fld 0 none .i (.fld 1 none .i .nil)) (.l 47) (.l 51), (some (.l 46, false))⟩, 8, true, []⟩,
  ⟨⟨(some (true, 53)), .pick (.l 46) (.c (.lit (.bool true))) (.l 52), none⟩, 9, true, []⟩])
(.cond (.g 53)
(.seq
(.reg [
  ⟨(some (true, 0)), .mv (.c (.lit (.bool false))), none⟩])
.ret)
.skip))))
(.reg [
  ⟨(some (false, 28)), .mv (.g 4), none⟩,
  ⟨(some (false, 29)), .bin .add (.l 28) (.c (.lit (.int .i64 1))), none⟩,
  ⟨(some (true, 4)), .mv (.l 29), none⟩]))))))
(.seq
(.reg [
  ⟨(some (false, 55)), .call (.c (.fn 6 [])) [], none⟩,
  ⟨(some (false, 56)), .call (.c (.fn 5 [])) [.l 55, .c (.lit (.slice none 0 0)), .c (.lit (.int .i64 2)), .c (.lit (.int .i64 0))], none⟩,
  ⟨(some (false, 54)), .mv (.l 56), none⟩,
  ⟨(some (false, 57)), .ex (.l 54) 0, none⟩,
  ⟨(some (false, 58)), .ex (.l 54) 1, none⟩,
  ⟨(some (true, 7)), .new [.int .i64 0, .int .i64 0], none⟩,
  ⟨none, .st 2 (.g 7) (.l 57), none⟩,
  ⟨(some (true, 8)), .mv (.l 58), none⟩])
(.seq
(.reg [
  ⟨(some (false, 60)), .call (.c (.fn 6 [])) [], none⟩,
  ⟨(some (false, 61)), .call (.c (.fn 7 [])) [], none⟩,
  ⟨(some (false, 62)), .call (.c (.fn 8 [])) [.l 60, .l 61, .c (.lit (.int .i64 0)), .c (.lit (.int .i64 4)), .c (.lit (.int .i64 10))], none⟩,
  ⟨(some (false, 59)), .mv (.l 62), none⟩,
  ⟨(some (false, 63)), .ex (.l 59) 0, none⟩,
  ⟨(some (false, 64)), .ex (.l 59) 1, none⟩,
  ⟨(some (true, 9)), .new [.int .i64 0, .int .i64 0], none⟩,
  ⟨none, .st 2 (.g 9) (.l 63), none⟩,
  ⟨(some (true, 10)), .mv (.l 64), none⟩])
(.seq
(.seq
(.draw [
  ⟨⟨(some (false, 65)), .mv (.g 8), none⟩, 0, true, []⟩,
  ⟨⟨(some (false, 66)), .bin .neq (.l 65) (.c (.lit (.int .i64 0))), none⟩, 1, true, []⟩,
  ⟨⟨(some (false, 67)), .mv (.l 66), none⟩, 2, true, []⟩,
  ⟨⟨(some (false, 68)), .mv (.g 10), (some (.l 67, false))⟩, 3, true, []⟩,
  ⟨⟨(some (false, 69)), .bin .neq (.l 68) (.c (.lit (.int .i64 0))), (some (.l 67, false))⟩, 4, true, []⟩,
  ⟨⟨(some (false, 70)), .pick (.l 67) (.c (.lit (.bool true))) (.l 69), none⟩, 5, true, []⟩,
  ⟨⟨(some (false, 71)), .mv (.l 70), none⟩, 6, true, []⟩,
  ⟨⟨(some (false, 72)), .ld (some 2) (.g 7), (some (.l 71, false))⟩, 7, true, []⟩,
  ⟨⟨(some (false, 73)), .call (.c (.fn 4 [])) [.c (.lit (.int .i64 0)), .c (.lit (.int .i64 3000))], (some (.l 71, false))⟩, 8, false, []⟩,
  ⟨⟨(some (false, 74)), .eqs true (.fld 0 none .i (.fld 1 none .i .nil)) (.l 72) (.l 73), (some (.l 71, false))⟩, 9, true, []⟩,
  ⟨⟨(some (false, 75)), .pick (.l 71) (.c (.lit (.bool true))) (.l 74), none⟩, 10, true, []⟩,
  ⟨⟨(some (false, 76)), .mv (.l 75), none⟩, 11, true, []⟩,
  ⟨⟨(some (false, 77)), .ld (some 2) (.g 9), (some (.l 76, false))⟩, 12, true, []⟩,
  ⟨⟨(some (false, 78)), .call (.c (.fn 4 [])) [.c (.lit (.int .i64 420)), .c (.lit (.int .i64 500))], (some (.l 76, false))⟩, 13, false, []⟩,
  ⟨⟨(some (false, 79)), .eqs true (.fld 0 none .i (.fld 1 none .i .nil)) (.l 77) (.l 78), (some (.l 76, false))⟩, 14, true, []⟩,
  ⟨⟨(some (false, 80)), .pick (.l 76) (.c (.lit (.bool true))) (.l 79), none⟩, 15, true, []⟩,
  ⟨⟨(some (false, 81)), .mv (.l 80), none⟩, 16, true, []⟩,
  ⟨⟨(some (false, 82)), .call (.c (.fn 6 [])) [], (some (.l 81, false))⟩, 17, false, []⟩,
  ⟨⟨(some (false, 83)), .call (.c (.fn 10 [])) [.c (.lit (.int .i64 0)), .c (.lit (.int .i64 10)), .c (.lit (.int .i64 500))], (some (.l 81, false))⟩, 18, false, []⟩,
  ⟨⟨(some (false, 84)), .call (.c (.fn 10 [])) [.c (.lit (.int .i64 1)), .c (.lit (.int .i64 10)), .c (.lit (.int .i64 511))], (some (.l 81, false))⟩, 19, false, []⟩,
  ⟨⟨(some (false, 85)), .mks false 5 [.l 83, .l 84], (some (.l 81, false))⟩, 20, true, []⟩,
  ⟨⟨(some (false, 86)), .call (.c (.fn 9 [])) [.l 82, .l 85], (some (.l 81, false))⟩, 21, false, []⟩,
  ⟨⟨(some (false, 87)), .bin .neq (.l 86) (.c (.lit (.int .i64 12))), (some (.l 81, false))⟩, 22, true, []⟩,
  ⟨⟨(some (true, 88)), .pick (.l 81) (.c (.lit (.bool true))) (.l 87), none⟩, 23, true, []⟩])
(.cond (.g 88)
(.seq
(.reg [
  ⟨(some (true, 0)), .mv (.c (.lit (.bool false))), none⟩])
.ret)
.skip))
(.seq
(.reg [
  ⟨(some (false, 90)), .call (.c (.fn 6 [])) [], none⟩,
  ⟨(some (false, 91)), .call (.c (.fn 7 [])) [], none⟩,
  ⟨(some (false, 92)), .mks false 1 [.c (.lit (.int .i64 499)), .c (.lit (.int .i64 499)), .c (.lit (.int .i64 499)), .c (.lit (.int .i64 499)), .c (.lit (.int .i64 499))], none⟩,
  ⟨(some (false, 93)), .mks false 1 [.c (.lit (.int .i64 500)), .c (.lit (.int .i64 500)), .c (.lit (.int .i64 500)), .c (.lit (.int .i64 499)), .c (.lit (.int .i64 499))], none⟩,
  ⟨(some (false, 94)), .mks false 1 [.l 92, .l 93], none⟩,
  ⟨(some (false, 95)), .call (.c (.fn 11 [])) [.l 90, .l 91, .c (.lit (.int .i64 9)), .l 94], none⟩,
  ⟨(some (false, 89)), .mv (.l 95), none⟩,
  ⟨(some (false, 96)), .ex (.l 89) 0, none⟩,
  ⟨(some (false, 97)), .ex (.l 89) 1, none⟩,
  ⟨(some (false, 98)), .ex (.l 89) 2, none⟩,
  ⟨(some (true, 11)), .mv (.l 96), none⟩,
  ⟨(some (true, 12)), .mv (.l 97), none⟩,
  ⟨(some (true, 8)), .mv (.l 98), none⟩])
(.seq
(.reg [
  ⟨(some (false, 100)), .call (.c (.fn 6 [])) [], none⟩,
  ⟨(some (false, 101)), .mks false 1 [.c (.lit (.int .i64 5)), .c (.lit (.int .i64 15)), .c (.lit (.int .i64 26)), .c (.lit (.int .i64 0)), .c (.lit (.int .i64 0))], none⟩,
  ⟨(some (false, 102)), .mks false 1 [.l 101], none⟩,
  ⟨(some (false, 103)), .call (.c (.fn 11 [])) [.l 100, .c (.lit (.slice none 0 0)), .c (.lit (.int .i64 0)), .l 102], none⟩,
  ⟨(some (false, 99)), .mv (.l 103), none⟩,
  ⟨(some (false, 104)), .ex (.l 99) 0, none⟩,
  ⟨(some (false, 105)), .ex (.l 99) 1, none⟩,
  ⟨(some (false, 106)), .ex (.l 99) 2, none⟩,
  ⟨(some (true, 13)), .mv (.l 104), none⟩,
  ⟨(some (true, 14)), .mv (.l 105), none⟩,
  ⟨(some (true, 10)), .mv (.l 106), none⟩])
(.seq
(.seq
(.reg [
  ⟨(some (false, 107)), .mv (.g 8), none⟩,
  ⟨(some (false, 108)), .bin .neq (.l 107) (.c (.lit (.int .i64 0))), none⟩,
  ⟨(some (false, 109)), .mv (.l 108), none⟩,
  ⟨(some (false, 110)), .mv (.g 10), (some (.l 109, false))⟩,
  ⟨(some (false, 111)), .bin .neq (.l 110) (.c (.lit (.int .i64 0))), (some (.l 109, false))⟩,
  ⟨(some (false, 112)), .pick (.l 109) (.c (.lit (.bool true))) (.l 111), none⟩,
  ⟨(some (false, 113)), .mv (.l 112), none⟩,
  ⟨(some (false, 114)), .mv (.g 11), (some (.l 113, false))⟩,
  ⟨(some (false, 115)), .bin .neq (.l 114) (.c (.lit (.int .i64 (-1)))), (some (.l 113, false))⟩,
  ⟨(some (false, 116)), .pick (.l 113) (.c (.lit (.bool true))) (.l 115), none⟩,
  ⟨(some (false, 117)), .mv (.l 116), none⟩,
  ⟨(some (false, 118)), .mv (.g 12), (some (.l 117, false))⟩,
  ⟨(some (false, 119)), .bin .neq (.l 118) (.c (.lit (.int .i64 (-1)))), (some (.l 117, false))⟩,
  ⟨(some (false, 120)), .pick (.l 117) (.c (.lit (.bool true))) (.l 119), none⟩,
  ⟨(some (false, 121)), .mv (.l 120), none⟩,
  ⟨(some (false, 122)), .mv (.g 13), (some (.l 121, false))⟩,
  ⟨(some (false, 123)), .bin .neq (.l 122) (.c (.lit (.int .i64 0))), (some (.l 121, false))⟩,
  ⟨(some (false, 124)), .pick (.l 121) (.c (.lit (.bool true))) (.l 123), none⟩,
  ⟨(some (false, 125)), .mv (.l 124), none⟩,
  ⟨(some (false, 126)), .mv (.g 14), (some (.l 125, false))⟩,
  ⟨(some (false, 127)), .bin .neq (.l 126) (.c (.lit (.int .i64 2))), (some (.l 125, false))⟩,
  ⟨(some (true, 128)), .pick (.l 125) (.c (.lit (.bool true))) (.l 127), none⟩])
(.cond (.g 128)
(.seq
(.reg [
  ⟨(some (true, 0)), .mv (.c (.lit (.bool false))), none⟩])
.ret)
.skip))
(.seq
(.reg [
  ⟨(some (false, 129)), .call (.c (.fn 12 [])) [], none⟩,
  ⟨(some (false, 130)), .mv (.l 129), none⟩,
  ⟨(some (false, 131)), .call (.c (.fn 13 [])) [], (some (.l 130, true))⟩,
  ⟨(some (false, 132)), .pick (.l 130) (.l 131) (.c (.lit (.bool false))), none⟩,
  ⟨(some (false, 133)), .mv (.l 132), none⟩,
  ⟨(some (false, 134)), .call (.c (.fn 14 [])) [], (some (.l 133, true))⟩,
  ⟨(some (false, 135)), .pick (.l 133) (.l 134) (.c (.lit (.bool false))), none⟩,
  ⟨(some (true, 0)), .mv (.l 135), none⟩])
.ret)))))))))))
def K3 : List Nat := [27, 53, 88, 128, 0, 1, 2, 3, 4, 5, 6, 7, 8, 9, 10, 11, 12, 13, 14]
noncomputable def b3 : Code := match Tryd.f3.body with | some c => c | none => .skip
theorem t3 : trCode ⟨Tryd.prog, K3, [], 136, none⟩ b3 = some c3 := by kernel_rfl
theorem go3 {args : List AV} {H : AHeap} {Kk : AV → AHeap → Prop} (hn : args.length = 0) (h : AGo ⟨Tryd.prog, K3, [], 136, none⟩ H.length [.code c3] (RetP [.t (.g 0)] H.length Kk) ⟨[], argsG 0 args⟩ H) : ACalls Tryd.prog 3 args H Kk :=
  ACalls_of Tryd.func3 (c := b3) rfl (by kernel_rfl) t3 (rs := [.t (.g 0)]) (by kernel_rfl) (by rw [hn]; exact Nat.le_of_ble_eq_true rfl) (by rw [hn]; rfl) (h.weaken (fun _ _ => RetP.hands) (by simp))

/-- sastrugi/sastrugilaw02.marked -/
def c12 : ACode :=
  (.seq
(.reg [
  ⟨(some (true, 0)), .mv (.c (.lit (.bool false))), none⟩])
(.seq
(.reg [
  ⟨(some (false, 6)), .mk [.int .i64 0, .int .i64 0, .int .i64 0, .int .i64 0, .int .i64 0] [(0, 1, .c (.lit (.int .i64 1))), (1, 1, .c (.lit (.int .i64 1))), (2, 1, .c (.lit (.int .i64 1))), (3, 1, .c (.lit (.int .i64 5))), (4, 1, .c (.lit (.int .i64 1)))], none⟩,
  ⟨(some (true, 1)), .new [.int .i64 0, .int .i64 0, .int .i64 0, .int .i64 0, .int .i64 0], none⟩,
  ⟨none, .st 5 (.g 1) (.l 6), none⟩])
(.seq
(.draw [
  ⟨⟨(some (false, 9)), .ld (some 5) (.g 1), none⟩, 1, true, []⟩,
  ⟨⟨(some (false, 10)), .mks false 5 [.l 9], none⟩, 2, true, []⟩,
  ⟨⟨(some (false, 8)), .call (.c (.fn 6 [])) [], none⟩, 0, false, []⟩,
  ⟨⟨(some (false, 11)), .call (.c (.fn 18 [])) [.l 8, .l 10, .c (.lit (.int .i64 6))], none⟩, 3, false, []⟩,
  ⟨⟨(some (false, 7)), .mv (.l 11), none⟩, 4, true, []⟩,
  ⟨⟨(some (false, 12)), .ex (.l 7) 0, none⟩, 5, true, []⟩,
  ⟨⟨(some (false, 13)), .ex (.l 7) 1, none⟩, 6, true, []⟩,
  ⟨⟨(some (true, 2)), .mv (.l 12), none⟩, 7, true, []⟩,
  ⟨⟨(some (true, 3)), .mv (.l 13), none⟩, 8, true, []⟩])
(.seq
(.draw [
  ⟨⟨(some (false, 16)), .ld (some 5) (.g 1), none⟩, 1, true, []⟩,
  ⟨⟨(some (false, 17)), .mk [.int .i64 0, .int .i64 0, .int .i64 0, .int .i64 0, .int .i64 0] [(0, 1, .c (.lit (.int .i64 4))), (1, 1, .c (.lit (.int .i64 1))), (2, 1, .c (.lit (.int .i64 2))), (3, 1, .c (.lit (.int .i64 6)))], none⟩, 2, true, []⟩,
  ⟨⟨(some (false, 18)), .mks false 5 [.l 16, .l 17], none⟩, 3, true, []⟩,
  ⟨⟨(some (false, 15)), .call (.c (.fn 6 [])) [], none⟩, 0, false, []⟩,
  ⟨⟨(some (false, 19)), .call (.c (.fn 18 [])) [.l 15, .l 18, .c (.lit (.int .i64 7))], none⟩, 4, false, []⟩,
  ⟨⟨(some (false, 14)), .mv (.l 19), none⟩, 5, true, []⟩,
  ⟨⟨(some (false, 20)), .ex (.l 14) 0, none⟩, 6, true, []⟩,
  ⟨⟨(some (false, 21)), .ex (.l 14) 1, none⟩, 7, true, []⟩,
  ⟨⟨(some (true, 4)), .mv (.l 20), none⟩, 8, true, []⟩,
  ⟨⟨(some (true, 5)), .mv (.l 21), none⟩, 9, true, []⟩])
(.seq
(.reg [
  ⟨(some (false, 22)), .mv (.g 3), none⟩,
  ⟨(some (false, 23)), .bin .eql (.l 22) (.c (.lit (.int .i64 0))), none⟩,
  ⟨(some (false, 24)), .mv (.l 23), none⟩,
  ⟨(some (false, 25)), .mv (.g 5), (some (.l 24, true))⟩,
  ⟨(some (false, 26)), .bin .eql (.l 25) (.c (.lit (.int .i64 0))), (some (.l 24, true))⟩,
  ⟨(some (false, 27)), .pick (.l 24) (.l 26) (.c (.lit (.bool false))), none⟩,
  ⟨(some (false, 28)), .mv (.l 27), none⟩,
  ⟨(some (false, 29)), .mv (.g 2), (some (.l 28, true))⟩,
  ⟨(some (false, 30)), .mk [.int .i64 0, .int .i64 0, .int .i64 0] [(0, 1, .c (.lit (.int .i64 0))), (1, 1, .c (.lit (.int .i64 0))), (2, 1, .c (.lit (.int .i64 3)))], (some (.l 28, true))⟩,
  ⟨(some (false, 31)), .mk [.int .i64 0, .int .i64 0, .int .i64 0] [(0, 1, .c (.lit (.int .i64 1))), (1, 1, .c (.lit (.int .i64 1))), (2, 1, .c (.lit (.int .i64 1)))], (some (.l 28, true))⟩,
  ⟨(some (false, 32)), .mk [.int .i64 0, .int .i64 0, .int .i64 0] [(0, 1, .c (.lit (.int .i64 2))), (1, 1, .c (.lit (.int .i64 2))), (2, 1, .c (.lit (.int .i64 3)))], (some (.l 28, true))⟩,
  ⟨(some (false, 33)), .mk [.int .i64 0, .int .i64 0, .int .i64 0] [(0, 1, .c (.lit (.int .i64 3))), (1, 1, .c (.lit (.int .i64 4))), (2, 1, .c (.lit (.int .i64 2)))], (some (.l 28, true))⟩,
  ⟨(some (false, 34)), .mks false 3 [.l 30, .l 31, .l 32, .l 33], (some (.l 28, true))⟩,
  ⟨(some (false, 35)), .call (.c (.fn 19 [])) [.l 29, .l 34], (some (.l 28, true))⟩,
  ⟨(some (false, 36)), .pick (.l 28) (.l 35) (.c (.lit (.bool false))), none⟩,
  ⟨(some (false, 37)), .mv (.l 36), none⟩,
  ⟨(some (false, 38)), .mv (.g 4), (some (.l 37, true))⟩,
  ⟨(some (false, 39)), .mk [.int .i64 0, .int .i64 0, .int .i64 0] [(0, 1, .c (.lit (.int .i64 0))), (1, 1, .c (.lit (.int .i64 1))), (2, 1, .c (.lit (.int .i64 3)))], (some (.l 37, true))⟩,
  ⟨(some (false, 40)), .mk [.int .i64 0, .int .i64 0, .int .i64 0] [(0, 1, .c (.lit (.int .i64 2))), (1, 1, .c (.lit (.int .i64 4))), (2, 1, .c (.lit (.int .i64 2)))], (some (.l 37, true))⟩,
  ⟨(some (false, 41)), .mks false 3 [.l 39, .l 40], (some (.l 37, true))⟩,
  ⟨(some (false, 42)), .call (.c (.fn 19 [])) [.l 38, .l 41], (some (.l 37, true))⟩,
  ⟨(some (false, 43)), .pick (.l 37) (.l 42) (.c (.lit (.bool false))), none⟩,
  ⟨(some (true, 0)), .mv (.l 43), none⟩])
.ret)))))
def K12 : List Nat := [0, 1, 2, 3, 4, 5]
noncomputable def b12 : Code := match Tryd.f12.body with | some c => c | none => .skip
theorem t12 : trCode ⟨Tryd.prog, K12, [], 44, none⟩ b12 = some c12 := by kernel_rfl
theorem go12 {args : List AV} {H : AHeap} {Kk : AV → AHeap → Prop} (hn : args.length = 0) (h : AGo ⟨Tryd.prog, K12, [], 44, none⟩ H.length [.code c12] (RetP [.t (.g 0)] H.length Kk) ⟨[], argsG 0 args⟩ H) : ACalls Tryd.prog 12 args H Kk :=
  ACalls_of Tryd.func12 (c := b12) rfl (by kernel_rfl) t12 (rs := [.t (.g 0)]) (by kernel_rfl) (by rw [hn]; exact Nat.le_of_ble_eq_true rfl) (by rw [hn]; rfl) (h.weaken (fun _ _ => RetP.hands) (by simp))

/-- sastrugi/sastrugilaw02.gated -/
def c13 : ACode :=
  (.seq
(.reg [
  ⟨(some (true, 0)), .mv (.c (.lit (.bool false))), none⟩])
(.seq
(.reg [
  ⟨(some (false, 12)), .call (.c (.fn 6 [])) [], none⟩,
  ⟨(some (false, 13)), .call (.c (.fn 7 [])) [], none⟩,
  ⟨(some (false, 14)), .call (.c (.fn 20 [])) [.l 12, .l 13, .c (.lit (.int .i64 10))], none⟩,
  ⟨(some (false, 11)), .mv (.l 14), none⟩,
  ⟨(some (false, 15)), .ex (.l 11) 0, none⟩,
  ⟨(some (false, 16)), .ex (.l 11) 1, none⟩,
  ⟨(some (true, 1)), .mv (.l 15), none⟩,
  ⟨(some (true, 2)), .mv (.l 16), none⟩])
(.seq
(.reg [
  ⟨(some (false, 18)), .call (.c (.fn 6 [])) [], none⟩,
  ⟨(some (false, 19)), .call (.c (.fn 7 [])) [], none⟩,
  ⟨(some (false, 20)), .call (.c (.fn 21 [])) [.l 18, .l 19, .c (.lit (.int .i64 10)), .c (.lit (.int .i64 3))], none⟩,
  ⟨(some (false, 17)), .mv (.l 20), none⟩,
  ⟨(some (false, 21)), .ex (.l 17) 0, none⟩,
  ⟨(some (false, 22)), .ex (.l 17) 1, none⟩,
  ⟨(some (false, 23)), .ex (.l 17) 2, none⟩,
  ⟨(some (true, 3)), .mv (.l 21), none⟩,
  ⟨(some (true, 4)), .mv (.l 22), none⟩,
  ⟨(some (true, 5)), .mv (.l 23), none⟩])
(.seq
(.reg [
  ⟨(some (false, 24)), .call (.c (.fn 7 [])) [], none⟩,
  ⟨(some (false, 25)), .call (.c (.fn 4 [])) [.c (.lit (.int .i64 480)), .c (.lit (.int .i64 520))], none⟩,
  ⟨(some (false, 26)), .mk [.int .i64 0, .int .i64 0, .int .i64 0, .int .i64 0, .int .i64 0] [(0, 1, .c (.lit (.int .i64 3))), (1, 1, .c (.lit (.int .i64 2))), (2, 1, .c (.lit (.int .i64 9))), (3, 2, .l 25)], none⟩,
  ⟨(some (false, 27)), .mks false 5 [.l 26], none⟩,
  ⟨(some (false, 28)), .app 5 40 (.l 24) (.l 27), none⟩,
  ⟨(some (true, 6)), .mv (.l 28), none⟩])
(.seq
(.reg [
  ⟨(some (false, 30)), .call (.c (.fn 6 [])) [], none⟩,
  ⟨(some (false, 31)), .mv (.g 6), none⟩,
  ⟨(some (false, 32)), .call (.c (.fn 22 [])) [.l 30, .l 31, .c (.lit (.slice none 0 0)), .c (.lit (.int .i64 450)), .c (.lit (.int .i64 10))], none⟩,
  ⟨(some (false, 29)), .mv (.l 32), none⟩,
  ⟨(some (false, 33)), .ex (.l 29) 0, none⟩,
  ⟨(some (false, 34)), .ex (.l 29) 1, none⟩,
  ⟨(some (true, 7)), .mv (.l 33), none⟩,
  ⟨(some (true, 8)), .mv (.l 34), none⟩])
(.seq
(.reg [
  ⟨(some (false, 36)), .call (.c (.fn 6 [])) [], none⟩,
  ⟨(some (false, 37)), .call (.c (.fn 7 [])) [], none⟩,
  ⟨(some (false, 38)), .call (.c (.fn 23 [])) [.l 36, .l 37, .c (.lit (.slice none 0 0)), .c (.lit (.int .i64 480)), .c (.lit (.int .i64 10)), .c (.lit (.int .i64 0))], none⟩,
  ⟨(some (false, 35)), .mv (.l 38), none⟩,
  ⟨(some (false, 39)), .ex (.l 35) 0, none⟩,
  ⟨(some (false, 40)), .ex (.l 35) 1, none⟩,
  ⟨(some (true, 9)), .mv (.l 39), none⟩,
  ⟨(some (true, 10)), .mv (.l 40), none⟩])
(.seq
(.seq
(.reg [
  ⟨(some (false, 41)), .mv (.g 2), none⟩,
  ⟨(some (false, 42)), .bin .neq (.l 41) (.c (.lit (.int .i64 0))), none⟩,
  ⟨(some (false, 43)), .mv (.l 42), none⟩,
  ⟨(some (false, 44)), .mv (.g 5), (some (.l 43, false))⟩,
  ⟨(some (false, 45)), .bin .neq (.l 44) (.c (.lit (.int .i64 0))), (some (.l 43, false))⟩,
  ⟨(some (false, 46)), .pick (.l 43) (.c (.lit (.bool true))) (.l 45), none⟩,
  ⟨(some (false, 47)), .mv (.l 46), none⟩,
  ⟨(some (false, 48)), .mv (.g 8), (some (.l 47, false))⟩,
  ⟨(some (false, 49)), .bin .neq (.l 48) (.c (.lit (.int .i64 0))), (some (.l 47, false))⟩,
  ⟨(some (false, 50)), .pick (.l 47) (.c (.lit (.bool true))) (.l 49), none⟩,
  ⟨(some (false, 51)), .mv (.l 50), none⟩,
  ⟨(some (false, 52)), .mv (.g 10), (some (.l 51, false))⟩,
  ⟨(some (false, 53)), .bin .neq (.l 52) (.c (.lit (.int .i64 0))), (some (.l 51, false))⟩,
  ⟨(some (false, 54)), .pick (.l 51) (.c (.lit (.bool true))) (.l 53), none⟩,
  ⟨(some (false, 55)), .mv (.l 54), none⟩,
  ⟨(some (false, 56)), .mv (.g 9), (some (.l 55, false))⟩,
  ⟨(some (false, 57)), .bin .neq (.l 56) (.c (.lit (.int .i64 20))), (some (.l 55, false))⟩,
  ⟨(some (true, 58)), .pick (.l 55) (.c (.lit (.bool true))) (.l 57), none⟩])
(.cond (.g 58)
(.seq
(.reg [
  ⟨(some (true, 0)), .mv (.c (.lit (.bool false))), none⟩])
.ret)
.skip))
(.seq
(.reg [
  ⟨(some (false, 59)), .mv (.g 1), none⟩,
  ⟨(some (false, 60)), .call (.c (.fn 4 [])) [.c (.lit (.int .i64 1)), .c (.lit (.int .i64 4))], none⟩,
  ⟨(some (false, 61)), .mks false 2 [.l 60], none⟩,
  ⟨(some (false, 62)), .call (.c (.fn 24 [])) [.l 59, .l 61], none⟩,
  ⟨(some (false, 63)), .mv (.l 62), none⟩,
  ⟨(some (false, 64)), .mv (.g 3), (some (.l 63, true))⟩,
  ⟨(some (false, 65)), .mks false 1 [.c (.lit (.int .i64 3))], (some (.l 63, true))⟩,
  ⟨(some (false, 66)), .call (.c (.fn 25 [])) [.l 64, .l 65], (some (.l 63, true))⟩,
  ⟨(some (false, 67)), .pick (.l 63) (.l 66) (.c (.lit (.bool false))), none⟩,
  ⟨(some (false, 68)), .mv (.l 67), none⟩,
  ⟨(some (false, 69)), .mv (.g 4), (some (.l 68, true))⟩,
  ⟨(some (false, 70)), .mks false 1 [.c (.lit (.int .i64 1))], (some (.l 68, true))⟩,
  ⟨(some (false, 71)), .call (.c (.fn 25 [])) [.l 69, .l 70], (some (.l 68, true))⟩,
  ⟨(some (false, 72)), .pick (.l 68) (.l 71) (.c (.lit (.bool false))), none⟩,
  ⟨(some (false, 73)), .mv (.l 72), none⟩,
  ⟨(some (false, 74)), .mv (.g 7), (some (.l 73, true))⟩,
  ⟨(some (false, 75)), .mk [.int .i64 0, .int .i64 0, .int .i64 0] [(0, 1, .c (.lit (.int .i64 4))), (1, 1, .c (.lit (.int .i64 4))), (2, 1, .c (.lit (.int .i64 1)))], (some (.l 73, true))⟩,
  ⟨(some (false, 76)), .mks false 3 [.l 75], (some (.l 73, true))⟩,
  ⟨(some (false, 77)), .call (.c (.fn 26 [])) [.l 74, .l 76], (some (.l 73, true))⟩,
  ⟨(some (false, 78)), .pick (.l 73) (.l 77) (.c (.lit (.bool false))), none⟩,
  ⟨(some (true, 0)), .mv (.l 78), none⟩])
.ret))))))))
def K13 : List Nat := [58, 0, 1, 2, 3, 4, 5, 6, 7, 8, 9, 10]
noncomputable def b13 : Code := match Tryd.f13.body with | some c => c | none => .skip
theorem t13 : trCode ⟨Tryd.prog, K13, [], 79, none⟩ b13 = some c13 := by kernel_rfl
theorem go13 {args : List AV} {H : AHeap} {Kk : AV → AHeap → Prop} (hn : args.length = 0) (h : AGo ⟨Tryd.prog, K13, [], 79, none⟩ H.length [.code c13] (RetP [.t (.g 0)] H.length Kk) ⟨[], argsG 0 args⟩ H) : ACalls Tryd.prog 13 args H Kk :=
  ACalls_of Tryd.func13 (c := b13) rfl (by kernel_rfl) t13 (rs := [.t (.g 0)]) (by kernel_rfl) (by rw [hn]; exact Nat.le_of_ble_eq_true rfl) (by rw [hn]; rfl) (h.weaken (fun _ _ => RetP.hands) (by simp))

/-- sastrugi/sastrugilaw02.taped -/
def c14 : ACode :=
  (.seq
(.reg [
  ⟨(some (true, 0)), .mv (.c (.lit (.bool false))), none⟩])
(.seq
(.reg [
  ⟨(some (false, 6)), .call (.c (.fn 4 [])) [.c (.lit (.int .i64 160)), .c (.lit (.int .i64 170))], none⟩,
  ⟨(some (false, 7)), .call (.c (.fn 4 [])) [.c (.lit (.int .i64 6000)), .c (.lit (.int .i64 6001))], none⟩,
  ⟨(some (false, 8)), .mk [.int .i64 0, .int .i64 0, .int .i64 0, .int .i64 0] [(0, 1, .c (.lit (.int .i64 2))), (1, 1, .c (.lit (.int .i64 9))), (2, 2, .l 7)], none⟩,
  ⟨(some (false, 9)), .mks false 4 [.l 8], none⟩,
  ⟨(some (false, 10)), .mk [.int .i64 0, .int .i64 0, .slice none 0 0] [(0, 2, .l 6), (2, 1, .l 9)], none⟩,
  ⟨(some (true, 1)), .new [.int .i64 0, .int .i64 0, .slice none 0 0], none⟩,
  ⟨none, .st 3 (.g 1) (.l 10), none⟩])
(.seq
(.reg [
  ⟨(some (false, 12)), .ld (some 3) (.g 1), none⟩,
  ⟨(some (false, 13)), .call (.c (.fn 27 [])) [.l 12], none⟩,
  ⟨(some (false, 11)), .mv (.l 13), none⟩,
  ⟨(some (false, 14)), .ex (.l 11) 0, none⟩,
  ⟨(some (false, 15)), .ex (.l 11) 1, none⟩,
  ⟨(some (true, 2)), .mv (.l 14), none⟩,
  ⟨(some (true, 3)), .mv (.l 15), none⟩])
(.seq
(.reg [
  ⟨(some (false, 17)), .ld (some 3) (.g 1), none⟩,
  ⟨(some (false, 18)), .call (.c (.fn 28 [])) [.l 17], none⟩,
  ⟨(some (false, 16)), .mv (.l 18), none⟩,
  ⟨(some (false, 19)), .ex (.l 16) 0, none⟩,
  ⟨(some (false, 20)), .ex (.l 16) 1, none⟩,
  ⟨(some (true, 4)), .mv (.l 19), none⟩,
  ⟨(some (true, 5)), .mv (.l 20), none⟩])
(.seq
(.reg [
  ⟨(some (false, 21)), .mv (.g 3), none⟩,
  ⟨(some (false, 22)), .bin .eql (.l 21) (.c (.lit (.int .i64 0))), none⟩,
  ⟨(some (false, 23)), .mv (.l 22), none⟩,
  ⟨(some (false, 24)), .mv (.g 5), (some (.l 23, true))⟩,
  ⟨(some (false, 25)), .bin .eql (.l 24) (.c (.lit (.int .i64 0))), (some (.l 23, true))⟩,
  ⟨(some (false, 26)), .pick (.l 23) (.l 25) (.c (.lit (.bool false))), none⟩,
  ⟨(some (false, 27)), .mv (.l 26), none⟩,
  ⟨(some (false, 28)), .mv (.g 4), (some (.l 27, true))⟩,
  ⟨(some (false, 29)), .bin .eql (.l 28) (.c (.lit (.string ⟨[114, 97, 100, 97, 114, 32, 49, 54, 48, 32, 49, 55, 48, 10, 101, 99, 104, 111, 32, 50, 32, 57, 32, 54, 48, 48, 48, 32, 54, 48, 48, 49, 10].toArray⟩))), (some (.l 27, true))⟩,
  ⟨(some (false, 30)), .pick (.l 27) (.l 29) (.c (.lit (.bool false))), none⟩,
  ⟨(some (false, 31)), .mv (.l 30), none⟩,
  ⟨(some (false, 32)), .mv (.g 2), (some (.l 31, true))⟩,
  ⟨(some (false, 33)), .call (.c (.fn 4 [])) [.c (.lit (.int .i64 480)), .c (.lit (.int .i64 511))], (some (.l 31, true))⟩,
  ⟨(some (false, 34)), .mk [.int .i64 0, .int .i64 0, .int .i64 0, .int .i64 0, .int .i64 0] [(0, 1, .c (.lit (.int .i64 3))), (1, 1, .c (.lit (.int .i64 2))), (2, 1, .c (.lit (.int .i64 9))), (3, 2, .l 33)], (some (.l 31, true))⟩,
  ⟨(some (false, 35)), .mks false 5 [.l 34], (some (.l 31, true))⟩,
  ⟨(some (false, 36)), .call (.c (.fn 29 [])) [.l 32, .l 35], (some (.l 31, true))⟩,
  ⟨(some (false, 37)), .pick (.l 31) (.l 36) (.c (.lit (.bool false))), none⟩,
  ⟨(some (true, 0)), .mv (.l 37), none⟩])
.ret)))))
def K14 : List Nat := [0, 1, 2, 3, 4, 5]
noncomputable def b14 : Code := match Tryd.f14.body with | some c => c | none => .skip
theorem t14 : trCode ⟨Tryd.prog, K14, [], 38, none⟩ b14 = some c14 := by kernel_rfl
theorem go14 {args : List AV} {H : AHeap} {Kk : AV → AHeap → Prop} (hn : args.length = 0) (h : AGo ⟨Tryd.prog, K14, [], 38, none⟩ H.length [.code c14] (RetP [.t (.g 0)] H.length Kk) ⟨[], argsG 0 args⟩ H) : ACalls Tryd.prog 14 args H Kk :=
  ACalls_of Tryd.func14 (c := b14) rfl (by kernel_rfl) t14 (rs := [.t (.g 0)]) (by kernel_rfl) (by rw [hn]; exact Nat.le_of_ble_eq_true rfl) (by rw [hn]; rfl) (h.weaken (fun _ _ => RetP.hands) (by simp))

/-- sastrugi/probe.Looks -/
def c27 : ACode :=
  (.seq
(.reg [
  ⟨(some (true, 1)), .box (.g 0), none⟩,
  ⟨(some (true, 2)), .mv (.c (.lit (.slice none 0 0))), none⟩,
  ⟨(some (true, 3)), .mv (.c (.lit (.int .i64 0))), none⟩])
(.seq
(.seq
(.reg [
  ⟨(some (false, 10)), .ld (some 3) (.g 1), none⟩,
  ⟨(some (false, 11)), .call (.c (.fn 48 [])) [.l 10], none⟩,
  ⟨(some (true, 4)), .mv (.l 11), none⟩])
(.seq
(.reg [
  ⟨(some (false, 12)), .mv (.g 4), none⟩,
  ⟨(some (true, 13)), .bin .neq (.l 12) (.c (.lit (.int .i64 0))), none⟩])
(.cond (.g 13)
(.seq
(.reg [
  ⟨(some (false, 14)), .mv (.g 4), none⟩,
  ⟨(some (true, 2)), .mv (.c (.lit (.slice none 0 0))), none⟩,
  ⟨(some (true, 3)), .mv (.l 14), none⟩])
.ret)
.skip)))
(.seq
(.reg [
  ⟨(some (true, 5)), .mv (.c (.lit (.slice none 0 0))), none⟩])
(.seq
(.seq
(.reg [
  ⟨(some (false, 15)), .fa (.g 1) 2, none⟩,
  ⟨(some (true, 16)), .ld none (.l 15), none⟩,
  ⟨(some (true, 17)), .len (.g 16), none⟩,
  ⟨(some (true, 18)), .mv (.c (.lit (.int .i64 0))), none⟩])
(.block 0
(.loop
(.seq
(.reg [
  ⟨(some (true, 19)), .bin .lss (.g 18) (.g 17), none⟩])
(.seq
(.cond (.g 19)
.skip
(.exit 0))
(.seq
(.block 1
(.seq
(.reg [
  ⟨(some (false, 20)), .ia 4 (.g 16) (.g 18), none⟩,
  ⟨(some (false, 21)), .ld (some 4) (.l 20), none⟩,
  ⟨(some (true, 7)), .new [.int .i64 0, .int .i64 0, .int .i64 0, .int .i64 0], none⟩,
  ⟨none, .st 4 (.g 7) (.l 21), none⟩])
(.seq
(.draw [
  ⟨⟨(some (false, 22)), .fa (.g 1) 0, none⟩, 0, true, []⟩,
  ⟨⟨(some (false, 23)), .fa (.l 22) 0, none⟩, 1, true, []⟩,
  ⟨⟨(some (false, 24)), .ld none (.l 23), none⟩, 2, true, []⟩,
  ⟨⟨(some (false, 25)), .fa (.g 7) 2, none⟩, 3, true, []⟩,
  ⟨⟨(some (false, 26)), .fa (.l 25) 0, none⟩, 4, true, []⟩,
  ⟨⟨(some (false, 27)), .ld none (.l 26), none⟩, 5, true, []⟩,
  ⟨⟨(some (false, 28)), .bin .mul (.l 24) (.l 27), none⟩, 6, true, []⟩,
  ⟨⟨(some (false, 29)), .bin .quo (.l 28) (.c (.lit (.int .i64 2000))), none⟩, 7, true, []⟩,
  ⟨⟨(some (false, 30)), .fa (.g 1) 0, none⟩, 8, true, []⟩,
  ⟨⟨(some (false, 31)), .fa (.l 30) 1, none⟩, 9, true, []⟩,
  ⟨⟨(some (false, 32)), .ld none (.l 31), none⟩, 10, true, []⟩,
  ⟨⟨(some (false, 33)), .fa (.g 7) 2, none⟩, 11, true, []⟩,
  ⟨⟨(some (false, 34)), .fa (.l 33) 1, none⟩, 12, true, []⟩,
  ⟨⟨(some (false, 35)), .ld none (.l 34), none⟩, 13, true, []⟩,
  ⟨⟨(some (false, 36)), .bin .mul (.l 32) (.l 35), none⟩, 14, true, []⟩,
  ⟨⟨(some (false, 37)), .bin .add (.l 36) (.c (.lit (.int .i64 1999))), none⟩, 15, true, []⟩,
  ⟨⟨(some (false, 38)), .bin .quo (.l 37) (.c (.lit (.int .i64 2000))), none⟩, 16, true, []⟩,
  ⟨⟨(some (true, 8)), .mv (.l 29), none⟩, 17, true, []⟩,
  ⟨⟨(some (true, 9)), .mv (.l 38), none⟩, 18, true, []⟩])
(.reg [
  ⟨(some (false, 39)), .mv (.g 5), none⟩,
  ⟨(some (false, 40)), .fa (.g 7) 0, none⟩,
  ⟨(some (false, 41)), .ld none (.l 40), none⟩,
  ⟨(some (false, 42)), .fa (.g 7) 1, none⟩,
  ⟨(some (false, 43)), .ld none (.l 42), none⟩,
  ⟨(some (false, 44)), .mv (.g 8), none⟩,
  ⟨(some (false, 45)), .mn [.l 44, .c (.lit (.int .i64 3000))], none⟩,
  ⟨(some (false, 46)), .mv (.g 9), none⟩,
  ⟨(some (false, 47)), .mn [.l 46, .c (.lit (.int .i64 3000))], none⟩,
  ⟨(some (false, 48)), .mk [.int .i64 0, .int .i64 0] [(0, 1, .l 45), (1, 1, .l 47)], none⟩,
  ⟨(some (false, 49)), .mk [.int .i64 0, .int .i64 0, .int .i64 0, .int .i64 0, .int .i64 0] [(0, 1, .c (.lit (.int .i64 3))), (1, 1, .l 41), (2, 1, .l 43), (3, 2, .l 48)], none⟩,
  ⟨(some (false, 50)), .mks false 5 [.l 49], none⟩,
  ⟨(some (false, 51)), .app 5 40 (.l 39) (.l 50), none⟩,
  ⟨(some (true, 5)), .mv (.l 51), none⟩]))))
(.reg [
  ⟨(some (false, 52)), .bin .add (.g 18) (.c (.lit (.int .i64 1))), none⟩,
  ⟨(some (true, 18)), .mv (.l 52), none⟩])))))))
(.seq
(.reg [
  ⟨(some (false, 53)), .mv (.g 5), none⟩,
  ⟨(some (true, 2)), .mv (.l 53), none⟩,
  ⟨(some (true, 3)), .mv (.c (.lit (.int .i64 0))), none⟩])
.ret)))))
def K27 : List Nat := [0, 13, 19, 2, 3, 1, 4, 5, 16, 17, 18, 7, 8, 9]
noncomputable def b27 : Code := match Tryd.f27.body with | some c => c | none => .skip
theorem t27 : trCode ⟨Tryd.prog, K27, [], 54, none⟩ b27 = some c27 := by kernel_rfl
theorem go27 {args : List AV} {H : AHeap} {Kk : AV → AHeap → Prop} (hn : args.length = 1) (h : AGo ⟨Tryd.prog, K27, [], 54, none⟩ H.length [.code c27] (RetP [.t (.g 2), .t (.g 3)] H.length Kk) ⟨[], argsG 0 args⟩ H) : ACalls Tryd.prog 27 args H Kk :=
  ACalls_of Tryd.func27 (c := b27) rfl (by kernel_rfl) t27 (rs := [.t (.g 2), .t (.g 3)]) (by kernel_rfl) (by rw [hn]; exact Nat.le_of_ble_eq_true rfl) (by rw [hn]; rfl) (h.weaken (fun _ _ => RetP.hands) (by simp))

/-- sastrugi/probe.checkTrack -/
def c48 : ACode :=
  (.seq
(.reg [
  ⟨(some (true, 1)), .box (.g 0), none⟩,
  ⟨(some (true, 2)), .mv (.c (.lit (.int .i64 0))), none⟩])
(.seq
(.block 0
(.seq
(.reg [
  ⟨(some (false, 6)), .fa (.g 1) 0, none⟩,
  ⟨(some (false, 7)), .fa (.l 6) 0, none⟩,
  ⟨(some (false, 8)), .ld none (.l 7), none⟩,
  ⟨(some (false, 9)), .call (.c (.fn 16 [])) [.l 8, .c (.lit (.int .i64 1)), .c (.lit (.int .i64 1000))], none⟩,
  ⟨(some (false, 10)), .un .not (.l 9), none⟩,
  ⟨(some (false, 11)), .mv (.l 10), none⟩,
  ⟨(some (false, 12)), .fa (.g 1) 0, (some (.l 11, false))⟩,
  ⟨(some (false, 13)), .fa (.l 12) 1, (some (.l 11, false))⟩,
  ⟨(some (false, 14)), .ld none (.l 13), (some (.l 11, false))⟩,
  ⟨(some (false, 15)), .call (.c (.fn 16 [])) [.l 14, .c (.lit (.int .i64 1)), .c (.lit (.int .i64 1000))], (some (.l 11, false))⟩,
  ⟨(some (false, 16)), .un .not (.l 15), (some (.l 11, false))⟩,
  ⟨(some (false, 17)), .pick (.l 11) (.c (.lit (.bool true))) (.l 16), none⟩,
  ⟨(some (true, 5)), .mv (.l 17), none⟩])
(.cond (.g 5)
(.seq
(.reg [
  ⟨(some (true, 2)), .mv (.c (.lit (.int .i64 2))), none⟩])
.ret)
(.seq
(.reg [
  ⟨(some (false, 19)), .fa (.g 1) 0, none⟩,
  ⟨(some (false, 20)), .fa (.l 19) 0, none⟩,
  ⟨(some (false, 21)), .ld none (.l 20), none⟩,
  ⟨(some (false, 22)), .fa (.g 1) 0, none⟩,
  ⟨(some (false, 23)), .fa (.l 22) 1, none⟩,
  ⟨(some (false, 24)), .ld none (.l 23), none⟩,
  ⟨(some (false, 25)), .bin .gtr (.l 21) (.l 24), none⟩,
  ⟨(some (true, 18)), .mv (.l 25), none⟩])
(.cond (.g 18)
(.seq
(.reg [
  ⟨(some (true, 2)), .mv (.c (.lit (.int .i64 11))), none⟩])
.ret)
(.seq
(.reg [
  ⟨(some (false, 27)), .fa (.g 1) 2, none⟩,
  ⟨(some (false, 28)), .ld none (.l 27), none⟩,
  ⟨(some (false, 29)), .len (.l 28), none⟩,
  ⟨(some (false, 30)), .bin .gtr (.l 29) (.c (.lit (.int .i64 200))), none⟩,
  ⟨(some (true, 26)), .mv (.l 30), none⟩])
(.cond (.g 26)
(.seq
(.reg [
  ⟨(some (true, 2)), .mv (.c (.lit (.int .i64 8))), none⟩])
.ret)
.skip)))))))
(.seq
(.seq
(.reg [
  ⟨(some (false, 31)), .fa (.g 1) 2, none⟩,
  ⟨(some (true, 32)), .ld none (.l 31), none⟩,
  ⟨(some (true, 33)), .len (.g 32), none⟩,
  ⟨(some (true, 34)), .mv (.c (.lit (.int .i64 0))), none⟩])
(.block 1
(.loop
(.seq
(.reg [
  ⟨(some (true, 35)), .bin .lss (.g 34) (.g 33), none⟩])
(.seq
(.cond (.g 35)
.skip
(.exit 1))
(.seq
(.block 2
(.seq
(.reg [
  ⟨(some (false, 36)), .ia 4 (.g 32) (.g 34), none⟩,
  ⟨(some (false, 37)), .ld (some 4) (.l 36), none⟩,
  ⟨(some (true, 4)), .new [.int .i64 0, .int .i64 0, .int .i64 0, .int .i64 0], none⟩,
  ⟨none, .st 4 (.g 4) (.l 37), none⟩])
(.block 3
(.seq
(.reg [
  ⟨(some (false, 39)), .fa (.g 4) 0, none⟩,
  ⟨(some (false, 40)), .ld none (.l 39), none⟩,
  ⟨(some (false, 41)), .call (.c (.fn 16 [])) [.l 40, .c (.lit (.int .i64 0)), .c (.lit (.int .i64 999))], none⟩,
  ⟨(some (false, 42)), .un .not (.l 41), none⟩,
  ⟨(some (false, 43)), .mv (.l 42), none⟩,
  ⟨(some (false, 44)), .fa (.g 4) 1, (some (.l 43, false))⟩,
  ⟨(some (false, 45)), .ld none (.l 44), (some (.l 43, false))⟩,
  ⟨(some (false, 46)), .call (.c (.fn 16 [])) [.l 45, .c (.lit (.int .i64 0)), .c (.lit (.int .i64 10000))], (some (.l 43, false))⟩,
  ⟨(some (false, 47)), .un .not (.l 46), (some (.l 43, false))⟩,
  ⟨(some (false, 48)), .pick (.l 43) (.c (.lit (.bool true))) (.l 47), none⟩,
  ⟨(some (false, 49)), .mv (.l 48), none⟩,
  ⟨(some (false, 50)), .fa (.g 4) 2, (some (.l 49, false))⟩,
  ⟨(some (false, 51)), .fa (.l 50) 0, (some (.l 49, false))⟩,
  ⟨(some (false, 52)), .ld none (.l 51), (some (.l 49, false))⟩,
  ⟨(some (false, 53)), .call (.c (.fn 16 [])) [.l 52, .c (.lit (.int .i64 0)), .c (.lit (.int .i64 1000000))], (some (.l 49, false))⟩,
  ⟨(some (false, 54)), .un .not (.l 53), (some (.l 49, false))⟩,
  ⟨(some (false, 55)), .pick (.l 49) (.c (.lit (.bool true))) (.l 54), none⟩,
  ⟨(some (false, 56)), .mv (.l 55), none⟩,
  ⟨(some (false, 57)), .fa (.g 4) 2, (some (.l 56, false))⟩,
  ⟨(some (false, 58)), .fa (.l 57) 1, (some (.l 56, false))⟩,
  ⟨(some (false, 59)), .ld none (.l 58), (some (.l 56, false))⟩,
  ⟨(some (false, 60)), .call (.c (.fn 16 [])) [.l 59, .c (.lit (.int .i64 0)), .c (.lit (.int .i64 1000000))], (some (.l 56, false))⟩,
  ⟨(some (false, 61)), .un .not (.l 60), (some (.l 56, false))⟩,
  ⟨(some (false, 62)), .pick (.l 56) (.c (.lit (.bool true))) (.l 61), none⟩,
  ⟨(some (true, 38)), .mv (.l 62), none⟩])
(.cond (.g 38)
(.seq
(.reg [
  ⟨(some (true, 2)), .mv (.c (.lit (.int .i64 2))), none⟩])
.ret)
(.seq
(.reg [
  ⟨(some (false, 64)), .fa (.g 4) 2, none⟩,
  ⟨(some (false, 65)), .fa (.l 64) 0, none⟩,
  ⟨(some (false, 66)), .ld none (.l 65), none⟩,
  ⟨(some (false, 67)), .fa (.g 4) 2, none⟩,
  ⟨(some (false, 68)), .fa (.l 67) 1, none⟩,
  ⟨(some (false, 69)), .ld none (.l 68), none⟩,
  ⟨(some (false, 70)), .bin .gtr (.l 66) (.l 69), none⟩,
  ⟨(some (true, 63)), .mv (.l 70), none⟩])
(.cond (.g 63)
(.seq
(.reg [
  ⟨(some (true, 2)), .mv (.c (.lit (.int .i64 11))), none⟩])
.ret)
.skip)))))))
(.reg [
  ⟨(some (false, 71)), .bin .add (.g 34) (.c (.lit (.int .i64 1))), none⟩,
  ⟨(some (true, 34)), .mv (.l 71), none⟩])))))))
(.seq
(.reg [
  ⟨(some (true, 2)), .mv (.c (.lit (.int .i64 0))), none⟩])
.ret))))
def K48 : List Nat := [0, 5, 18, 26, 35, 38, 63, 2, 1, 32, 33, 34, 4]
noncomputable def b48 : Code := match Tryd.f48.body with | some c => c | none => .skip
theorem t48 : trCode ⟨Tryd.prog, K48, [], 72, none⟩ b48 = some c48 := by kernel_rfl
theorem go48 {args : List AV} {H : AHeap} {Kk : AV → AHeap → Prop} (hn : args.length = 1) (h : AGo ⟨Tryd.prog, K48, [], 72, none⟩ H.length [.code c48] (RetP [.t (.g 2)] H.length Kk) ⟨[], argsG 0 args⟩ H) : ACalls Tryd.prog 48 args H Kk :=
  ACalls_of Tryd.func48 (c := b48) rfl (by kernel_rfl) t48 (rs := [.t (.g 2)]) (by kernel_rfl) (by rw [hn]; exact Nat.le_of_ble_eq_true rfl) (by rw [hn]; rfl) (h.weaken (fun _ _ => RetP.hands) (by simp))

end Go.Sas
namespace Go.Sas
open Go.Proofs
set_option maxRecDepth 100000
/-- sastrugi/sastrugilaw02.looked -/
def c7m : ACode :=
  (.seq
(.reg [
  ⟨(some (true, 0)), .mv (.c (.lit (.slice none 0 0))), none⟩])
(.seq
(.reg [
  ⟨(some (false, 1)), .call (.c (.fn 10 [])) [.c (.lit (.int .i64 0)), .c (.lit (.int .i64 10)), .c (.lit (.int .i64 500))], none⟩,
  ⟨(some (false, 2)), .mks true 5 [.l 1], none⟩,
  ⟨(some (true, 0)), .mv (.l 2), none⟩])
.ret))
def K7m : List Nat := [0]
noncomputable def b7m : Code := match Tryd.f7.body with | some c => c | none => .skip
theorem t7m : trCode ⟨Tryd.prog, K7m, [2], 3, none⟩ b7m = some c7m := by kernel_rfl
theorem go7m {args : List AV} {H : AHeap} {Kk : AV → AHeap → Prop} (hn : args.length = 0) (h : AGo ⟨Tryd.prog, K7m, [2], 3, none⟩ H.length [.code c7m] (RetP [.t (.g 0)] H.length Kk) ⟨[], argsG 0 args⟩ H) : ACalls Tryd.prog 7 args H Kk :=
  ACalls_of Tryd.func7 (c := b7m) rfl (by kernel_rfl) t7m (rs := [.t (.g 0)]) (by kernel_rfl) (by rw [hn]; exact Nat.le_of_ble_eq_true rfl) (by rw [hn]; rfl) (h.weaken (fun _ _ => RetP.hands) (by simp))

end Go.Sas
