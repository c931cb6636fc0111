/-
The code of some functions with its types resolved, printed by a program; that it is the code is checked by the kernel.
The code of some functions with its types resolved, printed by a program; that it is the code is checked by the kernel.
Conditions: none.
-/
import Derived.Test.YtndnjmpebpampaaDoorP4f
import Derived.Test.YtndnjmpebpampaaDoorProg
set_option linter.unusedVariables false
set_option linter.unusedSimpArgs false
namespace Go.Sas
open Go.Proofs
set_option maxRecDepth 100000
/-- sastrugi/sastrugilaw08.FreightKnown -/
def c3 : ACode :=
  (.seq
(.reg [
  ⟨(some (true, 0)), .mv (.c (.lit (.bool false))), none⟩])
(.seq
(.reg [
  ⟨(some (false, 14)), .call (.c (.fn 4 [])) [], none⟩,
  ⟨(some (false, 15)), .call (.c (.fn 4 [])) [], none⟩,
  ⟨(some (false, 16)), .call (.c (.fn 4 [])) [], none⟩,
  ⟨(some (true, 1)), .new [.int .i64 0, .int .i64 0, .int .i64 0, .int .i64 0, .slice none 0 0, .slice none 0 0], none⟩,
  ⟨(some (true, 2)), .new [.int .i64 0, .int .i64 0, .int .i64 0, .int .i64 0, .slice none 0 0, .slice none 0 0], none⟩,
  ⟨(some (true, 3)), .new [.int .i64 0, .int .i64 0, .int .i64 0, .int .i64 0, .slice none 0 0, .slice none 0 0], none⟩,
  ⟨none, .st 6 (.g 1) (.l 14), none⟩,
  ⟨none, .st 6 (.g 2) (.l 15), none⟩,
  ⟨none, .st 6 (.g 3) (.l 16), none⟩])
(.seq
(.draw [
  ⟨⟨(some (false, 17)), .fa (.g 3) 5, none⟩, 0, false, []⟩,
  ⟨⟨(some (false, 18)), .ld none (.l 17), none⟩, 1, false, []⟩,
  ⟨⟨(some (false, 19)), .fa (.g 1) 4, none⟩, 2, true, []⟩,
  ⟨⟨none, .st 1 (.l 19) (.c (.lit (.slice none 0 0))), none⟩, 3, false, []⟩,
  ⟨⟨(some (false, 20)), .fa (.g 2) 2, none⟩, 4, false, []⟩,
  ⟨⟨(some (false, 21)), .fa (.l 20) 1, none⟩, 5, false, []⟩,
  ⟨⟨none, .st 1 (.l 21) (.c (.lit (.int .i64 7))), none⟩, 6, false, []⟩,
  ⟨⟨(some (false, 22)), .ia 4 (.l 18) (.c (.lit (.int .i64 0))), none⟩, 7, false, []⟩,
  ⟨⟨(some (false, 23)), .fa (.l 22) 2, none⟩, 8, false, []⟩,
  ⟨⟨none, .st 1 (.l 23) (.c (.lit (.int .i64 21))), none⟩, 9, true, []⟩])
(.seq
(.seq
(.reg [
  ⟨(some (false, 24)), .call (.c (.fn 5 [])) [], none⟩,
  ⟨(some (false, 25)), .un .not (.l 24), none⟩,
  ⟨(some (false, 26)), .mv (.l 25), none⟩,
  ⟨(some (false, 27)), .call (.c (.fn 4 [])) [], (some (.l 26, false))⟩,
  ⟨(some (false, 28)), .call (.c (.fn 6 [])) [.l 27], (some (.l 26, false))⟩,
  ⟨(some (false, 29)), .bin .neq (.l 28) (.c (.lit (.int .i64 0))), (some (.l 26, false))⟩,
  ⟨(some (false, 30)), .pick (.l 26) (.c (.lit (.bool true))) (.l 29), none⟩,
  ⟨(some (false, 31)), .mv (.l 30), none⟩,
  ⟨(some (false, 32)), .ld (some 6) (.g 1), (some (.l 31, false))⟩,
  ⟨(some (false, 33)), .call (.c (.fn 6 [])) [.l 32], (some (.l 31, false))⟩,
  ⟨(some (false, 34)), .bin .neq (.l 33) (.c (.lit (.int .i64 6))), (some (.l 31, false))⟩,
  ⟨(some (false, 35)), .pick (.l 31) (.c (.lit (.bool true))) (.l 34), none⟩,
  ⟨(some (false, 36)), .mv (.l 35), none⟩,
  ⟨(some (false, 37)), .ld (some 6) (.g 2), (some (.l 36, false))⟩,
  ⟨(some (false, 38)), .call (.c (.fn 6 [])) [.l 37], (some (.l 36, false))⟩,
  ⟨(some (false, 39)), .bin .neq (.l 38) (.c (.lit (.int .i64 2))), (some (.l 36, false))⟩,
  ⟨(some (false, 40)), .pick (.l 36) (.c (.lit (.bool true))) (.l 39), none⟩,
  ⟨(some (false, 41)), .mv (.l 40), none⟩,
  ⟨(some (false, 42)), .ld (some 6) (.g 3), (some (.l 41, false))⟩,
  ⟨(some (false, 43)), .call (.c (.fn 6 [])) [.l 42], (some (.l 41, false))⟩,
  ⟨(some (false, 44)), .bin .neq (.l 43) (.c (.lit (.int .i64 11))), (some (.l 41, false))⟩,
  ⟨(some (true, 45)), .pick (.l 41) (.c (.lit (.bool true))) (.l 44), none⟩])
(.cond (.g 45)
(.seq
(.reg [
  ⟨(some (true, 0)), .mv (.c (.lit (.bool false))), none⟩])
.ret)
.skip))
(.seq
(.reg [
  ⟨(some (false, 47)), .call (.c (.fn 4 [])) [], none⟩,
  ⟨(some (false, 48)), .call (.c (.fn 4 [])) [], none⟩,
  ⟨(some (false, 49)), .call (.c (.fn 8 [])) [.l 48], none⟩,
  ⟨(some (false, 50)), .mks false 1 [.c (.lit (.int .i64 0)), .c (.lit (.int .i64 1))], none⟩,
  ⟨(some (false, 51)), .call (.c (.fn 7 [])) [.l 47, .l 49, .l 50], none⟩,
  ⟨(some (false, 46)), .mv (.l 51), none⟩,
  ⟨(some (false, 52)), .ex (.l 46) 0, none⟩,
  ⟨(some (false, 53)), .ex (.l 46) 1, none⟩,
  ⟨(some (true, 4)), .mv (.l 52), none⟩,
  ⟨(some (true, 5)), .mv (.l 53), none⟩])
(.seq
(.reg [
  ⟨(some (false, 55)), .call (.c (.fn 4 [])) [], none⟩,
  ⟨(some (false, 56)), .call (.c (.fn 4 [])) [], none⟩,
  ⟨(some (false, 57)), .call (.c (.fn 9 [])) [.l 56], none⟩,
  ⟨(some (false, 58)), .mks false 1 [.c (.lit (.int .i64 1)), .c (.lit (.int .i64 0))], none⟩,
  ⟨(some (false, 59)), .call (.c (.fn 7 [])) [.l 55, .l 57, .l 58], none⟩,
  ⟨(some (false, 54)), .mv (.l 59), none⟩,
  ⟨(some (false, 60)), .ex (.l 54) 0, none⟩,
  ⟨(some (false, 61)), .ex (.l 54) 1, none⟩,
  ⟨(some (true, 6)), .mv (.l 60), none⟩,
  ⟨(some (true, 7)), .mv (.l 61), none⟩])
(.seq
(.reg [
  ⟨(some (false, 63)), .call (.c (.fn 4 [])) [], none⟩,
  ⟨(some (false, 64)), .call (.c (.fn 4 [])) [], none⟩,
  ⟨(some (false, 65)), .call (.c (.fn 9 [])) [.l 64], none⟩,
  ⟨(some (false, 66)), .mv (.g 6), none⟩,
  ⟨(some (false, 67)), .call (.c (.fn 10 [])) [.l 63, .l 65, .l 66], none⟩,
  ⟨(some (false, 62)), .mv (.l 67), none⟩,
  ⟨(some (false, 68)), .ex (.l 62) 0, none⟩,
  ⟨(some (false, 69)), .ex (.l 62) 1, none⟩,
  ⟨(some (false, 70)), .ex (.l 62) 2, none⟩,
  ⟨(some (true, 8)), .mv (.l 68), none⟩,
  ⟨(some (true, 9)), .mv (.l 69), none⟩,
  ⟨(some (true, 10)), .mv (.l 70), none⟩])
(.seq
(.seq
(.reg [
  ⟨(some (false, 71)), .mv (.g 5), none⟩,
  ⟨(some (false, 72)), .bin .neq (.l 71) (.c (.lit (.int .i64 0))), none⟩,
  ⟨(some (false, 73)), .mv (.l 72), none⟩,
  ⟨(some (false, 74)), .mv (.g 7), (some (.l 73, false))⟩,
  ⟨(some (false, 75)), .bin .neq (.l 74) (.c (.lit (.int .i64 0))), (some (.l 73, false))⟩,
  ⟨(some (false, 76)), .pick (.l 73) (.c (.lit (.bool true))) (.l 75), none⟩,
  ⟨(some (false, 77)), .mv (.l 76), none⟩,
  ⟨(some (false, 78)), .mv (.g 10), (some (.l 77, false))⟩,
  ⟨(some (false, 79)), .bin .neq (.l 78) (.c (.lit (.int .i64 0))), (some (.l 77, false))⟩,
  ⟨(some (false, 80)), .pick (.l 77) (.c (.lit (.bool true))) (.l 79), none⟩,
  ⟨(some (false, 81)), .mv (.l 80), none⟩,
  ⟨(some (false, 82)), .mv (.g 9), (some (.l 81, false))⟩,
  ⟨(some (false, 83)), .bin .neq (.l 82) (.c (.lit (.int .i64 65))), (some (.l 81, false))⟩,
  ⟨(some (false, 84)), .pick (.l 81) (.c (.lit (.bool true))) (.l 83), none⟩,
  ⟨(some (false, 85)), .mv (.l 84), none⟩,
  ⟨(some (false, 86)), .mv (.g 4), (some (.l 85, false))⟩,
  ⟨(some (false, 87)), .mks false 1 [.c (.lit (.int .i64 0)), .c (.lit (.int .i64 3)), .c (.lit (.int .i64 1)), .c (.lit (.int .i64 0)), .c (.lit (.int .i64 0)), .c (.lit (.int .i64 0)), .c (.lit (.int .i64 0))], (some (.l 85, false))⟩,
  ⟨(some (false, 88)), .mks false 1 [.c (.lit (.int .i64 0)), .c (.lit (.int .i64 0)), .c (.lit (.int .i64 2)), .c (.lit (.int .i64 3)), .c (.lit (.int .i64 0)), .c (.lit (.int .i64 0)), .c (.lit (.int .i64 0))], (some (.l 85, false))⟩,
  ⟨(some (false, 89)), .mks false 1 [.l 87, .l 88], (some (.l 85, false))⟩,
  ⟨(some (false, 90)), .call (.c (.fn 11 [])) [.l 86, .l 89], (some (.l 85, false))⟩,
  ⟨(some (false, 91)), .un .not (.l 90), (some (.l 85, false))⟩,
  ⟨(some (false, 92)), .pick (.l 85) (.c (.lit (.bool true))) (.l 91), none⟩,
  ⟨(some (false, 93)), .mv (.l 92), none⟩,
  ⟨(some (false, 94)), .mv (.g 8), (some (.l 93, false))⟩,
  ⟨(some (false, 95)), .mk [.int .i64 0, .int .i64 0, .int .i64 0, .int .i64 0] [(1, 1, .c (.lit (.int .i64 1))), (2, 1, .c (.lit (.int .i64 3))), (3, 1, .c (.lit (.int .i64 (-1))))], (some (.l 93, false))⟩,
  ⟨(some (false, 96)), .mk [.int .i64 0, .int .i64 0, .int .i64 0, .int .i64 0] [(0, 1, .c (.lit (.int .i64 5))), (3, 1, .c (.lit (.int .i64 4)))], (some (.l 93, false))⟩,
  ⟨(some (false, 97)), .mks false 4 [.l 95, .l 96], (some (.l 93, false))⟩,
  ⟨(some (false, 98)), .call (.c (.fn 12 [])) [.l 94, .l 97], (some (.l 93, false))⟩,
  ⟨(some (false, 99)), .un .not (.l 98), (some (.l 93, false))⟩,
  ⟨(some (true, 100)), .pick (.l 93) (.c (.lit (.bool true))) (.l 99), none⟩])
(.cond (.g 100)
(.seq
(.reg [
  ⟨(some (true, 0)), .mv (.c (.lit (.bool false))), none⟩])
.ret)
.skip))
(.seq
(.reg [
  ⟨(some (false, 102)), .call (.c (.fn 4 [])) [], none⟩,
  ⟨(some (false, 103)), .mks false 1 [.c (.lit (.int .i64 0)), .c (.lit (.int .i64 1))], none⟩,
  ⟨(some (false, 104)), .call (.c (.fn 13 [])) [.l 102, .l 103], none⟩,
  ⟨(some (false, 101)), .mv (.l 104), none⟩,
  ⟨(some (false, 105)), .ex (.l 101) 0, none⟩,
  ⟨(some (false, 106)), .ex (.l 101) 1, none⟩,
  ⟨(some (true, 11)), .new [.int .i64 0, .int .i64 0], none⟩,
  ⟨none, .st 2 (.g 11) (.l 105), none⟩,
  ⟨(some (true, 5)), .mv (.l 106), none⟩])
(.seq
(.reg [
  ⟨(some (false, 108)), .call (.c (.fn 4 [])) [], none⟩,
  ⟨(some (false, 109)), .mks false 1 [.c (.lit (.int .i64 0)), .c (.lit (.int .i64 1))], none⟩,
  ⟨(some (false, 110)), .call (.c (.fn 14 [])) [.l 108, .l 109], none⟩,
  ⟨(some (false, 107)), .mv (.l 110), none⟩,
  ⟨(some (false, 111)), .ex (.l 107) 0, none⟩,
  ⟨(some (false, 112)), .ex (.l 107) 1, none⟩,
  ⟨(some (true, 12)), .mv (.l 111), none⟩,
  ⟨(some (true, 7)), .mv (.l 112), none⟩])
(.seq
(.reg [
  ⟨(some (false, 114)), .call (.c (.fn 4 [])) [], none⟩,
  ⟨(some (false, 115)), .mks false 1 [.c (.lit (.int .i64 1)), .c (.lit (.int .i64 0))], none⟩,
  ⟨(some (false, 116)), .call (.c (.fn 14 [])) [.l 114, .l 115], none⟩,
  ⟨(some (false, 113)), .mv (.l 116), none⟩,
  ⟨(some (false, 117)), .ex (.l 113) 0, none⟩,
  ⟨(some (false, 118)), .ex (.l 113) 1, none⟩,
  ⟨(some (true, 13)), .mv (.l 117), none⟩,
  ⟨(some (true, 10)), .mv (.l 118), none⟩])
(.seq
(.draw [
  ⟨⟨(some (false, 119)), .mv (.g 5), none⟩, 0, true, []⟩,
  ⟨⟨(some (false, 120)), .bin .eql (.l 119) (.c (.lit (.int .i64 0))), none⟩, 1, true, []⟩,
  ⟨⟨(some (false, 121)), .mv (.l 120), none⟩, 2, true, []⟩,
  ⟨⟨(some (false, 122)), .mv (.g 7), (some (.l 121, true))⟩, 3, true, []⟩,
  ⟨⟨(some (false, 123)), .bin .eql (.l 122) (.c (.lit (.int .i64 0))), (some (.l 121, true))⟩, 4, true, []⟩,
  ⟨⟨(some (false, 124)), .pick (.l 121) (.l 123) (.c (.lit (.bool false))), none⟩, 5, true, []⟩,
  ⟨⟨(some (false, 125)), .mv (.l 124), none⟩, 6, true, []⟩,
  ⟨⟨(some (false, 126)), .mv (.g 10), (some (.l 125, true))⟩, 7, true, []⟩,
  ⟨⟨(some (false, 127)), .bin .eql (.l 126) (.c (.lit (.int .i64 0))), (some (.l 125, true))⟩, 8, true, []⟩,
  ⟨⟨(some (false, 128)), .pick (.l 125) (.l 127) (.c (.lit (.bool false))), none⟩, 9, true, []⟩,
  ⟨⟨(some (false, 129)), .mv (.l 128), none⟩, 10, true, []⟩,
  ⟨⟨(some (false, 130)), .ld (some 2) (.g 11), (some (.l 129, true))⟩, 11, true, []⟩,
  ⟨⟨(some (false, 131)), .call (.c (.fn 15 [])) [.c (.lit (.int .i64 0)), .c (.lit (.int .i64 30))], (some (.l 129, true))⟩, 12, false, []⟩,
  ⟨⟨(some (false, 132)), .eqs false (.fld 0 none .i (.fld 1 none .i .nil)) (.l 130) (.l 131), (some (.l 129, true))⟩, 13, true, []⟩,
  ⟨⟨(some (false, 133)), .pick (.l 129) (.l 132) (.c (.lit (.bool false))), none⟩, 14, true, []⟩,
  ⟨⟨(some (false, 134)), .mv (.l 133), none⟩, 15, true, []⟩,
  ⟨⟨(some (false, 135)), .mv (.g 12), (some (.l 134, true))⟩, 16, true, []⟩,
  ⟨⟨(some (false, 136)), .mks false 1 [.c (.lit (.int .i64 1)), .c (.lit (.int .i64 3))], (some (.l 134, true))⟩, 17, true, []⟩,
  ⟨⟨(some (false, 137)), .call (.c (.fn 16 [])) [.l 135, .l 136], (some (.l 134, true))⟩, 18, false, []⟩,
  ⟨⟨(some (false, 138)), .pick (.l 134) (.l 137) (.c (.lit (.bool false))), none⟩, 19, true, []⟩,
  ⟨⟨(some (false, 139)), .mv (.l 138), none⟩, 20, true, []⟩,
  ⟨⟨(some (false, 140)), .mv (.g 13), (some (.l 139, true))⟩, 21, true, []⟩,
  ⟨⟨(some (false, 141)), .mks false 1 [.c (.lit (.int .i64 3)), .c (.lit (.int .i64 1))], (some (.l 139, true))⟩, 22, true, []⟩,
  ⟨⟨(some (false, 142)), .call (.c (.fn 16 [])) [.l 140, .l 141], (some (.l 139, true))⟩, 23, false, []⟩,
  ⟨⟨(some (false, 143)), .pick (.l 139) (.l 142) (.c (.lit (.bool false))), none⟩, 24, true, []⟩,
  ⟨⟨(some (false, 144)), .mv (.l 143), none⟩, 25, true, []⟩,
  ⟨⟨(some (false, 145)), .call (.c (.fn 17 [])) [], (some (.l 144, true))⟩, 26, false, []⟩,
  ⟨⟨(some (false, 146)), .pick (.l 144) (.l 145) (.c (.lit (.bool false))), none⟩, 27, true, []⟩,
  ⟨⟨(some (true, 0)), .mv (.l 146), none⟩, 28, true, []⟩])
.ret))))))))))))
def K3 : List Nat := [45, 100, 0, 1, 2, 3, 4, 5, 6, 7, 8, 9, 10, 11, 12, 13]
noncomputable def b3 : Code := match Tryd.f3.body with | some c => c | none => .skip
theorem t3 : trCode ⟨Tryd.prog, K3, [], 147, none⟩ b3 = some c3 := by kernel_rfl
theorem go3 {args : List AV} {H : AHeap} {Kk : AV → AHeap → Prop} (hn : args.length = 0) (h : AGo ⟨Tryd.prog, K3, [], 147, none⟩ H.length [.code c3] (RetP [.t (.g 0)] H.length Kk) ⟨[], argsG 0 args⟩ H) : ACalls Tryd.prog 3 args H Kk :=
  ACalls_of Tryd.func3 (c := b3) rfl (by kernel_rfl) t3 (rs := [.t (.g 0)]) (by kernel_rfl) (by rw [hn]; exact Nat.le_of_ble_eq_true rfl) (by rw [hn]; rfl) (h.weaken (fun _ _ => RetP.hands) (by simp))

/-- sastrugi/sastrugilaw08.billed -/
def c17 : ACode :=
  (.seq
(.reg [
  ⟨(some (true, 0)), .mv (.c (.lit (.bool false))), none⟩])
(.seq
(.reg [
  ⟨(some (false, 14)), .mks false 1 [.c (.lit (.int .i64 1)), .c (.lit (.int .i64 1)), .c (.lit (.int .i64 1))], none⟩,
  ⟨(some (false, 15)), .call (.c (.fn 31 [])) [.c (.lit (.int .i64 100)), .l 14], none⟩,
  ⟨(some (false, 13)), .mv (.l 15), none⟩,
  ⟨(some (false, 16)), .ex (.l 13) 0, none⟩,
  ⟨(some (false, 17)), .ex (.l 13) 1, none⟩,
  ⟨(some (true, 1)), .mv (.l 16), none⟩,
  ⟨(some (true, 2)), .mv (.l 17), none⟩])
(.seq
(.reg [
  ⟨(some (false, 19)), .mks false 1 [.c (.lit (.int .i64 1)), .c (.lit (.int .i64 2))], none⟩,
  ⟨(some (false, 20)), .call (.c (.fn 31 [])) [.c (.lit (.int .i64 10)), .l 19], none⟩,
  ⟨(some (false, 18)), .mv (.l 20), none⟩,
  ⟨(some (false, 21)), .ex (.l 18) 0, none⟩,
  ⟨(some (false, 22)), .ex (.l 18) 1, none⟩,
  ⟨(some (true, 3)), .mv (.l 21), none⟩,
  ⟨(some (true, 4)), .mv (.l 22), none⟩])
(.seq
(.reg [
  ⟨(some (false, 24)), .mks false 1 [.c (.lit (.int .i64 0)), .c (.lit (.int .i64 0))], none⟩,
  ⟨(some (false, 25)), .call (.c (.fn 31 [])) [.c (.lit (.int .i64 5)), .l 24], none⟩,
  ⟨(some (false, 23)), .mv (.l 25), none⟩,
  ⟨(some (false, 26)), .ex (.l 23) 0, none⟩,
  ⟨(some (false, 27)), .ex (.l 23) 1, none⟩,
  ⟨(some (true, 5)), .mv (.l 26), none⟩,
  ⟨(some (true, 6)), .mv (.l 27), none⟩])
(.seq
(.reg [
  ⟨(some (false, 29)), .call (.c (.fn 4 [])) [], none⟩,
  ⟨(some (false, 30)), .call (.c (.fn 4 [])) [], none⟩,
  ⟨(some (false, 31)), .call (.c (.fn 9 [])) [.l 30], none⟩,
  ⟨(some (false, 32)), .mks false 1 [.c (.lit (.int .i64 0)), .c (.lit (.int .i64 1))], none⟩,
  ⟨(some (false, 33)), .call (.c (.fn 7 [])) [.l 29, .l 31, .l 32], none⟩,
  ⟨(some (false, 28)), .mv (.l 33), none⟩,
  ⟨(some (false, 34)), .ex (.l 28) 0, none⟩,
  ⟨(some (false, 35)), .ex (.l 28) 1, none⟩,
  ⟨(some (true, 7)), .mv (.l 34), none⟩,
  ⟨(some (true, 8)), .mv (.l 35), none⟩])
(.seq
(.reg [
  ⟨(some (false, 37)), .call (.c (.fn 4 [])) [], none⟩,
  ⟨(some (false, 38)), .call (.c (.fn 4 [])) [], none⟩,
  ⟨(some (false, 39)), .call (.c (.fn 9 [])) [.l 38], none⟩,
  ⟨(some (false, 40)), .mv (.g 7), none⟩,
  ⟨(some (false, 41)), .call (.c (.fn 32 [])) [.l 37, .l 39, .l 40, .c (.lit (.int .i64 10)), .c (.lit (.int .i64 100))], none⟩,
  ⟨(some (false, 36)), .mv (.l 41), none⟩,
  ⟨(some (false, 42)), .ex (.l 36) 0, none⟩,
  ⟨(some (false, 43)), .ex (.l 36) 1, none⟩,
  ⟨(some (true, 9)), .mv (.l 42), none⟩,
  ⟨(some (true, 10)), .mv (.l 43), none⟩])
(.seq
(.reg [
  ⟨(some (false, 45)), .call (.c (.fn 4 [])) [], none⟩,
  ⟨(some (false, 46)), .call (.c (.fn 33 [])) [.l 45], none⟩,
  ⟨(some (false, 44)), .mv (.l 46), none⟩,
  ⟨(some (false, 47)), .ex (.l 44) 0, none⟩,
  ⟨(some (false, 48)), .ex (.l 44) 1, none⟩,
  ⟨(some (true, 11)), .mv (.l 47), none⟩,
  ⟨(some (true, 12)), .mv (.l 48), none⟩])
(.seq
(.seq
(.reg [
  ⟨(some (false, 49)), .mv (.g 2), none⟩,
  ⟨(some (false, 50)), .bin .neq (.l 49) (.c (.lit (.int .i64 0))), none⟩,
  ⟨(some (false, 51)), .mv (.l 50), none⟩,
  ⟨(some (false, 52)), .mv (.g 4), (some (.l 51, false))⟩,
  ⟨(some (false, 53)), .bin .neq (.l 52) (.c (.lit (.int .i64 0))), (some (.l 51, false))⟩,
  ⟨(some (false, 54)), .pick (.l 51) (.c (.lit (.bool true))) (.l 53), none⟩,
  ⟨(some (false, 55)), .mv (.l 54), none⟩,
  ⟨(some (false, 56)), .mv (.g 6), (some (.l 55, false))⟩,
  ⟨(some (false, 57)), .bin .neq (.l 56) (.c (.lit (.int .i64 0))), (some (.l 55, false))⟩,
  ⟨(some (false, 58)), .pick (.l 55) (.c (.lit (.bool true))) (.l 57), none⟩,
  ⟨(some (false, 59)), .mv (.l 58), none⟩,
  ⟨(some (false, 60)), .mv (.g 8), (some (.l 59, false))⟩,
  ⟨(some (false, 61)), .bin .neq (.l 60) (.c (.lit (.int .i64 0))), (some (.l 59, false))⟩,
  ⟨(some (false, 62)), .pick (.l 59) (.c (.lit (.bool true))) (.l 61), none⟩,
  ⟨(some (false, 63)), .mv (.l 62), none⟩,
  ⟨(some (false, 64)), .mv (.g 10), (some (.l 63, false))⟩,
  ⟨(some (false, 65)), .bin .neq (.l 64) (.c (.lit (.int .i64 0))), (some (.l 63, false))⟩,
  ⟨(some (false, 66)), .pick (.l 63) (.c (.lit (.bool true))) (.l 65), none⟩,
  ⟨(some (false, 67)), .mv (.l 66), none⟩,
  ⟨(some (false, 68)), .mv (.g 12), (some (.l 67, false))⟩,
  ⟨(some (false, 69)), .bin .neq (.l 68) (.c (.lit (.int .i64 0))), (some (.l 67, false))⟩,
  ⟨(some (false, 70)), .pick (.l 67) (.c (.lit (.bool true))) (.l 69), none⟩,
  ⟨(some (false, 71)), .mv (.l 70), none⟩,
  ⟨(some (false, 72)), .mv (.g 11), (some (.l 71, false))⟩,
  ⟨(some (false, 73)), .bin .neq (.l 72) (.c (.lit (.string ⟨[115, 101, 97, 115, 111, 110, 32, 49, 32, 50, 32, 52, 32, 53, 10, 99, 97, 112, 32, 50, 32, 51, 10, 99, 97, 112, 32, 50, 32, 51, 10, 99, 97, 112, 32, 50, 32, 51, 10, 99, 97, 112, 32, 50, 32, 51, 10, 99, 97, 112, 32, 50, 32, 51, 10, 99, 97, 112, 32, 50, 32, 51, 10, 99, 97, 112, 32, 50, 32, 51, 10, 111, 114, 100, 101, 114, 32, 52, 32, 51, 32, 53, 32, 50, 48, 10, 111, 114, 100, 101, 114, 32, 53, 32, 53, 32, 49, 32, 49, 48, 10].toArray⟩))), (some (.l 71, false))⟩,
  ⟨(some (true, 74)), .pick (.l 71) (.c (.lit (.bool true))) (.l 73), none⟩])
(.cond (.g 74)
(.seq
(.reg [
  ⟨(some (true, 0)), .mv (.c (.lit (.bool false))), none⟩])
.ret)
.skip))
(.seq
(.reg [
  ⟨(some (false, 75)), .mv (.g 1), none⟩,
  ⟨(some (false, 76)), .mks false 1 [.c (.lit (.int .i64 34)), .c (.lit (.int .i64 33)), .c (.lit (.int .i64 33))], none⟩,
  ⟨(some (false, 77)), .call (.c (.fn 16 [])) [.l 75, .l 76], none⟩,
  ⟨(some (false, 78)), .mv (.l 77), none⟩,
  ⟨(some (false, 79)), .mv (.g 3), (some (.l 78, true))⟩,
  ⟨(some (false, 80)), .mks false 1 [.c (.lit (.int .i64 3)), .c (.lit (.int .i64 7))], (some (.l 78, true))⟩,
  ⟨(some (false, 81)), .call (.c (.fn 16 [])) [.l 79, .l 80], (some (.l 78, true))⟩,
  ⟨(some (false, 82)), .pick (.l 78) (.l 81) (.c (.lit (.bool false))), none⟩,
  ⟨(some (false, 83)), .mv (.l 82), none⟩,
  ⟨(some (false, 84)), .mv (.g 5), (some (.l 83, true))⟩,
  ⟨(some (false, 85)), .mks false 1 [.c (.lit (.int .i64 3)), .c (.lit (.int .i64 2))], (some (.l 83, true))⟩,
  ⟨(some (false, 86)), .call (.c (.fn 16 [])) [.l 84, .l 85], (some (.l 83, true))⟩,
  ⟨(some (false, 87)), .pick (.l 83) (.l 86) (.c (.lit (.bool false))), none⟩,
  ⟨(some (false, 88)), .mv (.l 87), none⟩,
  ⟨(some (false, 89)), .mv (.g 9), (some (.l 88, true))⟩,
  ⟨(some (false, 90)), .mks false 1 [.c (.lit (.int .i64 107)), .c (.lit (.int .i64 53))], (some (.l 88, true))⟩,
  ⟨(some (false, 91)), .call (.c (.fn 16 [])) [.l 89, .l 90], (some (.l 88, true))⟩,
  ⟨(some (false, 92)), .pick (.l 88) (.l 91) (.c (.lit (.bool false))), none⟩,
  ⟨(some (true, 0)), .mv (.l 92), none⟩])
.ret)))))))))
def K17 : List Nat := [74, 0, 1, 2, 3, 4, 5, 6, 7, 8, 9, 10, 11, 12]
noncomputable def b17 : Code := match Tryd.f17.body with | some c => c | none => .skip
theorem t17 : trCode ⟨Tryd.prog, K17, [], 93, none⟩ b17 = some c17 := by kernel_rfl
theorem go17 {args : List AV} {H : AHeap} {Kk : AV → AHeap → Prop} (hn : args.length = 0) (h : AGo ⟨Tryd.prog, K17, [], 93, none⟩ H.length [.code c17] (RetP [.t (.g 0)] H.length Kk) ⟨[], argsG 0 args⟩ H) : ACalls Tryd.prog 17 args H Kk :=
  ACalls_of Tryd.func17 (c := b17) rfl (by kernel_rfl) t17 (rs := [.t (.g 0)]) (by kernel_rfl) (by rw [hn]; exact Nat.le_of_ble_eq_true rfl) (by rw [hn]; rfl) (h.weaken (fun _ _ => RetP.hands) (by simp))

end Go.Sas
namespace Go.Sas
open Go.Proofs
set_option maxRecDepth 100000
/-- sastrugi/sastrugilaw08.season -/
def c4m : ACode :=
  (.seq
(.reg [
  ⟨(some (true, 0)), .new [.int .i64 0, .int .i64 0, .int .i64 0, .int .i64 0, .slice none 0 0, .slice none 0 0], none⟩])
(.seq
(.reg [
  ⟨(some (false, 3)), .call (.c (.fn 15 [])) [.c (.lit (.int .i64 1)), .c (.lit (.int .i64 2))], none⟩,
  ⟨(some (false, 4)), .call (.c (.fn 15 [])) [.c (.lit (.int .i64 4)), .c (.lit (.int .i64 5))], none⟩,
  ⟨(some (false, 5)), .mk [.int .i64 0, .int .i64 0, .int .i64 0, .int .i64 0] [(0, 1, .c (.lit (.int .i64 4))), (1, 1, .c (.lit (.int .i64 3))), (2, 1, .c (.lit (.int .i64 5))), (3, 1, .c (.lit (.int .i64 20)))], none⟩,
  ⟨(some (false, 6)), .mk [.int .i64 0, .int .i64 0, .int .i64 0, .int .i64 0] [(0, 1, .c (.lit (.int .i64 5))), (1, 1, .c (.lit (.int .i64 5))), (2, 1, .c (.lit (.int .i64 1))), (3, 1, .c (.lit (.int .i64 10)))], none⟩,
  ⟨(some (false, 7)), .mks true 4 [.l 5, .l 6], none⟩,
  ⟨(some (false, 8)), .mk [.int .i64 0, .int .i64 0, .int .i64 0, .int .i64 0, .slice none 0 0, .slice none 0 0] [(0, 2, .l 3), (2, 2, .l 4), (5, 1, .l 7)], none⟩,
  ⟨(some (true, 1)), .new [.int .i64 0, .int .i64 0, .int .i64 0, .int .i64 0, .slice none 0 0, .slice none 0 0], none⟩,
  ⟨none, .st 6 (.g 1) (.l 8), none⟩])
(.seq
(.seq
(.reg [
  ⟨(some (true, 2)), .mv (.c (.lit (.int .i64 0))), none⟩])
(.block 0
(.loop
(.seq
(.seq
(.reg [
  ⟨(some (false, 9)), .mv (.g 2), none⟩,
  ⟨(some (true, 10)), .bin .lss (.l 9) (.c (.lit (.int .i64 7))), none⟩])
(.cond (.g 10)
.skip
(.exit 0)))
(.seq
(.block 1
(.draw [
  ⟨⟨(some (false, 13)), .fa (.g 1) 4, none⟩, 0, true, []⟩,
  ⟨⟨(some (false, 14)), .ld none (.l 13), none⟩, 1, true, []⟩,
  ⟨⟨(some (false, 15)), .call (.c (.fn 15 [])) [.c (.lit (.int .i64 2)), .c (.lit (.int .i64 3))], none⟩, 2, false, []⟩,
  ⟨⟨(some (false, 16)), .mks false 2 [.l 15], none⟩, 3, true, []⟩,
  ⟨⟨(some (false, 17)), .app 2 16 (.l 14) (.l 16), none⟩, 4, false, []⟩,
  ⟨⟨(some (false, 18)), .fa (.g 1) 4, none⟩, 5, true, []⟩,
  ⟨⟨none, .st 1 (.l 18) (.l 17), none⟩, 6, true, []⟩]))
(.reg [
  ⟨(some (false, 11)), .mv (.g 2), none⟩,
  ⟨(some (false, 12)), .bin .add (.l 11) (.c (.lit (.int .i64 1))), none⟩,
  ⟨(some (true, 2)), .mv (.l 12), none⟩]))))))
(.seq
(.reg [
  ⟨(some (false, 19)), .ld (some 6) (.g 1), none⟩,
  ⟨none, .st 6 (.g 0) (.l 19), none⟩])
.ret))))
def K4m : List Nat := [10, 0, 1, 2]
noncomputable def b4m : Code := match Tryd.f4.body with | some c => c | none => .skip
theorem t4m : trCode ⟨Tryd.prog, K4m, [7], 20, none⟩ b4m = some c4m := by kernel_rfl
theorem go4m {args : List AV} {H : AHeap} {Kk : AV → AHeap → Prop} (hn : args.length = 0) (h : AGo ⟨Tryd.prog, K4m, [7], 20, none⟩ H.length [.code c4m] (RetP [.cell (.g 0) (some 6)] H.length Kk) ⟨[], argsG 0 args⟩ H) : ACalls Tryd.prog 4 args H Kk :=
  ACalls_of Tryd.func4 (c := b4m) rfl (by kernel_rfl) t4m (rs := [.cell (.g 0) (some 6)]) (by kernel_rfl) (by rw [hn]; exact Nat.le_of_ble_eq_true rfl) (by rw [hn]; rfl) (h.weaken (fun _ _ => RetP.hands) (by simp))

end Go.Sas
