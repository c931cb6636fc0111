/-
The code of some functions with its types resolved, printed by a program; that it is the code is checked by the kernel.
Conditions: none.
-/
import Derived.Test.YtaeaamhlejhgkaaGreatDoorP4
import Derived.Test.YtaeaamhlejhgkaaGreatDoorProg
set_option linter.unusedVariables false
set_option linter.unusedSimpArgs false
namespace Go.Sas
open Go.Proofs
set_option maxRecDepth 100000
/-- sastrugi/sastrugikit.Damage -/
def c11 : ACode :=
  (.seq
(.reg [
  ⟨(some (true, 8)), .mv (.c (.lit (.string ⟨[].toArray⟩))), none⟩])
(.seq
(.seq
(.reg [
  ⟨(some (false, 9)), .mv (.g 0), none⟩,
  ⟨(some (false, 10)), .lens (.l 9), none⟩,
  ⟨(some (true, 11)), .bin .eql (.l 10) (.c (.lit (.int .i64 0))), none⟩])
(.cond (.g 11)
(.seq
(.reg [
  ⟨(some (false, 12)), .mv (.g 0), none⟩,
  ⟨(some (true, 8)), .mv (.l 12), none⟩])
.ret)
.skip))
(.seq
(.reg [
  ⟨(some (false, 13)), .mv (.g 1), none⟩,
  ⟨(some (false, 14)), .mv (.g 0), none⟩,
  ⟨(some (false, 15)), .lens (.l 14), none⟩,
  ⟨(some (false, 16)), .call (.c (.fn 35 [])) [.l 13, .l 15], none⟩,
  ⟨(some (true, 1)), .mv (.l 16), none⟩])
(.seq
(.seq
(.reg [
  ⟨(some (false, 17)), .mv (.g 2), none⟩,
  ⟨(some (true, 18)), .call (.c (.fn 35 [])) [.l 17, .c (.lit (.int .i64 3))], none⟩])
(.block 0
(.seq
(.reg [
  ⟨(some (false, 20)), .bin .eql (.g 18) (.c (.lit (.int .i64 0))), none⟩,
  ⟨(some (true, 19)), .mv (.l 20), none⟩])
(.cond (.g 19)
(.seq
(.draw [
  ⟨⟨(some (false, 21)), .mv (.g 0), none⟩, 0, true, []⟩,
  ⟨⟨(some (false, 22)), .mv (.g 1), none⟩, 1, true, []⟩,
  ⟨⟨(some (false, 23)), .ssl (.l 21) none (some (.l 22)), none⟩, 2, true, []⟩,
  ⟨⟨(some (false, 24)), .mv (.g 3), none⟩, 3, true, []⟩,
  ⟨⟨(some (false, 25)), .mks false 1 [.l 24], none⟩, 4, true, []⟩,
  ⟨⟨(some (false, 26)), .cvs (.l 25), none⟩, 5, true, []⟩,
  ⟨⟨(some (false, 27)), .bin .add (.l 23) (.l 26), none⟩, 6, true, []⟩,
  ⟨⟨(some (false, 28)), .mv (.g 0), none⟩, 7, true, []⟩,
  ⟨⟨(some (false, 29)), .mv (.g 1), none⟩, 8, true, []⟩,
  ⟨⟨(some (false, 30)), .bin .add (.l 29) (.c (.lit (.int .i64 1))), none⟩, 9, true, []⟩,
  ⟨⟨(some (false, 31)), .ssl (.l 28) (some (.l 30)) none, none⟩, 10, true, []⟩,
  ⟨⟨(some (false, 32)), .bin .add (.l 27) (.l 31), none⟩, 11, true, []⟩,
  ⟨⟨(some (true, 8)), .mv (.l 32), none⟩, 12, true, []⟩])
.ret)
(.seq
(.reg [
  ⟨(some (false, 34)), .bin .eql (.g 18) (.c (.lit (.int .i64 1))), none⟩,
  ⟨(some (true, 33)), .mv (.l 34), none⟩])
(.cond (.g 33)
(.seq
(.draw [
  ⟨⟨(some (false, 35)), .mv (.g 0), none⟩, 0, true, []⟩,
  ⟨⟨(some (false, 36)), .mv (.g 1), none⟩, 1, true, []⟩,
  ⟨⟨(some (false, 37)), .ssl (.l 35) none (some (.l 36)), none⟩, 2, true, []⟩,
  ⟨⟨(some (false, 38)), .mv (.g 0), none⟩, 3, true, []⟩,
  ⟨⟨(some (false, 39)), .mv (.g 1), none⟩, 4, true, []⟩,
  ⟨⟨(some (false, 40)), .bin .add (.l 39) (.c (.lit (.int .i64 1))), none⟩, 5, true, []⟩,
  ⟨⟨(some (false, 41)), .ssl (.l 38) (some (.l 40)) none, none⟩, 6, true, []⟩,
  ⟨⟨(some (false, 42)), .bin .add (.l 37) (.l 41), none⟩, 7, true, []⟩,
  ⟨⟨(some (true, 8)), .mv (.l 42), none⟩, 8, true, []⟩])
.ret)
.skip))))))
(.seq
(.draw [
  ⟨⟨(some (false, 43)), .mv (.g 0), none⟩, 0, true, []⟩,
  ⟨⟨(some (false, 44)), .mv (.g 1), none⟩, 1, true, []⟩,
  ⟨⟨(some (false, 45)), .ssl (.l 43) none (some (.l 44)), none⟩, 2, true, []⟩,
  ⟨⟨(some (false, 46)), .mv (.g 3), none⟩, 3, true, []⟩,
  ⟨⟨(some (false, 47)), .mks false 1 [.l 46], none⟩, 4, true, []⟩,
  ⟨⟨(some (false, 48)), .cvs (.l 47), none⟩, 5, true, []⟩,
  ⟨⟨(some (false, 49)), .bin .add (.l 45) (.l 48), none⟩, 6, true, []⟩,
  ⟨⟨(some (false, 50)), .mv (.g 0), none⟩, 7, true, []⟩,
  ⟨⟨(some (false, 51)), .mv (.g 1), none⟩, 8, true, []⟩,
  ⟨⟨(some (false, 52)), .ssl (.l 50) (some (.l 51)) none, none⟩, 9, true, []⟩,
  ⟨⟨(some (false, 53)), .bin .add (.l 49) (.l 52), none⟩, 10, true, []⟩,
  ⟨⟨(some (true, 8)), .mv (.l 53), none⟩, 11, true, []⟩])
.ret)))))
def K11 : List Nat := [0, 1, 2, 3, 11, 19, 33, 8, 18]
noncomputable def b11 : Code := match Tryz.f11.body with | some c => c | none => .skip
theorem t11 : trCode ⟨Tryz.prog, K11, [], 54, none⟩ b11 = some c11 := by kernel_rfl
theorem go11 {args : List AV} {H : AHeap} {Kk : AV → AHeap → Prop} (hn : args.length = 4) (h : AGo ⟨Tryz.prog, K11, [], 54, none⟩ H.length [.code c11] (RetP [.t (.g 8)] H.length Kk) ⟨[], argsG 0 args⟩ H) : ACalls Tryz.prog 11 args H Kk :=
  ACalls_of Tryz.func11 (c := b11) rfl (by kernel_rfl) t11 (rs := [.t (.g 8)]) (by kernel_rfl) (by rw [hn]; exact Nat.le_of_ble_eq_true rfl) (by rw [hn]; rfl) (h.weaken (fun _ _ => RetP.hands) (by simp))

/-- sastrugi/sastrugilaw08.FreightTexts -/
def c3 : ACode :=
  (.seq
(.reg [
  ⟨(some (true, 6)), .box (.g 0), none⟩,
  ⟨(some (true, 12)), .mv (.c (.lit (.bool false))), none⟩])
(.seq
(.seq
(.reg [
  ⟨(some (false, 27)), .ld (some 6) (.g 6), none⟩,
  ⟨(some (false, 28)), .call (.c (.fn 5 [])) [.l 27], none⟩,
  ⟨(some (false, 29)), .mv (.l 28), none⟩,
  ⟨(some (false, 30)), .mv (.g 1), (some (.l 29, false))⟩,
  ⟨(some (false, 31)), .lens (.l 30), (some (.l 29, false))⟩,
  ⟨(some (false, 32)), .bin .gtr (.l 31) (.c (.lit (.int .i64 2000))), (some (.l 29, false))⟩,
  ⟨(some (false, 33)), .mv (.l 32), (some (.l 29, false))⟩,
  ⟨(some (false, 34)), .mv (.g 1), (some (.l 33, true))⟩,
  ⟨(some (false, 35)), .lens (.l 34), (some (.l 33, true))⟩,
  ⟨(some (false, 36)), .bin .leq (.l 35) (.c (.lit (.int .i64 20000))), (some (.l 33, true))⟩,
  ⟨(some (false, 37)), .pick (.l 33) (.l 36) (.c (.lit (.bool false))), (some (.l 29, false))⟩,
  ⟨(some (true, 38)), .pick (.l 29) (.c (.lit (.bool true))) (.l 37), none⟩])
(.cond (.g 38)
(.seq
(.reg [
  ⟨(some (false, 39)), .call (.c (.fn 6 [])) [], none⟩,
  ⟨(some (true, 12)), .mv (.l 39), none⟩])
.ret)
.skip))
(.seq
(.draw [
  ⟨⟨(some (false, 40)), .ld (some 6) (.g 6), none⟩, 0, true, []⟩,
  ⟨⟨(some (false, 41)), .mv (.g 2), none⟩, 1, true, []⟩,
  ⟨⟨(some (false, 45)), .mv (.g 1), none⟩, 5, true, []⟩,
  ⟨⟨(some (false, 46)), .newm 1 [.l 45], none⟩, 6, true, []⟩,
  ⟨⟨(some (false, 42)), .call (.c (.fn 8 [])) [.l 41], none⟩, 2, false, []⟩,
  ⟨⟨(some (false, 43)), .call (.c (.fn 7 [])) [.l 42, .c (.lit (.int .i64 9)), .c (.lit (.int .i64 4))], none⟩, 3, false, []⟩,
  ⟨⟨(some (false, 44)), .mks false 6 [.l 40, .l 43], none⟩, 4, true, []⟩,
  ⟨⟨(some (true, 13)), .mv (.l 44), none⟩, 7, true, []⟩,
  ⟨⟨(some (true, 14)), .mv (.l 46), none⟩, 8, true, [6]⟩])
(.seq
(.seq
(.reg [
  ⟨(some (true, 15)), .mv (.c (.lit (.int .i64 0))), none⟩])
(.block 0
(.loop
(.seq
(.seq
(.reg [
  ⟨(some (false, 47)), .mv (.g 15), none⟩,
  ⟨(some (false, 48)), .mv (.g 13), none⟩,
  ⟨(some (false, 49)), .len (.l 48), none⟩,
  ⟨(some (true, 50)), .bin .lss (.l 47) (.l 49), none⟩])
(.cond (.g 50)
.skip
(.exit 0)))
(.seq
(.block 1
(.seq
(.reg [
  ⟨(some (false, 54)), .mv (.g 13), none⟩,
  ⟨(some (false, 55)), .mv (.g 15), none⟩,
  ⟨(some (false, 56)), .ia 6 (.l 54) (.l 55), none⟩,
  ⟨(some (false, 57)), .ld (some 6) (.l 56), none⟩,
  ⟨(some (false, 58)), .call (.c (.fn 9 [])) [.l 57], none⟩,
  ⟨(some (false, 53)), .mv (.l 58), none⟩,
  ⟨(some (false, 59)), .ex (.l 53) 0, none⟩,
  ⟨(some (false, 60)), .ex (.l 53) 1, none⟩,
  ⟨(some (true, 16)), .mv (.l 59), none⟩,
  ⟨(some (true, 17)), .mv (.l 60), none⟩])
(.seq
(.reg [
  ⟨(some (false, 62)), .mv (.g 13), none⟩,
  ⟨(some (false, 63)), .mv (.g 15), none⟩,
  ⟨(some (false, 64)), .ia 6 (.l 62) (.l 63), none⟩,
  ⟨(some (false, 65)), .ld (some 6) (.l 64), none⟩,
  ⟨(some (false, 66)), .call (.c (.fn 10 [])) [.l 65], none⟩,
  ⟨(some (false, 61)), .mv (.l 66), none⟩,
  ⟨(some (false, 67)), .ex (.l 61) 0, none⟩,
  ⟨(some (false, 68)), .ex (.l 61) 1, none⟩,
  ⟨(some (true, 18)), .mv (.l 67), none⟩,
  ⟨(some (true, 19)), .mv (.l 68), none⟩])
(.seq
(.seq
(.reg [
  ⟨(some (false, 69)), .mv (.g 16), none⟩,
  ⟨(some (false, 70)), .mv (.g 18), none⟩,
  ⟨(some (false, 71)), .bin .neq (.l 69) (.l 70), none⟩,
  ⟨(some (false, 72)), .mv (.l 71), none⟩,
  ⟨(some (false, 73)), .mv (.g 17), (some (.l 72, false))⟩,
  ⟨(some (false, 74)), .mv (.g 19), (some (.l 72, false))⟩,
  ⟨(some (false, 75)), .bin .neq (.l 73) (.l 74), (some (.l 72, false))⟩,
  ⟨(some (true, 76)), .pick (.l 72) (.c (.lit (.bool true))) (.l 75), none⟩])
(.cond (.g 76)
(.seq
(.reg [
  ⟨(some (true, 12)), .mv (.c (.lit (.bool false))), none⟩])
.ret)
.skip))
(.reg [
  ⟨(some (false, 77)), .mv (.g 14), none⟩,
  ⟨(some (false, 78)), .mv (.g 18), none⟩,
  ⟨(some (false, 79)), .mks false 1 [.l 78], none⟩,
  ⟨(some (false, 80)), .app 1 16 (.l 77) (.l 79), none⟩,
  ⟨(some (true, 14)), .mv (.l 80), none⟩])))))
(.reg [
  ⟨(some (false, 51)), .mv (.g 15), none⟩,
  ⟨(some (false, 52)), .bin .add (.l 51) (.c (.lit (.int .i64 1))), none⟩,
  ⟨(some (true, 15)), .mv (.l 52), none⟩]))))))
(.seq
(.reg [
  ⟨(some (false, 81)), .mv (.g 14), none⟩,
  ⟨(some (false, 82)), .mv (.g 14), none⟩,
  ⟨(some (false, 83)), .ia 1 (.l 82) (.c (.lit (.int .i64 2))), none⟩,
  ⟨(some (false, 84)), .ld none (.l 83), none⟩,
  ⟨(some (false, 85)), .mv (.g 3), none⟩,
  ⟨(some (false, 86)), .mv (.g 4), none⟩,
  ⟨(some (false, 87)), .mv (.g 5), none⟩,
  ⟨(some (false, 88)), .call (.c (.fn 11 [])) [.l 84, .l 85, .l 86, .l 87], none⟩,
  ⟨(some (false, 89)), .mks false 1 [.l 88], none⟩,
  ⟨(some (false, 90)), .app 1 16 (.l 81) (.l 89), none⟩,
  ⟨(some (true, 14)), .mv (.l 90), none⟩])
(.seq
(.seq
(.reg [
  ⟨(some (true, 20)), .mv (.c (.lit (.int .i64 0))), none⟩])
(.block 2
(.loop
(.seq
(.seq
(.reg [
  ⟨(some (false, 91)), .mv (.g 20), none⟩,
  ⟨(some (false, 92)), .mv (.g 14), none⟩,
  ⟨(some (false, 93)), .len (.l 92), none⟩,
  ⟨(some (true, 94)), .bin .lss (.l 91) (.l 93), none⟩])
(.cond (.g 94)
.skip
(.exit 2)))
(.seq
(.block 3
(.seq
(.reg [
  ⟨(some (false, 98)), .mv (.g 14), none⟩,
  ⟨(some (false, 99)), .mv (.g 20), none⟩,
  ⟨(some (false, 100)), .ia 1 (.l 98) (.l 99), none⟩,
  ⟨(some (false, 101)), .ld none (.l 100), none⟩,
  ⟨(some (false, 102)), .call (.c (.fn 12 [])) [.l 101], none⟩,
  ⟨(some (false, 97)), .mv (.l 102), none⟩,
  ⟨(some (false, 103)), .ex (.l 97) 0, none⟩,
  ⟨(some (false, 104)), .ex (.l 97) 1, none⟩,
  ⟨(some (false, 105)), .ex (.l 97) 2, none⟩,
  ⟨(some (true, 21)), .new [.int .i64 0, .int .i64 0, .int .i64 0, .int .i64 0, .slice none 0 0, .slice none 0 0], none⟩,
  ⟨none, .st 6 (.g 21) (.l 103), none⟩,
  ⟨(some (true, 22)), .mv (.l 104), none⟩,
  ⟨(some (true, 23)), .mv (.l 105), none⟩])
(.seq
(.reg [
  ⟨(some (false, 107)), .mv (.g 14), none⟩,
  ⟨(some (false, 108)), .mv (.g 20), none⟩,
  ⟨(some (false, 109)), .ia 1 (.l 107) (.l 108), none⟩,
  ⟨(some (false, 110)), .ld none (.l 109), none⟩,
  ⟨(some (false, 111)), .call (.c (.fn 13 [])) [.l 110], none⟩,
  ⟨(some (false, 106)), .mv (.l 111), none⟩,
  ⟨(some (false, 112)), .ex (.l 106) 0, none⟩,
  ⟨(some (false, 113)), .ex (.l 106) 1, none⟩,
  ⟨(some (false, 114)), .ex (.l 106) 2, none⟩,
  ⟨(some (true, 24)), .new [.int .i64 0, .int .i64 0, .int .i64 0, .int .i64 0, .slice none 0 0, .slice none 0 0], none⟩,
  ⟨none, .st 6 (.g 24) (.l 112), none⟩,
  ⟨(some (true, 25)), .mv (.l 113), none⟩,
  ⟨(some (true, 26)), .mv (.l 114), none⟩])
(.seq
(.reg [
  ⟨(some (false, 115)), .mv (.g 22), none⟩,
  ⟨(some (false, 116)), .mv (.g 25), none⟩,
  ⟨(some (false, 117)), .bin .neq (.l 115) (.l 116), none⟩,
  ⟨(some (false, 118)), .mv (.l 117), none⟩,
  ⟨(some (false, 119)), .mv (.g 23), (some (.l 118, false))⟩,
  ⟨(some (false, 120)), .mv (.g 26), (some (.l 118, false))⟩,
  ⟨(some (false, 121)), .bin .neq (.l 119) (.l 120), (some (.l 118, false))⟩,
  ⟨(some (false, 122)), .pick (.l 118) (.c (.lit (.bool true))) (.l 121), none⟩,
  ⟨(some (false, 123)), .mv (.l 122), none⟩,
  ⟨(some (false, 124)), .ld (some 6) (.g 21), (some (.l 123, false))⟩,
  ⟨(some (false, 125)), .ld (some 6) (.g 24), (some (.l 123, false))⟩,
  ⟨(some (false, 126)), .call (.c (.fn 14 [])) [.l 124, .l 125], (some (.l 123, false))⟩,
  ⟨(some (false, 127)), .un .not (.l 126), (some (.l 123, false))⟩,
  ⟨(some (true, 128)), .pick (.l 123) (.c (.lit (.bool true))) (.l 127), none⟩])
(.cond (.g 128)
(.seq
(.reg [
  ⟨(some (true, 12)), .mv (.c (.lit (.bool false))), none⟩])
.ret)
.skip)))))
(.reg [
  ⟨(some (false, 95)), .mv (.g 20), none⟩,
  ⟨(some (false, 96)), .bin .add (.l 95) (.c (.lit (.int .i64 1))), none⟩,
  ⟨(some (true, 20)), .mv (.l 96), none⟩]))))))
(.seq
(.reg [
  ⟨(some (false, 129)), .call (.c (.fn 6 [])) [], none⟩,
  ⟨(some (true, 12)), .mv (.l 129), none⟩])
.ret)))))))
def K3 : List Nat := [0, 1, 2, 3, 4, 5, 38, 50, 76, 94, 128, 12, 6, 13, 14, 15, 16, 17, 18, 19, 20, 21, 22, 23, 24, 25, 26]
noncomputable def b3 : Code := match Tryz.f3.body with | some c => c | none => .skip
theorem t3 : trCode ⟨Tryz.prog, K3, [46], 130, none⟩ b3 = some c3 := by kernel_rfl
theorem go3 {args : List AV} {H : AHeap} {Kk : AV → AHeap → Prop} (hn : args.length = 6) (h : AGo ⟨Tryz.prog, K3, [46], 130, none⟩ H.length [.code c3] (RetP [.t (.g 12)] H.length Kk) ⟨[], argsG 0 args⟩ H) : ACalls Tryz.prog 3 args H Kk :=
  ACalls_of Tryz.func3 (c := b3) rfl (by kernel_rfl) t3 (rs := [.t (.g 12)]) (by kernel_rfl) (by rw [hn]; exact Nat.le_of_ble_eq_true rfl) (by rw [hn]; rfl) (h.weaken (fun _ _ => RetP.hands) (by simp))

end Go.Sas
