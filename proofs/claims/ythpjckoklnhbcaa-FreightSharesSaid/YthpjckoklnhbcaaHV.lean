/-
The code of some functions with its types resolved, printed by a program; that it is the code is checked by the kernel.
Freight: the law FreightChecks: its core.
Conditions: none.
-/
import Derived.Test.YthpjckoklnhbcaaH4
import Derived.Test.YthpjckoklnhbcaaProg
import Derived.Test.YthpjckoklnhbcaaQG22
import Derived.Test.YthpjckoklnhbcaaHJ
import Derived.Test.YthpjckoklnhbcaaQG21
set_option linter.unusedVariables false
set_option linter.unusedSimpArgs false
namespace Go.Sas
open Go.Proofs
set_option maxRecDepth 100000
/-- sastrugi/sastrugilaw08.FreightChecks -/
def c3 : ACode :=
  (.seq
(.reg [
  ⟨(some (true, 1)), .box (.g 0), none⟩,
  ⟨(some (true, 2)), .mv (.c (.lit (.bool false))), none⟩])
(.seq
(.seq
(.reg [
  ⟨(some (false, 4)), .ld (some 6) (.g 1), none⟩,
  ⟨(some (true, 5)), .call (.c (.fn 16 [])) [.l 4], none⟩])
(.cond (.g 5)
(.seq
(.reg [
  ⟨(some (false, 6)), .call (.c (.fn 17 [])) [], none⟩,
  ⟨(some (true, 2)), .mv (.l 6), none⟩])
.ret)
.skip))
(.seq
(.reg [
  ⟨(some (false, 7)), .ld (some 6) (.g 1), none⟩,
  ⟨(some (false, 8)), .call (.c (.fn 18 [])) [.l 7], none⟩,
  ⟨(some (true, 3)), .new [.int .i64 0, .int .i64 0, .int .i64 0, .int .i64 0, .slice none 0 0, .slice none 0 0], none⟩,
  ⟨none, .st 6 (.g 3) (.l 8), none⟩])
(.seq
(.draw [
  ⟨⟨(some (false, 9)), .ld (some 6) (.g 3), none⟩, 0, true, []⟩,
  ⟨⟨(some (false, 11)), .ld (some 6) (.g 1), none⟩, 2, true, []⟩,
  ⟨⟨(some (false, 10)), .call (.c (.fn 19 [])) [.l 9], none⟩, 1, false, []⟩,
  ⟨⟨(some (false, 12)), .call (.c (.fn 20 [])) [.l 11], none⟩, 3, false, []⟩,
  ⟨⟨(some (false, 13)), .bin .eql (.l 10) (.l 12), none⟩, 4, true, []⟩,
  ⟨⟨(some (false, 14)), .mv (.l 13), none⟩, 5, true, []⟩,
  ⟨⟨(some (false, 15)), .ld (some 6) (.g 3), (some (.l 14, true))⟩, 6, true, []⟩,
  ⟨⟨(some (false, 16)), .ld (some 6) (.g 1), (some (.l 14, true))⟩, 7, true, []⟩,
  ⟨⟨(some (false, 17)), .call (.c (.fn 21 [])) [.l 15, .l 16], (some (.l 14, true))⟩, 8, false, []⟩,
  ⟨⟨(some (false, 18)), .pick (.l 14) (.l 17) (.c (.lit (.bool false))), none⟩, 9, true, []⟩,
  ⟨⟨(some (false, 19)), .mv (.l 18), none⟩, 10, true, []⟩,
  ⟨⟨(some (false, 20)), .call (.c (.fn 17 [])) [], (some (.l 19, true))⟩, 11, false, []⟩,
  ⟨⟨(some (false, 21)), .pick (.l 19) (.l 20) (.c (.lit (.bool false))), none⟩, 12, true, []⟩,
  ⟨⟨(some (true, 2)), .mv (.l 21), none⟩, 13, true, []⟩])
.ret))))
noncomputable def b3 : Code := match Try.f3.body with | some c => c | none => .skip
end Go.Sas
namespace Go.Sas
open Go.Proofs
set_option maxRecDepth 100000
def eAwake : List AV → Option ((AV → Prop) → Prop)
  | [] => some fun K => K (B true)
  | _ => none
theorem eAwake_ok : ∀ args pt, eAwake args = some pt → ∀ (H : AHeap) (Kk : AV → AHeap → Prop), pt (fun r => Kk r H) → ACalls Try.prog 17 args H Kk := by
  intro args pt h H Kk hk
  unfold eAwake at h
  split at h
  · cases h; exact p17 H hk
  · cases h
end Go.Sas
