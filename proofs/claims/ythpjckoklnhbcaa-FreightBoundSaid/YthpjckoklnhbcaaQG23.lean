/-
Freight: the law FreightChecks: its core.
Conditions: none.
-/
import Derived.Test.YthpjckoklnhbcaaQG22
import Derived.Test.YthpjckoklnhbcaaHJ
import Derived.Test.YthpjckoklnhbcaaQG21
import Derived.Test.YthpjckoklnhbcaaQFL3
set_option linter.unusedVariables false
set_option linter.unusedSimpArgs false
namespace Go.Sas
open Go.Proofs
set_option maxRecDepth 100000
def eAwake : List AV → Option ((AV → Prop) → Prop)
  | [] => some fun K => K (B true)
  | _ => none
theorem eAwake_ok : ∀ args pt, eAwake args = some pt → ∀ (H : AHeap) (Kk : AV → AHeap → Prop), pt (fun r => Kk r H) → ACalls Try.prog 17 args H Kk := by
  intro args pt h H Kk hk
  unfold eAwake at h
  split at h
  · cases h; exact p17 H hk
  · cases h
end Go.Sas
