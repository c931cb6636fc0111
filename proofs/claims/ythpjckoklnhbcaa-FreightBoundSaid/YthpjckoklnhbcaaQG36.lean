/-
Freight: the law FreightEnds: its core.
Conditions: none.
-/
import Derived.Test.YthpjckoklnhbcaaHK
import Derived.Test.YthpjckoklnhbcaaQFL12
set_option linter.unusedVariables false
set_option linter.unusedSimpArgs false
namespace Go.Sas
open Go.Proofs
set_option maxRecDepth 100000
def eWinE (u v : Int → Int → Int → Int → Int) (w : Int × Int → Int) : List AV → Option ((AV → Prop) → Prop)
  | [.agg [.lit (.int .i64 a), .lit (.int .i64 b), .lit (.int .i64 c), .lit (.int .i64 d), .vs 2 xs, .vs 4 _]] =>
    some fun K => ∃ (cs : List (Int × Int)), (xs = cs.map sp ∧ cs.length ≤ 1000000) ∧ ∀ zs : List AV, zs = (cs.map w).map I → K (winV (u a b c d) (v a b c d) (.vs 1 zs))
  | _ => none
theorem eWorstE_ok : ∀ args pt, eWinE (fun _ b _ _ => b) (fun _ _ c _ => c) (·.1) args = some pt → ∀ (H : AHeap) (Kk : AV → AHeap → Prop), pt (fun r => Kk r H) → ACalls Try.prog 41 args H Kk := by
  intro args pt h H Kk hk
  unfold eWinE at h
  split at h
  · cases h
    obtain ⟨cs, ⟨rfl, h1⟩, h2⟩ := hk
    exact p41 _ _ _ _ _ _ h1 H (h2 _ (by rw [List.map_map]; rfl))
  · cases h
end Go.Sas
