/-
What the functions that ice rests on yield, part 10: waves and speeds.
What the functions that ice rests on yield, part 11: the verdicts on speeds.
What the functions that ice rests on yield, part 12: comparisons, examples.

What the functions that ice rests on yield, part 13: the examples that each law looks at.

Conditions: none.
-/
import Derived.Test.YtndnjmpebpampaaGreatDoorJ4
import Derived.Test.YtndnjmpebpampaaGreatDoorP4
import Derived.Test.YtndnjmpebpampaaGreatDoorJ1
set_option linter.unusedVariables false
set_option linter.unusedSimpArgs false
namespace Go.Sas
open Go.Proofs
set_option maxRecDepth 100000
end Go.Sas
namespace Go.Sas
open Go.Proofs
set_option maxRecDepth 100000
end Go.Sas
namespace Go.Sas
open Go.Proofs
set_option maxRecDepth 100000
end Go.Sas

namespace Go.Sas
open Go.Proofs
set_option maxRecDepth 100000
theorem eHolds_ok {f : Nat} (hf : ∀ (p : Plate) {a b : Int} {xs ec : List AV} {ne ed gr lo hi sh wi : Int}, PlateIs p a b xs ec ne ed gr lo hi sh wi → p.shares.length ≤ 9223372036854775807 → p.creep.length ≤ 9223372036854775807 → ∀ (ice cr : List (Int × Int)) (l : List Load), ice.length ≤ 9223372036854775807 → cr.length ≤ 9223372036854775807 → l.length ≤ 9223372036854775807 → ∀ (H : AHeap) {Kk : AV → AHeap → Prop}, Kk (.tup [.vs 1 ((holdsS p ice cr l).1.map I), I (holdsS p ice cr l).2]) H →
    ACalls Tryz.prog f [plV a b (.vs 2 xs) (.vs 2 ec) ne ed gr lo hi sh wi, .vs 2 (ice.map sp), .vs 2 (cr.map sp), .vs 4 (l.map ldV)] H Kk) : ∀ args pt, eHolds args = some pt → ∀ (H : AHeap) (Kk : AV → AHeap → Prop), pt (fun r => Kk r H) → ACalls Tryz.prog f args H Kk := by
  intro args pt h H Kk hk
  unfold eHolds at h
  split at h
  · split at h
    · rename_i x xi xc xl hy h3 h4 h5
      cases h
      obtain ⟨p, ice, cr, l, h1, b1, b2, ⟨rfl, b3⟩, ⟨rfl, b4⟩, ⟨rfl, b5⟩, h6⟩ := hk
      obtain ⟨a, b, xs, ec, ne, ed, gr, lo, hi, sh, wi⟩ := x
      unfold BigL at b3 b4 b5
      exact (hf p h1 b1 b2 ice cr l (by omega) (by omega) (by omega) H (h6 _ _ _ rfl rfl)).wk ⟨asPl_wk hy, asVs_wk h3, asVs_wk h4, asVs_wk h5, trivial⟩
    · cases h
  · cases h
theorem eBearsA_ok {f : Nat} (hf : ∀ (p : Plate) {a b : Int} {xs ec : List AV} {ne ed gr lo hi sh wi : Int}, PlateIs p a b xs ec ne ed gr lo hi sh wi → Big p.shares → Big p.creep → ∀ (t n : Int) (H : AHeap) {Kk : AV → AHeap → Prop}, Kk (.tup [I (bearsS p t n).1, I (bearsS p t n).2]) H →
    ACalls Tryz.prog f [plV a b (.vs 2 xs) (.vs 2 ec) ne ed gr lo hi sh wi, I t, I n] H Kk) : ∀ args pt, eBearsA args = some pt → ∀ (H : AHeap) (Kk : AV → AHeap → Prop), pt (fun r => Kk r H) → ACalls Tryz.prog f args H Kk := by
  intro args pt h H Kk hk
  unfold eBearsA at h
  split at h
  · split at h
    · rename_i x hy
      cases h
      obtain ⟨p, h1, h2, h3, h4⟩ := hk
      obtain ⟨a, b, xs, ec, ne, ed, gr, lo, hi, sh, wi⟩ := x
      exact (hf p h1 h2 h3 _ _ H (h4 _ _ rfl)).wk ⟨asPl_wk hy, Wk.rfl, Wk.rfl, trivial⟩
    · cases h
  · cases h
end Go.Sas

