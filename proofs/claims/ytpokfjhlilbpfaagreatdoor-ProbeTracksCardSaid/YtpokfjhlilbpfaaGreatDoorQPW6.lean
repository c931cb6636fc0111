/-
strconv.Itoa as a contract of the machine; the file of a track is the one of the specification.
Conditions: none.
-/
import Derived.Test.YtpokfjhlilbpfaaGreatDoorQPW3
import Derived.Test.YtpokfjhlilbpfaaGreatDoorXEg
set_option linter.unusedVariables false
set_option linter.unusedSimpArgs false
namespace Go.Sas
open Go.Proofs Go.RowKit
set_option maxRecDepth 100000 in
theorem w30 (n : Int) (hn : I64 n) (H : AHeap) {g : Nat} {ob : Obj} (hX : Pins H g ob) (hg : Tryz.prog.globalNamed "internal/strconv.uint64pow10" = some g) (hob : TabOb ob)
    {Kk : AV → AHeap → Prop} (h : Kk (strA (Lib.itoa n)) H) : ACalls Tryz.prog 30 [I n] H Kk := by
  refine ACalls.kit (by rfl) fun st w vals hH hr => ?_
  obtain ⟨v1, l1, rfl, h1, hr⟩ := hr
  simp only [RelL] at hr
  subst hr
  rw [relI h1]
  refine (Tryz.strconv_Itoa n hn.1 hn.2 w (tab_low hH hX hg hob ⟨rfl, rfl, Nat.le_refl _, fun _ _ => rfl⟩)).mono ?_
  rintro x w' ⟨rfl, k, os, rfl⟩
  exact ⟨_, _, rfl, Lib.below_grow _ w (Nat.le_refl _) k os, by simp only [strA, RelV], h⟩
theorem textK_textT (t : Trk) : textK t = textT t := by
  unfold textK textT rowsT trkB
  rw [List.flatMap_cons, List.flatMap_map, List.flatMap_map]
  rfl
end Go.Sas
