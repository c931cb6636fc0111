/-
The law TopBears answers true, whatever comes in.
Conditions: none.
-/
import Derived.Test.YtelmlpjkpebcgaaRows
import Derived.WalkKit
import Derived.Test.YtelmlpjkpebcgaaVK
import Derived.Test.YtelmlpjkpebcgaaQD1
import Derived.Test.YtelmlpjkpebcgaaH5
set_option linter.unusedVariables false
set_option linter.unusedSimpArgs false
namespace Go.Proofs.Ytelmlpjkpebcgaa.topBears
open Go.ChangeShapes Go.WideShapes Go.ChangeAt Go.RowKit Go.Sas
set_option maxRecDepth 100000
theorem core (l : List AV) (h : GoodArgs Try.prog 8 Try.f15.params.toList l) : ACalls Try.prog 15 l [] fun r _ => r = .lit (.bool true) := by
  have hp : Try.f15.params.toList = [29] := by kernel_rfl
  rw [hp] at h
  obtain ⟨c1, a1, rfl, g1, h1⟩ := h
  simp only [GoodArgs] at h1; subst h1
  obtain ⟨nums, rfl, b1⟩ := in_ints (d := 6) g1
  rw [mk_slice uy29]
  exact core15 nums b1
theorem own : ownKnob Try.prog.godebug = none := by kernel_rfl
theorem laidOut : laidOutB Try.prog = true := by kernel_rfl
theorem spec (H : Type) (ds : List (DataW H)) (h : ds.length = Try.f15.params.size) : Rows.topBearsSpec.fn H ds = { results := [.lit (.bool true)], args := ds } := by
  have hs : Try.f15.params.size = 1 := by kernel_rfl
  rw [hs] at h
  match ds, h with
  | [d1], _ => rfl

theorem lifted (os : Os) (started : os.Started) (H : Type) (enc : TypeId × Value → H) :
    ReturnsInHanded {} Try.checked os 15 .any (Rows.topBearsSpec.pre6 enc Try.prog Try.f15 Rows.topBearsRow.domain false) (Rows.topBearsSpec.post enc Try.prog Try.f15 false true false false) := by
  refine returnsInHanded_of_change (C := Try.checked) own started (by kernel_rfl) Try.func15
    (ChangeSpec.witness6 (enc := enc) (C := Try.checked) false ⟨#[], #[.slice none 0 0], []⟩ 8 (by kernel_rfl) (by kernel_rfl) (by kernel_rfl) (by kernel_rfl)) ?_
  intro W base args ds gs before hval0 hW hcnd _
  exact law_step (d := 8) (tb := 4) rfl (spec H) laidOut (by kernel_rfl) (by kernel_rfl) (by kernel_rfl) (by kernel_rfl) core hval0 hW
theorem over : Rows.topBearsRow.holds Try.pinned (OpenSpec.ofChange Rows.topBearsSpec) :=
  OpenClaim.holds_of_wide 15 Try.f15 rfl rfl rfl rfl rfl rfl rfl ⟨rfl, rfl, rfl, rfl, rfl⟩ rfl rfl rfl rfl rfl (by kernel_rfl) Try.func15 (by kernel_rfl)
    (of_decide_eq_true (by kernel_rfl)) (by unfold Func.isWrapper; first | (rw [if_pos (by decide +kernel)]; kernel_rfl) | (rw [if_neg (by decide +kernel)]; exact ⟨rfl, rfl⟩))
    (fun os started H enc _ => lifted os started H enc)
theorem proved : Rows.TopBearsSaid := over
#print axioms proved
end Go.Proofs.Ytelmlpjkpebcgaa.topBears
