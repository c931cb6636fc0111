/-
The law BearKnown answers true, whatever comes in.
Conditions: none.
-/
import Derived.Test.YtelmlpjkpebcgaaRows
import Derived.WalkKit
import Derived.Test.YtelmlpjkpebcgaaQB50
import Derived.Test.YtelmlpjkpebcgaaQD1
import Derived.Test.YtelmlpjkpebcgaaH5
set_option linter.unusedVariables false
set_option linter.unusedSimpArgs false
namespace Go.Proofs.Ytelmlpjkpebcgaa.bearKnown
open Go.ChangeShapes Go.WideShapes Go.ChangeAt Go.RowKit Go.Sas
set_option maxRecDepth 100000
theorem core (l : List AV) (h : GoodArgs Try.prog 8 Try.f17.params.toList l) : ACalls Try.prog 17 l [] fun r _ => r = .lit (.bool true) := by
  have hp : Try.f17.params.toList = [] := by kernel_rfl
  rw [hp] at h
  simp only [GoodArgs] at h; subst h
  exact core17 
theorem own : ownKnob Try.prog.godebug = none := by kernel_rfl
theorem laidOut : laidOutB Try.prog = true := by kernel_rfl
theorem spec (H : Type) (ds : List (DataW H)) (h : ds.length = Try.f17.params.size) : Rows.bearKnownSpec.fn H ds = { results := [.lit (.bool true)], args := ds } := by
  have hs : Try.f17.params.size = 0 := by kernel_rfl
  rw [hs] at h
  match ds, h with
  | [], _ => rfl

theorem lifted (os : Os) (started : os.Started) (H : Type) (enc : TypeId × Value → H) :
    ReturnsInHanded {} Try.checked os 17 .any (Rows.bearKnownSpec.pre6 enc Try.prog Try.f17 Rows.bearKnownRow.domain false) (Rows.bearKnownSpec.post enc Try.prog Try.f17 false true false false) := by
  refine returnsInHanded_of_change (C := Try.checked) own started (by kernel_rfl) Try.func17
    (ChangeSpec.witness6 (enc := enc) (C := Try.checked) false ⟨#[], #[], []⟩ 8 (by kernel_rfl) (by kernel_rfl) (by kernel_rfl) (by kernel_rfl)) ?_
  intro W base args ds gs before hval0 hW hcnd _
  exact law_step (d := 8) (tb := 4) rfl (spec H) laidOut (by kernel_rfl) (by kernel_rfl) (by kernel_rfl) (by kernel_rfl) core hval0 hW
theorem over : Rows.bearKnownRow.holds Try.pinned (OpenSpec.ofChange Rows.bearKnownSpec) :=
  OpenClaim.holds_of_wide 17 Try.f17 rfl rfl rfl rfl rfl rfl rfl ⟨rfl, rfl, rfl, rfl, rfl⟩ rfl rfl rfl rfl rfl (by kernel_rfl) Try.func17 (by kernel_rfl)
    (of_decide_eq_true (by kernel_rfl)) (by unfold Func.isWrapper; first | (rw [if_pos (by decide +kernel)]; kernel_rfl) | (rw [if_neg (by decide +kernel)]; exact ⟨rfl, rfl⟩))
    (fun os started H enc _ => lifted os started H enc)
theorem proved : Rows.BearKnownSaid := over
#print axioms proved
end Go.Proofs.Ytelmlpjkpebcgaa.bearKnown
