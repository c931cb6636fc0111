/-
The law BearApart answers true, whatever comes in.
Conditions: none.
-/
import Derived.Test.YtelmlpjkpebcgaaRows
import Derived.WalkKit
import Derived.Test.YtelmlpjkpebcgaaM19
import Derived.Test.YtelmlpjkpebcgaaND1
import Derived.Test.YtelmlpjkpebcgaaM4
set_option linter.unusedVariables false
set_option linter.unusedSimpArgs false
namespace Go.Proofs.Ytelmlpjkpebcgaa.bearApart
open Go.ChangeShapes Go.WideShapes Go.ChangeAt Go.RowKit Go.Sas
set_option maxRecDepth 100000
theorem core (l : List AV) (h : GoodArgs Try.prog 8 Try.f16.params.toList l) : ACalls Try.prog 16 l [] fun r _ => r = .lit (.bool true) := by
  have hp : Try.f16.params.toList = [29, 3] := by kernel_rfl
  rw [hp] at h
  obtain ⟨c1, a1, rfl, g1, h1⟩ := h
  obtain ⟨c2, a2, rfl, g2, h2⟩ := h1
  simp only [GoodArgs] at h2; subst h2
  obtain ⟨l1, rfl, b1⟩ := in_ints (d := 6) g1
  obtain ⟨n2, rfl⟩ := good_int (d := 7) uy3 g2
  rw [mk_slice uy29, mk_int uy3 rfl]
  exact core16 l1 n2 b1
theorem own : ownKnob Try.prog.godebug = none := by kernel_rfl
theorem laidOut : laidOutB Try.prog = true := by kernel_rfl
theorem spec (H : Type) (ds : List (DataW H)) (h : ds.length = Try.f16.params.size) : Rows.bearApartSpec.fn H ds = { results := [.lit (.bool true)], args := ds } := by
  have hs : Try.f16.params.size = 2 := by kernel_rfl
  rw [hs] at h
  match ds, h with
  | [d1, d2], _ => rfl

theorem lifted (os : Os) (started : os.Started) (H : Type) (enc : TypeId × Value → H) :
    ReturnsInHanded {} Try.checked os 16 .any (Rows.bearApartSpec.pre6 enc Try.prog Try.f16 Rows.bearApartRow.domain false) (Rows.bearApartSpec.post enc Try.prog Try.f16 false true false false) := by
  refine returnsInHanded_of_change (C := Try.checked) own started (by kernel_rfl) Try.func16
    (ChangeSpec.witness6 (enc := enc) (C := Try.checked) false ⟨#[], #[.slice none 0 0, .int .i64 0], []⟩ 8 (by kernel_rfl) (by kernel_rfl) (by kernel_rfl) (by kernel_rfl)) ?_
  intro W base args ds gs before hval0 hW hcnd _
  exact law_step (d := 8) (tb := 4) rfl (spec H) laidOut (by kernel_rfl) (by kernel_rfl) (by kernel_rfl) (by kernel_rfl) core hval0 hW
theorem over : Rows.bearApartRow.holds Try.pinned (OpenSpec.ofChange Rows.bearApartSpec) :=
  OpenClaim.holds_of_wide 16 Try.f16 rfl rfl rfl rfl rfl rfl rfl ⟨rfl, rfl, rfl, rfl, rfl⟩ rfl rfl rfl rfl rfl (by kernel_rfl) Try.func16 (by kernel_rfl)
    (of_decide_eq_true (by kernel_rfl)) (by unfold Func.isWrapper; first | (rw [if_pos (by decide +kernel)]; kernel_rfl) | (rw [if_neg (by decide +kernel)]; exact ⟨rfl, rfl⟩))
    (fun os started H enc _ => lifted os started H enc)
theorem proved : Rows.BearApartSaid := over
#print axioms proved
end Go.Proofs.Ytelmlpjkpebcgaa.bearApart
