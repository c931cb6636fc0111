/-
The law FreightShares answers true, whatever comes in.
Conditions: none.
-/
import Derived.Test.YthpjckoklnhbcaaRows
import Derived.WalkKit
import Derived.Test.YthpjckoklnhbcaaI5
import Derived.Test.YthpjckoklnhbcaaQDF
import Derived.Test.YthpjckoklnhbcaaH5
set_option linter.unusedVariables false
set_option linter.unusedSimpArgs false
namespace Go.Proofs.Ythpjckoklnhbcaa.freightShares
open Go.ChangeShapes Go.WideShapes Go.ChangeAt Go.RowKit Go.Sas
set_option maxRecDepth 100000
theorem core (l : List AV) (h : GoodArgs Try.prog 8 Try.f10.params.toList l) : ACalls Try.prog 10 l [] fun r _ => r = .lit (.bool true) := by
  have hp : Try.f10.params.toList = [3, 34, 34] := by kernel_rfl
  rw [hp] at h
  obtain ⟨c1, a1, rfl, g1, h1⟩ := h
  obtain ⟨c2, a2, rfl, g2, h2⟩ := h1
  obtain ⟨c3, a3, rfl, g3, h3⟩ := h2
  simp only [GoodArgs] at h3; subst h3
  obtain ⟨n1, rfl, b1⟩ := good_intB (d := 7) uy3 g1
  obtain ⟨l2, rfl, b2⟩ := in_ints (d := 6) g2
  obtain ⟨l3, rfl, b3⟩ := in_ints (d := 6) g3
  rw [mk_int uy3 rfl, mk_slice uy34, mk_slice uy34]
  exact core10 n1 l2 l3 b1 b2 b3
theorem own : ownKnob Try.prog.godebug = none := by kernel_rfl
theorem laidOut : laidOutB Try.prog = true := by kernel_rfl
theorem spec (H : Type) (ds : List (DataW H)) (h : ds.length = Try.f10.params.size) : Rows.freightSharesSpec.fn H ds = { results := [.lit (.bool true)], args := ds } := by
  have hs : Try.f10.params.size = 3 := by kernel_rfl
  rw [hs] at h
  match ds, h with
  | [d1, d2, d3], _ => rfl

theorem lifted (os : Os) (started : os.Started) (H : Type) (enc : TypeId × Value → H) :
    ReturnsInHanded {} Try.checked os 10 .any (Rows.freightSharesSpec.pre6 enc Try.prog Try.f10 Rows.freightSharesRow.domain false) (Rows.freightSharesSpec.post enc Try.prog Try.f10 false true false false) := by
  refine returnsInHanded_of_change (C := Try.checked) own started (by kernel_rfl) Try.func10
    (ChangeSpec.witness6 (enc := enc) (C := Try.checked) false ⟨#[], #[.int .i64 0, .slice none 0 0, .slice none 0 0], []⟩ 8 (by kernel_rfl) (by kernel_rfl) (by kernel_rfl) (by kernel_rfl)) ?_
  intro W base args ds gs before hval0 hW hcnd _
  exact law_step (d := 8) (tb := 4) rfl (spec H) laidOut (by kernel_rfl) (by kernel_rfl) (by kernel_rfl) (by kernel_rfl) core hval0 hW
theorem over : Rows.freightSharesRow.holds Try.pinned (OpenSpec.ofChange Rows.freightSharesSpec) :=
  OpenClaim.holds_of_wide 10 Try.f10 rfl rfl rfl rfl rfl rfl rfl ⟨rfl, rfl, rfl, rfl, rfl⟩ rfl rfl rfl rfl rfl (by kernel_rfl) Try.func10 (by kernel_rfl)
    (of_decide_eq_true (by kernel_rfl)) (by unfold Func.isWrapper; first | (rw [if_pos (by decide +kernel)]; kernel_rfl) | (rw [if_neg (by decide +kernel)]; exact ⟨rfl, rfl⟩))
    (fun os started H enc _ => lifted os started H enc)
theorem proved : Rows.FreightSharesSaid := over
#print axioms proved
end Go.Proofs.Ythpjckoklnhbcaa.freightShares
