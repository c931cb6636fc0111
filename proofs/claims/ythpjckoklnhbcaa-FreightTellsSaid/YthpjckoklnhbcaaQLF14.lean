/-
The law FreightTells answers true, whatever comes in.
Conditions: none.
-/
import Derived.Test.YthpjckoklnhbcaaRows
import Derived.WalkKit
import Derived.Test.YthpjckoklnhbcaaI2
import Derived.Test.YthpjckoklnhbcaaQDF
import Derived.Test.YthpjckoklnhbcaaH5
set_option linter.unusedVariables false
set_option linter.unusedSimpArgs false
namespace Go.Proofs.Ythpjckoklnhbcaa.freightTells
open Go.ChangeShapes Go.WideShapes Go.ChangeAt Go.RowKit Go.Sas
set_option maxRecDepth 100000
theorem core (l : List AV) (h : GoodArgs Try.prog 8 Try.f14.params.toList l) : ACalls Try.prog 14 l [] fun r _ => r = .lit (.bool true) := by
  have hp : Try.f14.params.toList = [27, 54, 49, 3, 3, 34] := by kernel_rfl
  rw [hp] at h
  obtain ⟨c1, a1, rfl, g1, h1⟩ := h
  obtain ⟨c2, a2, rfl, g2, h2⟩ := h1
  obtain ⟨c3, a3, rfl, g3, h3⟩ := h2
  obtain ⟨c4, a4, rfl, g4, h4⟩ := h3
  obtain ⟨c5, a5, rfl, g5, h5⟩ := h4
  obtain ⟨c6, a6, rfl, g6, h6⟩ := h5
  simp only [GoodArgs] at h6; subst h6
  obtain ⟨a1, b1, q1, d1, cs1, os1, e1, hc1, ho1⟩ := in_freight (d := 4) g1
  obtain ⟨a2, b2, ws2, e2, hw2⟩ := in_winter (d := 5) g2
  obtain ⟨l3, rfl, b3⟩ := in_way (d := 5) g3
  obtain ⟨n4, rfl, b4⟩ := good_intB (d := 7) uy3 g4
  obtain ⟨n5, rfl, b5⟩ := good_intB (d := 7) uy3 g5
  obtain ⟨l6, rfl, b6⟩ := in_ints (d := 6) g6
  rw [e1, e2, mk_slice uy49, mk_int uy3 rfl, mk_int uy3 rfl, mk_slice uy34]
  exact core14 a1 b1 q1 d1 cs1 os1 a2 b2 ws2 l3 n4 n5 l6 hc1 ho1 hw2 b3 b4 b5 b6
theorem own : ownKnob Try.prog.godebug = none := by kernel_rfl
theorem laidOut : laidOutB Try.prog = true := by kernel_rfl
theorem spec (H : Type) (ds : List (DataW H)) (h : ds.length = Try.f14.params.size) : Rows.freightTellsSpec.fn H ds = { results := [.lit (.bool true)], args := ds } := by
  have hs : Try.f14.params.size = 6 := by kernel_rfl
  rw [hs] at h
  match ds, h with
  | [d1, d2, d3, d4, d5, d6], _ => rfl

theorem lifted (os : Os) (started : os.Started) (H : Type) (enc : TypeId × Value → H) :
    ReturnsInHanded {} Try.checked os 14 .any (Rows.freightTellsSpec.pre6 enc Try.prog Try.f14 Rows.freightTellsRow.domain false) (Rows.freightTellsSpec.post enc Try.prog Try.f14 false true false false) := by
  refine returnsInHanded_of_change (C := Try.checked) own started (by kernel_rfl) Try.func14
    (ChangeSpec.witness6 (enc := enc) (C := Try.checked) false ⟨#[], #[.agg #[.int .i64 0, .int .i64 0, .int .i64 0, .int .i64 0, .slice none 0 0, .slice none 0 0], .agg #[.int .i64 0, .int .i64 0, .slice none 0 0], .slice none 0 0, .int .i64 0, .int .i64 0, .slice none 0 0], []⟩ 8 (by kernel_rfl) (by kernel_rfl) (by kernel_rfl) (by kernel_rfl)) ?_
  intro W base args ds gs before hval0 hW hcnd _
  exact law_step (d := 8) (tb := 4) rfl (spec H) laidOut (by kernel_rfl) (by kernel_rfl) (by kernel_rfl) (by kernel_rfl) core hval0 hW
theorem over : Rows.freightTellsRow.holds Try.pinned (OpenSpec.ofChange Rows.freightTellsSpec) :=
  OpenClaim.holds_of_wide 14 Try.f14 rfl rfl rfl rfl rfl rfl rfl ⟨rfl, rfl, rfl, rfl, rfl⟩ rfl rfl rfl rfl rfl (by kernel_rfl) Try.func14 (by kernel_rfl)
    (of_decide_eq_true (by kernel_rfl)) (by unfold Func.isWrapper; first | (rw [if_pos (by decide +kernel)]; kernel_rfl) | (rw [if_neg (by decide +kernel)]; exact ⟨rfl, rfl⟩))
    (fun os started H enc _ => lifted os started H enc)
theorem proved : Rows.FreightTellsSaid := over
#print axioms proved
end Go.Proofs.Ythpjckoklnhbcaa.freightTells
