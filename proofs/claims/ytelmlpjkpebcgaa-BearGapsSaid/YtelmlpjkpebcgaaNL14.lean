/-
The law BearGaps answers true, whatever comes in.
Conditions: none.
-/
import Derived.Test.YtelmlpjkpebcgaaRows
import Derived.WalkKit
import Derived.Test.YtelmlpjkpebcgaaNB38
import Derived.Test.YtelmlpjkpebcgaaND1
import Derived.Test.YtelmlpjkpebcgaaM4
set_option linter.unusedVariables false
set_option linter.unusedSimpArgs false
namespace Go.Proofs.Ytelmlpjkpebcgaa.bearGaps
open Go.ChangeShapes Go.WideShapes Go.ChangeAt Go.RowKit Go.Sas
set_option maxRecDepth 100000
theorem core (l : List AV) (h : GoodArgs Try.prog 8 Try.f14.params.toList l) : ACalls Try.prog 14 l [] fun r _ => r = .lit (.bool true) := by
  have hp : Try.f14.params.toList = [26, 3, 27, 29] := by kernel_rfl
  rw [hp] at h
  obtain ⟨c1, a1, rfl, g1, h1⟩ := h
  obtain ⟨c2, a2, rfl, g2, h2⟩ := h1
  obtain ⟨c3, a3, rfl, g3, h3⟩ := h2
  obtain ⟨c4, a4, rfl, g4, h4⟩ := h3
  simp only [GoodArgs] at h4; subst h4
  obtain ⟨p, a, b, xs, ec, ne, ed, gr, lo, hi, sh, wi, e1, hpl, q1, q2⟩ := in_plate (d := 4) g1
  obtain ⟨n2, rfl⟩ := good_int (d := 7) uy3 g2
  obtain ⟨l3, rfl, b3⟩ := in_spans (d := 5) g3
  obtain ⟨l4, rfl, b4⟩ := in_ints (d := 6) g4
  rw [e1, mk_int uy3 rfl, mk_slice uy27, mk_slice uy29]
  exact core14 p hpl q1 q2 n2 l3 l4 b3 b4
theorem own : ownKnob Try.prog.godebug = none := by kernel_rfl
theorem laidOut : laidOutB Try.prog = true := by kernel_rfl
theorem spec (H : Type) (ds : List (DataW H)) (h : ds.length = Try.f14.params.size) : Rows.bearGapsSpec.fn H ds = { results := [.lit (.bool true)], args := ds } := by
  have hs : Try.f14.params.size = 4 := by kernel_rfl
  rw [hs] at h
  match ds, h with
  | [d1, d2, d3, d4], _ => rfl

theorem lifted (os : Os) (started : os.Started) (H : Type) (enc : TypeId × Value → H) :
    ReturnsInHanded {} Try.checked os 14 .any (Rows.bearGapsSpec.pre6 enc Try.prog Try.f14 Rows.bearGapsRow.domain false) (Rows.bearGapsSpec.post enc Try.prog Try.f14 false true false false) := by
  refine returnsInHanded_of_change (C := Try.checked) own started (by kernel_rfl) Try.func14
    (ChangeSpec.witness6 (enc := enc) (C := Try.checked) false ⟨#[], #[.agg #[.int .i64 0, .int .i64 0, .slice none 0 0, .slice none 0 0, .int .i64 0, .int .i64 0, .int .i64 0, .int .i64 0, .int .i64 0, .int .i64 0, .int .i64 0], .int .i64 0, .slice none 0 0, .slice none 0 0], []⟩ 8 (by kernel_rfl) (by kernel_rfl) (by kernel_rfl) (by kernel_rfl)) ?_
  intro W base args ds gs before hval0 hW hcnd _
  exact law_step (d := 8) (tb := 4) rfl (spec H) laidOut (by kernel_rfl) (by kernel_rfl) (by kernel_rfl) (by kernel_rfl) core hval0 hW
theorem over : Rows.bearGapsRow.holds Try.pinned (OpenSpec.ofChange Rows.bearGapsSpec) :=
  OpenClaim.holds_of_wide 14 Try.f14 rfl rfl rfl rfl rfl rfl rfl ⟨rfl, rfl, rfl, rfl, rfl⟩ rfl rfl rfl rfl rfl (by kernel_rfl) Try.func14 (by kernel_rfl)
    (of_decide_eq_true (by kernel_rfl)) (by unfold Func.isWrapper; first | (rw [if_pos (by decide +kernel)]; kernel_rfl) | (rw [if_neg (by decide +kernel)]; exact ⟨rfl, rfl⟩))
    (fun os started H enc _ => lifted os started H enc)
theorem proved : Rows.BearGapsSaid := over
#print axioms proved
end Go.Proofs.Ytelmlpjkpebcgaa.bearGaps
