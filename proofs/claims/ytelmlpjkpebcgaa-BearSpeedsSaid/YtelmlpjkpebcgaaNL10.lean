/-
The law BearSpeeds answers true, whatever comes in.
Conditions: none.
-/
import Derived.Test.YtelmlpjkpebcgaaRows
import Derived.WalkKit
import Derived.Test.YtelmlpjkpebcgaaNB42
import Derived.Test.YtelmlpjkpebcgaaND1
import Derived.Test.YtelmlpjkpebcgaaM4
set_option linter.unusedVariables false
set_option linter.unusedSimpArgs false
namespace Go.Proofs.Ytelmlpjkpebcgaa.bearSpeeds
open Go.ChangeShapes Go.WideShapes Go.ChangeAt Go.RowKit Go.Sas
set_option maxRecDepth 100000
theorem core (l : List AV) (h : GoodArgs Try.prog 8 Try.f10.params.toList l) : ACalls Try.prog 10 l [] fun r _ => r = .lit (.bool true) := by
  have hp : Try.f10.params.toList = [26, 23, 3, 3, 29] := by kernel_rfl
  rw [hp] at h
  obtain ⟨c1, a1, rfl, g1, h1⟩ := h
  obtain ⟨c2, a2, rfl, g2, h2⟩ := h1
  obtain ⟨c3, a3, rfl, g3, h3⟩ := h2
  obtain ⟨c4, a4, rfl, g4, h4⟩ := h3
  obtain ⟨c5, a5, rfl, g5, h5⟩ := h4
  simp only [GoodArgs] at h5; subst h5
  obtain ⟨p, a, b, xs, ec, ne, ed, gr, lo, hi, sh, wi, e1, hpl, q1, q2⟩ := in_plate (d := 4) g1
  obtain ⟨⟨x2, y2⟩, rfl⟩ := in_span (d := 6) g2
  obtain ⟨n3, rfl⟩ := good_int (d := 7) uy3 g3
  obtain ⟨n4, rfl⟩ := good_int (d := 7) uy3 g4
  obtain ⟨l5, rfl, b5⟩ := in_ints (d := 6) g5
  rw [e1, mk_struct uy23, mk_int uy3 rfl, mk_int uy3 rfl, mk_slice uy29]
  exact core10 p hpl q1 q2 x2 y2 n3 n4 l5 b5
theorem own : ownKnob Try.prog.godebug = none := by kernel_rfl
theorem laidOut : laidOutB Try.prog = true := by kernel_rfl
theorem spec (H : Type) (ds : List (DataW H)) (h : ds.length = Try.f10.params.size) : Rows.bearSpeedsSpec.fn H ds = { results := [.lit (.bool true)], args := ds } := by
  have hs : Try.f10.params.size = 5 := by kernel_rfl
  rw [hs] at h
  match ds, h with
  | [d1, d2, d3, d4, d5], _ => rfl

theorem lifted (os : Os) (started : os.Started) (H : Type) (enc : TypeId × Value → H) :
    ReturnsInHanded {} Try.checked os 10 .any (Rows.bearSpeedsSpec.pre6 enc Try.prog Try.f10 Rows.bearSpeedsRow.domain false) (Rows.bearSpeedsSpec.post enc Try.prog Try.f10 false true false false) := by
  refine returnsInHanded_of_change (C := Try.checked) own started (by kernel_rfl) Try.func10
    (ChangeSpec.witness6 (enc := enc) (C := Try.checked) false ⟨#[], #[.agg #[.int .i64 0, .int .i64 0, .slice none 0 0, .slice none 0 0, .int .i64 0, .int .i64 0, .int .i64 0, .int .i64 0, .int .i64 0, .int .i64 0, .int .i64 0], .agg #[.int .i64 0, .int .i64 0], .int .i64 0, .int .i64 0, .slice none 0 0], []⟩ 8 (by kernel_rfl) (by kernel_rfl) (by kernel_rfl) (by kernel_rfl)) ?_
  intro W base args ds gs before hval0 hW hcnd _
  exact law_step (d := 8) (tb := 4) rfl (spec H) laidOut (by kernel_rfl) (by kernel_rfl) (by kernel_rfl) (by kernel_rfl) core hval0 hW
theorem over : Rows.bearSpeedsRow.holds Try.pinned (OpenSpec.ofChange Rows.bearSpeedsSpec) :=
  OpenClaim.holds_of_wide 10 Try.f10 rfl rfl rfl rfl rfl rfl rfl ⟨rfl, rfl, rfl, rfl, rfl⟩ rfl rfl rfl rfl rfl (by kernel_rfl) Try.func10 (by kernel_rfl)
    (of_decide_eq_true (by kernel_rfl)) (by unfold Func.isWrapper; first | (rw [if_pos (by decide +kernel)]; kernel_rfl) | (rw [if_neg (by decide +kernel)]; exact ⟨rfl, rfl⟩))
    (fun os started H enc _ => lifted os started H enc)
theorem proved : Rows.BearSpeedsSaid := over
#print axioms proved
end Go.Proofs.Ytelmlpjkpebcgaa.bearSpeeds
