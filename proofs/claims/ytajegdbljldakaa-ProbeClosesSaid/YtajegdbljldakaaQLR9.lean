/-
The law ProbeCloses answers true, whatever comes in.
Conditions: none.
-/
import Derived.Test.YtajegdbljldakaaRows
import Derived.WalkKit
import Derived.Test.YtajegdbljldakaaQR79
import Derived.Test.YtajegdbljldakaaQDR2
import Derived.Test.YtajegdbljldakaaQAbs28
set_option linter.unusedVariables false
set_option linter.unusedSimpArgs false
namespace Go.Proofs.Ytajegdbljldakaa.probeCloses
open Go.ChangeShapes Go.WideShapes Go.ChangeAt Go.RowKit Go.Sas
set_option maxRecDepth 100000
theorem core (l : List AV) (h : GoodArgsA Try.prog 8 Try.f9.params.toList l) : ACalls Try.prog 9 l [] fun r _ => r = .lit (.bool true) := by
  have hp : Try.f9.params.toList = [28, 30, 33, 3, 3, 3, 22] := by kernel_rfl
  rw [hp] at h
  obtain ⟨c1, a1, rfl, g1, h1⟩ := h
  obtain ⟨c2, a2, rfl, g2, h2⟩ := h1
  obtain ⟨c3, a3, rfl, g3, h3⟩ := h2
  obtain ⟨c4, a4, rfl, g4, h4⟩ := h3
  obtain ⟨c5, a5, rfl, g5, h5⟩ := h4
  obtain ⟨c6, a6, rfl, g6, h6⟩ := h5
  obtain ⟨c7, a7, rfl, g7, h7⟩ := h6
  simp only [GoodArgsA] at h7; subst h7
  obtain ⟨rs1, a1, b1, q1, e1, hr1⟩ := in_surveyA (d := 4) g1
  obtain ⟨l2, rfl, b2⟩ := in_looksA (d := 4) g2
  obtain ⟨l3, rfl, b3⟩ := in_marksA (d := 5) g3
  obtain ⟨n4, rfl, b4⟩ := good_intBA (d := 7) uy3A g4
  obtain ⟨n5, rfl, b5⟩ := good_intBA (d := 7) uy3A g5
  obtain ⟨n6, rfl, b6⟩ := good_intBA (d := 7) uy3A g6
  obtain ⟨l7, rfl, b7⟩ := in_intsA (d := 6) g7
  rw [e1, mk_sliceA uy30A, mk_sliceA uy33A, mk_intA uy3A rfl, mk_intA uy3A rfl, mk_intA uy3A rfl, mk_sliceA uy22A]
  exact core9 rs1 a1 b1 q1 l2 l3 n4 n5 n6 l7 hr1 b2 b3 b4 b5 b6 b7
theorem own : ownKnob Try.prog.godebug = none := by kernel_rfl
theorem laidOut : laidOutB Try.prog = true := by kernel_rfl
theorem spec (H : Type) (ds : List (DataW H)) (h : ds.length = Try.f9.params.size) : Rows.probeClosesSpec.fn H ds = { results := [.lit (.bool true)], args := ds } := by
  have hs : Try.f9.params.size = 7 := by kernel_rfl
  rw [hs] at h
  match ds, h with
  | [d1, d2, d3, d4, d5, d6, d7], _ => rfl

theorem lifted (os : Os) (started : os.Started) (H : Type) (enc : TypeId × Value → H) :
    ReturnsInHanded {} Try.checked os 9 .any (Rows.probeClosesSpec.pre6 enc Try.prog Try.f9 Rows.probeClosesRow.domain false) (Rows.probeClosesSpec.post enc Try.prog Try.f9 false true false false) := by
  refine returnsInHanded_of_change (C := Try.checked) own started (by kernel_rfl) Try.func9
    (ChangeSpec.witness6 (enc := enc) (C := Try.checked) false ⟨#[], #[.agg #[.slice none 0 0, .int .i64 0, .int .i64 0, .int .i64 0], .slice none 0 0, .slice none 0 0, .int .i64 0, .int .i64 0, .int .i64 0, .slice none 0 0], []⟩ 8 (by kernel_rfl) (by kernel_rfl) (by kernel_rfl) (by kernel_rfl)) ?_
  intro W base args ds gs before hval0 hW hcnd _
  exact law_stepA (d := 8) (tb := 4) rfl (spec H) laidOut (by kernel_rfl) (by kernel_rfl) (by kernel_rfl) (by kernel_rfl) core hval0 hW
theorem over : Rows.probeClosesRow.holds Try.pinned (OpenSpec.ofChange Rows.probeClosesSpec) :=
  OpenClaim.holds_of_wide 9 Try.f9 rfl rfl rfl rfl rfl rfl rfl ⟨rfl, rfl, rfl, rfl, rfl⟩ rfl rfl rfl rfl rfl (by kernel_rfl) Try.func9 (by kernel_rfl)
    (of_decide_eq_true (by kernel_rfl)) (by unfold Func.isWrapper; first | (rw [if_pos (by decide +kernel)]; kernel_rfl) | (rw [if_neg (by decide +kernel)]; exact ⟨rfl, rfl⟩))
    (fun os started H enc _ => lifted os started H enc)
theorem proved : Rows.ProbeClosesSaid := over
#print axioms proved
end Go.Proofs.Ytajegdbljldakaa.probeCloses
