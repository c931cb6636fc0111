/-
The law FreightBests answers true, whatever comes in.
Conditions: none.
-/
import Derived.Test.YthpjckoklnhbcaaRows
import Derived.WalkKit
import Derived.Test.YthpjckoklnhbcaaYB7
import Derived.Test.YthpjckoklnhbcaaYDF
import Derived.Test.YthpjckoklnhbcaaZ4
set_option linter.unusedVariables false
set_option linter.unusedSimpArgs false
namespace Go.Proofs.Ythpjckoklnhbcaa.freightBests
open Go.ChangeShapes Go.WideShapes Go.ChangeAt Go.RowKit Go.Sas
set_option maxRecDepth 100000
theorem core (l : List AV) (h : GoodArgs Try.prog 8 Try.f4.params.toList l) : ACalls Try.prog 4 l [] fun r _ => r = .lit (.bool true) := by
  have hp : Try.f4.params.toList = [27, 34] := by kernel_rfl
  rw [hp] at h
  obtain ⟨c1, a1, rfl, g1, h1⟩ := h
  obtain ⟨c2, a2, rfl, g2, h2⟩ := h1
  simp only [GoodArgs] at h2; subst h2
  obtain ⟨a1, b1, q1, d1, cs1, os1, e1, hc1, ho1⟩ := in_freight (d := 4) g1
  obtain ⟨l2, rfl, b2⟩ := in_ints (d := 6) g2
  rw [e1, mk_slice uy34]
  exact core4 a1 b1 q1 d1 cs1 os1 l2 hc1 ho1 b2
theorem own : ownKnob Try.prog.godebug = none := by kernel_rfl
theorem laidOut : laidOutB Try.prog = true := by kernel_rfl
theorem spec (H : Type) (ds : List (DataW H)) (h : ds.length = Try.f4.params.size) : Rows.freightBestsSpec.fn H ds = { results := [.lit (.bool true)], args := ds } := by
  have hs : Try.f4.params.size = 2 := by kernel_rfl
  rw [hs] at h
  match ds, h with
  | [d1, d2], _ => rfl

theorem lifted (os : Os) (started : os.Started) (H : Type) (enc : TypeId × Value → H) :
    ReturnsInHanded {} Try.checked os 4 .any (Rows.freightBestsSpec.pre6 enc Try.prog Try.f4 Rows.freightBestsRow.domain false) (Rows.freightBestsSpec.post enc Try.prog Try.f4 false true false false) := by
  refine returnsInHanded_of_change (C := Try.checked) own started (by kernel_rfl) Try.func4
    (ChangeSpec.witness6 (enc := enc) (C := Try.checked) false ⟨#[], #[.agg #[.int .i64 0, .int .i64 0, .int .i64 0, .int .i64 0, .slice none 0 0, .slice none 0 0], .slice none 0 0], []⟩ 8 (by kernel_rfl) (by kernel_rfl) (by kernel_rfl) (by kernel_rfl)) ?_
  intro W base args ds gs before hval0 hW hcnd _
  exact law_step (d := 8) (tb := 4) rfl (spec H) laidOut (by kernel_rfl) (by kernel_rfl) (by kernel_rfl) (by kernel_rfl) core hval0 hW
theorem over : Rows.freightBestsRow.holds Try.pinned (OpenSpec.ofChange Rows.freightBestsSpec) :=
  OpenClaim.holds_of_wide 4 Try.f4 rfl rfl rfl rfl rfl rfl rfl ⟨rfl, rfl, rfl, rfl, rfl⟩ rfl rfl rfl rfl rfl (by kernel_rfl) Try.func4 (by kernel_rfl)
    (of_decide_eq_true (by kernel_rfl)) (by unfold Func.isWrapper; first | (rw [if_pos (by decide +kernel)]; kernel_rfl) | (rw [if_neg (by decide +kernel)]; exact ⟨rfl, rfl⟩))
    (fun os started H enc _ => lifted os started H enc)
theorem proved : Rows.FreightBestsSaid := over
#print axioms proved
end Go.Proofs.Ythpjckoklnhbcaa.freightBests
