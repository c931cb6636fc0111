/-
The law TopLane answers true, whatever comes in, with the variable of the cases as the program's text lays it.
Conditions: none.
-/
import Derived.Test.YtndnjmpebpampaaGreatDoorRows
import Derived.Test.YtndnjmpebpampaaGreatDoorCards
import Derived.Test.YtndnjmpebpampaaGreatDoorTie
import Derived.WalkKit
import Derived.SevenTiedAt
import Derived.Lay
import Derived.Test.YtndnjmpebpampaaGreatDoorQPI1
import Derived.Test.YtndnjmpebpampaaGreatDoorQSZ1
import Derived.Test.YtndnjmpebpampaaGreatDoorQDR
set_option linter.unusedVariables false
set_option linter.unusedSimpArgs false
namespace Go.Proofs.YtndnjmpebpampaaGreatDoor.topLane
open Go.ChangeShapes Go.WideShapes Go.ChangeAt Go.RowKit Go.Sas
set_option maxRecDepth 100000
theorem own : ownKnob Tryz.prog.godebug = none := by kernel_rfl
theorem laidOut : laidOutB Tryz.prog = true := by kernel_rfl
theorem gCas : Tryz.prog.globalNamed "sastrugi/convoy.cases" = some 0 := by kernel_rfl
theorem spec (H : Type) (ds : List (DataW H)) (h : ds.length = Tryz.f3.params.size) : Rows.topLaneSpec.fn H ds = { results := [.lit (.bool true)], args := ds } := by
  have hs : Tryz.f3.params.size = 1 := by kernel_rfl
  rw [hs] at h
  match ds, h with
  | [d], _ => rfl
theorem core (l : List AV) (h : GoodArgs Tryz.prog 8 Tryz.f3.params.toList l) : ACalls Tryz.prog 3 l [rawC 0 casL] fun r _ => r = .lit (.bool true) := by
  have hp : Tryz.f3.params.toList = [22] := by kernel_rfl
  rw [hp] at h
  obtain ⟨c1, a1, rfl, g1, h1⟩ := h
  simp only [GoodArgs] at h1; subst h1
  obtain ⟨nums, rfl, b1⟩ := in_ints (d := 6) g1
  rw [mk_slice uy22]
  exact core3 nums b1
theorem scal : ∀ u ∈ casL, Scal u := by
  intro u hu
  simp only [casL, List.mem_cons, List.not_mem_nil, or_false] at hu
  rcases hu with rfl | rfl | rfl | rfl | rfl | rfl | rfl | rfl <;> trivial
theorem cells {W : World} (h : laidMetH Tryz.prog Rows.topLaneRow.laid W) : ∀ i c, casL[i]? = some c → W.cell? ⟨0, i, none⟩ = some c := by
  have h2 : laidMet Tryz.prog [("sastrugi/convoy.cases", tabData2 .i64 [[0, 0], [1, 0], [0, 1], [1, 1]])] W := by
    have h2 := h
    rw [MakeChecks.laidMetH_plain _ _ _ (by kernel_rfl)] at h2
    exact h2
  have h3 := laid_cells (t := 99) (e := 98) (i := 3) (n := 4) (n2 := 2) gCas (by kernel_rfl) (by kernel_rfl) (by kernel_rfl) (by kernel_rfl) (by kernel_rfl) (by kernel_rfl) (by kernel_rfl) h2
  intro i c hc
  match i, hc with
  | 0, hc => cases hc; exact h3 0 _ rfl 0 _ (by decide) rfl
  | 1, hc => cases hc; exact h3 0 _ rfl 1 _ (by decide) rfl
  | 2, hc => cases hc; exact h3 1 _ rfl 0 _ (by decide) rfl
  | 3, hc => cases hc; exact h3 1 _ rfl 1 _ (by decide) rfl
  | 4, hc => cases hc; exact h3 2 _ rfl 0 _ (by decide) rfl
  | 5, hc => cases hc; exact h3 2 _ rfl 1 _ (by decide) rfl
  | 6, hc => cases hc; exact h3 3 _ rfl 0 _ (by decide) rfl
  | 7, hc => cases hc; exact h3 3 _ rfl 1 _ (by decide) rfl
  | i + 8, hc => simp [casL] at hc
theorem lifted (os : Os) (started : os.Started) (H : Type) (enc : TypeId × Value → H) :
    ReturnsInHanded {} Tryz.checked os 3 .any (fun w args => (Rows.topLaneSpec.pre enc Tryz.prog Tryz.f3 [] false w args ∧ laidMetH Tryz.prog Rows.topLaneRow.laid w) ∧ sizedMet enc Tryz.prog Tryz.f3 (OpenSpec.ofChange Rows.topLaneSpec) false w args) (Rows.topLaneSpec.post enc Tryz.prog Tryz.f3 false true false false) := by
  refine returnsInHanded_of_change_shapedX (C := Tryz.checked) (X := fun w _ => laidMetH Tryz.prog Rows.topLaneRow.laid w) (fun _ _ _ hh h => h.of_heap hh) own started (by kernel_rfl) Tryz.func3
    (ChangeSpec.witness_shaped (enc := enc) (C := Tryz.checked) (os := os) (X := fun w _ => laidMetH Tryz.prog Rows.topLaneRow.laid w) false (World.laidAll Tryz.prog os Rows.topLaneRow.laid) #[.slice none 0 0] 8 (World.laidAll_os _ _ _)
      (World.shaped_of_ZipB (by kernel_rfl) (by kernel_rfl)) (by kernel_rfl) (by kernel_rfl) (by kernel_rfl)
      (by rw [MakeChecks.laidMetH_plain _ _ _ (by kernel_rfl)]; exact laidMet_laidAll _ (by kernel_rfl) (by kernel_rfl))) ?_
  intro W base args ds gs before hval0 hW hsh hL
  exact law_stepP (d := 8) (tb := 4) scal (cells hL) rfl (spec H) laidOut (by kernel_rfl) (by kernel_rfl) (by kernel_rfl) (by kernel_rfl) core hval0 hW
theorem over : Rows.TopLaneSaid :=
  OpenClaim.holds_of_wide 3 Tryz.f3 rfl rfl rfl rfl rfl rfl rfl ⟨rfl, rfl, rfl, rfl, rfl⟩ rfl rfl rfl rfl rfl (by kernel_rfl) Tryz.func3 (by kernel_rfl)
    (of_decide_eq_true (by kernel_rfl)) (by unfold Func.isWrapper; first | (rw [if_pos (by decide +kernel)]; kernel_rfl) | (rw [if_neg (by decide +kernel)]; exact ⟨rfl, rfl⟩))
    (fun os started H enc _ => lifted os started H enc)
theorem proved : Rows.TopLaneCardSaid :=
  Claim7.holds_tied_plain_at .later [] [.data] true (true, "02373ce7b8197cf62c405c608bf200785ef4d6b1054d30d7a39a38d2d355c53a") false
    over (fun _ h => by cases h) (by kernel_rfl) (fun _ h => by cases h) topLane_row_tie rfl ⟨rfl, rfl⟩ (by kernel_rfl) rfl
    (fun f fn hf hfn => by
      obtain rfl : f = 3 := Option.some.inj ((show Tryz.prog.funcNamed "sastrugi/sastrugitop.TopLane" = some 3 by kernel_rfl).symm.trans hf) |>.symm
      obtain rfl : fn = Tryz.f3 := (Option.some.inj (Tryz.func3.symm.trans hfn)).symm
      exact ⟨by kernel_rfl, fun j t ht => by
        have hp : Tryz.f3.params.toList = [22] := by kernel_rfl
        have hm : t ∈ [22] := by rw [← hp]; simpa using Array.mem_of_getElem? ht
        have hall : ([22].all fun u => !Tryz.prog.wantsStandIn u) = true := by kernel_rfl
        exact (show Tryz.prog.wantsStandIn t = false by simpa using List.all_eq_true.1 hall t hm)⟩)
    (by kernel_rfl)
#print axioms proved
end Go.Proofs.YtndnjmpebpampaaGreatDoor.topLane
