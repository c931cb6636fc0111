/-
The law FreightKnown answers true, with the library's variables as the program's text lays them.
Conditions: none.
-/
import Derived.Test.YtndnjmpebpampaaDoorRows
import Derived.Test.YtndnjmpebpampaaDoorCards
import Derived.Test.YtndnjmpebpampaaDoorTie
import Derived.WalkKit
import Derived.SevenTiedAt
import Derived.Lay
import Derived.Test.YtndnjmpebpampaaDoorXBf
set_option linter.unusedVariables false
set_option linter.unusedSimpArgs false
namespace Go.Proofs.YtndnjmpebpampaaDoor.freightKnown
open Go.ChangeShapes Go.WideShapes Go.ChangeAt Go.RowKit Go.Sas
set_option maxRecDepth 100000
theorem own : ownKnob Tryd.prog.godebug = none := by kernel_rfl
theorem laidOut : laidOutB Tryd.prog = true := by kernel_rfl
theorem gTab : Tryd.prog.globalNamed "internal/strconv.uint64pow10" = some 0 := by kernel_rfl
theorem spec (H : Type) (ds : List (DataW H)) (h : ds.length = Tryd.f3.params.size) : Rows.freightKnownSpec.fn H ds = { results := [.lit (.bool true)], args := ds } := by
  have hs : Tryd.f3.params.size = 0 := by kernel_rfl
  rw [hs] at h
  match ds, h with
  | [], _ => rfl
theorem core {ob : Obj} (hob : TabOb ob) (l : List AV) (h : GoodArgs Tryd.prog 8 Tryd.f3.params.toList l) : l.all AV.arg = true ∧ ACalls Tryd.prog 3 l [.own 0 [], rawG 1 0 ob] fun r H' => r = .lit (.bool true) ∧ H' = [.own 0 [], rawG 1 0 ob] := by
  have hp : Tryd.f3.params.toList = [] := by kernel_rfl
  rw [hp] at h
  simp only [GoodArgs] at h; subst h
  exact ⟨rfl, core3 rfl gTab hob⟩
theorem of_laid {W : World} (h : laidMetH Tryd.prog Rows.freightKnownRow.laid W) : Lib.TabIs Tryd.prog W "internal/strconv.uint64pow10" .u64 Lib.pow10Tab := by
  have h2 := laidMetH.filter (fun x => x.1 == "internal/strconv.uint64pow10") h
  rw [MakeChecks.laidMetH_plain _ _ _ (by kernel_rfl)] at h2
  exact Lib.tabIs_of_head (g := 0) (t := 138) (e := 127) (n := 20) gTab (by kernel_rfl) (by kernel_rfl) (by kernel_rfl) (by kernel_rfl) (by kernel_rfl) h2
theorem lifted (os : Os) (started : os.Started) (H : Type) (enc : TypeId × Value → H) :
    ReturnsInHanded {} Tryd.checked os 3 .any (fun w args => (Rows.freightKnownSpec.pre enc Tryd.prog Tryd.f3 [] false w args ∧ laidMetH Tryd.prog Rows.freightKnownRow.laid w) ∧ sizedMet enc Tryd.prog Tryd.f3 (OpenSpec.ofChange Rows.freightKnownSpec) false w args) (Rows.freightKnownSpec.post enc Tryd.prog Tryd.f3 false true false false) := by
  refine returnsInHanded_of_change_shapedX (C := Tryd.checked) (X := fun w _ => laidMetH Tryd.prog Rows.freightKnownRow.laid w) (fun _ _ _ hh h => h.of_heap hh) own started (by kernel_rfl) Tryd.func3
    (ChangeSpec.witness_shaped (enc := enc) (C := Tryd.checked) (os := os) (X := fun w _ => laidMetH Tryd.prog Rows.freightKnownRow.laid w) false (World.laidAll Tryd.prog os Rows.freightKnownRow.laid) #[] 8 (World.laidAll_os _ _ _)
      (World.shaped_of_ZipB (by kernel_rfl) (by kernel_rfl)) (by kernel_rfl) (by kernel_rfl) (by kernel_rfl)
      (by rw [MakeChecks.laidMetH_plain _ _ _ (by kernel_rfl)]; exact laidMet_laidAll _ (by kernel_rfl) (by kernel_rfl))) ?_
  intro W base args ds gs before hval0 hW hsh hL
  obtain ⟨o2, h2, t2, n2⟩ := tab_of_var gTab (of_laid hL)
  exact law_step1 (d := 8) (tb := 4) (a := 0) h2 n2 rfl (spec H) laidOut (by kernel_rfl) (by kernel_rfl) (by kernel_rfl) (by kernel_rfl) (core t2) hval0 hW
theorem over : Rows.FreightKnownSaid :=
  OpenClaim.holds_of_wide 3 Tryd.f3 rfl rfl rfl rfl rfl rfl rfl ⟨rfl, rfl, rfl, rfl, rfl⟩ rfl rfl rfl rfl rfl (by kernel_rfl) Tryd.func3 (by kernel_rfl)
    (of_decide_eq_true (by kernel_rfl)) (by unfold Func.isWrapper; first | (rw [if_pos (by decide +kernel)]; kernel_rfl) | (rw [if_neg (by decide +kernel)]; exact ⟨rfl, rfl⟩))
    (fun os started H enc _ => lifted os started H enc)
theorem proved : Rows.FreightKnownCardSaid :=
  Claim7.holds_tied_plain_at .later [] [.data, .data, .data] true (true, "9e553f90f40e638ac1cd3d9716b84de3df3236a070c42bae9cdf8c53ef26d8ca") false
    over (fun _ h => by cases h) (by kernel_rfl) (fun _ h => by cases h) freightKnown_row_tie rfl ⟨rfl, rfl⟩ (by kernel_rfl) rfl
    (fun f fn hf hfn => by
      obtain rfl : f = 3 := Option.some.inj ((show Tryd.prog.funcNamed "sastrugi/sastrugilaw08.FreightKnown" = some 3 by kernel_rfl).symm.trans hf) |>.symm
      obtain rfl : fn = Tryd.f3 := (Option.some.inj (Tryd.func3.symm.trans hfn)).symm
      exact ⟨by kernel_rfl, fun j t ht => by
        have hp : Tryd.f3.params.toList = [] := by kernel_rfl
        have hm : t ∈ ([] : List TypeId) := by rw [← hp]; simpa using Array.mem_of_getElem? ht
        cases hm⟩)
    (by kernel_rfl)
#print axioms proved
end Go.Proofs.YtndnjmpebpampaaDoor.freightKnown
