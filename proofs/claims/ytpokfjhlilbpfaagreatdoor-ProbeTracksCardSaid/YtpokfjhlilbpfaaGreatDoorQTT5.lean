/-
The law ProbeTracks answers true, whatever comes in, with the library's variables as the program's text lays them.
Conditions: none.
-/
import Derived.Test.YtpokfjhlilbpfaaGreatDoorRows
import Derived.Test.YtpokfjhlilbpfaaGreatDoorCards
import Derived.Test.YtpokfjhlilbpfaaGreatDoorTie
import Derived.WalkKit
import Derived.SevenTiedAt
import Derived.Lay
import Derived.Test.YtpokfjhlilbpfaaGreatDoorQTT4
import Derived.Test.YtpokfjhlilbpfaaGreatDoorQPZ
set_option linter.unusedVariables false
set_option linter.unusedSimpArgs false
namespace Go.Proofs.YtpokfjhlilbpfaaGreatDoor.probeTracks
open Go.ChangeShapes Go.WideShapes Go.ChangeAt Go.RowKit Go.Sas
set_option maxRecDepth 100000
theorem own : ownKnob Tryz.prog.godebug = none := by kernel_rfl
theorem laidOut : laidOutB Tryz.prog = true := by kernel_rfl
theorem gTab : Tryz.prog.globalNamed "internal/strconv.uint64pow10" = some 0 := by kernel_rfl
theorem nGlob : Tryz.prog.globals.size = 8 := by kernel_rfl
theorem spec (H : Type) (ds : List (DataW H)) (h : ds.length = Tryz.f4.params.size) : Rows.probeTracksSpec.fn H ds = { results := [.lit (.bool true)], args := ds } := by
  have hs : Tryz.f4.params.size = 6 := by kernel_rfl
  rw [hs] at h
  match ds, h with
  | [d1, d2, d3, d4, d5, d6], _ => rfl
theorem core {X1 X2 X3 X4 : AObj} (hG : Globs [X1, X2, X3, X4]) (l : List AV) (h : GoodArgs Tryz.prog 8 Tryz.f4.params.toList l) : l.all AV.arg = true ∧ ACalls Tryz.prog 4 l [X1, X2, X3, X4] fun r H' => r = .lit (.bool true) ∧ H' = [X1, X2, X3, X4] := by
  have hp : Tryz.f4.params.toList = [28, 9, 22, 3, 3, 5] := by kernel_rfl
  rw [hp] at h
  obtain ⟨c1, a1, rfl, g1, c2, a2, rfl, g2, c3, a3, rfl, g3, c4, a4, rfl, g4, c5, a5, rfl, g5, c6, a6, rfl, g6, h1⟩ := h
  simp only [GoodArgs] at h1; subst h1
  obtain ⟨a, b, os, hm, hol⟩ := in_track (d := 3) g1
  obtain ⟨s, rfl⟩ := in_str (d := 7) g2
  obtain ⟨l1, rfl, b1⟩ := in_ints (d := 6) g3
  obtain ⟨n4, rfl, i4⟩ := good_intB (d := 7) zy3 g4
  obtain ⟨n5, rfl, i5⟩ := good_intB (d := 7) zy3 g5
  obtain ⟨n6, rfl⟩ := in_byte (d := 7) g6
  rw [hm, mk_str zy9, mk_slice zy22, mk_lit zy3, mk_lit zy3, mk_lit zy5]
  exact ⟨by simp only [List.all_cons, List.all_nil, AV.arg, AV.arg1, ints_e64, ecs_e64, Bool.and_true], core4 a b os hol s l1 b1 n4 n5 n6 i4 i5 X1 X2 X3 X4 hG⟩
theorem of_laid {W : World} (h : laidMetH Tryz.prog Rows.probeTracksRow.laid W) : Lib.TabIs Tryz.prog W "internal/strconv.uint64pow10" .u64 Lib.pow10Tab := by
  have h2 := laidMetH.filter (fun x => x.1 == "internal/strconv.uint64pow10") h
  rw [MakeChecks.laidMetH_plain _ _ _ (by kernel_rfl)] at h2
  exact Lib.tabIs_of_head (g := 0) (t := 160) (e := 66) (n := 20) gTab (by kernel_rfl) (by kernel_rfl) (by kernel_rfl) (by kernel_rfl) (by kernel_rfl) h2
theorem of_laidE {W : World} (h : laidMetH Tryz.prog Rows.probeTracksRow.laid W) : laidMet Tryz.prog [("strconv.ErrSyntax", Rows.laid_strconv_ErrSyntax)] W := by
  have h2 := laidMetH.filter (fun x => x.1 == "strconv.ErrSyntax") h
  rw [MakeChecks.laidMetH_plain _ _ _ (by kernel_rfl)] at h2
  exact h2
theorem of_laidR {W : World} (h : laidMetH Tryz.prog Rows.probeTracksRow.laid W) : laidMet Tryz.prog [("strconv.ErrRange", Rows.laid_strconv_ErrRange)] W := by
  have h2 := laidMetH.filter (fun x => x.1 == "strconv.ErrRange") h
  rw [MakeChecks.laidMetH_plain _ _ _ (by kernel_rfl)] at h2
  exact h2
theorem lifted (os : Os) (started : os.Started) (H : Type) (enc : TypeId × Value → H) :
    ReturnsInHanded {} Tryz.checked os 4 .any (fun w args => (Rows.probeTracksSpec.pre enc Tryz.prog Tryz.f4 [] false w args ∧ laidMetH Tryz.prog Rows.probeTracksRow.laid w) ∧ sizedMet enc Tryz.prog Tryz.f4 (OpenSpec.ofChange Rows.probeTracksSpec) false w args) (Rows.probeTracksSpec.post enc Tryz.prog Tryz.f4 false true false false) := by
  refine returnsInHanded_of_change_shapedX (C := Tryz.checked) (X := fun w _ => laidMetH Tryz.prog Rows.probeTracksRow.laid w) (fun _ _ _ hh h => h.of_heap hh) own started (by kernel_rfl) Tryz.func4
    (ChangeSpec.witness_shaped (enc := enc) (C := Tryz.checked) (os := os) (X := fun w _ => laidMetH Tryz.prog Rows.probeTracksRow.laid w) false (World.laidAll Tryz.prog os Rows.probeTracksRow.laid) #[.agg #[.int .i64 0, .int .i64 0, .slice none 0 0], .string ⟨#[]⟩, .slice none 0 0, .int .i64 0, .int .i64 0, .int .u8 0] 8 (World.laidAll_os _ _ _)
      (World.shaped_of_ZipB (by kernel_rfl) (by kernel_rfl)) (by kernel_rfl) (by kernel_rfl) (by kernel_rfl)
      (by rw [MakeChecks.laidMetH_plain _ _ _ (by kernel_rfl)]; exact laidMet_laidAll _ (by kernel_rfl) (by kernel_rfl))) ?_
  intro W base args ds gs before hval0 hW hsh hL
  obtain ⟨o2, h2, t2, n2⟩ := tab_of_var gTab (of_laid hL)
  obtain ⟨m, hm⟩ : ∃ m, W.cell? ⟨1, 0, none⟩ = some (.int .i64 m) := cell_of_shapedOpen_int (P := Tryz.prog) (g := 1) (t := 3) (zero := #[.int .i64 0]) hsh (by rw [nGlob]; decide) (by kernel_rfl) rfl (by kernel_rfl) (by kernel_rfl) (by kernel_rfl)
  obtain ⟨o3, h3, t3, n3⟩ := iface_of_laid (P := Tryz.prog) (g := 2) (t := 76) (by kernel_rfl) (by kernel_rfl) (by kernel_rfl) (of_laidE hL)
  obtain ⟨o4, h4, t4, n4⟩ := iface_of_laid (P := Tryz.prog) (g := 3) (t := 76) (by kernel_rfl) (by kernel_rfl) (by kernel_rfl) (of_laidR hL)
  have hG : Globs [.own 0 [], rawT 1 0 m o2, rawG 2 2 o3, rawG 3 3 o4] := ⟨rfl, ⟨0, m, o2, gTab, rfl, t2⟩, ⟨o3, rfl, t3⟩, o4, rfl, t4⟩
  exact law_stepG (d := 8) (tb := 4) (a := 0) (b := 2) (c := 3) (by decide) (by decide) (by decide) (by decide) (by decide) (by decide) h2 h3 h4 hm (fun x o n hx => by
    rcases hx with rfl | rfl | rfl
    · exact n2 o n
    · exact n3 o n
    · exact n4 o n) rfl (spec H) laidOut (by kernel_rfl) (by kernel_rfl) (by kernel_rfl) (by kernel_rfl) (core hG) hval0 hW
theorem over : Rows.ProbeTracksSaid :=
  OpenClaim.holds_of_wide 4 Tryz.f4 rfl rfl rfl rfl rfl rfl rfl ⟨rfl, rfl, rfl, rfl, rfl⟩ rfl rfl rfl rfl rfl (by kernel_rfl) Tryz.func4 (by kernel_rfl)
    (of_decide_eq_true (by kernel_rfl)) (by unfold Func.isWrapper; first | (rw [if_pos (by decide +kernel)]; kernel_rfl) | (rw [if_neg (by decide +kernel)]; exact ⟨rfl, rfl⟩))
    (fun os started H enc _ => lifted os started H enc)
theorem proved : Rows.ProbeTracksCardSaid :=
  Claim7.holds_tied_plain_at .later [] [.data, .data, .data, .data, .sentinel, .sentinel, .pinned] true (true, "6809371b438a1e4c100830ab730e54fbc0e6278faa738a371faeae1635b8a5e0") true
    over (fun _ h => by cases h) (by kernel_rfl) (fun _ h => by cases h) probeTracks_row_tie rfl ⟨rfl, rfl⟩ (by kernel_rfl) rfl
    (fun f fn hf hfn => by
      obtain rfl : f = 4 := Option.some.inj ((show Tryz.prog.funcNamed "sastrugi/sastrugilaw02.ProbeTracks" = some 4 by kernel_rfl).symm.trans hf) |>.symm
      obtain rfl : fn = Tryz.f4 := (Option.some.inj (Tryz.func4.symm.trans hfn)).symm
      exact ⟨by kernel_rfl, fun j t ht => by
        have hp : Tryz.f4.params.toList = [28, 9, 22, 3, 3, 5] := by kernel_rfl
        have hm : t ∈ [28, 9, 22, 3, 3, 5] := by rw [← hp]; simpa using Array.mem_of_getElem? ht
        have hall : ([28, 9, 22, 3, 3, 5].all fun u => !Tryz.prog.wantsStandIn u) = true := by kernel_rfl
        exact (show Tryz.prog.wantsStandIn t = false by simpa using List.all_eq_true.1 hall t hm)⟩)
    (by kernel_rfl)
#print axioms proved
end Go.Proofs.YtpokfjhlilbpfaaGreatDoor.probeTracks
