/-
  No cell of these rows narrows 'for every input' (looked for: loops, veiled, ifaces, maps, wideKeys, modest, calm, conditions, laid).
  DERIVED. THE GIVEN ROWS OF THIS SEAT. 15 by the template 'for every input the law returns true; each argument reads behind the call as it read before'; 0 by the template 'total and deterministic' (their statements: YtelmlpjkpebcgaaTotals.lean).
  GIVEN WITH THE SEED: the statements are not yours to turn. If you find one false, say at which input.
  Laid BY PROGRAM, IN A SANDBOX (cutbox-rows.mjs): the forced cells as the released guide's own fill.sh prints them over the translation d5d248773e8a9a71… (all of the seat's roots in one cut). By AI agents, Wed Nov 11 2026. No macro, syntax, notation, axiom, sorry.
-/
import Derived.Test.YtelmlpjkpebcgaaChecked
import GoSem.Claim
import GoSem.ClaimJoined
import GoSem.ClaimMapViews
import Derived.JoinedTies
import Derived.KernelRfl
namespace Go.Proofs.Ytelmlpjkpebcgaa
/- THE CELL 'sum', in the pinned program and in every row, IS THE sha256 OF THE DUMP (.gsa) THAT YtelmlpjkpebcgaaProg.lean LOADS. Nothing in Lean hashes anything: it is a label: what it is worth is what the hold of that sum in a sandbox is worth. -/
noncomputable def Try.pinned : Pinned := { name := "ytelmlpjkpebcgaa", sum := "d5d248773e8a9a717c29ebaa485252efcf4ebb8c76e2ad7fa1d7a69c66daf437", checked := Try.checked }
namespace Rows
def none {H : Type} : Left H := { results := [], args := [] }

/-- 'sastrugilaw03.BearHolds': WHATEVER THE INPUT: true; the input reads as it did. -/
def bearHoldsSpec : ChangeSpec := { name := "bearHolds", fn := fun _ => fun
  | [d1, d2, d3, d4, d5] => { results := [.lit (.bool true)], args := [d1, d2, d3, d4, d5] }
  | _ => none }
def bearHoldsRow : OpenClaim := { program := "ytelmlpjkpebcgaa", sum := "d5d248773e8a9a717c29ebaa485252efcf4ebb8c76e2ad7fa1d7a69c66daf437", func := "sastrugi/sastrugilaw03.BearHolds", spec := "bearHolds", unfollowed := true, recurses := true, apart := false }
def BearHoldsSaid : Prop := bearHoldsRow.holds Try.pinned (OpenSpec.ofChange bearHoldsSpec)

/-- ITS FALSE NEIGHBOUR: 'it returns false'. Refute it at one input. -/
def bearHoldsWrong : ChangeSpec := { name := "bearHolds", fn := fun _ => fun
  | [d1, d2, d3, d4, d5] => { results := [.lit (.bool false)], args := [d1, d2, d3, d4, d5] }
  | _ => none }
def BearHoldsWrongFalsely : Prop := bearHoldsRow.holds Try.pinned (OpenSpec.ofChange bearHoldsWrong)

/-- 'sastrugilaw03.BearTruth': WHATEVER THE INPUT: true; the input reads as it did. -/
def bearTruthSpec : ChangeSpec := { name := "bearTruth", fn := fun _ => fun
  | [d] => { results := [.lit (.bool true)], args := [d] }
  | _ => none }
def bearTruthRow : OpenClaim := { program := "ytelmlpjkpebcgaa", sum := "d5d248773e8a9a717c29ebaa485252efcf4ebb8c76e2ad7fa1d7a69c66daf437", func := "sastrugi/sastrugilaw03.BearTruth", spec := "bearTruth", unfollowed := true, recurses := true, apart := false }
def BearTruthSaid : Prop := bearTruthRow.holds Try.pinned (OpenSpec.ofChange bearTruthSpec)

/-- ITS FALSE NEIGHBOUR: 'it returns false'. Refute it at one input. -/
def bearTruthWrong : ChangeSpec := { name := "bearTruth", fn := fun _ => fun
  | [d] => { results := [.lit (.bool false)], args := [d] }
  | _ => none }
def BearTruthWrongFalsely : Prop := bearTruthRow.holds Try.pinned (OpenSpec.ofChange bearTruthWrong)

/-- 'sastrugilaw03.BearBoth': WHATEVER THE INPUT: true; the input reads as it did. -/
def bearBothSpec : ChangeSpec := { name := "bearBoth", fn := fun _ => fun
  | [d] => { results := [.lit (.bool true)], args := [d] }
  | _ => none }
def bearBothRow : OpenClaim := { program := "ytelmlpjkpebcgaa", sum := "d5d248773e8a9a717c29ebaa485252efcf4ebb8c76e2ad7fa1d7a69c66daf437", func := "sastrugi/sastrugilaw03.BearBoth", spec := "bearBoth", unfollowed := true, recurses := true, apart := false }
def BearBothSaid : Prop := bearBothRow.holds Try.pinned (OpenSpec.ofChange bearBothSpec)

/-- ITS FALSE NEIGHBOUR: 'it returns false'. Refute it at one input. -/
def bearBothWrong : ChangeSpec := { name := "bearBoth", fn := fun _ => fun
  | [d] => { results := [.lit (.bool false)], args := [d] }
  | _ => none }
def BearBothWrongFalsely : Prop := bearBothRow.holds Try.pinned (OpenSpec.ofChange bearBothWrong)

/-- 'sastrugilaw03.BearNarrows': WHATEVER THE INPUT: true; the input reads as it did. -/
def bearNarrowsSpec : ChangeSpec := { name := "bearNarrows", fn := fun _ => fun
  | [d] => { results := [.lit (.bool true)], args := [d] }
  | _ => none }
def bearNarrowsRow : OpenClaim := { program := "ytelmlpjkpebcgaa", sum := "d5d248773e8a9a717c29ebaa485252efcf4ebb8c76e2ad7fa1d7a69c66daf437", func := "sastrugi/sastrugilaw03.BearNarrows", spec := "bearNarrows", unfollowed := true, recurses := true, apart := false }
def BearNarrowsSaid : Prop := bearNarrowsRow.holds Try.pinned (OpenSpec.ofChange bearNarrowsSpec)

/-- ITS FALSE NEIGHBOUR: 'it returns false'. Refute it at one input. -/
def bearNarrowsWrong : ChangeSpec := { name := "bearNarrows", fn := fun _ => fun
  | [d] => { results := [.lit (.bool false)], args := [d] }
  | _ => none }
def BearNarrowsWrongFalsely : Prop := bearNarrowsRow.holds Try.pinned (OpenSpec.ofChange bearNarrowsWrong)

/-- 'sastrugilaw03.BearOthers': WHATEVER THE INPUT: true; the input reads as it did. -/
def bearOthersSpec : ChangeSpec := { name := "bearOthers", fn := fun _ => fun
  | [d] => { results := [.lit (.bool true)], args := [d] }
  | _ => none }
def bearOthersRow : OpenClaim := { program := "ytelmlpjkpebcgaa", sum := "d5d248773e8a9a717c29ebaa485252efcf4ebb8c76e2ad7fa1d7a69c66daf437", func := "sastrugi/sastrugilaw03.BearOthers", spec := "bearOthers", unfollowed := true, recurses := true, apart := false }
def BearOthersSaid : Prop := bearOthersRow.holds Try.pinned (OpenSpec.ofChange bearOthersSpec)

/-- ITS FALSE NEIGHBOUR: 'it returns false'. Refute it at one input. -/
def bearOthersWrong : ChangeSpec := { name := "bearOthers", fn := fun _ => fun
  | [d] => { results := [.lit (.bool false)], args := [d] }
  | _ => none }
def BearOthersWrongFalsely : Prop := bearOthersRow.holds Try.pinned (OpenSpec.ofChange bearOthersWrong)

/-- 'sastrugilaw03.BearLanes': WHATEVER THE INPUT: true; the input reads as it did. -/
def bearLanesSpec : ChangeSpec := { name := "bearLanes", fn := fun _ => fun
  | [d1, d2, d3, d4, d5] => { results := [.lit (.bool true)], args := [d1, d2, d3, d4, d5] }
  | _ => none }
def bearLanesRow : OpenClaim := { program := "ytelmlpjkpebcgaa", sum := "d5d248773e8a9a717c29ebaa485252efcf4ebb8c76e2ad7fa1d7a69c66daf437", func := "sastrugi/sastrugilaw03.BearLanes", spec := "bearLanes", unfollowed := true, recurses := true, apart := false }
def BearLanesSaid : Prop := bearLanesRow.holds Try.pinned (OpenSpec.ofChange bearLanesSpec)

/-- ITS FALSE NEIGHBOUR: 'it returns false'. Refute it at one input. -/
def bearLanesWrong : ChangeSpec := { name := "bearLanes", fn := fun _ => fun
  | [d1, d2, d3, d4, d5] => { results := [.lit (.bool false)], args := [d1, d2, d3, d4, d5] }
  | _ => none }
def BearLanesWrongFalsely : Prop := bearLanesRow.holds Try.pinned (OpenSpec.ofChange bearLanesWrong)

/-- 'sastrugilaw03.BearPlaces': WHATEVER THE INPUT: true; the input reads as it did. -/
def bearPlacesSpec : ChangeSpec := { name := "bearPlaces", fn := fun _ => fun
  | [d] => { results := [.lit (.bool true)], args := [d] }
  | _ => none }
def bearPlacesRow : OpenClaim := { program := "ytelmlpjkpebcgaa", sum := "d5d248773e8a9a717c29ebaa485252efcf4ebb8c76e2ad7fa1d7a69c66daf437", func := "sastrugi/sastrugilaw03.BearPlaces", spec := "bearPlaces", unfollowed := true, recurses := true, apart := false }
def BearPlacesSaid : Prop := bearPlacesRow.holds Try.pinned (OpenSpec.ofChange bearPlacesSpec)

/-- ITS FALSE NEIGHBOUR: 'it returns false'. Refute it at one input. -/
def bearPlacesWrong : ChangeSpec := { name := "bearPlaces", fn := fun _ => fun
  | [d] => { results := [.lit (.bool false)], args := [d] }
  | _ => none }
def BearPlacesWrongFalsely : Prop := bearPlacesRow.holds Try.pinned (OpenSpec.ofChange bearPlacesWrong)

/-- 'sastrugilaw03.BearSpeeds': WHATEVER THE INPUT: true; the input reads as it did. -/
def bearSpeedsSpec : ChangeSpec := { name := "bearSpeeds", fn := fun _ => fun
  | [d1, d2, d3, d4, d5] => { results := [.lit (.bool true)], args := [d1, d2, d3, d4, d5] }
  | _ => none }
def bearSpeedsRow : OpenClaim := { program := "ytelmlpjkpebcgaa", sum := "d5d248773e8a9a717c29ebaa485252efcf4ebb8c76e2ad7fa1d7a69c66daf437", func := "sastrugi/sastrugilaw03.BearSpeeds", spec := "bearSpeeds", unfollowed := true, recurses := true, apart := false }
def BearSpeedsSaid : Prop := bearSpeedsRow.holds Try.pinned (OpenSpec.ofChange bearSpeedsSpec)

/-- ITS FALSE NEIGHBOUR: 'it returns false'. Refute it at one input. -/
def bearSpeedsWrong : ChangeSpec := { name := "bearSpeeds", fn := fun _ => fun
  | [d1, d2, d3, d4, d5] => { results := [.lit (.bool false)], args := [d1, d2, d3, d4, d5] }
  | _ => none }
def BearSpeedsWrongFalsely : Prop := bearSpeedsRow.holds Try.pinned (OpenSpec.ofChange bearSpeedsWrong)

/-- 'sastrugilaw03.BearWaves': WHATEVER THE INPUT: true; the input reads as it did. -/
def bearWavesSpec : ChangeSpec := { name := "bearWaves", fn := fun _ => fun
  | [d] => { results := [.lit (.bool true)], args := [d] }
  | _ => none }
def bearWavesRow : OpenClaim := { program := "ytelmlpjkpebcgaa", sum := "d5d248773e8a9a717c29ebaa485252efcf4ebb8c76e2ad7fa1d7a69c66daf437", func := "sastrugi/sastrugilaw03.BearWaves", spec := "bearWaves", unfollowed := true, recurses := true, apart := false }
def BearWavesSaid : Prop := bearWavesRow.holds Try.pinned (OpenSpec.ofChange bearWavesSpec)

/-- ITS FALSE NEIGHBOUR: 'it returns false'. Refute it at one input. -/
def bearWavesWrong : ChangeSpec := { name := "bearWaves", fn := fun _ => fun
  | [d] => { results := [.lit (.bool false)], args := [d] }
  | _ => none }
def BearWavesWrongFalsely : Prop := bearWavesRow.holds Try.pinned (OpenSpec.ofChange bearWavesWrong)

/-- 'sastrugilaw03.BearChecks': WHATEVER THE INPUT: true; the input reads as it did. -/
def bearChecksSpec : ChangeSpec := { name := "bearChecks", fn := fun _ => fun
  | [d1, d2, d3, d4, d5] => { results := [.lit (.bool true)], args := [d1, d2, d3, d4, d5] }
  | _ => none }
def bearChecksRow : OpenClaim := { program := "ytelmlpjkpebcgaa", sum := "d5d248773e8a9a717c29ebaa485252efcf4ebb8c76e2ad7fa1d7a69c66daf437", func := "sastrugi/sastrugilaw03.BearChecks", spec := "bearChecks", unfollowed := true, recurses := true, apart := false }
def BearChecksSaid : Prop := bearChecksRow.holds Try.pinned (OpenSpec.ofChange bearChecksSpec)

/-- ITS FALSE NEIGHBOUR: 'it returns false'. Refute it at one input. -/
def bearChecksWrong : ChangeSpec := { name := "bearChecks", fn := fun _ => fun
  | [d1, d2, d3, d4, d5] => { results := [.lit (.bool false)], args := [d1, d2, d3, d4, d5] }
  | _ => none }
def BearChecksWrongFalsely : Prop := bearChecksRow.holds Try.pinned (OpenSpec.ofChange bearChecksWrong)

/-- 'sastrugilaw03.BearLeast': WHATEVER THE INPUT: true; the input reads as it did. -/
def bearLeastSpec : ChangeSpec := { name := "bearLeast", fn := fun _ => fun
  | [d] => { results := [.lit (.bool true)], args := [d] }
  | _ => none }
def bearLeastRow : OpenClaim := { program := "ytelmlpjkpebcgaa", sum := "d5d248773e8a9a717c29ebaa485252efcf4ebb8c76e2ad7fa1d7a69c66daf437", func := "sastrugi/sastrugilaw03.BearLeast", spec := "bearLeast", unfollowed := true, recurses := true, apart := false }
def BearLeastSaid : Prop := bearLeastRow.holds Try.pinned (OpenSpec.ofChange bearLeastSpec)

/-- ITS FALSE NEIGHBOUR: 'it returns false'. Refute it at one input. -/
def bearLeastWrong : ChangeSpec := { name := "bearLeast", fn := fun _ => fun
  | [d] => { results := [.lit (.bool false)], args := [d] }
  | _ => none }
def BearLeastWrongFalsely : Prop := bearLeastRow.holds Try.pinned (OpenSpec.ofChange bearLeastWrong)

/-- 'sastrugilaw03.BearGaps': WHATEVER THE INPUT: true; the input reads as it did. -/
def bearGapsSpec : ChangeSpec := { name := "bearGaps", fn := fun _ => fun
  | [d1, d2, d3, d4] => { results := [.lit (.bool true)], args := [d1, d2, d3, d4] }
  | _ => none }
def bearGapsRow : OpenClaim := { program := "ytelmlpjkpebcgaa", sum := "d5d248773e8a9a717c29ebaa485252efcf4ebb8c76e2ad7fa1d7a69c66daf437", func := "sastrugi/sastrugilaw03.BearGaps", spec := "bearGaps", unfollowed := true, recurses := true, apart := false }
def BearGapsSaid : Prop := bearGapsRow.holds Try.pinned (OpenSpec.ofChange bearGapsSpec)

/-- ITS FALSE NEIGHBOUR: 'it returns false'. Refute it at one input. -/
def bearGapsWrong : ChangeSpec := { name := "bearGaps", fn := fun _ => fun
  | [d1, d2, d3, d4] => { results := [.lit (.bool false)], args := [d1, d2, d3, d4] }
  | _ => none }
def BearGapsWrongFalsely : Prop := bearGapsRow.holds Try.pinned (OpenSpec.ofChange bearGapsWrong)

/-- 'sastrugitop.TopBears': WHATEVER THE INPUT: true; the input reads as it did. -/
def topBearsSpec : ChangeSpec := { name := "topBears", fn := fun _ => fun
  | [d] => { results := [.lit (.bool true)], args := [d] }
  | _ => none }
def topBearsRow : OpenClaim := { program := "ytelmlpjkpebcgaa", sum := "d5d248773e8a9a717c29ebaa485252efcf4ebb8c76e2ad7fa1d7a69c66daf437", func := "sastrugi/sastrugitop.TopBears", spec := "topBears", unfollowed := true, recurses := true, apart := false }
def TopBearsSaid : Prop := topBearsRow.holds Try.pinned (OpenSpec.ofChange topBearsSpec)

/-- ITS FALSE NEIGHBOUR: 'it returns false'. Refute it at one input. -/
def topBearsWrong : ChangeSpec := { name := "topBears", fn := fun _ => fun
  | [d] => { results := [.lit (.bool false)], args := [d] }
  | _ => none }
def TopBearsWrongFalsely : Prop := topBearsRow.holds Try.pinned (OpenSpec.ofChange topBearsWrong)

/-- 'sastrugilaw03.BearApart': WHATEVER THE INPUT: true; the input reads as it did. -/
def bearApartSpec : ChangeSpec := { name := "bearApart", fn := fun _ => fun
  | [d1, d2] => { results := [.lit (.bool true)], args := [d1, d2] }
  | _ => none }
def bearApartRow : OpenClaim := { program := "ytelmlpjkpebcgaa", sum := "d5d248773e8a9a717c29ebaa485252efcf4ebb8c76e2ad7fa1d7a69c66daf437", func := "sastrugi/sastrugilaw03.BearApart", spec := "bearApart", unfollowed := true, recurses := true, apart := false }
def BearApartSaid : Prop := bearApartRow.holds Try.pinned (OpenSpec.ofChange bearApartSpec)

/-- ITS FALSE NEIGHBOUR: 'it returns false'. Refute it at one input. -/
def bearApartWrong : ChangeSpec := { name := "bearApart", fn := fun _ => fun
  | [d1, d2] => { results := [.lit (.bool false)], args := [d1, d2] }
  | _ => none }
def BearApartWrongFalsely : Prop := bearApartRow.holds Try.pinned (OpenSpec.ofChange bearApartWrong)

/-- 'sastrugilaw03.BearKnown': WHATEVER THE INPUT: true; the input reads as it did. -/
def bearKnownSpec : ChangeSpec := { name := "bearKnown", fn := fun _ => fun
  | [] => { results := [.lit (.bool true)], args := [] }
  | _ => none }
def bearKnownRow : OpenClaim := { program := "ytelmlpjkpebcgaa", sum := "d5d248773e8a9a717c29ebaa485252efcf4ebb8c76e2ad7fa1d7a69c66daf437", func := "sastrugi/sastrugilaw03.BearKnown", spec := "bearKnown", unfollowed := true, recurses := true, apart := false }
def BearKnownSaid : Prop := bearKnownRow.holds Try.pinned (OpenSpec.ofChange bearKnownSpec)

/-- ITS FALSE NEIGHBOUR: 'it returns false'. Refute it at one input. -/
def bearKnownWrong : ChangeSpec := { name := "bearKnown", fn := fun _ => fun
  | [] => { results := [.lit (.bool false)], args := [] }
  | _ => none }
def BearKnownWrongFalsely : Prop := bearKnownRow.holds Try.pinned (OpenSpec.ofChange bearKnownWrong)

/- THE SECOND FORM. 'bulk': how many values and letters a reading holds, each counted each time it is reached (what is shared counts as often as it is met; a slice's spare places count too). A statement '..UptoSaid' is the law's where the arguments, and the package variables that the reading takes, are together of bulk at most 1048576: NARROWER than '..Said'. Prove '..Said' where nothing that the law and all that it calls make is longer than what came in: it says more and counts as full. Else prove '..UptoSaid'. A law counts once. -/
mutual
def uptoBulk {H : Type} : DataW H → Nat
  | .lit (.string bytes) => bytes.length + 1
  | .lit _ => 1
  | .nil => 1
  | .ptr d => uptoBulk d + 1
  | .slice elems spare => uptoBulkAll elems + uptoBulkAll spare + 1
  | .agg parts => uptoBulkAll parts + 1
  | .iface _ d => uptoBulk d + 1
  | .map entries => uptoBulkEntries entries + 1
  | .held _ => 1
def uptoBulkAll {H : Type} : List (DataW H) → Nat
  | [] => 0
  | d :: r => uptoBulk d + uptoBulkAll r
def uptoBulkEntries {H : Type} : List (Lit × DataW H) → Nat
  | [] => 0
  | x :: r => uptoBulkEntry x + uptoBulkEntries r
def uptoBulkEntry {H : Type} : Lit × DataW H → Nat
  | (.string bytes, d) => bytes.length + uptoBulk d + 1
  | (_, d) => uptoBulk d + 1
 end
def uptoSmall : (H : Type) → List (DataW H) → Bool := fun _ ds => decide (uptoBulkAll ds ≤ 1048576)
def OpenSpec.upto (s : _root_.Go.ChangeSpec) : _root_.Go.OpenSpec := { _root_.Go.OpenSpec.ofChange s with cond := some uptoSmall }

/-- 'sastrugilaw03.BearHolds', WHERE WHAT IT READS IS OF BULK AT MOST 1048576: true; the input reads as it did. -/
def bearHoldsUptoRow : OpenClaim := { program := "ytelmlpjkpebcgaa", sum := "d5d248773e8a9a717c29ebaa485252efcf4ebb8c76e2ad7fa1d7a69c66daf437", func := "sastrugi/sastrugilaw03.BearHolds", spec := "bearHolds", unfollowed := true, recurses := true, apart := false, narrowed := true }
def BearHoldsUptoSaid : Prop := bearHoldsUptoRow.holds Try.pinned (OpenSpec.upto bearHoldsSpec)

/-- 'sastrugilaw03.BearTruth', WHERE WHAT IT READS IS OF BULK AT MOST 1048576: true; the input reads as it did. -/
def bearTruthUptoRow : OpenClaim := { program := "ytelmlpjkpebcgaa", sum := "d5d248773e8a9a717c29ebaa485252efcf4ebb8c76e2ad7fa1d7a69c66daf437", func := "sastrugi/sastrugilaw03.BearTruth", spec := "bearTruth", unfollowed := true, recurses := true, apart := false, narrowed := true }
def BearTruthUptoSaid : Prop := bearTruthUptoRow.holds Try.pinned (OpenSpec.upto bearTruthSpec)

/-- 'sastrugilaw03.BearBoth', WHERE WHAT IT READS IS OF BULK AT MOST 1048576: true; the input reads as it did. -/
def bearBothUptoRow : OpenClaim := { program := "ytelmlpjkpebcgaa", sum := "d5d248773e8a9a717c29ebaa485252efcf4ebb8c76e2ad7fa1d7a69c66daf437", func := "sastrugi/sastrugilaw03.BearBoth", spec := "bearBoth", unfollowed := true, recurses := true, apart := false, narrowed := true }
def BearBothUptoSaid : Prop := bearBothUptoRow.holds Try.pinned (OpenSpec.upto bearBothSpec)

/-- 'sastrugilaw03.BearNarrows', WHERE WHAT IT READS IS OF BULK AT MOST 1048576: true; the input reads as it did. -/
def bearNarrowsUptoRow : OpenClaim := { program := "ytelmlpjkpebcgaa", sum := "d5d248773e8a9a717c29ebaa485252efcf4ebb8c76e2ad7fa1d7a69c66daf437", func := "sastrugi/sastrugilaw03.BearNarrows", spec := "bearNarrows", unfollowed := true, recurses := true, apart := false, narrowed := true }
def BearNarrowsUptoSaid : Prop := bearNarrowsUptoRow.holds Try.pinned (OpenSpec.upto bearNarrowsSpec)

/-- 'sastrugilaw03.BearOthers', WHERE WHAT IT READS IS OF BULK AT MOST 1048576: true; the input reads as it did. -/
def bearOthersUptoRow : OpenClaim := { program := "ytelmlpjkpebcgaa", sum := "d5d248773e8a9a717c29ebaa485252efcf4ebb8c76e2ad7fa1d7a69c66daf437", func := "sastrugi/sastrugilaw03.BearOthers", spec := "bearOthers", unfollowed := true, recurses := true, apart := false, narrowed := true }
def BearOthersUptoSaid : Prop := bearOthersUptoRow.holds Try.pinned (OpenSpec.upto bearOthersSpec)

/-- 'sastrugilaw03.BearLanes', WHERE WHAT IT READS IS OF BULK AT MOST 1048576: true; the input reads as it did. -/
def bearLanesUptoRow : OpenClaim := { program := "ytelmlpjkpebcgaa", sum := "d5d248773e8a9a717c29ebaa485252efcf4ebb8c76e2ad7fa1d7a69c66daf437", func := "sastrugi/sastrugilaw03.BearLanes", spec := "bearLanes", unfollowed := true, recurses := true, apart := false, narrowed := true }
def BearLanesUptoSaid : Prop := bearLanesUptoRow.holds Try.pinned (OpenSpec.upto bearLanesSpec)

/-- 'sastrugilaw03.BearPlaces', WHERE WHAT IT READS IS OF BULK AT MOST 1048576: true; the input reads as it did. -/
def bearPlacesUptoRow : OpenClaim := { program := "ytelmlpjkpebcgaa", sum := "d5d248773e8a9a717c29ebaa485252efcf4ebb8c76e2ad7fa1d7a69c66daf437", func := "sastrugi/sastrugilaw03.BearPlaces", spec := "bearPlaces", unfollowed := true, recurses := true, apart := false, narrowed := true }
def BearPlacesUptoSaid : Prop := bearPlacesUptoRow.holds Try.pinned (OpenSpec.upto bearPlacesSpec)

/-- 'sastrugilaw03.BearSpeeds', WHERE WHAT IT READS IS OF BULK AT MOST 1048576: true; the input reads as it did. -/
def bearSpeedsUptoRow : OpenClaim := { program := "ytelmlpjkpebcgaa", sum := "d5d248773e8a9a717c29ebaa485252efcf4ebb8c76e2ad7fa1d7a69c66daf437", func := "sastrugi/sastrugilaw03.BearSpeeds", spec := "bearSpeeds", unfollowed := true, recurses := true, apart := false, narrowed := true }
def BearSpeedsUptoSaid : Prop := bearSpeedsUptoRow.holds Try.pinned (OpenSpec.upto bearSpeedsSpec)

/-- 'sastrugilaw03.BearWaves', WHERE WHAT IT READS IS OF BULK AT MOST 1048576: true; the input reads as it did. -/
def bearWavesUptoRow : OpenClaim := { program := "ytelmlpjkpebcgaa", sum := "d5d248773e8a9a717c29ebaa485252efcf4ebb8c76e2ad7fa1d7a69c66daf437", func := "sastrugi/sastrugilaw03.BearWaves", spec := "bearWaves", unfollowed := true, recurses := true, apart := false, narrowed := true }
def BearWavesUptoSaid : Prop := bearWavesUptoRow.holds Try.pinned (OpenSpec.upto bearWavesSpec)

/-- 'sastrugilaw03.BearChecks', WHERE WHAT IT READS IS OF BULK AT MOST 1048576: true; the input reads as it did. -/
def bearChecksUptoRow : OpenClaim := { program := "ytelmlpjkpebcgaa", sum := "d5d248773e8a9a717c29ebaa485252efcf4ebb8c76e2ad7fa1d7a69c66daf437", func := "sastrugi/sastrugilaw03.BearChecks", spec := "bearChecks", unfollowed := true, recurses := true, apart := false, narrowed := true }
def BearChecksUptoSaid : Prop := bearChecksUptoRow.holds Try.pinned (OpenSpec.upto bearChecksSpec)

/-- 'sastrugilaw03.BearLeast', WHERE WHAT IT READS IS OF BULK AT MOST 1048576: true; the input reads as it did. -/
def bearLeastUptoRow : OpenClaim := { program := "ytelmlpjkpebcgaa", sum := "d5d248773e8a9a717c29ebaa485252efcf4ebb8c76e2ad7fa1d7a69c66daf437", func := "sastrugi/sastrugilaw03.BearLeast", spec := "bearLeast", unfollowed := true, recurses := true, apart := false, narrowed := true }
def BearLeastUptoSaid : Prop := bearLeastUptoRow.holds Try.pinned (OpenSpec.upto bearLeastSpec)

/-- 'sastrugilaw03.BearGaps', WHERE WHAT IT READS IS OF BULK AT MOST 1048576: true; the input reads as it did. -/
def bearGapsUptoRow : OpenClaim := { program := "ytelmlpjkpebcgaa", sum := "d5d248773e8a9a717c29ebaa485252efcf4ebb8c76e2ad7fa1d7a69c66daf437", func := "sastrugi/sastrugilaw03.BearGaps", spec := "bearGaps", unfollowed := true, recurses := true, apart := false, narrowed := true }
def BearGapsUptoSaid : Prop := bearGapsUptoRow.holds Try.pinned (OpenSpec.upto bearGapsSpec)

/-- 'sastrugitop.TopBears', WHERE WHAT IT READS IS OF BULK AT MOST 1048576: true; the input reads as it did. -/
def topBearsUptoRow : OpenClaim := { program := "ytelmlpjkpebcgaa", sum := "d5d248773e8a9a717c29ebaa485252efcf4ebb8c76e2ad7fa1d7a69c66daf437", func := "sastrugi/sastrugitop.TopBears", spec := "topBears", unfollowed := true, recurses := true, apart := false, narrowed := true }
def TopBearsUptoSaid : Prop := topBearsUptoRow.holds Try.pinned (OpenSpec.upto topBearsSpec)

/-- 'sastrugilaw03.BearApart', WHERE WHAT IT READS IS OF BULK AT MOST 1048576: true; the input reads as it did. -/
def bearApartUptoRow : OpenClaim := { program := "ytelmlpjkpebcgaa", sum := "d5d248773e8a9a717c29ebaa485252efcf4ebb8c76e2ad7fa1d7a69c66daf437", func := "sastrugi/sastrugilaw03.BearApart", spec := "bearApart", unfollowed := true, recurses := true, apart := false, narrowed := true }
def BearApartUptoSaid : Prop := bearApartUptoRow.holds Try.pinned (OpenSpec.upto bearApartSpec)

/-- 'sastrugilaw03.BearKnown', WHERE WHAT IT READS IS OF BULK AT MOST 1048576: true; the input reads as it did. -/
def bearKnownUptoRow : OpenClaim := { program := "ytelmlpjkpebcgaa", sum := "d5d248773e8a9a717c29ebaa485252efcf4ebb8c76e2ad7fa1d7a69c66daf437", func := "sastrugi/sastrugilaw03.BearKnown", spec := "bearKnown", unfollowed := true, recurses := true, apart := false, narrowed := true }
def BearKnownUptoSaid : Prop := bearKnownUptoRow.holds Try.pinned (OpenSpec.upto bearKnownSpec)

end Rows
end Go.Proofs.Ytelmlpjkpebcgaa
