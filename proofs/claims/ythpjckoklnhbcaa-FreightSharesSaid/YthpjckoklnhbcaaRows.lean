/-
  No cell of these rows narrows 'for every input' (looked for: loops, veiled, ifaces, maps, wideKeys, modest, calm, conditions, laid).
  DERIVED. THE GIVEN ROWS OF THIS SEAT. 13 by the template 'for every input the law returns true; each argument reads behind the call as it read before'; 0 by the template 'total and deterministic' (their statements: YthpjckoklnhbcaaTotals.lean).
  GIVEN WITH THE SEED: the statements are not yours to turn. If you find one false, say at which input.
  Laid BY PROGRAM, IN A SANDBOX (cutbox-rows.mjs): the forced cells as the released guide's own fill.sh prints them over the translation bf43f7cd5478dd62… (all of the seat's roots in one cut). By AI agents, Wed Nov 11 2026. No macro, syntax, notation, axiom, sorry.
-/
import Derived.Test.YthpjckoklnhbcaaChecked
import GoSem.Claim
import GoSem.ClaimJoined
import GoSem.ClaimMapViews
import Derived.JoinedTies
import Derived.KernelRfl
namespace Go.Proofs.Ythpjckoklnhbcaa
/- THE CELL 'sum', in the pinned program and in every row, IS THE sha256 OF THE DUMP (.gsa) THAT YthpjckoklnhbcaaProg.lean LOADS. Nothing in Lean hashes anything: it is a label: what it is worth is what the hold of that sum in a sandbox is worth. -/
noncomputable def Try.pinned : Pinned := { name := "ythpjckoklnhbcaa", sum := "bf43f7cd5478dd62906adff281de06896583c356a75a96830f8817ba0185dd87", checked := Try.checked }
namespace Rows
def none {H : Type} : Left H := { results := [], args := [] }

/-- 'sastrugilaw08.FreightChecks': WHATEVER THE INPUT: true; the input reads as it did. -/
def freightChecksSpec : ChangeSpec := { name := "freightChecks", fn := fun _ => fun
  | [d] => { results := [.lit (.bool true)], args := [d] }
  | _ => none }
def freightChecksRow : OpenClaim := { program := "ythpjckoklnhbcaa", sum := "bf43f7cd5478dd62906adff281de06896583c356a75a96830f8817ba0185dd87", func := "sastrugi/sastrugilaw08.FreightChecks", spec := "freightChecks", unfollowed := true, recurses := true, apart := false }
def FreightChecksSaid : Prop := freightChecksRow.holds Try.pinned (OpenSpec.ofChange freightChecksSpec)

/-- ITS FALSE NEIGHBOUR: 'it returns false'. Refute it at one input. -/
def freightChecksWrong : ChangeSpec := { name := "freightChecks", fn := fun _ => fun
  | [d] => { results := [.lit (.bool false)], args := [d] }
  | _ => none }
def FreightChecksWrongFalsely : Prop := freightChecksRow.holds Try.pinned (OpenSpec.ofChange freightChecksWrong)

/-- 'sastrugilaw08.FreightBests': WHATEVER THE INPUT: true; the input reads as it did. -/
def freightBestsSpec : ChangeSpec := { name := "freightBests", fn := fun _ => fun
  | [d1, d2] => { results := [.lit (.bool true)], args := [d1, d2] }
  | _ => none }
def freightBestsRow : OpenClaim := { program := "ythpjckoklnhbcaa", sum := "bf43f7cd5478dd62906adff281de06896583c356a75a96830f8817ba0185dd87", func := "sastrugi/sastrugilaw08.FreightBests", spec := "freightBests", unfollowed := true, recurses := true, apart := false }
def FreightBestsSaid : Prop := freightBestsRow.holds Try.pinned (OpenSpec.ofChange freightBestsSpec)

/-- ITS FALSE NEIGHBOUR: 'it returns false'. Refute it at one input. -/
def freightBestsWrong : ChangeSpec := { name := "freightBests", fn := fun _ => fun
  | [d1, d2] => { results := [.lit (.bool false)], args := [d1, d2] }
  | _ => none }
def FreightBestsWrongFalsely : Prop := freightBestsRow.holds Try.pinned (OpenSpec.ofChange freightBestsWrong)

/-- 'sastrugilaw08.FreightBest': WHATEVER THE INPUT: true; the input reads as it did. -/
def freightBestSpec : ChangeSpec := { name := "freightBest", fn := fun _ => fun
  | [d] => { results := [.lit (.bool true)], args := [d] }
  | _ => none }
def freightBestRow : OpenClaim := { program := "ythpjckoklnhbcaa", sum := "bf43f7cd5478dd62906adff281de06896583c356a75a96830f8817ba0185dd87", func := "sastrugi/sastrugilaw08.FreightBest", spec := "freightBest", unfollowed := true, recurses := true, apart := false }
def FreightBestSaid : Prop := freightBestRow.holds Try.pinned (OpenSpec.ofChange freightBestSpec)

/-- ITS FALSE NEIGHBOUR: 'it returns false'. Refute it at one input. -/
def freightBestWrong : ChangeSpec := { name := "freightBest", fn := fun _ => fun
  | [d] => { results := [.lit (.bool false)], args := [d] }
  | _ => none }
def FreightBestWrongFalsely : Prop := freightBestRow.holds Try.pinned (OpenSpec.ofChange freightBestWrong)

/-- 'sastrugilaw08.FreightRanges': WHATEVER THE INPUT: true; the input reads as it did. -/
def freightRangesSpec : ChangeSpec := { name := "freightRanges", fn := fun _ => fun
  | [d1, d2, d3] => { results := [.lit (.bool true)], args := [d1, d2, d3] }
  | _ => none }
def freightRangesRow : OpenClaim := { program := "ythpjckoklnhbcaa", sum := "bf43f7cd5478dd62906adff281de06896583c356a75a96830f8817ba0185dd87", func := "sastrugi/sastrugilaw08.FreightRanges", spec := "freightRanges", unfollowed := true, recurses := true, apart := false }
def FreightRangesSaid : Prop := freightRangesRow.holds Try.pinned (OpenSpec.ofChange freightRangesSpec)

/-- ITS FALSE NEIGHBOUR: 'it returns false'. Refute it at one input. -/
def freightRangesWrong : ChangeSpec := { name := "freightRanges", fn := fun _ => fun
  | [d1, d2, d3] => { results := [.lit (.bool false)], args := [d1, d2, d3] }
  | _ => none }
def FreightRangesWrongFalsely : Prop := freightRangesRow.holds Try.pinned (OpenSpec.ofChange freightRangesWrong)

/-- 'sastrugilaw08.FreightSpreads': WHATEVER THE INPUT: true; the input reads as it did. -/
def freightSpreadsSpec : ChangeSpec := { name := "freightSpreads", fn := fun _ => fun
  | [d1, d2, d3, d4] => { results := [.lit (.bool true)], args := [d1, d2, d3, d4] }
  | _ => none }
def freightSpreadsRow : OpenClaim := { program := "ythpjckoklnhbcaa", sum := "bf43f7cd5478dd62906adff281de06896583c356a75a96830f8817ba0185dd87", func := "sastrugi/sastrugilaw08.FreightSpreads", spec := "freightSpreads", unfollowed := true, recurses := true, apart := false }
def FreightSpreadsSaid : Prop := freightSpreadsRow.holds Try.pinned (OpenSpec.ofChange freightSpreadsSpec)

/-- ITS FALSE NEIGHBOUR: 'it returns false'. Refute it at one input. -/
def freightSpreadsWrong : ChangeSpec := { name := "freightSpreads", fn := fun _ => fun
  | [d1, d2, d3, d4] => { results := [.lit (.bool false)], args := [d1, d2, d3, d4] }
  | _ => none }
def FreightSpreadsWrongFalsely : Prop := freightSpreadsRow.holds Try.pinned (OpenSpec.ofChange freightSpreadsWrong)

/-- 'sastrugilaw08.FreightBound': WHATEVER THE INPUT: true; the input reads as it did. -/
def freightBoundSpec : ChangeSpec := { name := "freightBound", fn := fun _ => fun
  | [d] => { results := [.lit (.bool true)], args := [d] }
  | _ => none }
def freightBoundRow : OpenClaim := { program := "ythpjckoklnhbcaa", sum := "bf43f7cd5478dd62906adff281de06896583c356a75a96830f8817ba0185dd87", func := "sastrugi/sastrugilaw08.FreightBound", spec := "freightBound", unfollowed := true, recurses := true, apart := false }
def FreightBoundSaid : Prop := freightBoundRow.holds Try.pinned (OpenSpec.ofChange freightBoundSpec)

/-- ITS FALSE NEIGHBOUR: 'it returns false'. Refute it at one input. -/
def freightBoundWrong : ChangeSpec := { name := "freightBound", fn := fun _ => fun
  | [d] => { results := [.lit (.bool false)], args := [d] }
  | _ => none }
def FreightBoundWrongFalsely : Prop := freightBoundRow.holds Try.pinned (OpenSpec.ofChange freightBoundWrong)

/-- 'sastrugilaw08.FreightWhole': WHATEVER THE INPUT: true; the input reads as it did. -/
def freightWholeSpec : ChangeSpec := { name := "freightWhole", fn := fun _ => fun
  | [d] => { results := [.lit (.bool true)], args := [d] }
  | _ => none }
def freightWholeRow : OpenClaim := { program := "ythpjckoklnhbcaa", sum := "bf43f7cd5478dd62906adff281de06896583c356a75a96830f8817ba0185dd87", func := "sastrugi/sastrugilaw08.FreightWhole", spec := "freightWhole", unfollowed := true, recurses := true, apart := false }
def FreightWholeSaid : Prop := freightWholeRow.holds Try.pinned (OpenSpec.ofChange freightWholeSpec)

/-- ITS FALSE NEIGHBOUR: 'it returns false'. Refute it at one input. -/
def freightWholeWrong : ChangeSpec := { name := "freightWhole", fn := fun _ => fun
  | [d] => { results := [.lit (.bool false)], args := [d] }
  | _ => none }
def FreightWholeWrongFalsely : Prop := freightWholeRow.holds Try.pinned (OpenSpec.ofChange freightWholeWrong)

/-- 'sastrugilaw08.FreightShares': WHATEVER THE INPUT: true; the input reads as it did. -/
def freightSharesSpec : ChangeSpec := { name := "freightShares", fn := fun _ => fun
  | [d1, d2, d3] => { results := [.lit (.bool true)], args := [d1, d2, d3] }
  | _ => none }
def freightSharesRow : OpenClaim := { program := "ythpjckoklnhbcaa", sum := "bf43f7cd5478dd62906adff281de06896583c356a75a96830f8817ba0185dd87", func := "sastrugi/sastrugilaw08.FreightShares", spec := "freightShares", unfollowed := true, recurses := true, apart := false }
def FreightSharesSaid : Prop := freightSharesRow.holds Try.pinned (OpenSpec.ofChange freightSharesSpec)

/-- ITS FALSE NEIGHBOUR: 'it returns false'. Refute it at one input. -/
def freightSharesWrong : ChangeSpec := { name := "freightShares", fn := fun _ => fun
  | [d1, d2, d3] => { results := [.lit (.bool false)], args := [d1, d2, d3] }
  | _ => none }
def FreightSharesWrongFalsely : Prop := freightSharesRow.holds Try.pinned (OpenSpec.ofChange freightSharesWrong)

/-- 'sastrugilaw08.FreightTruth': WHATEVER THE INPUT: true; the input reads as it did. -/
def freightTruthSpec : ChangeSpec := { name := "freightTruth", fn := fun _ => fun
  | [d] => { results := [.lit (.bool true)], args := [d] }
  | _ => none }
def freightTruthRow : OpenClaim := { program := "ythpjckoklnhbcaa", sum := "bf43f7cd5478dd62906adff281de06896583c356a75a96830f8817ba0185dd87", func := "sastrugi/sastrugilaw08.FreightTruth", spec := "freightTruth", unfollowed := true, recurses := true, apart := false }
def FreightTruthSaid : Prop := freightTruthRow.holds Try.pinned (OpenSpec.ofChange freightTruthSpec)

/-- ITS FALSE NEIGHBOUR: 'it returns false'. Refute it at one input. -/
def freightTruthWrong : ChangeSpec := { name := "freightTruth", fn := fun _ => fun
  | [d] => { results := [.lit (.bool false)], args := [d] }
  | _ => none }
def FreightTruthWrongFalsely : Prop := freightTruthRow.holds Try.pinned (OpenSpec.ofChange freightTruthWrong)

/-- 'sastrugilaw08.FreightEnds': WHATEVER THE INPUT: true; the input reads as it did. -/
def freightEndsSpec : ChangeSpec := { name := "freightEnds", fn := fun _ => fun
  | [d] => { results := [.lit (.bool true)], args := [d] }
  | _ => none }
def freightEndsRow : OpenClaim := { program := "ythpjckoklnhbcaa", sum := "bf43f7cd5478dd62906adff281de06896583c356a75a96830f8817ba0185dd87", func := "sastrugi/sastrugilaw08.FreightEnds", spec := "freightEnds", unfollowed := true, recurses := true, apart := false }
def FreightEndsSaid : Prop := freightEndsRow.holds Try.pinned (OpenSpec.ofChange freightEndsSpec)

/-- ITS FALSE NEIGHBOUR: 'it returns false'. Refute it at one input. -/
def freightEndsWrong : ChangeSpec := { name := "freightEnds", fn := fun _ => fun
  | [d] => { results := [.lit (.bool false)], args := [d] }
  | _ => none }
def FreightEndsWrongFalsely : Prop := freightEndsRow.holds Try.pinned (OpenSpec.ofChange freightEndsWrong)

/-- 'sastrugilaw08.FreightMore': WHATEVER THE INPUT: true; the input reads as it did. -/
def freightMoreSpec : ChangeSpec := { name := "freightMore", fn := fun _ => fun
  | [d] => { results := [.lit (.bool true)], args := [d] }
  | _ => none }
def freightMoreRow : OpenClaim := { program := "ythpjckoklnhbcaa", sum := "bf43f7cd5478dd62906adff281de06896583c356a75a96830f8817ba0185dd87", func := "sastrugi/sastrugilaw08.FreightMore", spec := "freightMore", unfollowed := true, recurses := true, apart := false }
def FreightMoreSaid : Prop := freightMoreRow.holds Try.pinned (OpenSpec.ofChange freightMoreSpec)

/-- ITS FALSE NEIGHBOUR: 'it returns false'. Refute it at one input. -/
def freightMoreWrong : ChangeSpec := { name := "freightMore", fn := fun _ => fun
  | [d] => { results := [.lit (.bool false)], args := [d] }
  | _ => none }
def FreightMoreWrongFalsely : Prop := freightMoreRow.holds Try.pinned (OpenSpec.ofChange freightMoreWrong)

/-- 'sastrugilaw08.FreightTells': WHATEVER THE INPUT: true; the input reads as it did. -/
def freightTellsSpec : ChangeSpec := { name := "freightTells", fn := fun _ => fun
  | [d1, d2, d3, d4, d5, d6] => { results := [.lit (.bool true)], args := [d1, d2, d3, d4, d5, d6] }
  | _ => none }
def freightTellsRow : OpenClaim := { program := "ythpjckoklnhbcaa", sum := "bf43f7cd5478dd62906adff281de06896583c356a75a96830f8817ba0185dd87", func := "sastrugi/sastrugilaw08.FreightTells", spec := "freightTells", unfollowed := true, recurses := true, apart := false }
def FreightTellsSaid : Prop := freightTellsRow.holds Try.pinned (OpenSpec.ofChange freightTellsSpec)

/-- ITS FALSE NEIGHBOUR: 'it returns false'. Refute it at one input. -/
def freightTellsWrong : ChangeSpec := { name := "freightTells", fn := fun _ => fun
  | [d1, d2, d3, d4, d5, d6] => { results := [.lit (.bool false)], args := [d1, d2, d3, d4, d5, d6] }
  | _ => none }
def FreightTellsWrongFalsely : Prop := freightTellsRow.holds Try.pinned (OpenSpec.ofChange freightTellsWrong)

/-- 'sastrugilaw08.FreightShared': WHATEVER THE INPUT: true; the input reads as it did. -/
def freightSharedSpec : ChangeSpec := { name := "freightShared", fn := fun _ => fun
  | [d] => { results := [.lit (.bool true)], args := [d] }
  | _ => none }
def freightSharedRow : OpenClaim := { program := "ythpjckoklnhbcaa", sum := "bf43f7cd5478dd62906adff281de06896583c356a75a96830f8817ba0185dd87", func := "sastrugi/sastrugilaw08.FreightShared", spec := "freightShared", unfollowed := true, recurses := true, apart := false }
def FreightSharedSaid : Prop := freightSharedRow.holds Try.pinned (OpenSpec.ofChange freightSharedSpec)

/-- ITS FALSE NEIGHBOUR: 'it returns false'. Refute it at one input. -/
def freightSharedWrong : ChangeSpec := { name := "freightShared", fn := fun _ => fun
  | [d] => { results := [.lit (.bool false)], args := [d] }
  | _ => none }
def FreightSharedWrongFalsely : Prop := freightSharedRow.holds Try.pinned (OpenSpec.ofChange freightSharedWrong)

/- THE SECOND FORM. 'bulk': how many values and letters a reading holds, each counted each time it is reached (what is shared counts as often as it is met; a slice's spare places count too). A statement '..UptoSaid' is the law's where the arguments, and the package variables that the reading takes, are together of bulk at most 1048576: NARROWER than '..Said'. Prove '..Said' where nothing that the law and all that it calls make is longer than what came in: it says more and counts as full. Else prove '..UptoSaid'. A law counts once. -/
mutual
def uptoBulk {H : Type} : DataW H → Nat
  | .lit (.string bytes) => bytes.length + 1
  | .lit _ => 1
  | .nil => 1
  | .ptr d => uptoBulk d + 1
  | .slice elems spare => uptoBulkAll elems + uptoBulkAll spare + 1
  | .agg parts => uptoBulkAll parts + 1
  | .iface _ d => uptoBulk d + 1
  | .map entries => uptoBulkEntries entries + 1
  | .held _ => 1
def uptoBulkAll {H : Type} : List (DataW H) → Nat
  | [] => 0
  | d :: r => uptoBulk d + uptoBulkAll r
def uptoBulkEntries {H : Type} : List (Lit × DataW H) → Nat
  | [] => 0
  | x :: r => uptoBulkEntry x + uptoBulkEntries r
def uptoBulkEntry {H : Type} : Lit × DataW H → Nat
  | (.string bytes, d) => bytes.length + uptoBulk d + 1
  | (_, d) => uptoBulk d + 1
 end
def uptoSmall : (H : Type) → List (DataW H) → Bool := fun _ ds => decide (uptoBulkAll ds ≤ 1048576)
def OpenSpec.upto (s : _root_.Go.ChangeSpec) : _root_.Go.OpenSpec := { _root_.Go.OpenSpec.ofChange s with cond := some uptoSmall }

/-- 'sastrugilaw08.FreightChecks', WHERE WHAT IT READS IS OF BULK AT MOST 1048576: true; the input reads as it did. -/
def freightChecksUptoRow : OpenClaim := { program := "ythpjckoklnhbcaa", sum := "bf43f7cd5478dd62906adff281de06896583c356a75a96830f8817ba0185dd87", func := "sastrugi/sastrugilaw08.FreightChecks", spec := "freightChecks", unfollowed := true, recurses := true, apart := false, narrowed := true }
def FreightChecksUptoSaid : Prop := freightChecksUptoRow.holds Try.pinned (OpenSpec.upto freightChecksSpec)

/-- 'sastrugilaw08.FreightBests', WHERE WHAT IT READS IS OF BULK AT MOST 1048576: true; the input reads as it did. -/
def freightBestsUptoRow : OpenClaim := { program := "ythpjckoklnhbcaa", sum := "bf43f7cd5478dd62906adff281de06896583c356a75a96830f8817ba0185dd87", func := "sastrugi/sastrugilaw08.FreightBests", spec := "freightBests", unfollowed := true, recurses := true, apart := false, narrowed := true }
def FreightBestsUptoSaid : Prop := freightBestsUptoRow.holds Try.pinned (OpenSpec.upto freightBestsSpec)

/-- 'sastrugilaw08.FreightBest', WHERE WHAT IT READS IS OF BULK AT MOST 1048576: true; the input reads as it did. -/
def freightBestUptoRow : OpenClaim := { program := "ythpjckoklnhbcaa", sum := "bf43f7cd5478dd62906adff281de06896583c356a75a96830f8817ba0185dd87", func := "sastrugi/sastrugilaw08.FreightBest", spec := "freightBest", unfollowed := true, recurses := true, apart := false, narrowed := true }
def FreightBestUptoSaid : Prop := freightBestUptoRow.holds Try.pinned (OpenSpec.upto freightBestSpec)

/-- 'sastrugilaw08.FreightRanges', WHERE WHAT IT READS IS OF BULK AT MOST 1048576: true; the input reads as it did. -/
def freightRangesUptoRow : OpenClaim := { program := "ythpjckoklnhbcaa", sum := "bf43f7cd5478dd62906adff281de06896583c356a75a96830f8817ba0185dd87", func := "sastrugi/sastrugilaw08.FreightRanges", spec := "freightRanges", unfollowed := true, recurses := true, apart := false, narrowed := true }
def FreightRangesUptoSaid : Prop := freightRangesUptoRow.holds Try.pinned (OpenSpec.upto freightRangesSpec)

/-- 'sastrugilaw08.FreightSpreads', WHERE WHAT IT READS IS OF BULK AT MOST 1048576: true; the input reads as it did. -/
def freightSpreadsUptoRow : OpenClaim := { program := "ythpjckoklnhbcaa", sum := "bf43f7cd5478dd62906adff281de06896583c356a75a96830f8817ba0185dd87", func := "sastrugi/sastrugilaw08.FreightSpreads", spec := "freightSpreads", unfollowed := true, recurses := true, apart := false, narrowed := true }
def FreightSpreadsUptoSaid : Prop := freightSpreadsUptoRow.holds Try.pinned (OpenSpec.upto freightSpreadsSpec)

/-- 'sastrugilaw08.FreightBound', WHERE WHAT IT READS IS OF BULK AT MOST 1048576: true; the input reads as it did. -/
def freightBoundUptoRow : OpenClaim := { program := "ythpjckoklnhbcaa", sum := "bf43f7cd5478dd62906adff281de06896583c356a75a96830f8817ba0185dd87", func := "sastrugi/sastrugilaw08.FreightBound", spec := "freightBound", unfollowed := true, recurses := true, apart := false, narrowed := true }
def FreightBoundUptoSaid : Prop := freightBoundUptoRow.holds Try.pinned (OpenSpec.upto freightBoundSpec)

/-- 'sastrugilaw08.FreightWhole', WHERE WHAT IT READS IS OF BULK AT MOST 1048576: true; the input reads as it did. -/
def freightWholeUptoRow : OpenClaim := { program := "ythpjckoklnhbcaa", sum := "bf43f7cd5478dd62906adff281de06896583c356a75a96830f8817ba0185dd87", func := "sastrugi/sastrugilaw08.FreightWhole", spec := "freightWhole", unfollowed := true, recurses := true, apart := false, narrowed := true }
def FreightWholeUptoSaid : Prop := freightWholeUptoRow.holds Try.pinned (OpenSpec.upto freightWholeSpec)

/-- 'sastrugilaw08.FreightShares', WHERE WHAT IT READS IS OF BULK AT MOST 1048576: true; the input reads as it did. -/
def freightSharesUptoRow : OpenClaim := { program := "ythpjckoklnhbcaa", sum := "bf43f7cd5478dd62906adff281de06896583c356a75a96830f8817ba0185dd87", func := "sastrugi/sastrugilaw08.FreightShares", spec := "freightShares", unfollowed := true, recurses := true, apart := false, narrowed := true }
def FreightSharesUptoSaid : Prop := freightSharesUptoRow.holds Try.pinned (OpenSpec.upto freightSharesSpec)

/-- 'sastrugilaw08.FreightTruth', WHERE WHAT IT READS IS OF BULK AT MOST 1048576: true; the input reads as it did. -/
def freightTruthUptoRow : OpenClaim := { program := "ythpjckoklnhbcaa", sum := "bf43f7cd5478dd62906adff281de06896583c356a75a96830f8817ba0185dd87", func := "sastrugi/sastrugilaw08.FreightTruth", spec := "freightTruth", unfollowed := true, recurses := true, apart := false, narrowed := true }
def FreightTruthUptoSaid : Prop := freightTruthUptoRow.holds Try.pinned (OpenSpec.upto freightTruthSpec)

/-- 'sastrugilaw08.FreightEnds', WHERE WHAT IT READS IS OF BULK AT MOST 1048576: true; the input reads as it did. -/
def freightEndsUptoRow : OpenClaim := { program := "ythpjckoklnhbcaa", sum := "bf43f7cd5478dd62906adff281de06896583c356a75a96830f8817ba0185dd87", func := "sastrugi/sastrugilaw08.FreightEnds", spec := "freightEnds", unfollowed := true, recurses := true, apart := false, narrowed := true }
def FreightEndsUptoSaid : Prop := freightEndsUptoRow.holds Try.pinned (OpenSpec.upto freightEndsSpec)

/-- 'sastrugilaw08.FreightMore', WHERE WHAT IT READS IS OF BULK AT MOST 1048576: true; the input reads as it did. -/
def freightMoreUptoRow : OpenClaim := { program := "ythpjckoklnhbcaa", sum := "bf43f7cd5478dd62906adff281de06896583c356a75a96830f8817ba0185dd87", func := "sastrugi/sastrugilaw08.FreightMore", spec := "freightMore", unfollowed := true, recurses := true, apart := false, narrowed := true }
def FreightMoreUptoSaid : Prop := freightMoreUptoRow.holds Try.pinned (OpenSpec.upto freightMoreSpec)

/-- 'sastrugilaw08.FreightTells', WHERE WHAT IT READS IS OF BULK AT MOST 1048576: true; the input reads as it did. -/
def freightTellsUptoRow : OpenClaim := { program := "ythpjckoklnhbcaa", sum := "bf43f7cd5478dd62906adff281de06896583c356a75a96830f8817ba0185dd87", func := "sastrugi/sastrugilaw08.FreightTells", spec := "freightTells", unfollowed := true, recurses := true, apart := false, narrowed := true }
def FreightTellsUptoSaid : Prop := freightTellsUptoRow.holds Try.pinned (OpenSpec.upto freightTellsSpec)

/-- 'sastrugilaw08.FreightShared', WHERE WHAT IT READS IS OF BULK AT MOST 1048576: true; the input reads as it did. -/
def freightSharedUptoRow : OpenClaim := { program := "ythpjckoklnhbcaa", sum := "bf43f7cd5478dd62906adff281de06896583c356a75a96830f8817ba0185dd87", func := "sastrugi/sastrugilaw08.FreightShared", spec := "freightShared", unfollowed := true, recurses := true, apart := false, narrowed := true }
def FreightSharedUptoSaid : Prop := freightSharedUptoRow.holds Try.pinned (OpenSpec.upto freightSharedSpec)

end Rows
end Go.Proofs.Ythpjckoklnhbcaa
