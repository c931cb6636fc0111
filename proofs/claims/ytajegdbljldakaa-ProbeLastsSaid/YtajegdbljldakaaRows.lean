/-
  No cell of these rows narrows 'for every input' (looked for: loops, veiled, ifaces, maps, wideKeys, modest, calm, conditions, laid).
  DERIVED. THE GIVEN ROWS OF THIS SEAT. 14 by the template 'for every input the law returns true; each argument reads behind the call as it read before'; 0 by the template 'total and deterministic' (their statements: YtajegdbljldakaaTotals.lean).
  GIVEN WITH THE SEED: the statements are not yours to turn. If you find one false, say at which input.
  Laid BY PROGRAM, IN A SANDBOX (cutbox-rows.mjs): the forced cells as the released guide's own fill.sh prints them over the translation 927baaf7c06df4f3… (all of the seat's roots in one cut). By AI agents, Wed Nov 11 2026. No macro, syntax, notation, axiom, sorry.
-/
import Derived.Test.YtajegdbljldakaaChecked
import GoSem.Claim
import GoSem.ClaimJoined
import GoSem.ClaimMapViews
import Derived.JoinedTies
import Derived.KernelRfl
namespace Go.Proofs.Ytajegdbljldakaa
/- THE CELL 'sum', in the pinned program and in every row, IS THE sha256 OF THE DUMP (.gsa) THAT YtajegdbljldakaaProg.lean LOADS. Nothing in Lean hashes anything: it is a label: what it is worth is what the hold of that sum in a sandbox is worth. -/
noncomputable def Try.pinned : Pinned := { name := "ytajegdbljldakaa", sum := "927baaf7c06df4f35a953b9115d73f3f5682f1f988a6e03bcaee3871460ee742", checked := Try.checked }
namespace Rows
def none {H : Type} : Left H := { results := [], args := [] }

/-- 'sastrugilaw02.ProbeNarrows': WHATEVER THE INPUT: true; the input reads as it did. -/
def probeNarrowsSpec : ChangeSpec := { name := "probeNarrows", fn := fun _ => fun
  | [d] => { results := [.lit (.bool true)], args := [d] }
  | _ => none }
def probeNarrowsRow : OpenClaim := { program := "ytajegdbljldakaa", sum := "927baaf7c06df4f35a953b9115d73f3f5682f1f988a6e03bcaee3871460ee742", func := "sastrugi/sastrugilaw02.ProbeNarrows", spec := "probeNarrows", unfollowed := true, recurses := true, apart := false }
def ProbeNarrowsSaid : Prop := probeNarrowsRow.holds Try.pinned (OpenSpec.ofChange probeNarrowsSpec)

/-- ITS FALSE NEIGHBOUR: 'it returns false'. Refute it at one input. -/
def probeNarrowsWrong : ChangeSpec := { name := "probeNarrows", fn := fun _ => fun
  | [d] => { results := [.lit (.bool false)], args := [d] }
  | _ => none }
def ProbeNarrowsWrongFalsely : Prop := probeNarrowsRow.holds Try.pinned (OpenSpec.ofChange probeNarrowsWrong)

/-- 'sastrugilaw02.ProbeChecks': WHATEVER THE INPUT: true; the input reads as it did. -/
def probeChecksSpec : ChangeSpec := { name := "probeChecks", fn := fun _ => fun
  | [d1, d2, d3, d4] => { results := [.lit (.bool true)], args := [d1, d2, d3, d4] }
  | _ => none }
def probeChecksRow : OpenClaim := { program := "ytajegdbljldakaa", sum := "927baaf7c06df4f35a953b9115d73f3f5682f1f988a6e03bcaee3871460ee742", func := "sastrugi/sastrugilaw02.ProbeChecks", spec := "probeChecks", unfollowed := true, recurses := true, apart := false }
def ProbeChecksSaid : Prop := probeChecksRow.holds Try.pinned (OpenSpec.ofChange probeChecksSpec)

/-- ITS FALSE NEIGHBOUR: 'it returns false'. Refute it at one input. -/
def probeChecksWrong : ChangeSpec := { name := "probeChecks", fn := fun _ => fun
  | [d1, d2, d3, d4] => { results := [.lit (.bool false)], args := [d1, d2, d3, d4] }
  | _ => none }
def ProbeChecksWrongFalsely : Prop := probeChecksRow.holds Try.pinned (OpenSpec.ofChange probeChecksWrong)

/-- 'sastrugilaw02.ProbeCovers': WHATEVER THE INPUT: true; the input reads as it did. -/
def probeCoversSpec : ChangeSpec := { name := "probeCovers", fn := fun _ => fun
  | [d1, d2, d3, d4] => { results := [.lit (.bool true)], args := [d1, d2, d3, d4] }
  | _ => none }
def probeCoversRow : OpenClaim := { program := "ytajegdbljldakaa", sum := "927baaf7c06df4f35a953b9115d73f3f5682f1f988a6e03bcaee3871460ee742", func := "sastrugi/sastrugilaw02.ProbeCovers", spec := "probeCovers", unfollowed := true, recurses := true, apart := false }
def ProbeCoversSaid : Prop := probeCoversRow.holds Try.pinned (OpenSpec.ofChange probeCoversSpec)

/-- ITS FALSE NEIGHBOUR: 'it returns false'. Refute it at one input. -/
def probeCoversWrong : ChangeSpec := { name := "probeCovers", fn := fun _ => fun
  | [d1, d2, d3, d4] => { results := [.lit (.bool false)], args := [d1, d2, d3, d4] }
  | _ => none }
def ProbeCoversWrongFalsely : Prop := probeCoversRow.holds Try.pinned (OpenSpec.ofChange probeCoversWrong)

/-- 'sastrugilaw02.ProbeSpreads': WHATEVER THE INPUT: true; the input reads as it did. -/
def probeSpreadsSpec : ChangeSpec := { name := "probeSpreads", fn := fun _ => fun
  | [d] => { results := [.lit (.bool true)], args := [d] }
  | _ => none }
def probeSpreadsRow : OpenClaim := { program := "ytajegdbljldakaa", sum := "927baaf7c06df4f35a953b9115d73f3f5682f1f988a6e03bcaee3871460ee742", func := "sastrugi/sastrugilaw02.ProbeSpreads", spec := "probeSpreads", unfollowed := true, recurses := true, apart := false }
def ProbeSpreadsSaid : Prop := probeSpreadsRow.holds Try.pinned (OpenSpec.ofChange probeSpreadsSpec)

/-- ITS FALSE NEIGHBOUR: 'it returns false'. Refute it at one input. -/
def probeSpreadsWrong : ChangeSpec := { name := "probeSpreads", fn := fun _ => fun
  | [d] => { results := [.lit (.bool false)], args := [d] }
  | _ => none }
def ProbeSpreadsWrongFalsely : Prop := probeSpreadsRow.holds Try.pinned (OpenSpec.ofChange probeSpreadsWrong)

/-- 'sastrugilaw02.ProbeKnows': WHATEVER THE INPUT: true; the input reads as it did. -/
def probeKnowsSpec : ChangeSpec := { name := "probeKnows", fn := fun _ => fun
  | [d1, d2, d3, d4, d5, d6] => { results := [.lit (.bool true)], args := [d1, d2, d3, d4, d5, d6] }
  | _ => none }
def probeKnowsRow : OpenClaim := { program := "ytajegdbljldakaa", sum := "927baaf7c06df4f35a953b9115d73f3f5682f1f988a6e03bcaee3871460ee742", func := "sastrugi/sastrugilaw02.ProbeKnows", spec := "probeKnows", unfollowed := true, recurses := true, apart := false }
def ProbeKnowsSaid : Prop := probeKnowsRow.holds Try.pinned (OpenSpec.ofChange probeKnowsSpec)

/-- ITS FALSE NEIGHBOUR: 'it returns false'. Refute it at one input. -/
def probeKnowsWrong : ChangeSpec := { name := "probeKnows", fn := fun _ => fun
  | [d1, d2, d3, d4, d5, d6] => { results := [.lit (.bool false)], args := [d1, d2, d3, d4, d5, d6] }
  | _ => none }
def ProbeKnowsWrongFalsely : Prop := probeKnowsRow.holds Try.pinned (OpenSpec.ofChange probeKnowsWrong)

/-- 'sastrugilaw02.ProbeLeast': WHATEVER THE INPUT: true; the input reads as it did. -/
def probeLeastSpec : ChangeSpec := { name := "probeLeast", fn := fun _ => fun
  | [d] => { results := [.lit (.bool true)], args := [d] }
  | _ => none }
def probeLeastRow : OpenClaim := { program := "ytajegdbljldakaa", sum := "927baaf7c06df4f35a953b9115d73f3f5682f1f988a6e03bcaee3871460ee742", func := "sastrugi/sastrugilaw02.ProbeLeast", spec := "probeLeast", unfollowed := true, recurses := true, apart := false }
def ProbeLeastSaid : Prop := probeLeastRow.holds Try.pinned (OpenSpec.ofChange probeLeastSpec)

/-- ITS FALSE NEIGHBOUR: 'it returns false'. Refute it at one input. -/
def probeLeastWrong : ChangeSpec := { name := "probeLeast", fn := fun _ => fun
  | [d] => { results := [.lit (.bool false)], args := [d] }
  | _ => none }
def ProbeLeastWrongFalsely : Prop := probeLeastRow.holds Try.pinned (OpenSpec.ofChange probeLeastWrong)

/-- 'sastrugilaw02.ProbeCloses': WHATEVER THE INPUT: true; the input reads as it did. -/
def probeClosesSpec : ChangeSpec := { name := "probeCloses", fn := fun _ => fun
  | [d1, d2, d3, d4, d5, d6, d7] => { results := [.lit (.bool true)], args := [d1, d2, d3, d4, d5, d6, d7] }
  | _ => none }
def probeClosesRow : OpenClaim := { program := "ytajegdbljldakaa", sum := "927baaf7c06df4f35a953b9115d73f3f5682f1f988a6e03bcaee3871460ee742", func := "sastrugi/sastrugilaw02.ProbeCloses", spec := "probeCloses", unfollowed := true, recurses := true, apart := false }
def ProbeClosesSaid : Prop := probeClosesRow.holds Try.pinned (OpenSpec.ofChange probeClosesSpec)

/-- ITS FALSE NEIGHBOUR: 'it returns false'. Refute it at one input. -/
def probeClosesWrong : ChangeSpec := { name := "probeCloses", fn := fun _ => fun
  | [d1, d2, d3, d4, d5, d6, d7] => { results := [.lit (.bool false)], args := [d1, d2, d3, d4, d5, d6, d7] }
  | _ => none }
def ProbeClosesWrongFalsely : Prop := probeClosesRow.holds Try.pinned (OpenSpec.ofChange probeClosesWrong)

/-- 'sastrugilaw02.ProbeLasts': WHATEVER THE INPUT: true; the input reads as it did. -/
def probeLastsSpec : ChangeSpec := { name := "probeLasts", fn := fun _ => fun
  | [d] => { results := [.lit (.bool true)], args := [d] }
  | _ => none }
def probeLastsRow : OpenClaim := { program := "ytajegdbljldakaa", sum := "927baaf7c06df4f35a953b9115d73f3f5682f1f988a6e03bcaee3871460ee742", func := "sastrugi/sastrugilaw02.ProbeLasts", spec := "probeLasts", unfollowed := true, recurses := true, apart := false }
def ProbeLastsSaid : Prop := probeLastsRow.holds Try.pinned (OpenSpec.ofChange probeLastsSpec)

/-- ITS FALSE NEIGHBOUR: 'it returns false'. Refute it at one input. -/
def probeLastsWrong : ChangeSpec := { name := "probeLasts", fn := fun _ => fun
  | [d] => { results := [.lit (.bool false)], args := [d] }
  | _ => none }
def ProbeLastsWrongFalsely : Prop := probeLastsRow.holds Try.pinned (OpenSpec.ofChange probeLastsWrong)

/-- 'sastrugilaw02.ProbeGates': WHATEVER THE INPUT: true; the input reads as it did. -/
def probeGatesSpec : ChangeSpec := { name := "probeGates", fn := fun _ => fun
  | [d] => { results := [.lit (.bool true)], args := [d] }
  | _ => none }
def probeGatesRow : OpenClaim := { program := "ytajegdbljldakaa", sum := "927baaf7c06df4f35a953b9115d73f3f5682f1f988a6e03bcaee3871460ee742", func := "sastrugi/sastrugilaw02.ProbeGates", spec := "probeGates", unfollowed := true, recurses := true, apart := false }
def ProbeGatesSaid : Prop := probeGatesRow.holds Try.pinned (OpenSpec.ofChange probeGatesSpec)

/-- ITS FALSE NEIGHBOUR: 'it returns false'. Refute it at one input. -/
def probeGatesWrong : ChangeSpec := { name := "probeGates", fn := fun _ => fun
  | [d] => { results := [.lit (.bool false)], args := [d] }
  | _ => none }
def ProbeGatesWrongFalsely : Prop := probeGatesRow.holds Try.pinned (OpenSpec.ofChange probeGatesWrong)

/-- 'sastrugilaw02.ProbeStales': WHATEVER THE INPUT: true; the input reads as it did. -/
def probeStalesSpec : ChangeSpec := { name := "probeStales", fn := fun _ => fun
  | [d1, d2, d3, d4, d5] => { results := [.lit (.bool true)], args := [d1, d2, d3, d4, d5] }
  | _ => none }
def probeStalesRow : OpenClaim := { program := "ytajegdbljldakaa", sum := "927baaf7c06df4f35a953b9115d73f3f5682f1f988a6e03bcaee3871460ee742", func := "sastrugi/sastrugilaw02.ProbeStales", spec := "probeStales", unfollowed := true, recurses := true, apart := false }
def ProbeStalesSaid : Prop := probeStalesRow.holds Try.pinned (OpenSpec.ofChange probeStalesSpec)

/-- ITS FALSE NEIGHBOUR: 'it returns false'. Refute it at one input. -/
def probeStalesWrong : ChangeSpec := { name := "probeStales", fn := fun _ => fun
  | [d1, d2, d3, d4, d5] => { results := [.lit (.bool false)], args := [d1, d2, d3, d4, d5] }
  | _ => none }
def ProbeStalesWrongFalsely : Prop := probeStalesRow.holds Try.pinned (OpenSpec.ofChange probeStalesWrong)

/-- 'sastrugilaw02.ProbeFewest': WHATEVER THE INPUT: true; the input reads as it did. -/
def probeFewestSpec : ChangeSpec := { name := "probeFewest", fn := fun _ => fun
  | [d] => { results := [.lit (.bool true)], args := [d] }
  | _ => none }
def probeFewestRow : OpenClaim := { program := "ytajegdbljldakaa", sum := "927baaf7c06df4f35a953b9115d73f3f5682f1f988a6e03bcaee3871460ee742", func := "sastrugi/sastrugilaw02.ProbeFewest", spec := "probeFewest", unfollowed := true, recurses := true, apart := false }
def ProbeFewestSaid : Prop := probeFewestRow.holds Try.pinned (OpenSpec.ofChange probeFewestSpec)

/-- ITS FALSE NEIGHBOUR: 'it returns false'. Refute it at one input. -/
def probeFewestWrong : ChangeSpec := { name := "probeFewest", fn := fun _ => fun
  | [d] => { results := [.lit (.bool false)], args := [d] }
  | _ => none }
def ProbeFewestWrongFalsely : Prop := probeFewestRow.holds Try.pinned (OpenSpec.ofChange probeFewestWrong)

/-- 'sastrugilaw02.ProbeBreaks': WHATEVER THE INPUT: true; the input reads as it did. -/
def probeBreaksSpec : ChangeSpec := { name := "probeBreaks", fn := fun _ => fun
  | [d1, d2, d3, d4, d5] => { results := [.lit (.bool true)], args := [d1, d2, d3, d4, d5] }
  | _ => none }
def probeBreaksRow : OpenClaim := { program := "ytajegdbljldakaa", sum := "927baaf7c06df4f35a953b9115d73f3f5682f1f988a6e03bcaee3871460ee742", func := "sastrugi/sastrugilaw02.ProbeBreaks", spec := "probeBreaks", unfollowed := true, recurses := true, apart := false }
def ProbeBreaksSaid : Prop := probeBreaksRow.holds Try.pinned (OpenSpec.ofChange probeBreaksSpec)

/-- ITS FALSE NEIGHBOUR: 'it returns false'. Refute it at one input. -/
def probeBreaksWrong : ChangeSpec := { name := "probeBreaks", fn := fun _ => fun
  | [d1, d2, d3, d4, d5] => { results := [.lit (.bool false)], args := [d1, d2, d3, d4, d5] }
  | _ => none }
def ProbeBreaksWrongFalsely : Prop := probeBreaksRow.holds Try.pinned (OpenSpec.ofChange probeBreaksWrong)

/-- 'sastrugilaw02.ProbeTruth': WHATEVER THE INPUT: true; the input reads as it did. -/
def probeTruthSpec : ChangeSpec := { name := "probeTruth", fn := fun _ => fun
  | [d] => { results := [.lit (.bool true)], args := [d] }
  | _ => none }
def probeTruthRow : OpenClaim := { program := "ytajegdbljldakaa", sum := "927baaf7c06df4f35a953b9115d73f3f5682f1f988a6e03bcaee3871460ee742", func := "sastrugi/sastrugilaw02.ProbeTruth", spec := "probeTruth", unfollowed := true, recurses := true, apart := false }
def ProbeTruthSaid : Prop := probeTruthRow.holds Try.pinned (OpenSpec.ofChange probeTruthSpec)

/-- ITS FALSE NEIGHBOUR: 'it returns false'. Refute it at one input. -/
def probeTruthWrong : ChangeSpec := { name := "probeTruth", fn := fun _ => fun
  | [d] => { results := [.lit (.bool false)], args := [d] }
  | _ => none }
def ProbeTruthWrongFalsely : Prop := probeTruthRow.holds Try.pinned (OpenSpec.ofChange probeTruthWrong)

/-- 'sastrugilaw02.ProbeExact': WHATEVER THE INPUT: true; the input reads as it did. -/
def probeExactSpec : ChangeSpec := { name := "probeExact", fn := fun _ => fun
  | [d] => { results := [.lit (.bool true)], args := [d] }
  | _ => none }
def probeExactRow : OpenClaim := { program := "ytajegdbljldakaa", sum := "927baaf7c06df4f35a953b9115d73f3f5682f1f988a6e03bcaee3871460ee742", func := "sastrugi/sastrugilaw02.ProbeExact", spec := "probeExact", unfollowed := true, recurses := true, apart := false }
def ProbeExactSaid : Prop := probeExactRow.holds Try.pinned (OpenSpec.ofChange probeExactSpec)

/-- ITS FALSE NEIGHBOUR: 'it returns false'. Refute it at one input. -/
def probeExactWrong : ChangeSpec := { name := "probeExact", fn := fun _ => fun
  | [d] => { results := [.lit (.bool false)], args := [d] }
  | _ => none }
def ProbeExactWrongFalsely : Prop := probeExactRow.holds Try.pinned (OpenSpec.ofChange probeExactWrong)

/- THE SECOND FORM. 'bulk': how many values and letters a reading holds, each counted each time it is reached (what is shared counts as often as it is met; a slice's spare places count too). A statement '..UptoSaid' is the law's where the arguments, and the package variables that the reading takes, are together of bulk at most 1048576: NARROWER than '..Said'. Prove '..Said' where nothing that the law and all that it calls make is longer than what came in: it says more and counts as full. Else prove '..UptoSaid'. A law counts once. -/
mutual
def uptoBulk {H : Type} : DataW H → Nat
  | .lit (.string bytes) => bytes.length + 1
  | .lit _ => 1
  | .nil => 1
  | .ptr d => uptoBulk d + 1
  | .slice elems spare => uptoBulkAll elems + uptoBulkAll spare + 1
  | .agg parts => uptoBulkAll parts + 1
  | .iface _ d => uptoBulk d + 1
  | .map entries => uptoBulkEntries entries + 1
  | .held _ => 1
def uptoBulkAll {H : Type} : List (DataW H) → Nat
  | [] => 0
  | d :: r => uptoBulk d + uptoBulkAll r
def uptoBulkEntries {H : Type} : List (Lit × DataW H) → Nat
  | [] => 0
  | x :: r => uptoBulkEntry x + uptoBulkEntries r
def uptoBulkEntry {H : Type} : Lit × DataW H → Nat
  | (.string bytes, d) => bytes.length + uptoBulk d + 1
  | (_, d) => uptoBulk d + 1
 end
def uptoSmall : (H : Type) → List (DataW H) → Bool := fun _ ds => decide (uptoBulkAll ds ≤ 1048576)
def OpenSpec.upto (s : _root_.Go.ChangeSpec) : _root_.Go.OpenSpec := { _root_.Go.OpenSpec.ofChange s with cond := some uptoSmall }

/-- 'sastrugilaw02.ProbeNarrows', WHERE WHAT IT READS IS OF BULK AT MOST 1048576: true; the input reads as it did. -/
def probeNarrowsUptoRow : OpenClaim := { program := "ytajegdbljldakaa", sum := "927baaf7c06df4f35a953b9115d73f3f5682f1f988a6e03bcaee3871460ee742", func := "sastrugi/sastrugilaw02.ProbeNarrows", spec := "probeNarrows", unfollowed := true, recurses := true, apart := false, narrowed := true }
def ProbeNarrowsUptoSaid : Prop := probeNarrowsUptoRow.holds Try.pinned (OpenSpec.upto probeNarrowsSpec)

/-- 'sastrugilaw02.ProbeChecks', WHERE WHAT IT READS IS OF BULK AT MOST 1048576: true; the input reads as it did. -/
def probeChecksUptoRow : OpenClaim := { program := "ytajegdbljldakaa", sum := "927baaf7c06df4f35a953b9115d73f3f5682f1f988a6e03bcaee3871460ee742", func := "sastrugi/sastrugilaw02.ProbeChecks", spec := "probeChecks", unfollowed := true, recurses := true, apart := false, narrowed := true }
def ProbeChecksUptoSaid : Prop := probeChecksUptoRow.holds Try.pinned (OpenSpec.upto probeChecksSpec)

/-- 'sastrugilaw02.ProbeCovers', WHERE WHAT IT READS IS OF BULK AT MOST 1048576: true; the input reads as it did. -/
def probeCoversUptoRow : OpenClaim := { program := "ytajegdbljldakaa", sum := "927baaf7c06df4f35a953b9115d73f3f5682f1f988a6e03bcaee3871460ee742", func := "sastrugi/sastrugilaw02.ProbeCovers", spec := "probeCovers", unfollowed := true, recurses := true, apart := false, narrowed := true }
def ProbeCoversUptoSaid : Prop := probeCoversUptoRow.holds Try.pinned (OpenSpec.upto probeCoversSpec)

/-- 'sastrugilaw02.ProbeSpreads', WHERE WHAT IT READS IS OF BULK AT MOST 1048576: true; the input reads as it did. -/
def probeSpreadsUptoRow : OpenClaim := { program := "ytajegdbljldakaa", sum := "927baaf7c06df4f35a953b9115d73f3f5682f1f988a6e03bcaee3871460ee742", func := "sastrugi/sastrugilaw02.ProbeSpreads", spec := "probeSpreads", unfollowed := true, recurses := true, apart := false, narrowed := true }
def ProbeSpreadsUptoSaid : Prop := probeSpreadsUptoRow.holds Try.pinned (OpenSpec.upto probeSpreadsSpec)

/-- 'sastrugilaw02.ProbeKnows', WHERE WHAT IT READS IS OF BULK AT MOST 1048576: true; the input reads as it did. -/
def probeKnowsUptoRow : OpenClaim := { program := "ytajegdbljldakaa", sum := "927baaf7c06df4f35a953b9115d73f3f5682f1f988a6e03bcaee3871460ee742", func := "sastrugi/sastrugilaw02.ProbeKnows", spec := "probeKnows", unfollowed := true, recurses := true, apart := false, narrowed := true }
def ProbeKnowsUptoSaid : Prop := probeKnowsUptoRow.holds Try.pinned (OpenSpec.upto probeKnowsSpec)

/-- 'sastrugilaw02.ProbeLeast', WHERE WHAT IT READS IS OF BULK AT MOST 1048576: true; the input reads as it did. -/
def probeLeastUptoRow : OpenClaim := { program := "ytajegdbljldakaa", sum := "927baaf7c06df4f35a953b9115d73f3f5682f1f988a6e03bcaee3871460ee742", func := "sastrugi/sastrugilaw02.ProbeLeast", spec := "probeLeast", unfollowed := true, recurses := true, apart := false, narrowed := true }
def ProbeLeastUptoSaid : Prop := probeLeastUptoRow.holds Try.pinned (OpenSpec.upto probeLeastSpec)

/-- 'sastrugilaw02.ProbeCloses', WHERE WHAT IT READS IS OF BULK AT MOST 1048576: true; the input reads as it did. -/
def probeClosesUptoRow : OpenClaim := { program := "ytajegdbljldakaa", sum := "927baaf7c06df4f35a953b9115d73f3f5682f1f988a6e03bcaee3871460ee742", func := "sastrugi/sastrugilaw02.ProbeCloses", spec := "probeCloses", unfollowed := true, recurses := true, apart := false, narrowed := true }
def ProbeClosesUptoSaid : Prop := probeClosesUptoRow.holds Try.pinned (OpenSpec.upto probeClosesSpec)

/-- 'sastrugilaw02.ProbeLasts', WHERE WHAT IT READS IS OF BULK AT MOST 1048576: true; the input reads as it did. -/
def probeLastsUptoRow : OpenClaim := { program := "ytajegdbljldakaa", sum := "927baaf7c06df4f35a953b9115d73f3f5682f1f988a6e03bcaee3871460ee742", func := "sastrugi/sastrugilaw02.ProbeLasts", spec := "probeLasts", unfollowed := true, recurses := true, apart := false, narrowed := true }
def ProbeLastsUptoSaid : Prop := probeLastsUptoRow.holds Try.pinned (OpenSpec.upto probeLastsSpec)

/-- 'sastrugilaw02.ProbeGates', WHERE WHAT IT READS IS OF BULK AT MOST 1048576: true; the input reads as it did. -/
def probeGatesUptoRow : OpenClaim := { program := "ytajegdbljldakaa", sum := "927baaf7c06df4f35a953b9115d73f3f5682f1f988a6e03bcaee3871460ee742", func := "sastrugi/sastrugilaw02.ProbeGates", spec := "probeGates", unfollowed := true, recurses := true, apart := false, narrowed := true }
def ProbeGatesUptoSaid : Prop := probeGatesUptoRow.holds Try.pinned (OpenSpec.upto probeGatesSpec)

/-- 'sastrugilaw02.ProbeStales', WHERE WHAT IT READS IS OF BULK AT MOST 1048576: true; the input reads as it did. -/
def probeStalesUptoRow : OpenClaim := { program := "ytajegdbljldakaa", sum := "927baaf7c06df4f35a953b9115d73f3f5682f1f988a6e03bcaee3871460ee742", func := "sastrugi/sastrugilaw02.ProbeStales", spec := "probeStales", unfollowed := true, recurses := true, apart := false, narrowed := true }
def ProbeStalesUptoSaid : Prop := probeStalesUptoRow.holds Try.pinned (OpenSpec.upto probeStalesSpec)

/-- 'sastrugilaw02.ProbeFewest', WHERE WHAT IT READS IS OF BULK AT MOST 1048576: true; the input reads as it did. -/
def probeFewestUptoRow : OpenClaim := { program := "ytajegdbljldakaa", sum := "927baaf7c06df4f35a953b9115d73f3f5682f1f988a6e03bcaee3871460ee742", func := "sastrugi/sastrugilaw02.ProbeFewest", spec := "probeFewest", unfollowed := true, recurses := true, apart := false, narrowed := true }
def ProbeFewestUptoSaid : Prop := probeFewestUptoRow.holds Try.pinned (OpenSpec.upto probeFewestSpec)

/-- 'sastrugilaw02.ProbeBreaks', WHERE WHAT IT READS IS OF BULK AT MOST 1048576: true; the input reads as it did. -/
def probeBreaksUptoRow : OpenClaim := { program := "ytajegdbljldakaa", sum := "927baaf7c06df4f35a953b9115d73f3f5682f1f988a6e03bcaee3871460ee742", func := "sastrugi/sastrugilaw02.ProbeBreaks", spec := "probeBreaks", unfollowed := true, recurses := true, apart := false, narrowed := true }
def ProbeBreaksUptoSaid : Prop := probeBreaksUptoRow.holds Try.pinned (OpenSpec.upto probeBreaksSpec)

/-- 'sastrugilaw02.ProbeTruth', WHERE WHAT IT READS IS OF BULK AT MOST 1048576: true; the input reads as it did. -/
def probeTruthUptoRow : OpenClaim := { program := "ytajegdbljldakaa", sum := "927baaf7c06df4f35a953b9115d73f3f5682f1f988a6e03bcaee3871460ee742", func := "sastrugi/sastrugilaw02.ProbeTruth", spec := "probeTruth", unfollowed := true, recurses := true, apart := false, narrowed := true }
def ProbeTruthUptoSaid : Prop := probeTruthUptoRow.holds Try.pinned (OpenSpec.upto probeTruthSpec)

/-- 'sastrugilaw02.ProbeExact', WHERE WHAT IT READS IS OF BULK AT MOST 1048576: true; the input reads as it did. -/
def probeExactUptoRow : OpenClaim := { program := "ytajegdbljldakaa", sum := "927baaf7c06df4f35a953b9115d73f3f5682f1f988a6e03bcaee3871460ee742", func := "sastrugi/sastrugilaw02.ProbeExact", spec := "probeExact", unfollowed := true, recurses := true, apart := false, narrowed := true }
def ProbeExactUptoSaid : Prop := probeExactUptoRow.holds Try.pinned (OpenSpec.upto probeExactSpec)

end Rows
end Go.Proofs.Ytajegdbljldakaa
