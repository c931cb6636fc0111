/-
  DERIVED. GIVEN WITH THE SEED: THE CARDS: each row of YtpokfjhlilbpfaaGreatDoorRows.lean that lists a variable, with what it lists TIED to the program's text (the seventh form; the later family's looks); each row that meets fmt, with fmt's text TOLD by the authors' own Lean function (tested against real Go, not proved from fmt's source: count such statements apart). THE CARD IS WHAT COUNTS. Prove the row's statement (the work); the ties are given (YtpokfjhlilbpfaaGreatDoorTie.lean); close each card by the builder's one call (the guide's Derived/Test/ToyasCard.lean, 'card_holds'). Laid BY PROGRAM, IN A SANDBOX (cutbox-door.mjs). By AI agents, Wed Nov 11 2026. No macro, syntax, notation, axiom, sorry.
-/
import Derived.Test.YtpokfjhlilbpfaaGreatDoorRows
import GoSem.ClaimSeven
namespace Go.Proofs.YtpokfjhlilbpfaaGreatDoor
namespace Rows

/-- THE TIED CARD OF 'sastrugilaw02.ProbeTape'. -/
def probeTapeCard : Claim7 := { stood := { row := probeTapeRow, standIns := [], harness := (true, "6809371b438a1e4c100830ab730e54fbc0e6278faa738a371faeae1635b8a5e0"), looks := true }, kinds := [], alts := [], laidByText := true, laidKinds := [.data, .data, .data, .data, .sentinel, .sentinel, .pinned], laidTests := true, laidLooks := .later }
def ProbeTapeCardSaid : Prop := Claim7.holds Tryz.pinned (.plain (OpenSpec.ofChange probeTapeSpec)) probeTapeCard

/-- THE TIED CARD OF 'sastrugilaw02.ProbeTracks'. -/
def probeTracksCard : Claim7 := { stood := { row := probeTracksRow, standIns := [], harness := (true, "6809371b438a1e4c100830ab730e54fbc0e6278faa738a371faeae1635b8a5e0"), looks := true }, kinds := [], alts := [], laidByText := true, laidKinds := [.data, .data, .data, .data, .sentinel, .sentinel, .pinned], laidTests := true, laidLooks := .later }
def ProbeTracksCardSaid : Prop := Claim7.holds Tryz.pinned (.plain (OpenSpec.ofChange probeTracksSpec)) probeTracksCard

/-- THE SECOND FORM's CARD OF 'sastrugilaw02.ProbeTape'. -/
def probeTapeUptoCard : Claim7 := { stood := { row := probeTapeUptoRow, standIns := [], harness := (true, "6809371b438a1e4c100830ab730e54fbc0e6278faa738a371faeae1635b8a5e0"), looks := true }, kinds := [], alts := [], laidByText := true, laidKinds := [.data, .data, .data, .data, .sentinel, .sentinel, .pinned], laidTests := true, laidLooks := .later }
def ProbeTapeUptoCardSaid : Prop := Claim7.holds Tryz.pinned (.plain (OpenSpec.upto probeTapeSpec)) probeTapeUptoCard

/-- THE SECOND FORM's CARD OF 'sastrugilaw02.ProbeTracks'. -/
def probeTracksUptoCard : Claim7 := { stood := { row := probeTracksUptoRow, standIns := [], harness := (true, "6809371b438a1e4c100830ab730e54fbc0e6278faa738a371faeae1635b8a5e0"), looks := true }, kinds := [], alts := [], laidByText := true, laidKinds := [.data, .data, .data, .data, .sentinel, .sentinel, .pinned], laidTests := true, laidLooks := .later }
def ProbeTracksUptoCardSaid : Prop := Claim7.holds Tryz.pinned (.plain (OpenSpec.upto probeTracksSpec)) probeTracksUptoCard
end Rows
end Go.Proofs.YtpokfjhlilbpfaaGreatDoor
