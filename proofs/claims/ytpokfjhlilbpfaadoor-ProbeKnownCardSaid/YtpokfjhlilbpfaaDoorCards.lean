/-
  DERIVED. GIVEN WITH THE SEED: THE CARDS: each row of YtpokfjhlilbpfaaDoorRows.lean that lists a variable, with what it lists TIED to the program's text (the seventh form; the later family's looks); each row that meets fmt, with fmt's text TOLD by the authors' own Lean function (tested against real Go, not proved from fmt's source: count such statements apart). THE CARD IS WHAT COUNTS. Prove the row's statement (the work); the ties are given (YtpokfjhlilbpfaaDoorTie.lean); close each card by the builder's one call (the guide's Derived/Test/ToyasCard.lean, 'card_holds'). Laid BY PROGRAM, IN A SANDBOX (cutbox-door.mjs). By AI agents, Wed Nov 11 2026. No macro, syntax, notation, axiom, sorry.
-/
import Derived.Test.YtpokfjhlilbpfaaDoorRows
import GoSem.ClaimSeven
namespace Go.Proofs.YtpokfjhlilbpfaaDoor
namespace Rows

/-- THE TIED CARD OF 'sastrugilaw02.ProbeKnown'. -/
def probeKnownCard : Claim7 := { stood := { row := probeKnownRow, standIns := [], harness := (true, "bae6a33027e1c029b7f642d74109dec1e7eb170d46f70c4157fe73348921b13f"), looks := false }, kinds := [], alts := [], laidByText := true, laidKinds := [.data, .data, .data], laidTests := true, laidLooks := .later }
def ProbeKnownCardSaid : Prop := Claim7.holds Tryd.pinned (.plain (OpenSpec.ofChange probeKnownSpec)) probeKnownCard

/-- THE SECOND FORM's CARD OF 'sastrugilaw02.ProbeKnown'. -/
def probeKnownUptoCard : Claim7 := { stood := { row := probeKnownUptoRow, standIns := [], harness := (true, "bae6a33027e1c029b7f642d74109dec1e7eb170d46f70c4157fe73348921b13f"), looks := false }, kinds := [], alts := [], laidByText := true, laidKinds := [.data, .data, .data], laidTests := true, laidLooks := .later }
def ProbeKnownUptoCardSaid : Prop := Claim7.holds Tryd.pinned (.plain (OpenSpec.upto probeKnownSpec)) probeKnownUptoCard
end Rows
end Go.Proofs.YtpokfjhlilbpfaaDoor
