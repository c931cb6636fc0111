/-
  DERIVED. GIVEN WITH THE SEED: THE CARDS: each row of YtaeaamhlejhgkaaGreatDoorRows.lean that lists a variable, with what it lists TIED to the program's text (the seventh form; the later family's looks); each row that meets fmt, with fmt's text TOLD by the authors' own Lean function (tested against real Go, not proved from fmt's source: count such statements apart). THE CARD IS WHAT COUNTS. Prove the row's statement (the work); the ties are given (YtaeaamhlejhgkaaGreatDoorTie.lean); close each card by the builder's one call (the guide's Derived/Test/ToyasCard.lean, 'card_holds'). Laid BY PROGRAM, IN A SANDBOX (cutbox-door.mjs). By AI agents, Wed Nov 11 2026. No macro, syntax, notation, axiom, sorry.
-/
import Derived.Test.YtaeaamhlejhgkaaGreatDoorRows
import GoSem.ClaimSeven
namespace Go.Proofs.YtaeaamhlejhgkaaGreatDoor
namespace Rows

/-- THE TIED CARD OF 'sastrugilaw08.FreightTexts'. -/
def freightTextsCard : Claim7 := { stood := { row := freightTextsRow, standIns := [], harness := (true, "b45f92db23daa099eb47e19316881c984984815fa67aa30cf795bf938c58acfa"), looks := true }, kinds := [], alts := [], laidByText := true, laidKinds := [.data, .data, .data, .data, .sentinel, .sentinel, .pinned], laidTests := true, laidLooks := .later }
def FreightTextsCardSaid : Prop := Claim7.holds Tryz.pinned (.plain (OpenSpec.ofChange freightTextsSpec)) freightTextsCard

/-- THE TIED CARD OF 'sastrugilaw08.FreightTape'. -/
def freightTapeCard : Claim7 := { stood := { row := freightTapeRow, standIns := [], harness := (true, "b45f92db23daa099eb47e19316881c984984815fa67aa30cf795bf938c58acfa"), looks := true }, kinds := [], alts := [], laidByText := true, laidKinds := [.data, .data, .data, .data, .sentinel, .sentinel, .pinned], laidTests := true, laidLooks := .later }
def FreightTapeCardSaid : Prop := Claim7.holds Tryz.pinned (.plain (OpenSpec.ofChange freightTapeSpec)) freightTapeCard

/-- THE SECOND FORM's CARD OF 'sastrugilaw08.FreightTexts'. -/
def freightTextsUptoCard : Claim7 := { stood := { row := freightTextsUptoRow, standIns := [], harness := (true, "b45f92db23daa099eb47e19316881c984984815fa67aa30cf795bf938c58acfa"), looks := true }, kinds := [], alts := [], laidByText := true, laidKinds := [.data, .data, .data, .data, .sentinel, .sentinel, .pinned], laidTests := true, laidLooks := .later }
def FreightTextsUptoCardSaid : Prop := Claim7.holds Tryz.pinned (.plain (OpenSpec.upto freightTextsSpec)) freightTextsUptoCard

/-- THE SECOND FORM's CARD OF 'sastrugilaw08.FreightTape'. -/
def freightTapeUptoCard : Claim7 := { stood := { row := freightTapeUptoRow, standIns := [], harness := (true, "b45f92db23daa099eb47e19316881c984984815fa67aa30cf795bf938c58acfa"), looks := true }, kinds := [], alts := [], laidByText := true, laidKinds := [.data, .data, .data, .data, .sentinel, .sentinel, .pinned], laidTests := true, laidLooks := .later }
def FreightTapeUptoCardSaid : Prop := Claim7.holds Tryz.pinned (.plain (OpenSpec.upto freightTapeSpec)) freightTapeUptoCard
end Rows
end Go.Proofs.YtaeaamhlejhgkaaGreatDoor
