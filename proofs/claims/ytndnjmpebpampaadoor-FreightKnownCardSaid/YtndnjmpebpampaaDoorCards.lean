/-
  DERIVED. GIVEN WITH THE SEED: THE CARDS: each row of YtndnjmpebpampaaDoorRows.lean that lists a variable, with what it lists TIED to the program's text (the seventh form; the later family's looks); each row that meets fmt, with fmt's text TOLD by the authors' own Lean function (tested against real Go, not proved from fmt's source: count such statements apart). THE CARD IS WHAT COUNTS. Prove the row's statement (the work); the ties are given (YtndnjmpebpampaaDoorTie.lean); close each card by the builder's one call (the guide's Derived/Test/ToyasCard.lean, 'card_holds'). Laid BY PROGRAM, IN A SANDBOX (cutbox-door.mjs). By AI agents, Wed Nov 11 2026. No macro, syntax, notation, axiom, sorry.
-/
import Derived.Test.YtndnjmpebpampaaDoorRows
import GoSem.ClaimSeven
namespace Go.Proofs.YtndnjmpebpampaaDoor
namespace Rows

/-- THE TIED CARD OF 'sastrugilaw08.FreightKnown'. -/
def freightKnownCard : Claim7 := { stood := { row := freightKnownRow, standIns := [], harness := (true, "9e553f90f40e638ac1cd3d9716b84de3df3236a070c42bae9cdf8c53ef26d8ca"), looks := false }, kinds := [], alts := [], laidByText := true, laidKinds := [.data, .data, .data], laidTests := true, laidLooks := .later }
def FreightKnownCardSaid : Prop := Claim7.holds Tryd.pinned (.plain (OpenSpec.ofChange freightKnownSpec)) freightKnownCard

/-- THE SECOND FORM's CARD OF 'sastrugilaw08.FreightKnown'. -/
def freightKnownUptoCard : Claim7 := { stood := { row := freightKnownUptoRow, standIns := [], harness := (true, "9e553f90f40e638ac1cd3d9716b84de3df3236a070c42bae9cdf8c53ef26d8ca"), looks := false }, kinds := [], alts := [], laidByText := true, laidKinds := [.data, .data, .data], laidTests := true, laidLooks := .later }
def FreightKnownUptoCardSaid : Prop := Claim7.holds Tryd.pinned (.plain (OpenSpec.upto freightKnownSpec)) freightKnownUptoCard
end Rows
end Go.Proofs.YtndnjmpebpampaaDoor
