/-
  DERIVED. GIVEN WITH THE SEED: THE CARDS: each row of YtndnjmpebpampaaGreatDoorRows.lean that lists a variable, with what it lists TIED to the program's text (the seventh form; the later family's looks); each row that meets fmt, with fmt's text TOLD by the authors' own Lean function (tested against real Go, not proved from fmt's source: count such statements apart). THE CARD IS WHAT COUNTS. Prove the row's statement (the work); the ties are given (YtndnjmpebpampaaGreatDoorTie.lean); close each card by the builder's one call (the guide's Derived/Test/ToyasCard.lean, 'card_holds'). Laid BY PROGRAM, IN A SANDBOX (cutbox-door.mjs). By AI agents, Wed Nov 11 2026. No macro, syntax, notation, axiom, sorry.
-/
import Derived.Test.YtndnjmpebpampaaGreatDoorRows
import GoSem.ClaimSeven
namespace Go.Proofs.YtndnjmpebpampaaGreatDoor
namespace Rows

/-- THE TIED CARD OF 'sastrugitop.TopLane'. -/
def topLaneCard : Claim7 := { stood := { row := topLaneRow, standIns := [], harness := (true, "02373ce7b8197cf62c405c608bf200785ef4d6b1054d30d7a39a38d2d355c53a"), looks := false }, kinds := [], alts := [], laidByText := true, laidKinds := [.data], laidTests := true, laidLooks := .later }
def TopLaneCardSaid : Prop := Claim7.holds Tryz.pinned (.plain (OpenSpec.ofChange topLaneSpec)) topLaneCard

/-- THE SECOND FORM's CARD OF 'sastrugitop.TopLane'. -/
def topLaneUptoCard : Claim7 := { stood := { row := topLaneUptoRow, standIns := [], harness := (true, "02373ce7b8197cf62c405c608bf200785ef4d6b1054d30d7a39a38d2d355c53a"), looks := false }, kinds := [], alts := [], laidByText := true, laidKinds := [.data], laidTests := true, laidLooks := .later }
def TopLaneUptoCardSaid : Prop := Claim7.holds Tryz.pinned (.plain (OpenSpec.upto topLaneSpec)) topLaneUptoCard
end Rows
end Go.Proofs.YtndnjmpebpampaaGreatDoor
