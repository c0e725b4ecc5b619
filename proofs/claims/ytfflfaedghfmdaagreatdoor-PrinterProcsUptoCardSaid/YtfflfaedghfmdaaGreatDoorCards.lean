/-
  DERIVED. GIVEN WITH THE SEED: THE CARDS: each row of YtfflfaedghfmdaaGreatDoorRows.lean that lists a variable, with what it lists TIED to the program's text (the seventh form; the later family's looks); each row that meets fmt, with fmt's text TOLD by the authors' own Lean function (tested against real Go, not proved from fmt's source: count such statements apart). THE CARD IS WHAT COUNTS. Prove the row's statement (the work); the ties are given (YtfflfaedghfmdaaGreatDoorTie.lean); close each card by the builder's one call (the guide's Derived/Test/ToyasCard.lean, 'card_holds'). Laid BY PROGRAM, IN A SANDBOX (cutbox-door.mjs). By AI agents, Wed Nov 11 2026. No macro, syntax, notation, axiom, sorry.
-/
import Derived.Test.YtfflfaedghfmdaaGreatDoorRows
import GoSem.ClaimSeven
namespace Go.Proofs.YtfflfaedghfmdaaGreatDoor
namespace Rows

/-- THE TIED CARD OF 'clockworklaw09.PrinterProcs'. -/
def printerProcsCard : Claim7 := { stood := { row := printerProcsRow, standIns := [], harness := (true, "a42b3f0c6100bd722fa1b0bac3298429b83cc3cc776a5ba7a2ed8b65af68dd04"), looks := false }, kinds := [], alts := [], laidByText := true, laidKinds := [.data, .data, .data], laidTests := true, laidLooks := .later }
def PrinterProcsCardSaid : Prop := Claim7.holds Tryz.pinned (.plain (OpenSpec.ofChange printerProcsSpec)) printerProcsCard

/-- THE SECOND FORM's CARD OF 'clockworklaw09.PrinterProcs'. -/
def printerProcsUptoCard : Claim7 := { stood := { row := printerProcsUptoRow, standIns := [], harness := (true, "a42b3f0c6100bd722fa1b0bac3298429b83cc3cc776a5ba7a2ed8b65af68dd04"), looks := false }, kinds := [], alts := [], laidByText := true, laidKinds := [.data, .data, .data], laidTests := true, laidLooks := .later }
def PrinterProcsUptoCardSaid : Prop := Claim7.holds Tryz.pinned (.plain (OpenSpec.upto printerProcsSpec)) printerProcsUptoCard
end Rows
end Go.Proofs.YtfflfaedghfmdaaGreatDoor
