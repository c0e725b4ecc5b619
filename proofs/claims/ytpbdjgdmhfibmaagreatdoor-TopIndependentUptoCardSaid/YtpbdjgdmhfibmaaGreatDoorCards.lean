/-
  DERIVED. GIVEN WITH THE SEED: THE CARDS: each row of YtpbdjgdmhfibmaaGreatDoorRows.lean that lists a variable, with what it lists TIED to the program's text (the seventh form; the later family's looks); each row that meets fmt, with fmt's text TOLD by the authors' own Lean function (tested against real Go, not proved from fmt's source: count such statements apart). THE CARD IS WHAT COUNTS. Prove the row's statement (the work); the ties are given (YtpbdjgdmhfibmaaGreatDoorTie.lean); close each card by the builder's one call (the guide's Derived/Test/ToyasCard.lean, 'card_holds'). Laid BY PROGRAM, IN A SANDBOX (cutbox-door.mjs). By AI agents, Wed Nov 11 2026. No macro, syntax, notation, axiom, sorry.
-/
import Derived.Test.YtpbdjgdmhfibmaaGreatDoorRows
import GoSem.ClaimSeven
namespace Go.Proofs.YtpbdjgdmhfibmaaGreatDoor
namespace Rows

/-- THE TIED CARD OF 'clockworktop.TopDataflow'. -/
def topDataflowCard : Claim7 := { stood := { row := topDataflowRow, standIns := [], harness := (true, "8c14a201b4d26c9e72a3820ad08281e02cec0c9cebdea3ee2a8c62870946d5a6"), looks := true }, kinds := [], alts := [], laidByText := true, laidKinds := [.data, .data, .data], laidTests := true, laidLooks := .later }
def TopDataflowCardSaid : Prop := Claim7.holds Tryz.pinned (.plain (OpenSpec.ofChange topDataflowSpec)) topDataflowCard

/-- THE TIED CARD OF 'clockworktop.TopIndependent'. -/
def topIndependentCard : Claim7 := { stood := { row := topIndependentRow, standIns := [], harness := (true, "8c14a201b4d26c9e72a3820ad08281e02cec0c9cebdea3ee2a8c62870946d5a6"), looks := true }, kinds := [], alts := [], laidByText := true, laidKinds := [.data, .data, .data], laidTests := true, laidLooks := .later }
def TopIndependentCardSaid : Prop := Claim7.holds Tryz.pinned (.plain (OpenSpec.ofChange topIndependentSpec)) topIndependentCard

/-- THE SECOND FORM's CARD OF 'clockworktop.TopDataflow'. -/
def topDataflowUptoCard : Claim7 := { stood := { row := topDataflowUptoRow, standIns := [], harness := (true, "8c14a201b4d26c9e72a3820ad08281e02cec0c9cebdea3ee2a8c62870946d5a6"), looks := true }, kinds := [], alts := [], laidByText := true, laidKinds := [.data, .data, .data], laidTests := true, laidLooks := .later }
def TopDataflowUptoCardSaid : Prop := Claim7.holds Tryz.pinned (.plain (OpenSpec.upto topDataflowSpec)) topDataflowUptoCard

/-- THE SECOND FORM's CARD OF 'clockworktop.TopIndependent'. -/
def topIndependentUptoCard : Claim7 := { stood := { row := topIndependentUptoRow, standIns := [], harness := (true, "8c14a201b4d26c9e72a3820ad08281e02cec0c9cebdea3ee2a8c62870946d5a6"), looks := true }, kinds := [], alts := [], laidByText := true, laidKinds := [.data, .data, .data], laidTests := true, laidLooks := .later }
def TopIndependentUptoCardSaid : Prop := Claim7.holds Tryz.pinned (.plain (OpenSpec.upto topIndependentSpec)) topIndependentUptoCard
end Rows
end Go.Proofs.YtpbdjgdmhfibmaaGreatDoor
