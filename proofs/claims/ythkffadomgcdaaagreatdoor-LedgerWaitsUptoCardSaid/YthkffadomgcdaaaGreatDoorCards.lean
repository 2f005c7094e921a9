/-
  DERIVED. GIVEN WITH THE SEED: THE CARDS: each row of YthkffadomgcdaaaGreatDoorRows.lean that lists a variable, with what it lists TIED to the program's text (the seventh form; the later family's looks); each row that meets fmt, with fmt's text TOLD by the authors' own Lean function (tested against real Go, not proved from fmt's source: count such statements apart). THE CARD IS WHAT COUNTS. Prove the row's statement (the work); the ties are given (YthkffadomgcdaaaGreatDoorTie.lean); close each card by the builder's one call (the guide's Derived/Test/ToyasCard.lean, 'card_holds'). Laid BY PROGRAM, IN A SANDBOX (cutbox-door.mjs). By AI agents, Wed Nov 11 2026. No macro, syntax, notation, axiom, sorry.
-/
import Derived.Test.YthkffadomgcdaaaGreatDoorRows
import GoSem.ClaimSeven
namespace Go.Proofs.YthkffadomgcdaaaGreatDoor
namespace Rows

/-- THE TIED CARD OF 'bayoulaw06.LedgerAsks'. -/
def ledgerAsksCard : Claim7 := { stood := { row := ledgerAsksRow, standIns := [], harness := (true, "39a17458744519301cc8ba26af760cb40ebf64efd0c9c170b246aa4efc195061"), looks := true }, kinds := [], alts := [], laidByText := true, laidKinds := [.handle, .data], laidTests := true, laidLooks := .later }
def LedgerAsksCardSaid : Prop := Claim7.holds Tryz.pinned (.plain (OpenSpec.ofChange ledgerAsksSpec)) ledgerAsksCard

/-- THE TIED CARD OF 'bayoulaw06.LedgerWaits'. -/
def ledgerWaitsCard : Claim7 := { stood := { row := ledgerWaitsRow, standIns := [], harness := (true, "39a17458744519301cc8ba26af760cb40ebf64efd0c9c170b246aa4efc195061"), looks := true }, kinds := [], alts := [], laidByText := true, laidKinds := [.handle, .data], laidTests := true, laidLooks := .later }
def LedgerWaitsCardSaid : Prop := Claim7.holds Tryz.pinned (.plain (OpenSpec.ofChange ledgerWaitsSpec)) ledgerWaitsCard

/-- THE SECOND FORM's CARD OF 'bayoulaw06.LedgerAsks'. -/
def ledgerAsksUptoCard : Claim7 := { stood := { row := ledgerAsksUptoRow, standIns := [], harness := (true, "39a17458744519301cc8ba26af760cb40ebf64efd0c9c170b246aa4efc195061"), looks := true }, kinds := [], alts := [], laidByText := true, laidKinds := [.handle, .data], laidTests := true, laidLooks := .later }
def LedgerAsksUptoCardSaid : Prop := Claim7.holds Tryz.pinned (.plain (OpenSpec.upto ledgerAsksSpec)) ledgerAsksUptoCard

/-- THE SECOND FORM's CARD OF 'bayoulaw06.LedgerWaits'. -/
def ledgerWaitsUptoCard : Claim7 := { stood := { row := ledgerWaitsUptoRow, standIns := [], harness := (true, "39a17458744519301cc8ba26af760cb40ebf64efd0c9c170b246aa4efc195061"), looks := true }, kinds := [], alts := [], laidByText := true, laidKinds := [.handle, .data], laidTests := true, laidLooks := .later }
def LedgerWaitsUptoCardSaid : Prop := Claim7.holds Tryz.pinned (.plain (OpenSpec.upto ledgerWaitsSpec)) ledgerWaitsUptoCard
end Rows
end Go.Proofs.YthkffadomgcdaaaGreatDoor
