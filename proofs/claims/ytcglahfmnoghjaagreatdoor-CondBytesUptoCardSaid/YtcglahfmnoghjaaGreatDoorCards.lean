/-
  DERIVED. GIVEN WITH THE SEED: THE CARDS: each row of YtcglahfmnoghjaaGreatDoorRows.lean that lists a variable, with what it lists TIED to the program's text (the seventh form; the later family's looks); each row that meets fmt, with fmt's text TOLD by the authors' own Lean function (tested against real Go, not proved from fmt's source: count such statements apart). THE CARD IS WHAT COUNTS. Prove the row's statement (the work); the ties are given (YtcglahfmnoghjaaGreatDoorTie.lean); close each card by the builder's one call (the guide's Derived/Test/ToyasCard.lean, 'card_holds'). Laid BY PROGRAM, IN A SANDBOX (cutbox-door.mjs). By AI agents, Wed Nov 11 2026. No macro, syntax, notation, axiom, sorry.
-/
import Derived.Test.YtcglahfmnoghjaaGreatDoorRows
import GoSem.ClaimSeven
namespace Go.Proofs.YtcglahfmnoghjaaGreatDoor
namespace Rows

/-- THE TIED CARD OF 'bayoulaw05.TxPoints'. -/
def txPointsCard : Claim7 := { stood := { row := txPointsRow, standIns := [], harness := (true, "d33bcadaabdc44ed92e682acc8ee4b86d1877488929fd90b1b9ea6595d76146b"), looks := true }, kinds := [], alts := [], laidByText := true, laidKinds := [.handle, .data], laidTests := true, laidLooks := .later }
def TxPointsCardSaid : Prop := Claim7.holds Tryz.pinned (.plain (OpenSpec.ofChange txPointsSpec)) txPointsCard

/-- THE TIED CARD OF 'bayoulaw04.CondBytes'. -/
def condBytesCard : Claim7 := { stood := { row := condBytesRow, standIns := [], harness := (true, "d33bcadaabdc44ed92e682acc8ee4b86d1877488929fd90b1b9ea6595d76146b"), looks := true }, kinds := [], alts := [], laidByText := true, laidKinds := [.handle, .data], laidTests := true, laidLooks := .later }
def CondBytesCardSaid : Prop := Claim7.holds Tryz.pinned (.plain (OpenSpec.ofChange condBytesSpec)) condBytesCard

/-- THE TIED CARD OF 'bayoulaw05.TxBytes'. -/
def txBytesCard : Claim7 := { stood := { row := txBytesRow, standIns := [], harness := (true, "d33bcadaabdc44ed92e682acc8ee4b86d1877488929fd90b1b9ea6595d76146b"), looks := true }, kinds := [], alts := [], laidByText := true, laidKinds := [.handle, .data], laidTests := true, laidLooks := .later }
def TxBytesCardSaid : Prop := Claim7.holds Tryz.pinned (.plain (OpenSpec.ofChange txBytesSpec)) txBytesCard

/-- THE TIED CARD OF 'bayoulaw05.TxBack'. -/
def txBackCard : Claim7 := { stood := { row := txBackRow, standIns := [], harness := (true, "d33bcadaabdc44ed92e682acc8ee4b86d1877488929fd90b1b9ea6595d76146b"), looks := true }, kinds := [], alts := [], laidByText := true, laidKinds := [.handle, .data], laidTests := true, laidLooks := .later }
def TxBackCardSaid : Prop := Claim7.holds Tryz.pinned (.plain (OpenSpec.ofChange txBackSpec)) txBackCard

/-- THE TIED CARD OF 'bayoulaw05.TxReads'. -/
def txReadsCard : Claim7 := { stood := { row := txReadsRow, standIns := [], harness := (true, "d33bcadaabdc44ed92e682acc8ee4b86d1877488929fd90b1b9ea6595d76146b"), looks := true }, kinds := [], alts := [], laidByText := true, laidKinds := [.handle, .data], laidTests := true, laidLooks := .later }
def TxReadsCardSaid : Prop := Claim7.holds Tryz.pinned (.plain (OpenSpec.ofChange txReadsSpec)) txReadsCard

/-- THE SECOND FORM's CARD OF 'bayoulaw05.TxPoints'. -/
def txPointsUptoCard : Claim7 := { stood := { row := txPointsUptoRow, standIns := [], harness := (true, "d33bcadaabdc44ed92e682acc8ee4b86d1877488929fd90b1b9ea6595d76146b"), looks := true }, kinds := [], alts := [], laidByText := true, laidKinds := [.handle, .data], laidTests := true, laidLooks := .later }
def TxPointsUptoCardSaid : Prop := Claim7.holds Tryz.pinned (.plain (OpenSpec.upto txPointsSpec)) txPointsUptoCard

/-- THE SECOND FORM's CARD OF 'bayoulaw04.CondBytes'. -/
def condBytesUptoCard : Claim7 := { stood := { row := condBytesUptoRow, standIns := [], harness := (true, "d33bcadaabdc44ed92e682acc8ee4b86d1877488929fd90b1b9ea6595d76146b"), looks := true }, kinds := [], alts := [], laidByText := true, laidKinds := [.handle, .data], laidTests := true, laidLooks := .later }
def CondBytesUptoCardSaid : Prop := Claim7.holds Tryz.pinned (.plain (OpenSpec.upto condBytesSpec)) condBytesUptoCard

/-- THE SECOND FORM's CARD OF 'bayoulaw05.TxBytes'. -/
def txBytesUptoCard : Claim7 := { stood := { row := txBytesUptoRow, standIns := [], harness := (true, "d33bcadaabdc44ed92e682acc8ee4b86d1877488929fd90b1b9ea6595d76146b"), looks := true }, kinds := [], alts := [], laidByText := true, laidKinds := [.handle, .data], laidTests := true, laidLooks := .later }
def TxBytesUptoCardSaid : Prop := Claim7.holds Tryz.pinned (.plain (OpenSpec.upto txBytesSpec)) txBytesUptoCard

/-- THE SECOND FORM's CARD OF 'bayoulaw05.TxBack'. -/
def txBackUptoCard : Claim7 := { stood := { row := txBackUptoRow, standIns := [], harness := (true, "d33bcadaabdc44ed92e682acc8ee4b86d1877488929fd90b1b9ea6595d76146b"), looks := true }, kinds := [], alts := [], laidByText := true, laidKinds := [.handle, .data], laidTests := true, laidLooks := .later }
def TxBackUptoCardSaid : Prop := Claim7.holds Tryz.pinned (.plain (OpenSpec.upto txBackSpec)) txBackUptoCard

/-- THE SECOND FORM's CARD OF 'bayoulaw05.TxReads'. -/
def txReadsUptoCard : Claim7 := { stood := { row := txReadsUptoRow, standIns := [], harness := (true, "d33bcadaabdc44ed92e682acc8ee4b86d1877488929fd90b1b9ea6595d76146b"), looks := true }, kinds := [], alts := [], laidByText := true, laidKinds := [.handle, .data], laidTests := true, laidLooks := .later }
def TxReadsUptoCardSaid : Prop := Claim7.holds Tryz.pinned (.plain (OpenSpec.upto txReadsSpec)) txReadsUptoCard
end Rows
end Go.Proofs.YtcglahfmnoghjaaGreatDoor
