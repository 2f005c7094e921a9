/-
  DERIVED. GIVEN WITH THE SEED: THE CARDS: each row of YtcglahfmnoghjaaDoorRows.lean that lists a variable, with what it lists TIED to the program's text (the seventh form; the later family's looks); each row that meets fmt, with fmt's text TOLD by the authors' own Lean function (tested against real Go, not proved from fmt's source: count such statements apart). THE CARD IS WHAT COUNTS. Prove the row's statement (the work); the ties are given (YtcglahfmnoghjaaDoorTie.lean); close each card by the builder's one call (the guide's Derived/Test/ToyasCard.lean, 'card_holds'). Laid BY PROGRAM, IN A SANDBOX (cutbox-door.mjs). By AI agents, Wed Nov 11 2026. No macro, syntax, notation, axiom, sorry.
-/
import Derived.Test.YtcglahfmnoghjaaDoorRows
import GoSem.ClaimSeven
namespace Go.Proofs.YtcglahfmnoghjaaDoor
namespace Rows

/-- THE TIED CARD OF 'bayoulaw04.CondOpens'. -/
def condOpensCard : Claim7 := { stood := { row := condOpensRow, standIns := [], harness := (true, "1628b2a6e1acce881cfcfb14364eac0c1789aa3c84e0957eb57b57207e41a58d"), looks := true }, kinds := [], alts := [], laidByText := true, laidKinds := [.handle, .data], laidTests := true, laidLooks := .later }
def CondOpensCardSaid : Prop := Claim7.holds Tryd.pinned (.plain (OpenSpec.ofChange condOpensSpec)) condOpensCard

/-- THE TIED CARD OF 'bayoulaw04.CondMore'. -/
def condMoreCard : Claim7 := { stood := { row := condMoreRow, standIns := [], harness := (true, "1628b2a6e1acce881cfcfb14364eac0c1789aa3c84e0957eb57b57207e41a58d"), looks := true }, kinds := [], alts := [], laidByText := true, laidKinds := [.handle, .data], laidTests := true, laidLooks := .later }
def CondMoreCardSaid : Prop := Claim7.holds Tryd.pinned (.plain (OpenSpec.ofChange condMoreSpec)) condMoreCard

/-- THE TIED CARD OF 'bayoulaw04.CondChecks'. -/
def condChecksCard : Claim7 := { stood := { row := condChecksRow, standIns := [], harness := (true, "1628b2a6e1acce881cfcfb14364eac0c1789aa3c84e0957eb57b57207e41a58d"), looks := true }, kinds := [], alts := [], laidByText := true, laidKinds := [.handle, .data], laidTests := true, laidLooks := .later }
def CondChecksCardSaid : Prop := Claim7.holds Tryd.pinned (.plain (OpenSpec.ofChange condChecksSpec)) condChecksCard

/-- THE TIED CARD OF 'bayoulaw04.CondEither'. -/
def condEitherCard : Claim7 := { stood := { row := condEitherRow, standIns := [], harness := (true, "1628b2a6e1acce881cfcfb14364eac0c1789aa3c84e0957eb57b57207e41a58d"), looks := true }, kinds := [], alts := [], laidByText := true, laidKinds := [.handle, .data], laidTests := true, laidLooks := .later }
def CondEitherCardSaid : Prop := Claim7.holds Tryd.pinned (.plain (OpenSpec.ofChange condEitherSpec)) condEitherCard

/-- THE TIED CARD OF 'bayoulaw04.CondAll'. -/
def condAllCard : Claim7 := { stood := { row := condAllRow, standIns := [], harness := (true, "1628b2a6e1acce881cfcfb14364eac0c1789aa3c84e0957eb57b57207e41a58d"), looks := true }, kinds := [], alts := [], laidByText := true, laidKinds := [.handle, .data], laidTests := true, laidLooks := .later }
def CondAllCardSaid : Prop := Claim7.holds Tryd.pinned (.plain (OpenSpec.ofChange condAllSpec)) condAllCard

/-- THE TIED CARD OF 'bayoulaw05.TxChecks'. -/
def txChecksCard : Claim7 := { stood := { row := txChecksRow, standIns := [], harness := (true, "1628b2a6e1acce881cfcfb14364eac0c1789aa3c84e0957eb57b57207e41a58d"), looks := true }, kinds := [], alts := [], laidByText := true, laidKinds := [.handle, .data], laidTests := true, laidLooks := .later }
def TxChecksCardSaid : Prop := Claim7.holds Tryd.pinned (.plain (OpenSpec.ofChange txChecksSpec)) txChecksCard

/-- THE TIED CARD OF 'bayoulaw05.TxTotals'. -/
def txTotalsCard : Claim7 := { stood := { row := txTotalsRow, standIns := [], harness := (true, "1628b2a6e1acce881cfcfb14364eac0c1789aa3c84e0957eb57b57207e41a58d"), looks := true }, kinds := [], alts := [], laidByText := true, laidKinds := [.handle, .data], laidTests := true, laidLooks := .later }
def TxTotalsCardSaid : Prop := Claim7.holds Tryd.pinned (.plain (OpenSpec.ofChange txTotalsSpec)) txTotalsCard

/-- THE TIED CARD OF 'bayoulaw05.TxSecrets'. -/
def txSecretsCard : Claim7 := { stood := { row := txSecretsRow, standIns := [], harness := (true, "1628b2a6e1acce881cfcfb14364eac0c1789aa3c84e0957eb57b57207e41a58d"), looks := true }, kinds := [], alts := [], laidByText := true, laidKinds := [.handle, .data], laidTests := true, laidLooks := .later }
def TxSecretsCardSaid : Prop := Claim7.holds Tryd.pinned (.plain (OpenSpec.ofChange txSecretsSpec)) txSecretsCard

/-- THE TIED CARD OF 'bayoulaw05.TxOrder'. -/
def txOrderCard : Claim7 := { stood := { row := txOrderRow, standIns := [], harness := (true, "1628b2a6e1acce881cfcfb14364eac0c1789aa3c84e0957eb57b57207e41a58d"), looks := true }, kinds := [], alts := [], laidByText := true, laidKinds := [.handle, .data], laidTests := true, laidLooks := .later }
def TxOrderCardSaid : Prop := Claim7.holds Tryd.pinned (.plain (OpenSpec.ofChange txOrderSpec)) txOrderCard

/-- THE TIED CARD OF 'bayoulaw04.CondBack'. -/
def condBackCard : Claim7 := { stood := { row := condBackRow, standIns := [], harness := (true, "1628b2a6e1acce881cfcfb14364eac0c1789aa3c84e0957eb57b57207e41a58d"), looks := true }, kinds := [], alts := [], laidByText := true, laidKinds := [.handle, .data], laidTests := true, laidLooks := .later }
def CondBackCardSaid : Prop := Claim7.holds Tryd.pinned (.plain (OpenSpec.ofChange condBackSpec)) condBackCard

/-- THE SECOND FORM's CARD OF 'bayoulaw04.CondOpens'. -/
def condOpensUptoCard : Claim7 := { stood := { row := condOpensUptoRow, standIns := [], harness := (true, "1628b2a6e1acce881cfcfb14364eac0c1789aa3c84e0957eb57b57207e41a58d"), looks := true }, kinds := [], alts := [], laidByText := true, laidKinds := [.handle, .data], laidTests := true, laidLooks := .later }
def CondOpensUptoCardSaid : Prop := Claim7.holds Tryd.pinned (.plain (OpenSpec.upto condOpensSpec)) condOpensUptoCard

/-- THE SECOND FORM's CARD OF 'bayoulaw04.CondMore'. -/
def condMoreUptoCard : Claim7 := { stood := { row := condMoreUptoRow, standIns := [], harness := (true, "1628b2a6e1acce881cfcfb14364eac0c1789aa3c84e0957eb57b57207e41a58d"), looks := true }, kinds := [], alts := [], laidByText := true, laidKinds := [.handle, .data], laidTests := true, laidLooks := .later }
def CondMoreUptoCardSaid : Prop := Claim7.holds Tryd.pinned (.plain (OpenSpec.upto condMoreSpec)) condMoreUptoCard

/-- THE SECOND FORM's CARD OF 'bayoulaw04.CondChecks'. -/
def condChecksUptoCard : Claim7 := { stood := { row := condChecksUptoRow, standIns := [], harness := (true, "1628b2a6e1acce881cfcfb14364eac0c1789aa3c84e0957eb57b57207e41a58d"), looks := true }, kinds := [], alts := [], laidByText := true, laidKinds := [.handle, .data], laidTests := true, laidLooks := .later }
def CondChecksUptoCardSaid : Prop := Claim7.holds Tryd.pinned (.plain (OpenSpec.upto condChecksSpec)) condChecksUptoCard

/-- THE SECOND FORM's CARD OF 'bayoulaw04.CondEither'. -/
def condEitherUptoCard : Claim7 := { stood := { row := condEitherUptoRow, standIns := [], harness := (true, "1628b2a6e1acce881cfcfb14364eac0c1789aa3c84e0957eb57b57207e41a58d"), looks := true }, kinds := [], alts := [], laidByText := true, laidKinds := [.handle, .data], laidTests := true, laidLooks := .later }
def CondEitherUptoCardSaid : Prop := Claim7.holds Tryd.pinned (.plain (OpenSpec.upto condEitherSpec)) condEitherUptoCard

/-- THE SECOND FORM's CARD OF 'bayoulaw04.CondAll'. -/
def condAllUptoCard : Claim7 := { stood := { row := condAllUptoRow, standIns := [], harness := (true, "1628b2a6e1acce881cfcfb14364eac0c1789aa3c84e0957eb57b57207e41a58d"), looks := true }, kinds := [], alts := [], laidByText := true, laidKinds := [.handle, .data], laidTests := true, laidLooks := .later }
def CondAllUptoCardSaid : Prop := Claim7.holds Tryd.pinned (.plain (OpenSpec.upto condAllSpec)) condAllUptoCard

/-- THE SECOND FORM's CARD OF 'bayoulaw05.TxChecks'. -/
def txChecksUptoCard : Claim7 := { stood := { row := txChecksUptoRow, standIns := [], harness := (true, "1628b2a6e1acce881cfcfb14364eac0c1789aa3c84e0957eb57b57207e41a58d"), looks := true }, kinds := [], alts := [], laidByText := true, laidKinds := [.handle, .data], laidTests := true, laidLooks := .later }
def TxChecksUptoCardSaid : Prop := Claim7.holds Tryd.pinned (.plain (OpenSpec.upto txChecksSpec)) txChecksUptoCard

/-- THE SECOND FORM's CARD OF 'bayoulaw05.TxTotals'. -/
def txTotalsUptoCard : Claim7 := { stood := { row := txTotalsUptoRow, standIns := [], harness := (true, "1628b2a6e1acce881cfcfb14364eac0c1789aa3c84e0957eb57b57207e41a58d"), looks := true }, kinds := [], alts := [], laidByText := true, laidKinds := [.handle, .data], laidTests := true, laidLooks := .later }
def TxTotalsUptoCardSaid : Prop := Claim7.holds Tryd.pinned (.plain (OpenSpec.upto txTotalsSpec)) txTotalsUptoCard

/-- THE SECOND FORM's CARD OF 'bayoulaw05.TxSecrets'. -/
def txSecretsUptoCard : Claim7 := { stood := { row := txSecretsUptoRow, standIns := [], harness := (true, "1628b2a6e1acce881cfcfb14364eac0c1789aa3c84e0957eb57b57207e41a58d"), looks := true }, kinds := [], alts := [], laidByText := true, laidKinds := [.handle, .data], laidTests := true, laidLooks := .later }
def TxSecretsUptoCardSaid : Prop := Claim7.holds Tryd.pinned (.plain (OpenSpec.upto txSecretsSpec)) txSecretsUptoCard

/-- THE SECOND FORM's CARD OF 'bayoulaw05.TxOrder'. -/
def txOrderUptoCard : Claim7 := { stood := { row := txOrderUptoRow, standIns := [], harness := (true, "1628b2a6e1acce881cfcfb14364eac0c1789aa3c84e0957eb57b57207e41a58d"), looks := true }, kinds := [], alts := [], laidByText := true, laidKinds := [.handle, .data], laidTests := true, laidLooks := .later }
def TxOrderUptoCardSaid : Prop := Claim7.holds Tryd.pinned (.plain (OpenSpec.upto txOrderSpec)) txOrderUptoCard

/-- THE SECOND FORM's CARD OF 'bayoulaw04.CondBack'. -/
def condBackUptoCard : Claim7 := { stood := { row := condBackUptoRow, standIns := [], harness := (true, "1628b2a6e1acce881cfcfb14364eac0c1789aa3c84e0957eb57b57207e41a58d"), looks := true }, kinds := [], alts := [], laidByText := true, laidKinds := [.handle, .data], laidTests := true, laidLooks := .later }
def CondBackUptoCardSaid : Prop := Claim7.holds Tryd.pinned (.plain (OpenSpec.upto condBackSpec)) condBackUptoCard
end Rows
end Go.Proofs.YtcglahfmnoghjaaDoor
