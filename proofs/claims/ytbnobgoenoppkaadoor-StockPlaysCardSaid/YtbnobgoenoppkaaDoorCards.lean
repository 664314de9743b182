/-
  DERIVED. GIVEN WITH THE SEED: THE CARDS: each row of YtbnobgoenoppkaaDoorRows.lean that lists a variable, with what it lists TIED to the program's text (the seventh form; the later family's looks); each row that meets fmt, with fmt's text TOLD by the authors' own Lean function (tested against real Go, not proved from fmt's source: count such statements apart). THE CARD IS WHAT COUNTS. Prove the row's statement (the work); the ties are given (YtbnobgoenoppkaaDoorTie.lean); close each card by the builder's one call (the guide's Derived/Test/ToyasCard.lean, 'card_holds'). Laid BY PROGRAM, IN A SANDBOX (cutbox-door.mjs). By AI agents, Wed Nov 11 2026. No macro, syntax, notation, axiom, sorry.
-/
import Derived.Test.YtbnobgoenoppkaaDoorRows
import GoSem.ClaimSeven
namespace Go.Proofs.YtbnobgoenoppkaaDoor
namespace Rows

/-- THE TIED CARD OF 'lanelaw3.StockPlays'. -/
def stockPlaysCard : Claim7 := { stood := { row := stockPlaysRow, standIns := [], harness := (true, "ac42c684e01ef9a56c0dc3fef8272d12ff457a1e879f2e33cd0d00765febd5be"), looks := true }, kinds := [], alts := [], laidByText := true, laidKinds := [.handle], laidTests := true, laidLooks := .later }
def StockPlaysCardSaid : Prop := Claim7.holds Tryd.pinned (.plain (OpenSpec.ofChange stockPlaysSpec)) stockPlaysCard

/-- THE TIED CARD OF 'lanelaw4.LogRefuses'. -/
def logRefusesCard : Claim7 := { stood := { row := logRefusesRow, standIns := [], harness := (true, "ac42c684e01ef9a56c0dc3fef8272d12ff457a1e879f2e33cd0d00765febd5be"), looks := true }, kinds := [], alts := [], laidByText := true, laidKinds := [.handle], laidTests := true, laidLooks := .later }
def LogRefusesCardSaid : Prop := Claim7.holds Tryd.pinned (.plain (OpenSpec.ofChange logRefusesSpec)) logRefusesCard

/-- THE TIED CARD OF 'lanelaw3.TreeTells'. -/
def treeTellsCard : Claim7 := { stood := { row := treeTellsRow, standIns := [], harness := (true, "ac42c684e01ef9a56c0dc3fef8272d12ff457a1e879f2e33cd0d00765febd5be"), looks := true }, kinds := [], alts := [], laidByText := true, laidKinds := [.handle], laidTests := true, laidLooks := .later }
def TreeTellsCardSaid : Prop := Claim7.holds Tryd.pinned (.plain (OpenSpec.ofChange treeTellsSpec)) treeTellsCard

/-- THE TIED CARD OF 'lanelaw2.VersionsTell'. -/
def versionsTellCard : Claim7 := { stood := { row := versionsTellRow, standIns := [], harness := (true, "ac42c684e01ef9a56c0dc3fef8272d12ff457a1e879f2e33cd0d00765febd5be"), looks := true }, kinds := [], alts := [], laidByText := true, laidKinds := [.handle], laidTests := true, laidLooks := .later }
def VersionsTellCardSaid : Prop := Claim7.holds Tryd.pinned (.plain (OpenSpec.ofChange versionsTellSpec)) versionsTellCard

/-- THE TIED CARD OF 'lanelaw1.LocksPlay'. -/
def locksPlayCard : Claim7 := { stood := { row := locksPlayRow, standIns := [], harness := (true, "ac42c684e01ef9a56c0dc3fef8272d12ff457a1e879f2e33cd0d00765febd5be"), looks := true }, kinds := [], alts := [], laidByText := true, laidKinds := [.handle], laidTests := true, laidLooks := .later }
def LocksPlayCardSaid : Prop := Claim7.holds Tryd.pinned (.plain (OpenSpec.ofChange locksPlaySpec)) locksPlayCard

/-- THE TIED CARD OF 'lanelaw3.LogStops'. -/
def logStopsCard : Claim7 := { stood := { row := logStopsRow, standIns := [], harness := (true, "ac42c684e01ef9a56c0dc3fef8272d12ff457a1e879f2e33cd0d00765febd5be"), looks := true }, kinds := [], alts := [], laidByText := true, laidKinds := [.data, .handle, .pinned], laidTests := true, laidLooks := .later }
def LogStopsCardSaid : Prop := Claim7.holds Tryd.pinned (.plain (OpenSpec.ofChange logStopsSpec)) logStopsCard

/-- THE TIED CARD OF 'lanelaw3.LogKeeps'. -/
def logKeepsCard : Claim7 := { stood := { row := logKeepsRow, standIns := [], harness := (true, "ac42c684e01ef9a56c0dc3fef8272d12ff457a1e879f2e33cd0d00765febd5be"), looks := true }, kinds := [], alts := [], laidByText := true, laidKinds := [.data, .handle, .pinned], laidTests := true, laidLooks := .later }
def LogKeepsCardSaid : Prop := Claim7.holds Tryd.pinned (.plain (OpenSpec.ofChange logKeepsSpec)) logKeepsCard

/-- THE TIED CARD OF 'lanelaw1.HistoryBack'. -/
def historyBackCard : Claim7 := { stood := { row := historyBackRow, standIns := [], harness := (true, "ac42c684e01ef9a56c0dc3fef8272d12ff457a1e879f2e33cd0d00765febd5be"), looks := true }, kinds := [], alts := [], laidByText := true, laidKinds := [.data, .pinned], laidTests := true, laidLooks := .later }
def HistoryBackCardSaid : Prop := Claim7.holds Tryd.pinned (.plain (OpenSpec.ofChange historyBackSpec)) historyBackCard

/-- THE TIED CARD OF 'lanelaw4.StrictSerial'. -/
def strictSerialCard : Claim7 := { stood := { row := strictSerialRow, standIns := [], harness := (true, "ac42c684e01ef9a56c0dc3fef8272d12ff457a1e879f2e33cd0d00765febd5be"), looks := true }, kinds := [], alts := [], laidByText := true, laidKinds := [.handle], laidTests := true, laidLooks := .later }
def StrictSerialCardSaid : Prop := Claim7.holds Tryd.pinned (.plain (OpenSpec.ofChange strictSerialSpec)) strictSerialCard

/-- THE SECOND FORM's CARD OF 'lanelaw3.StockPlays'. -/
def stockPlaysUptoCard : Claim7 := { stood := { row := stockPlaysUptoRow, standIns := [], harness := (true, "ac42c684e01ef9a56c0dc3fef8272d12ff457a1e879f2e33cd0d00765febd5be"), looks := true }, kinds := [], alts := [], laidByText := true, laidKinds := [.handle], laidTests := true, laidLooks := .later }
def StockPlaysUptoCardSaid : Prop := Claim7.holds Tryd.pinned (.plain (OpenSpec.upto stockPlaysSpec)) stockPlaysUptoCard

/-- THE SECOND FORM's CARD OF 'lanelaw4.LogRefuses'. -/
def logRefusesUptoCard : Claim7 := { stood := { row := logRefusesUptoRow, standIns := [], harness := (true, "ac42c684e01ef9a56c0dc3fef8272d12ff457a1e879f2e33cd0d00765febd5be"), looks := true }, kinds := [], alts := [], laidByText := true, laidKinds := [.handle], laidTests := true, laidLooks := .later }
def LogRefusesUptoCardSaid : Prop := Claim7.holds Tryd.pinned (.plain (OpenSpec.upto logRefusesSpec)) logRefusesUptoCard

/-- THE SECOND FORM's CARD OF 'lanelaw3.TreeTells'. -/
def treeTellsUptoCard : Claim7 := { stood := { row := treeTellsUptoRow, standIns := [], harness := (true, "ac42c684e01ef9a56c0dc3fef8272d12ff457a1e879f2e33cd0d00765febd5be"), looks := true }, kinds := [], alts := [], laidByText := true, laidKinds := [.handle], laidTests := true, laidLooks := .later }
def TreeTellsUptoCardSaid : Prop := Claim7.holds Tryd.pinned (.plain (OpenSpec.upto treeTellsSpec)) treeTellsUptoCard

/-- THE SECOND FORM's CARD OF 'lanelaw2.VersionsTell'. -/
def versionsTellUptoCard : Claim7 := { stood := { row := versionsTellUptoRow, standIns := [], harness := (true, "ac42c684e01ef9a56c0dc3fef8272d12ff457a1e879f2e33cd0d00765febd5be"), looks := true }, kinds := [], alts := [], laidByText := true, laidKinds := [.handle], laidTests := true, laidLooks := .later }
def VersionsTellUptoCardSaid : Prop := Claim7.holds Tryd.pinned (.plain (OpenSpec.upto versionsTellSpec)) versionsTellUptoCard

/-- THE SECOND FORM's CARD OF 'lanelaw1.LocksPlay'. -/
def locksPlayUptoCard : Claim7 := { stood := { row := locksPlayUptoRow, standIns := [], harness := (true, "ac42c684e01ef9a56c0dc3fef8272d12ff457a1e879f2e33cd0d00765febd5be"), looks := true }, kinds := [], alts := [], laidByText := true, laidKinds := [.handle], laidTests := true, laidLooks := .later }
def LocksPlayUptoCardSaid : Prop := Claim7.holds Tryd.pinned (.plain (OpenSpec.upto locksPlaySpec)) locksPlayUptoCard

/-- THE SECOND FORM's CARD OF 'lanelaw3.LogStops'. -/
def logStopsUptoCard : Claim7 := { stood := { row := logStopsUptoRow, standIns := [], harness := (true, "ac42c684e01ef9a56c0dc3fef8272d12ff457a1e879f2e33cd0d00765febd5be"), looks := true }, kinds := [], alts := [], laidByText := true, laidKinds := [.data, .handle, .pinned], laidTests := true, laidLooks := .later }
def LogStopsUptoCardSaid : Prop := Claim7.holds Tryd.pinned (.plain (OpenSpec.upto logStopsSpec)) logStopsUptoCard

/-- THE SECOND FORM's CARD OF 'lanelaw3.LogKeeps'. -/
def logKeepsUptoCard : Claim7 := { stood := { row := logKeepsUptoRow, standIns := [], harness := (true, "ac42c684e01ef9a56c0dc3fef8272d12ff457a1e879f2e33cd0d00765febd5be"), looks := true }, kinds := [], alts := [], laidByText := true, laidKinds := [.data, .handle, .pinned], laidTests := true, laidLooks := .later }
def LogKeepsUptoCardSaid : Prop := Claim7.holds Tryd.pinned (.plain (OpenSpec.upto logKeepsSpec)) logKeepsUptoCard

/-- THE SECOND FORM's CARD OF 'lanelaw1.HistoryBack'. -/
def historyBackUptoCard : Claim7 := { stood := { row := historyBackUptoRow, standIns := [], harness := (true, "ac42c684e01ef9a56c0dc3fef8272d12ff457a1e879f2e33cd0d00765febd5be"), looks := true }, kinds := [], alts := [], laidByText := true, laidKinds := [.data, .pinned], laidTests := true, laidLooks := .later }
def HistoryBackUptoCardSaid : Prop := Claim7.holds Tryd.pinned (.plain (OpenSpec.upto historyBackSpec)) historyBackUptoCard

/-- THE SECOND FORM's CARD OF 'lanelaw4.StrictSerial'. -/
def strictSerialUptoCard : Claim7 := { stood := { row := strictSerialUptoRow, standIns := [], harness := (true, "ac42c684e01ef9a56c0dc3fef8272d12ff457a1e879f2e33cd0d00765febd5be"), looks := true }, kinds := [], alts := [], laidByText := true, laidKinds := [.handle], laidTests := true, laidLooks := .later }
def StrictSerialUptoCardSaid : Prop := Claim7.holds Tryd.pinned (.plain (OpenSpec.upto strictSerialSpec)) strictSerialUptoCard
end Rows
end Go.Proofs.YtbnobgoenoppkaaDoor
