/-
  DERIVED. GIVEN WITH THE SEED: THE CARDS: each row of YtdifgaapdnbliaaGreatDoorRows.lean that lists a variable, with what it lists TIED to the program's text (the seventh form; the later family's looks); each row that meets fmt, with fmt's text TOLD by the authors' own Lean function (tested against real Go, not proved from fmt's source: count such statements apart). THE CARD IS WHAT COUNTS. Prove the row's statement (the work); the ties are given (YtdifgaapdnbliaaGreatDoorTie.lean); close each card by the builder's one call (the guide's Derived/Test/ToyasCard.lean, 'card_holds'). Laid BY PROGRAM, IN A SANDBOX (cutbox-door.mjs). By AI agents, Wed Nov 11 2026. No macro, syntax, notation, axiom, sorry.
-/
import Derived.Test.YtdifgaapdnbliaaGreatDoorRows
import GoSem.ClaimSeven
namespace Go.Proofs.YtdifgaapdnbliaaGreatDoor
namespace Rows

/-- THE TIED CARD OF 'oyezlaw11.FileParses'. -/
def fileParsesCard : Claim7 := { stood := { row := fileParsesRow, standIns := [], harness := (true, "235e719b1d56bb06e2afc9af8cfeaa9cb3ddfe0e148dee1e33b634a589467075"), looks := true }, kinds := [], alts := [], laidByText := true, laidKinds := [.data, .data, .data, .sentinel, .sentinel], laidTests := true, laidLooks := .later }
def FileParsesCardSaid : Prop := Claim7.holds Tryz.pinned (.plain (OpenSpec.ofChange fileParsesSpec)) fileParsesCard

/-- THE TIED CARD OF 'oyezlaw11.FileSeals'. -/
def fileSealsCard : Claim7 := { stood := { row := fileSealsRow, standIns := [], harness := (true, "235e719b1d56bb06e2afc9af8cfeaa9cb3ddfe0e148dee1e33b634a589467075"), looks := true }, kinds := [], alts := [], laidByText := true, laidKinds := [.data, .data, .data, .sentinel, .sentinel], laidTests := true, laidLooks := .later }
def FileSealsCardSaid : Prop := Claim7.holds Tryz.pinned (.plain (OpenSpec.ofChange fileSealsSpec)) fileSealsCard

/-- THE TIED CARD OF 'oyezlaw11.FileCopies'. -/
def fileCopiesCard : Claim7 := { stood := { row := fileCopiesRow, standIns := [], harness := (true, "235e719b1d56bb06e2afc9af8cfeaa9cb3ddfe0e148dee1e33b634a589467075"), looks := true }, kinds := [], alts := [], laidByText := true, laidKinds := [.data, .data, .data, .sentinel, .sentinel], laidTests := true, laidLooks := .later }
def FileCopiesCardSaid : Prop := Claim7.holds Tryz.pinned (.plain (OpenSpec.ofChange fileCopiesSpec)) fileCopiesCard

/-- THE TIED CARD OF 'oyezlaw11.FileAfter'. -/
def fileAfterCard : Claim7 := { stood := { row := fileAfterRow, standIns := [], harness := (true, "235e719b1d56bb06e2afc9af8cfeaa9cb3ddfe0e148dee1e33b634a589467075"), looks := true }, kinds := [], alts := [], laidByText := true, laidKinds := [.data, .data, .data, .sentinel, .sentinel], laidTests := true, laidLooks := .later }
def FileAfterCardSaid : Prop := Claim7.holds Tryz.pinned (.plain (OpenSpec.ofChange fileAfterSpec)) fileAfterCard

/-- THE TIED CARD OF 'oyezlaw11.FileTorn'. -/
def fileTornCard : Claim7 := { stood := { row := fileTornRow, standIns := [], harness := (true, "235e719b1d56bb06e2afc9af8cfeaa9cb3ddfe0e148dee1e33b634a589467075"), looks := true }, kinds := [], alts := [], laidByText := true, laidKinds := [.data, .data, .data, .data, .sentinel, .sentinel, .pinned], laidTests := true, laidLooks := .later }
def FileTornCardSaid : Prop := Claim7.holds Tryz.pinned (.plain (OpenSpec.ofChange fileTornSpec)) fileTornCard

/-- THE TIED CARD OF 'oyezlaw11.FileTold'. -/
def fileToldCard : Claim7 := { stood := { row := fileToldRow, standIns := [], harness := (true, "235e719b1d56bb06e2afc9af8cfeaa9cb3ddfe0e148dee1e33b634a589467075"), looks := true }, kinds := [], alts := [], laidByText := true, laidKinds := [.data, .data, .data, .sentinel, .sentinel], laidTests := true, laidLooks := .later }
def FileToldCardSaid : Prop := Claim7.holds Tryz.pinned (.plain (OpenSpec.ofChange fileToldSpec)) fileToldCard

/-- THE TIED CARD OF 'oyezlaw11.FileSettled'. -/
def fileSettledCard : Claim7 := { stood := { row := fileSettledRow, standIns := [], harness := (true, "235e719b1d56bb06e2afc9af8cfeaa9cb3ddfe0e148dee1e33b634a589467075"), looks := true }, kinds := [], alts := [], laidByText := true, laidKinds := [.data, .data, .data, .sentinel, .sentinel], laidTests := true, laidLooks := .later }
def FileSettledCardSaid : Prop := Claim7.holds Tryz.pinned (.plain (OpenSpec.ofChange fileSettledSpec)) fileSettledCard

/-- THE TIED CARD OF 'oyezlaw11.FileRecords'. -/
def fileRecordsCard : Claim7 := { stood := { row := fileRecordsRow, standIns := [], harness := (true, "235e719b1d56bb06e2afc9af8cfeaa9cb3ddfe0e148dee1e33b634a589467075"), looks := true }, kinds := [], alts := [], laidByText := true, laidKinds := [.data, .data, .data, .sentinel, .sentinel], laidTests := true, laidLooks := .later }
def FileRecordsCardSaid : Prop := Claim7.holds Tryz.pinned (.plain (OpenSpec.ofChange fileRecordsSpec)) fileRecordsCard

/-- THE TIED CARD OF 'oyezlaw11.FileJoined'. -/
def fileJoinedCard : Claim7 := { stood := { row := fileJoinedRow, standIns := [], harness := (true, "235e719b1d56bb06e2afc9af8cfeaa9cb3ddfe0e148dee1e33b634a589467075"), looks := true }, kinds := [], alts := [], laidByText := true, laidKinds := [.data, .data, .data, .sentinel, .sentinel], laidTests := true, laidLooks := .later }
def FileJoinedCardSaid : Prop := Claim7.holds Tryz.pinned (.plain (OpenSpec.ofChange fileJoinedSpec)) fileJoinedCard

/-- THE TIED CARD OF 'oyezlaw11.FileComposed'. -/
def fileComposedCard : Claim7 := { stood := { row := fileComposedRow, standIns := [], harness := (true, "235e719b1d56bb06e2afc9af8cfeaa9cb3ddfe0e148dee1e33b634a589467075"), looks := true }, kinds := [], alts := [], laidByText := true, laidKinds := [.data, .data, .data, .sentinel, .sentinel], laidTests := true, laidLooks := .later }
def FileComposedCardSaid : Prop := Claim7.holds Tryz.pinned (.plain (OpenSpec.ofChange fileComposedSpec)) fileComposedCard

/-- THE TIED CARD OF 'oyezlaw11.FileChanges'. -/
def fileChangesCard : Claim7 := { stood := { row := fileChangesRow, standIns := [], harness := (true, "235e719b1d56bb06e2afc9af8cfeaa9cb3ddfe0e148dee1e33b634a589467075"), looks := true }, kinds := [], alts := [], laidByText := true, laidKinds := [.data, .data, .data, .sentinel, .sentinel], laidTests := true, laidLooks := .later }
def FileChangesCardSaid : Prop := Claim7.holds Tryz.pinned (.plain (OpenSpec.ofChange fileChangesSpec)) fileChangesCard

/-- THE TIED CARD OF 'oyezlaw11.FileMade'. -/
def fileMadeCard : Claim7 := { stood := { row := fileMadeRow, standIns := [], harness := (true, "235e719b1d56bb06e2afc9af8cfeaa9cb3ddfe0e148dee1e33b634a589467075"), looks := true }, kinds := [], alts := [], laidByText := true, laidKinds := [.data, .data, .data, .sentinel, .sentinel], laidTests := true, laidLooks := .later }
def FileMadeCardSaid : Prop := Claim7.holds Tryz.pinned (.plain (OpenSpec.ofChange fileMadeSpec)) fileMadeCard

/-- THE TIED CARD OF 'oyezlaw11.FileSmall'. -/
def fileSmallCard : Claim7 := { stood := { row := fileSmallRow, standIns := [], harness := (true, "235e719b1d56bb06e2afc9af8cfeaa9cb3ddfe0e148dee1e33b634a589467075"), looks := true }, kinds := [], alts := [], laidByText := true, laidKinds := [.data, .data, .data, .sentinel, .sentinel], laidTests := true, laidLooks := .later }
def FileSmallCardSaid : Prop := Claim7.holds Tryz.pinned (.plain (OpenSpec.ofChange fileSmallSpec)) fileSmallCard

/-- THE SECOND FORM's CARD OF 'oyezlaw11.FileParses'. -/
def fileParsesUptoCard : Claim7 := { stood := { row := fileParsesUptoRow, standIns := [], harness := (true, "235e719b1d56bb06e2afc9af8cfeaa9cb3ddfe0e148dee1e33b634a589467075"), looks := true }, kinds := [], alts := [], laidByText := true, laidKinds := [.data, .data, .data, .sentinel, .sentinel], laidTests := true, laidLooks := .later }
def FileParsesUptoCardSaid : Prop := Claim7.holds Tryz.pinned (.plain (OpenSpec.upto fileParsesSpec)) fileParsesUptoCard

/-- THE SECOND FORM's CARD OF 'oyezlaw11.FileSeals'. -/
def fileSealsUptoCard : Claim7 := { stood := { row := fileSealsUptoRow, standIns := [], harness := (true, "235e719b1d56bb06e2afc9af8cfeaa9cb3ddfe0e148dee1e33b634a589467075"), looks := true }, kinds := [], alts := [], laidByText := true, laidKinds := [.data, .data, .data, .sentinel, .sentinel], laidTests := true, laidLooks := .later }
def FileSealsUptoCardSaid : Prop := Claim7.holds Tryz.pinned (.plain (OpenSpec.upto fileSealsSpec)) fileSealsUptoCard

/-- THE SECOND FORM's CARD OF 'oyezlaw11.FileCopies'. -/
def fileCopiesUptoCard : Claim7 := { stood := { row := fileCopiesUptoRow, standIns := [], harness := (true, "235e719b1d56bb06e2afc9af8cfeaa9cb3ddfe0e148dee1e33b634a589467075"), looks := true }, kinds := [], alts := [], laidByText := true, laidKinds := [.data, .data, .data, .sentinel, .sentinel], laidTests := true, laidLooks := .later }
def FileCopiesUptoCardSaid : Prop := Claim7.holds Tryz.pinned (.plain (OpenSpec.upto fileCopiesSpec)) fileCopiesUptoCard

/-- THE SECOND FORM's CARD OF 'oyezlaw11.FileAfter'. -/
def fileAfterUptoCard : Claim7 := { stood := { row := fileAfterUptoRow, standIns := [], harness := (true, "235e719b1d56bb06e2afc9af8cfeaa9cb3ddfe0e148dee1e33b634a589467075"), looks := true }, kinds := [], alts := [], laidByText := true, laidKinds := [.data, .data, .data, .sentinel, .sentinel], laidTests := true, laidLooks := .later }
def FileAfterUptoCardSaid : Prop := Claim7.holds Tryz.pinned (.plain (OpenSpec.upto fileAfterSpec)) fileAfterUptoCard

/-- THE SECOND FORM's CARD OF 'oyezlaw11.FileTorn'. -/
def fileTornUptoCard : Claim7 := { stood := { row := fileTornUptoRow, standIns := [], harness := (true, "235e719b1d56bb06e2afc9af8cfeaa9cb3ddfe0e148dee1e33b634a589467075"), looks := true }, kinds := [], alts := [], laidByText := true, laidKinds := [.data, .data, .data, .data, .sentinel, .sentinel, .pinned], laidTests := true, laidLooks := .later }
def FileTornUptoCardSaid : Prop := Claim7.holds Tryz.pinned (.plain (OpenSpec.upto fileTornSpec)) fileTornUptoCard

/-- THE SECOND FORM's CARD OF 'oyezlaw11.FileTold'. -/
def fileToldUptoCard : Claim7 := { stood := { row := fileToldUptoRow, standIns := [], harness := (true, "235e719b1d56bb06e2afc9af8cfeaa9cb3ddfe0e148dee1e33b634a589467075"), looks := true }, kinds := [], alts := [], laidByText := true, laidKinds := [.data, .data, .data, .sentinel, .sentinel], laidTests := true, laidLooks := .later }
def FileToldUptoCardSaid : Prop := Claim7.holds Tryz.pinned (.plain (OpenSpec.upto fileToldSpec)) fileToldUptoCard

/-- THE SECOND FORM's CARD OF 'oyezlaw11.FileSettled'. -/
def fileSettledUptoCard : Claim7 := { stood := { row := fileSettledUptoRow, standIns := [], harness := (true, "235e719b1d56bb06e2afc9af8cfeaa9cb3ddfe0e148dee1e33b634a589467075"), looks := true }, kinds := [], alts := [], laidByText := true, laidKinds := [.data, .data, .data, .sentinel, .sentinel], laidTests := true, laidLooks := .later }
def FileSettledUptoCardSaid : Prop := Claim7.holds Tryz.pinned (.plain (OpenSpec.upto fileSettledSpec)) fileSettledUptoCard

/-- THE SECOND FORM's CARD OF 'oyezlaw11.FileRecords'. -/
def fileRecordsUptoCard : Claim7 := { stood := { row := fileRecordsUptoRow, standIns := [], harness := (true, "235e719b1d56bb06e2afc9af8cfeaa9cb3ddfe0e148dee1e33b634a589467075"), looks := true }, kinds := [], alts := [], laidByText := true, laidKinds := [.data, .data, .data, .sentinel, .sentinel], laidTests := true, laidLooks := .later }
def FileRecordsUptoCardSaid : Prop := Claim7.holds Tryz.pinned (.plain (OpenSpec.upto fileRecordsSpec)) fileRecordsUptoCard

/-- THE SECOND FORM's CARD OF 'oyezlaw11.FileJoined'. -/
def fileJoinedUptoCard : Claim7 := { stood := { row := fileJoinedUptoRow, standIns := [], harness := (true, "235e719b1d56bb06e2afc9af8cfeaa9cb3ddfe0e148dee1e33b634a589467075"), looks := true }, kinds := [], alts := [], laidByText := true, laidKinds := [.data, .data, .data, .sentinel, .sentinel], laidTests := true, laidLooks := .later }
def FileJoinedUptoCardSaid : Prop := Claim7.holds Tryz.pinned (.plain (OpenSpec.upto fileJoinedSpec)) fileJoinedUptoCard

/-- THE SECOND FORM's CARD OF 'oyezlaw11.FileComposed'. -/
def fileComposedUptoCard : Claim7 := { stood := { row := fileComposedUptoRow, standIns := [], harness := (true, "235e719b1d56bb06e2afc9af8cfeaa9cb3ddfe0e148dee1e33b634a589467075"), looks := true }, kinds := [], alts := [], laidByText := true, laidKinds := [.data, .data, .data, .sentinel, .sentinel], laidTests := true, laidLooks := .later }
def FileComposedUptoCardSaid : Prop := Claim7.holds Tryz.pinned (.plain (OpenSpec.upto fileComposedSpec)) fileComposedUptoCard

/-- THE SECOND FORM's CARD OF 'oyezlaw11.FileChanges'. -/
def fileChangesUptoCard : Claim7 := { stood := { row := fileChangesUptoRow, standIns := [], harness := (true, "235e719b1d56bb06e2afc9af8cfeaa9cb3ddfe0e148dee1e33b634a589467075"), looks := true }, kinds := [], alts := [], laidByText := true, laidKinds := [.data, .data, .data, .sentinel, .sentinel], laidTests := true, laidLooks := .later }
def FileChangesUptoCardSaid : Prop := Claim7.holds Tryz.pinned (.plain (OpenSpec.upto fileChangesSpec)) fileChangesUptoCard

/-- THE SECOND FORM's CARD OF 'oyezlaw11.FileMade'. -/
def fileMadeUptoCard : Claim7 := { stood := { row := fileMadeUptoRow, standIns := [], harness := (true, "235e719b1d56bb06e2afc9af8cfeaa9cb3ddfe0e148dee1e33b634a589467075"), looks := true }, kinds := [], alts := [], laidByText := true, laidKinds := [.data, .data, .data, .sentinel, .sentinel], laidTests := true, laidLooks := .later }
def FileMadeUptoCardSaid : Prop := Claim7.holds Tryz.pinned (.plain (OpenSpec.upto fileMadeSpec)) fileMadeUptoCard

/-- THE SECOND FORM's CARD OF 'oyezlaw11.FileSmall'. -/
def fileSmallUptoCard : Claim7 := { stood := { row := fileSmallUptoRow, standIns := [], harness := (true, "235e719b1d56bb06e2afc9af8cfeaa9cb3ddfe0e148dee1e33b634a589467075"), looks := true }, kinds := [], alts := [], laidByText := true, laidKinds := [.data, .data, .data, .sentinel, .sentinel], laidTests := true, laidLooks := .later }
def FileSmallUptoCardSaid : Prop := Claim7.holds Tryz.pinned (.plain (OpenSpec.upto fileSmallSpec)) fileSmallUptoCard
end Rows
end Go.Proofs.YtdifgaapdnbliaaGreatDoor
