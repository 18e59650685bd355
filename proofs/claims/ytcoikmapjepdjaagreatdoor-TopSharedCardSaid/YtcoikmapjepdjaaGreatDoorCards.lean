/-
  DERIVED. GIVEN WITH THE SEED: THE CARDS: each row of YtcoikmapjepdjaaGreatDoorRows.lean that lists a variable, with what it lists TIED to the program's text (the seventh form; the later family's looks); each row that meets fmt, with fmt's text TOLD by the authors' own Lean function (tested against real Go, not proved from fmt's source: count such statements apart). THE CARD IS WHAT COUNTS. Prove the row's statement (the work); the ties are given (YtcoikmapjepdjaaGreatDoorTie.lean); close each card by the builder's one call (the guide's Derived/Test/ToyasCard.lean, 'card_holds'). Laid BY PROGRAM, IN A SANDBOX (cutbox-door.mjs). By AI agents, Wed Nov 11 2026. No macro, syntax, notation, axiom, sorry.
-/
import Derived.Test.YtcoikmapjepdjaaGreatDoorRows
import GoSem.ClaimSeven
namespace Go.Proofs.YtcoikmapjepdjaaGreatDoor
namespace Rows

/-- THE TIED CARD OF 'oyeztop.TopShared'. -/
def topSharedCard : Claim7 := { stood := { row := topSharedRow, standIns := [], harness := (true, "13619a2ca6727d7c145826fa6026944d694f4c093f60a12843f62f48656f9760"), looks := true }, kinds := [], alts := [], laidByText := true, laidKinds := [.data, .data, .data], laidTests := true, laidLooks := .later }
def TopSharedCardSaid : Prop := Claim7.holds Tryz.pinned (.plain (OpenSpec.ofChange topSharedSpec)) topSharedCard

/-- THE TIED CARD OF 'oyeztop.TopChanged'. -/
def topChangedCard : Claim7 := { stood := { row := topChangedRow, standIns := [], harness := (true, "13619a2ca6727d7c145826fa6026944d694f4c093f60a12843f62f48656f9760"), looks := true }, kinds := [], alts := [], laidByText := true, laidKinds := [.data, .data, .data], laidTests := true, laidLooks := .later }
def TopChangedCardSaid : Prop := Claim7.holds Tryz.pinned (.plain (OpenSpec.ofChange topChangedSpec)) topChangedCard

/-- THE TIED CARD OF 'oyeztop.TopThrice'. -/
def topThriceCard : Claim7 := { stood := { row := topThriceRow, standIns := [], harness := (true, "13619a2ca6727d7c145826fa6026944d694f4c093f60a12843f62f48656f9760"), looks := true }, kinds := [], alts := [], laidByText := true, laidKinds := [.data, .data, .data, .sentinel, .sentinel], laidTests := true, laidLooks := .later }
def TopThriceCardSaid : Prop := Claim7.holds Tryz.pinned (.plain (OpenSpec.ofChange topThriceSpec)) topThriceCard

/-- THE TIED CARD OF 'oyezlaw11.FileBooked'. -/
def fileBookedCard : Claim7 := { stood := { row := fileBookedRow, standIns := [], harness := (true, "13619a2ca6727d7c145826fa6026944d694f4c093f60a12843f62f48656f9760"), looks := true }, kinds := [], alts := [], laidByText := true, laidKinds := [.data, .data, .data, .sentinel, .sentinel], laidTests := true, laidLooks := .later }
def FileBookedCardSaid : Prop := Claim7.holds Tryz.pinned (.plain (OpenSpec.ofChange fileBookedSpec)) fileBookedCard

/-- THE TIED CARD OF 'oyezlaw11.FileSlotted'. -/
def fileSlottedCard : Claim7 := { stood := { row := fileSlottedRow, standIns := [], harness := (true, "13619a2ca6727d7c145826fa6026944d694f4c093f60a12843f62f48656f9760"), looks := true }, kinds := [], alts := [], laidByText := true, laidKinds := [.data, .data, .data, .sentinel, .sentinel], laidTests := true, laidLooks := .later }
def FileSlottedCardSaid : Prop := Claim7.holds Tryz.pinned (.plain (OpenSpec.ofChange fileSlottedSpec)) fileSlottedCard

/-- THE SECOND FORM's CARD OF 'oyeztop.TopShared'. -/
def topSharedUptoCard : Claim7 := { stood := { row := topSharedUptoRow, standIns := [], harness := (true, "13619a2ca6727d7c145826fa6026944d694f4c093f60a12843f62f48656f9760"), looks := true }, kinds := [], alts := [], laidByText := true, laidKinds := [.data, .data, .data], laidTests := true, laidLooks := .later }
def TopSharedUptoCardSaid : Prop := Claim7.holds Tryz.pinned (.plain (OpenSpec.upto topSharedSpec)) topSharedUptoCard

/-- THE SECOND FORM's CARD OF 'oyeztop.TopChanged'. -/
def topChangedUptoCard : Claim7 := { stood := { row := topChangedUptoRow, standIns := [], harness := (true, "13619a2ca6727d7c145826fa6026944d694f4c093f60a12843f62f48656f9760"), looks := true }, kinds := [], alts := [], laidByText := true, laidKinds := [.data, .data, .data], laidTests := true, laidLooks := .later }
def TopChangedUptoCardSaid : Prop := Claim7.holds Tryz.pinned (.plain (OpenSpec.upto topChangedSpec)) topChangedUptoCard

/-- THE SECOND FORM's CARD OF 'oyeztop.TopThrice'. -/
def topThriceUptoCard : Claim7 := { stood := { row := topThriceUptoRow, standIns := [], harness := (true, "13619a2ca6727d7c145826fa6026944d694f4c093f60a12843f62f48656f9760"), looks := true }, kinds := [], alts := [], laidByText := true, laidKinds := [.data, .data, .data, .sentinel, .sentinel], laidTests := true, laidLooks := .later }
def TopThriceUptoCardSaid : Prop := Claim7.holds Tryz.pinned (.plain (OpenSpec.upto topThriceSpec)) topThriceUptoCard

/-- THE SECOND FORM's CARD OF 'oyezlaw11.FileBooked'. -/
def fileBookedUptoCard : Claim7 := { stood := { row := fileBookedUptoRow, standIns := [], harness := (true, "13619a2ca6727d7c145826fa6026944d694f4c093f60a12843f62f48656f9760"), looks := true }, kinds := [], alts := [], laidByText := true, laidKinds := [.data, .data, .data, .sentinel, .sentinel], laidTests := true, laidLooks := .later }
def FileBookedUptoCardSaid : Prop := Claim7.holds Tryz.pinned (.plain (OpenSpec.upto fileBookedSpec)) fileBookedUptoCard

/-- THE SECOND FORM's CARD OF 'oyezlaw11.FileSlotted'. -/
def fileSlottedUptoCard : Claim7 := { stood := { row := fileSlottedUptoRow, standIns := [], harness := (true, "13619a2ca6727d7c145826fa6026944d694f4c093f60a12843f62f48656f9760"), looks := true }, kinds := [], alts := [], laidByText := true, laidKinds := [.data, .data, .data, .sentinel, .sentinel], laidTests := true, laidLooks := .later }
def FileSlottedUptoCardSaid : Prop := Claim7.holds Tryz.pinned (.plain (OpenSpec.upto fileSlottedSpec)) fileSlottedUptoCard
end Rows
end Go.Proofs.YtcoikmapjepdjaaGreatDoor
