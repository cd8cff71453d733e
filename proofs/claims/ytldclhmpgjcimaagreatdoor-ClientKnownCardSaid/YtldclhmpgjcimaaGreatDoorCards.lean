/-
  DERIVED. GIVEN WITH THE SEED: THE CARDS: each row of YtldclhmpgjcimaaGreatDoorRows.lean that lists a variable, with what it lists TIED to the program's text (the seventh form; the later family's looks); each row that meets fmt, with fmt's text TOLD by the authors' own Lean function (tested against real Go, not proved from fmt's source: count such statements apart). THE CARD IS WHAT COUNTS. Prove the row's statement (the work); the ties are given (YtldclhmpgjcimaaGreatDoorTie.lean); close each card by the builder's one call (the guide's Derived/Test/ToyasCard.lean, 'card_holds'). Laid BY PROGRAM, IN A SANDBOX (cutbox-door.mjs). By AI agents, Wed Nov 11 2026. No macro, syntax, notation, axiom, sorry.
-/
import Derived.Test.YtldclhmpgjcimaaGreatDoorRows
import GoSem.ClaimSeven
namespace Go.Proofs.YtldclhmpgjcimaaGreatDoor
namespace Rows

/-- THE TIED CARD OF 'taprootlaw25.ClientWhole'. -/
def clientWholeCard : Claim7 := { stood := { row := clientWholeRow, standIns := [], harness := (true, "7ebb578a17cd488f401ec4bb6e2f951def59b069d61c69951f4fcc635b3a9000"), looks := true }, kinds := [], alts := [], laidByText := true, laidKinds := [.data, .data, .data, .handle, .sentinel, .sentinel], laidTests := true, laidLooks := .later }
def ClientWholeCardSaid : Prop := Claim7.holds Tryz.pinned (.plain (OpenSpec.ofChange clientWholeSpec)) clientWholeCard

/-- THE TIED CARD OF 'taprootlaw25.ClientCaches'. -/
def clientCachesCard : Claim7 := { stood := { row := clientCachesRow, standIns := [], harness := (true, "7ebb578a17cd488f401ec4bb6e2f951def59b069d61c69951f4fcc635b3a9000"), looks := true }, kinds := [], alts := [], laidByText := true, laidKinds := [.data, .data, .data, .handle, .sentinel, .sentinel], laidTests := true, laidLooks := .later }
def ClientCachesCardSaid : Prop := Claim7.holds Tryz.pinned (.plain (OpenSpec.ofChange clientCachesSpec)) clientCachesCard

/-- THE TIED CARD OF 'taprootlaw25.ClientBatches'. -/
def clientBatchesCard : Claim7 := { stood := { row := clientBatchesRow, standIns := [], harness := (true, "7ebb578a17cd488f401ec4bb6e2f951def59b069d61c69951f4fcc635b3a9000"), looks := true }, kinds := [], alts := [], laidByText := true, laidKinds := [.data, .data, .data, .handle, .sentinel, .sentinel], laidTests := true, laidLooks := .later }
def ClientBatchesCardSaid : Prop := Claim7.holds Tryz.pinned (.plain (OpenSpec.ofChange clientBatchesSpec)) clientBatchesCard

/-- THE TIED CARD OF 'taprootlaw25.ClientTries'. -/
def clientTriesCard : Claim7 := { stood := { row := clientTriesRow, standIns := [], harness := (true, "7ebb578a17cd488f401ec4bb6e2f951def59b069d61c69951f4fcc635b3a9000"), looks := true }, kinds := [], alts := [], laidByText := true, laidKinds := [.data, .data, .data, .handle, .sentinel, .sentinel], laidTests := true, laidLooks := .later }
def ClientTriesCardSaid : Prop := Claim7.holds Tryz.pinned (.plain (OpenSpec.ofChange clientTriesSpec)) clientTriesCard

/-- THE TIED CARD OF 'taprootlaw25.ClientTrue'. -/
def clientTrueCard : Claim7 := { stood := { row := clientTrueRow, standIns := [], harness := (true, "7ebb578a17cd488f401ec4bb6e2f951def59b069d61c69951f4fcc635b3a9000"), looks := true }, kinds := [], alts := [], laidByText := true, laidKinds := [.data, .data, .data, .handle, .sentinel, .sentinel], laidTests := true, laidLooks := .later }
def ClientTrueCardSaid : Prop := Claim7.holds Tryz.pinned (.plain (OpenSpec.ofChange clientTrueSpec)) clientTrueCard

/-- THE TIED CARD OF 'taprootlaw25.ClientKnown'. -/
def clientKnownCard : Claim7 := { stood := { row := clientKnownRow, standIns := [], harness := (true, "7ebb578a17cd488f401ec4bb6e2f951def59b069d61c69951f4fcc635b3a9000"), looks := true }, kinds := [], alts := [], laidByText := true, laidKinds := [.data, .data, .data, .handle, .sentinel, .sentinel], laidTests := true, laidLooks := .later }
def ClientKnownCardSaid : Prop := Claim7.holds Tryz.pinned (.plain (OpenSpec.ofChange clientKnownSpec)) clientKnownCard

/-- THE SECOND FORM's CARD OF 'taprootlaw25.ClientWhole'. -/
def clientWholeUptoCard : Claim7 := { stood := { row := clientWholeUptoRow, standIns := [], harness := (true, "7ebb578a17cd488f401ec4bb6e2f951def59b069d61c69951f4fcc635b3a9000"), looks := true }, kinds := [], alts := [], laidByText := true, laidKinds := [.data, .data, .data, .handle, .sentinel, .sentinel], laidTests := true, laidLooks := .later }
def ClientWholeUptoCardSaid : Prop := Claim7.holds Tryz.pinned (.plain (OpenSpec.upto clientWholeSpec)) clientWholeUptoCard

/-- THE SECOND FORM's CARD OF 'taprootlaw25.ClientCaches'. -/
def clientCachesUptoCard : Claim7 := { stood := { row := clientCachesUptoRow, standIns := [], harness := (true, "7ebb578a17cd488f401ec4bb6e2f951def59b069d61c69951f4fcc635b3a9000"), looks := true }, kinds := [], alts := [], laidByText := true, laidKinds := [.data, .data, .data, .handle, .sentinel, .sentinel], laidTests := true, laidLooks := .later }
def ClientCachesUptoCardSaid : Prop := Claim7.holds Tryz.pinned (.plain (OpenSpec.upto clientCachesSpec)) clientCachesUptoCard

/-- THE SECOND FORM's CARD OF 'taprootlaw25.ClientBatches'. -/
def clientBatchesUptoCard : Claim7 := { stood := { row := clientBatchesUptoRow, standIns := [], harness := (true, "7ebb578a17cd488f401ec4bb6e2f951def59b069d61c69951f4fcc635b3a9000"), looks := true }, kinds := [], alts := [], laidByText := true, laidKinds := [.data, .data, .data, .handle, .sentinel, .sentinel], laidTests := true, laidLooks := .later }
def ClientBatchesUptoCardSaid : Prop := Claim7.holds Tryz.pinned (.plain (OpenSpec.upto clientBatchesSpec)) clientBatchesUptoCard

/-- THE SECOND FORM's CARD OF 'taprootlaw25.ClientTries'. -/
def clientTriesUptoCard : Claim7 := { stood := { row := clientTriesUptoRow, standIns := [], harness := (true, "7ebb578a17cd488f401ec4bb6e2f951def59b069d61c69951f4fcc635b3a9000"), looks := true }, kinds := [], alts := [], laidByText := true, laidKinds := [.data, .data, .data, .handle, .sentinel, .sentinel], laidTests := true, laidLooks := .later }
def ClientTriesUptoCardSaid : Prop := Claim7.holds Tryz.pinned (.plain (OpenSpec.upto clientTriesSpec)) clientTriesUptoCard

/-- THE SECOND FORM's CARD OF 'taprootlaw25.ClientTrue'. -/
def clientTrueUptoCard : Claim7 := { stood := { row := clientTrueUptoRow, standIns := [], harness := (true, "7ebb578a17cd488f401ec4bb6e2f951def59b069d61c69951f4fcc635b3a9000"), looks := true }, kinds := [], alts := [], laidByText := true, laidKinds := [.data, .data, .data, .handle, .sentinel, .sentinel], laidTests := true, laidLooks := .later }
def ClientTrueUptoCardSaid : Prop := Claim7.holds Tryz.pinned (.plain (OpenSpec.upto clientTrueSpec)) clientTrueUptoCard

/-- THE SECOND FORM's CARD OF 'taprootlaw25.ClientKnown'. -/
def clientKnownUptoCard : Claim7 := { stood := { row := clientKnownUptoRow, standIns := [], harness := (true, "7ebb578a17cd488f401ec4bb6e2f951def59b069d61c69951f4fcc635b3a9000"), looks := true }, kinds := [], alts := [], laidByText := true, laidKinds := [.data, .data, .data, .handle, .sentinel, .sentinel], laidTests := true, laidLooks := .later }
def ClientKnownUptoCardSaid : Prop := Claim7.holds Tryz.pinned (.plain (OpenSpec.upto clientKnownSpec)) clientKnownUptoCard
end Rows
end Go.Proofs.YtldclhmpgjcimaaGreatDoor
