/- The closed facts on the card of ClientKnown, one by one. -/
import Derived.Test.YtldclhmpgjcimaaGreatDoorCards
import Derived.SevenTiedAt
namespace Go.Proofs.YtldclhmpgjcimaaGreatDoor
open Go
set_option maxRecDepth 100000
theorem ckC0 : Rows.clientKnownRow.wfByText (OpenSpec.ofChange Rows.clientKnownSpec) = true := by kernel_rfl
theorem ckC1 : Tryz.pinned.checked.prog.mainIs = some (true, "7ebb578a17cd488f401ec4bb6e2f951def59b069d61c69951f4fcc635b3a9000".toList) := by kernel_rfl
theorem ckC2 : Tryz.pinned.checked.prog.funcNamed "taproot/taprootlaw25.ClientKnown" = some 8 := by kernel_rfl
theorem ckC3 : true = Tryz.pinned.checked.prog.looks [] := by kernel_rfl
end Go.Proofs.YtldclhmpgjcimaaGreatDoor
