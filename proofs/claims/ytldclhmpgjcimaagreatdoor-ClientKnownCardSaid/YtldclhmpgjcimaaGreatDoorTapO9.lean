/- A closed fact on the row of ClientKnown. -/
import Derived.Test.YtldclhmpgjcimaaGreatDoorCards
import Derived.KernelRfl
namespace Go.Proofs.YtldclhmpgjcimaaGreatDoor
open Go
set_option maxRecDepth 100000
theorem ckC4 : false = Rows.clientKnownRow.goesBy Tryz.pinned.checked.prog := by kernel_rfl
end Go.Proofs.YtldclhmpgjcimaaGreatDoor
