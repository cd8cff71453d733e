/- ClientKnown, looked at in parts. -/
import Derived.Test.YtldclhmpgjcimaaGreatDoorTapF3
namespace Go.Proofs
open Go Go.Abs
set_option maxRecDepth 1000000
theorem Tryz.ck_a : partFact Tryz.glob2 1000 100 (takeL 8 Tryz.body8) (enterA Tryz.f8 []) ⟨0, 60000, .nil⟩ Tryz.ck8.E Tryz.ck8.H = true := by kernel_rfl
end Go.Proofs
