/- ClientKnown, looked at in parts. -/
import Derived.Test.YtldclhmpgjcimaaGreatDoorTapF3
namespace Go.Proofs
open Go Go.Abs
set_option maxRecDepth 1000000
theorem Tryz.ck_b : partFact Tryz.glob2 1000 100 (takeL 4 Tryz.rest8) Tryz.ck8.E.env Tryz.ck8.H.heap Tryz.ck12.E Tryz.ck12.H = true := by kernel_rfl
end Go.Proofs
