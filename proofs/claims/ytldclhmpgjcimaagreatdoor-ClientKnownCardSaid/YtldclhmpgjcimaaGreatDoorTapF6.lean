/- ClientKnown, looked at in parts. -/
import Derived.Test.YtldclhmpgjcimaaGreatDoorTapF3
namespace Go.Proofs
open Go Go.Abs
set_option maxRecDepth 1000000
theorem Tryz.ck_c : partFact Tryz.glob2 1000 100 (takeL 10 Tryz.rest12) Tryz.ck12.E.env Tryz.ck12.H.heap Tryz.ck22.E Tryz.ck22.H = true := by kernel_rfl
end Go.Proofs
