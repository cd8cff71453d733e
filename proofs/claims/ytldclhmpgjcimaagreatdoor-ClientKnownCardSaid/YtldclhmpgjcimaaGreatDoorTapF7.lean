/- ClientKnown, looked at in parts. -/
import Derived.Test.YtldclhmpgjcimaaGreatDoorTapF3
namespace Go.Proofs
open Go Go.Abs
set_option maxRecDepth 1000000
noncomputable def Tryz.ckEnd : LEnv := ⟨Tryz.ck22.E.n, [(0, .bool true)]⟩
theorem Tryz.ck_d : codeFact Tryz.glob2 1000 100 Tryz.rest22 Tryz.ck22.E Tryz.ck22.H .ret Tryz.ckEnd ⟨60000, 0, []⟩ = true := by kernel_rfl
end Go.Proofs
