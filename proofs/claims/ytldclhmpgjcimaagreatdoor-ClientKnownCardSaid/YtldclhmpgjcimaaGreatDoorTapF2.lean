/- known(), looked at. -/
import Derived.Test.YtldclhmpgjcimaaGreatDoorTapF1
namespace Go.Proofs
open Go Go.Abs
set_option maxRecDepth 1000000
noncomputable def Tryz.ov1 (f : Nat) : Option (List AV → Heap → Option (AV × Heap)) := match f with
  | 40 => some (memo 1234 Tryz.three.r Tryz.three.L)
  | _ => Tryz.ov0 f
noncomputable def Tryz.glob1 : Glob := { Tryz.glob0 with ov := Tryz.ov1 }
theorem Tryz.known_fact : callFact Tryz.glob1 1000 100 12 0 60000 (.bool true) ⟨60000, 0, []⟩ = true := by kernel_rfl
end Go.Proofs
