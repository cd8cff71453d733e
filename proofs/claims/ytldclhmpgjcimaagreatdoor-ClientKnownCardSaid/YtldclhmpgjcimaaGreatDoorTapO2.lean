/- The evaluator is told the truth of this program. -/
import Derived.Test.YtldclhmpgjcimaaGreatDoorTapO1
namespace Go.Proofs
open Go Go.Abs
set_option maxRecDepth 100000
theorem Tryz.stood154 : Tryz.prog.stoodInHeld 154 = false := by kernel_rfl
theorem Tryz.stood156 : Tryz.prog.stoodInHeld 156 = false := by kernel_rfl
theorem Tryz.stood159 : Tryz.prog.stoodInHeld 159 = false := by kernel_rfl
theorem Tryz.stoodNo_ok : ∀ t ∈ Tryz.stoodNo, Tryz.prog.stoodInHeld t = false := by
  intro t h
  simp only [Tryz.stoodNo, List.mem_cons, List.not_mem_nil, or_false] at h
  rcases h with rfl | rfl | rfl | rfl | rfl | rfl | rfl | rfl | rfl | rfl | rfl | rfl | rfl | rfl | rfl | rfl | rfl | rfl | rfl | rfl | rfl | rfl | rfl | rfl | rfl | rfl | rfl | rfl | rfl | rfl | rfl | rfl | rfl | rfl | rfl
  · exact Tryz.stood154
  · exact Tryz.stood156
  · exact Tryz.stood159
  · exact Tryz.stoodInHeld7
  · exact Tryz.stoodInHeld8
  · exact Tryz.stoodInHeld25
  · exact Tryz.stoodInHeld26
  · exact Tryz.stoodInHeld28
  · exact Tryz.stoodInHeld29
  · exact Tryz.stoodInHeld30
  · exact Tryz.stoodInHeld31
  · exact Tryz.stoodInHeld63
  · exact Tryz.stoodInHeld64
  · exact Tryz.stoodInHeld65
  · exact Tryz.stoodInHeld66
  · exact Tryz.stoodInHeld70
  · exact Tryz.stoodInHeld71
  · exact Tryz.stoodInHeld76
  · exact Tryz.stoodInHeld77
  · exact Tryz.stoodInHeld78
  · exact Tryz.stoodInHeld79
  · exact Tryz.stoodInHeld91
  · exact Tryz.stoodInHeld92
  · exact Tryz.stoodInHeld96
  · exact Tryz.stoodInHeld97
  · exact Tryz.stoodInHeld113
  · exact Tryz.stoodInHeld114
  · exact Tryz.stoodInHeld117
  · exact Tryz.stoodInHeld118
  · exact Tryz.stoodInHeld122
  · exact Tryz.stoodInHeld123
  · exact Tryz.stoodInHeld127
  · exact Tryz.stoodInHeld128
  · exact Tryz.stoodInHeld131
  · exact Tryz.stoodInHeld132
theorem Tryz.globOk0 : GlobOk Tryz.glob0 Tryz.prog where
  ty := Tryz.tyTree_ok
  fn := Tryz.fnTree_ok
  stood := fun t h => by
    have h : Tryz.stoodNo.any (Nat.beq t) = true := h
    simp only [List.any_eq_true] at h
    obtain ⟨s, hs, e⟩ := h
    rw [Nat.eq_of_beq_eq_true e]
    exact Tryz.stoodNo_ok s hs
  mixed := by kernel_rfl
  fix := rfl
theorem Tryz.named0 : Named Tryz.glob0 := Tryz.fnNamed
end Go.Proofs
