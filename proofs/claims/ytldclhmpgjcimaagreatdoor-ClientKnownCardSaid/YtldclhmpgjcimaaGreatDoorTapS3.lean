/- taprootref1.Less, walked. -/
import Derived.Test.YtldclhmpgjcimaaGreatDoorProg
import Derived.WalkKit
import Derived.RegionTactic
import Derived.ChangeAlike
namespace Go.Proofs
open Go Go.RowKit

/-- Is A less than B from place i on, n places? -/
def lessF (A B : Nat → Nat) : Nat → Nat → Bool
  | 0, _ => false
  | n + 1, i => if A i = B i then lessF A B n (i + 1) else decide (A i < B i)

/-- The same memory. -/
structure Like (w w' : World) : Prop where
  heap : w'.heap = w.heap
  os : w'.os = w.os
  tape : w'.tape = w.tape
  output : w'.output = w.output
theorem Like.cell {w w' : World} (h : Like w w') (a : Addr) : w'.cell? a = w.cell? a := by unfold World.cell?; rw [h.heap]

theorem less_walk (A B : Nat → Nat) (a b : Array Value) (w : World) (hA : ∀ j, A j < 256) (hB : ∀ j, B j < 256) (ha : a.size = 32) (hb : b.size = 32)
    (hca : ∀ j, j < 32 → a[j]? = some (.int .u8 (A j : Nat))) (hcb : ∀ j, j < 32 → b[j]? = some (.int .u8 (B j : Nat))) :
    Calls Tryz.prog 225 #[.agg a, .agg b] w fun e w' => e = .returned (.bool (lessF A B 32 0)) ∧ Like ((w.alloc (.cells a 58)).alloc (.cells b 58)) w' := by
  go_enter Tryz.func225, Tryz.ntmps225
  go_wp2
  have hA1 : ∀ j, j < 32 → ((w.alloc (.cells a 58)).alloc (.cells b 58)).cell? ⟨w.heap.size, j, none⟩ = some (.int .u8 (A j : Nat)) := by
    intro j hj
    rw [World.cell?_alloc_lt _ _ ⟨w.heap.size, j, none⟩ (by simp)]
    rw [World.cell?_alloc_at _ _ _ _ rfl]; exact hca j hj
  have hB1 : ∀ j, j < 32 → ((w.alloc (.cells a 58)).alloc (.cells b 58)).cell? ⟨w.heap.size + 1, j, none⟩ = some (.int .u8 (B j : Nat)) := by
    intro j hj
    rw [World.cell?_alloc_at _ _ _ _ (by simp)]; exact hcb j hj
  generalize hW : ((w.alloc (.cells a 58)).alloc (.cells b 58)) = W at hA1 hB1
  go_loopw [5] (fun i wr => ∃ k : Nat, k ≤ 32 ∧ i = .int .i64 k ∧ Like W wr ∧ lessF A B (32 - k) k = lessF A B 32 0) (fun i _ => 32 - (intOf i).toNat)
  case atStart => exact ⟨0, Nat.zero_le _, rfl, ⟨rfl, rfl, rfl, rfl⟩, rfl⟩
  case round =>
    obtain ⟨k, hk, rfl, hl, hless⟩ := hrel
    by_cases hk2 : k < 32
    · have hcA : wr.cell? ⟨w.heap.size, k, none⟩ = some (.int .u8 (A k : Nat)) := by rw [hl.cell]; exact hA1 k hk2
      have hcB : wr.cell? ⟨w.heap.size + 1, k, none⟩ = some (.int .u8 (B k : Nat)) := by rw [hl.cell]; exact hB1 k hk2
      clear hA1 hB1 hca hcb
      have a1 := hA k
      have b1 := hB k
      generalize hx : A k = x at *
      generalize hy : B k = y at *
      have hst : lessF A B (32 - k) k = if x = y then lessF A B (32 - (k + 1)) (k + 1) else decide (x < y) := by
        rw [show 32 - k = (32 - (k + 1)) + 1 by omega, lessF, hx, hy]
      rw [hst] at hless
      clear hst hx hy
      go_wp2
      go_region
      go_wp2
      · go_region
        go_wp2
        have hne : ((x : Int) != (y : Int)) = true := by assumption
        have hxy : ¬ x = y := by intro e; subst e; simp at hne
        rw [if_neg hxy] at hless
        go_ret
        refine ⟨by rw [← hless]; rfl, by rw [hW]; exact ⟨hl.heap, hl.os, hl.tape, hl.output⟩⟩
      · have heq : ((x : Int) != (y : Int)) = false := by assumption
        have hxy : x = y := by
          have : (x : Int) = (y : Int) := by simpa using heq
          omega
        rw [if_pos hxy] at hless
        exact ⟨⟨k + 1, by omega, by go_num, ⟨hl.heap, hl.os, hl.tape, hl.output⟩, hless⟩, by simp only [intOf]; omega⟩
    · clear hA1 hB1 hca hcb
      go_wp2
      go_ret
      have h32 : k = 32 := by omega
      subst h32
      refine ⟨?_, by rw [hW]; exact hl⟩
      rw [← hless]
      rfl
end Go.Proofs
