/- taprootref1.Sum, walked. -/
import Derived.Test.YtldclhmpgjcimaaGreatDoorTapS1
namespace Go.Proofs
open Go Go.RowKit

theorem sum_walk (X F : Nat → Nat) (b off len cap : Nat) (w : World) (hbig : len ≤ 9223372036854775807) (hX : ∀ j, X j < 256) (hF : ∀ j, F j < 4294967296) (h0 : F 0 = 4294967295)
    (hs : ∀ j, j < len → F (j + 1) = crcBits 8 (Nat.xor (F j) (X j))) (hc : ∀ j, j < len → w.cell? ⟨b, off + j, none⟩ = some (.int .u8 (X j : Nat))) :
    Calls Tryz.prog 143 #[.slice (some ⟨b, off, none⟩) len cap] w fun e w' => e = .returned (.int .u32 (Nat.xor (F len) 4294967295 : Nat)) ∧ w' = w := by
  go_enter Tryz.func143, Tryz.ntmps143
  go_wp2
  go_loop [3, 4] (fun t i => ∃ k : Nat, k ≤ len ∧ i = .int .i64 k ∧ t = .int .u32 (F k : Nat)) (fun _ i => len - (intOf i).toNat)
  case atStart => exact ⟨0, Nat.zero_le _, rfl, by rw [h0]; rfl⟩
  case round =>
    obtain ⟨k, hk, rfl, rfl⟩ := hrel
    have hcell : k < len → w.cell? ⟨b, off + k, none⟩ = some (.int .u8 (X k : Nat)) := fun _ => hc k (by omega)
    have hxk := hX k
    have hfk := hF k
    go_wp2
    · have e0 : bits BinOp.xor IntKind.u32 (↑(F k)) (↑(X k)) = ((Nat.xor (F k) (X k) : Nat) : Int) := u32_xor hfk (by omega)
      rw [e0]
      have hlt1 := xor_lt hfk (show X k < 4294967296 by omega)
      have hsk := hs k (by assumption)
      generalize hc1 : Nat.xor (F k) (X k) = c1 at hlt1 hsk
      go_loop [3, 5] (fun t i => ∃ m : Nat, m ≤ 8 ∧ i = .int .i64 m ∧ ∃ c : Nat, c < 4294967296 ∧ t = .int .u32 c ∧ crcBits (8 - m) c = crcBits 8 c1) (fun _ i => 8 - (intOf i).toNat)
      case atStart => exact ⟨0, by omega, rfl, c1, hlt1, rfl, rfl⟩
      case round =>
        obtain ⟨m, hm, rfl, c, hcl, rfl, hbits⟩ := hrel
        go_wp2
        · have hstep : crcBits (8 - (m + 1)) (crcBit c) = crcBits 8 c1 := by
            rw [← hbits, show 8 - m = (8 - (m + 1)) + 1 by omega]; rfl
          have hlow := u32_low hcl
          have hdiv : ((c : Int) / 2) = ((c / 2 : Nat) : Int) := by omega
          have hb : (bits BinOp.and IntKind.u32 (↑c) 1 == 1) = true := by assumption
          rw [hlow] at hb
          have hc2 : c % 2 = 1 := by have := eq_of_beq hb; omega
          have hbit : Nat.xor (c / 2) 3988292384 = crcBit c := by unfold crcBit; rw [hc2]
          have e1 : bits BinOp.xor IntKind.u32 (↑c / 2) 3988292384 = ((crcBit c : Nat) : Int) := by
            rw [hdiv, ← hbit]; exact u32_xor (b := 3988292384) (by omega) (by omega)
          rw [e1]
          exact ⟨⟨m + 1, by omega, by go_num, crcBit c, by rw [← hbit]; exact xor_lt (by omega) (by omega), rfl, hstep⟩, by simp only [intOf]; omega⟩
        · have hstep : crcBits (8 - (m + 1)) (crcBit c) = crcBits 8 c1 := by
            rw [← hbits, show 8 - m = (8 - (m + 1)) + 1 by omega]; rfl
          have hlow := u32_low hcl
          have hdiv : ((c : Int) / 2) = ((c / 2 : Nat) : Int) := by omega
          have hb : (bits BinOp.and IntKind.u32 (↑c) 1 == 1) = false := by assumption
          rw [hlow] at hb
          have hc2 : c % 2 = 0 := by
            have : ¬ (((c % 2 : Nat) : Int) = 1) := by intro e; rw [e] at hb; simp at hb
            omega
          have hbit : c / 2 = crcBit c := by unfold crcBit; rw [hc2]; exact (Nat.xor_zero _).symm
          rw [hdiv, hbit]
          exact ⟨⟨m + 1, by omega, by go_num, crcBit c, by rw [← hbit]; omega, rfl, hstep⟩, by simp only [intOf]; omega⟩
        · have hm8 : m = 8 := by omega
          subst hm8
          have hf : F (k + 1) = c := by rw [hsk, ← hbits]; rfl
          exact ⟨⟨k + 1, by omega, by go_num, by rw [hf]⟩, by simp only [intOf]; omega⟩
    · go_ret
      have hkl : k = len := by omega
      subst hkl
      refine ⟨?_, rfl⟩
      have e1 : bits BinOp.xor IntKind.u32 IntKind.u32.max ↑(F k) = ((Nat.xor (F k) 4294967295 : Nat) : Int) := by
        rw [show IntKind.u32.max = ((4294967295 : Nat) : Int) by rfl, u32_xor (by omega) hfk]
        show ((4294967295 ^^^ F k : Nat) : Int) = ((F k ^^^ 4294967295 : Nat) : Int)
        rw [Nat.xor_comm]
      simp only [e1]
      rfl
end Go.Proofs
