/- crc.Sum, walked. -/
import Derived.Test.YtldclhmpgjcimaaGreatDoorProg
import Derived.WalkKit
namespace Go.Proofs
open Go Go.RowKit

def crcBit (c : Nat) : Nat := Nat.xor (c / 2) (3988292384 * (c % 2))
def crcBits : Nat → Nat → Nat
  | 0, c => c
  | n + 1, c => crcBits n (crcBit c)

theorem wrap_u32 (n : Int) : IntKind.u32.wrap n = n % 4294967296 := by simp [IntKind.wrap, IntKind.bits, IntKind.signed]
theorem u32_xor {a b : Nat} (ha : a < 4294967296) (hb : b < 4294967296) : bits .xor .u32 (a : Int) (b : Int) = (Nat.xor a b : Nat) := by
  have hx : a ^^^ b < 2 ^ 32 := Nat.xor_lt_two_pow (by omega) (by omega)
  have h1 : (BitVec.ofInt 32 (a : Int)).toNat = a := by
    rw [BitVec.ofInt_natCast, BitVec.toNat_ofNat]; exact Nat.mod_eq_of_lt (by omega)
  have h2 : (BitVec.ofInt 32 (b : Int)).toNat = b := by
    rw [BitVec.ofInt_natCast, BitVec.toNat_ofNat]; exact Nat.mod_eq_of_lt (by omega)
  show IntKind.u32.wrap ((BitVec.ofInt 32 (a : Int) ^^^ BitVec.ofInt 32 (b : Int)).toNat : Int) = ((a ^^^ b : Nat) : Int)
  rw [BitVec.toNat_xor, h1, h2, wrap_u32]
  omega
theorem xor_lt {a b : Nat} (ha : a < 4294967296) (hb : b < 4294967296) : Nat.xor a b < 4294967296 := Nat.xor_lt_two_pow (n := 32) ha hb
theorem u32_low {a : Nat} (ha : a < 4294967296) : bits .and .u32 (a : Int) 1 = (a % 2 : Nat) := by
  have h1 : (BitVec.ofInt 32 (a : Int)).toNat = a := by
    rw [BitVec.ofInt_natCast, BitVec.toNat_ofNat]; exact Nat.mod_eq_of_lt (by omega)
  have h2 : (BitVec.ofInt 32 (1 : Int)).toNat = 1 := by decide
  show IntKind.u32.wrap ((BitVec.ofInt 32 (a : Int) &&& BitVec.ofInt 32 (1 : Int)).toNat : Int) = _
  rw [BitVec.toNat_and, h1, h2, wrap_u32, Nat.and_one_is_mod]
  omega

theorem crc_walk (X F : Nat → Nat) (b off len cap : Nat) (w : World) (hbig : len ≤ 9223372036854775807) (hX : ∀ j, X j < 256) (hF : ∀ j, F j < 4294967296) (h0 : F 0 = 4294967295)
    (hs : ∀ j, j < len → F (j + 1) = crcBits 8 (Nat.xor (F j) (X j))) (hc : ∀ j, j < len → w.cell? ⟨b, off + j, none⟩ = some (.int .u8 (X j : Nat))) :
    Calls Tryz.prog 195 #[.slice (some ⟨b, off, none⟩) len cap] w fun e w' => e = .returned (.int .u32 (Nat.xor (F len) 4294967295 : Nat)) ∧ w' = w := by
  go_enter Tryz.func195, Tryz.ntmps195
  go_wp2
  go_loop [3, 9] (fun t i => ∃ k : Nat, k ≤ len ∧ i = .int .i64 k ∧ t = .int .u32 (F k : Nat)) (fun _ i => len - (intOf i).toNat)
  case atStart => exact ⟨0, Nat.zero_le _, rfl, by rw [h0]; rfl⟩
  case round =>
    obtain ⟨k, hk, rfl, rfl⟩ := hrel
    have hcell : k < len → w.cell? ⟨b, off + k, none⟩ = some (.int .u8 (X k : Nat)) := fun _ => hc k (by omega)
    have hxk := hX k
    have hfk := hF k
    go_wp2
    · have e0 : bits BinOp.xor IntKind.u32 (↑(F k)) (↑(X k)) = ((Nat.xor (F k) (X k) : Nat) : Int) := u32_xor hfk (by omega)
      rw [e0]
      have hlt1 := xor_lt hfk (show X k < 4294967296 by omega)
      have hsk := hs k (by assumption)
      generalize hc1 : Nat.xor (F k) (X k) = c1 at hlt1 hsk
      go_loop [3, 17] (fun t i => ∃ m : Nat, m ≤ 8 ∧ i = .int .i64 m ∧ ∃ c : Nat, c < 4294967296 ∧ t = .int .u32 c ∧ crcBits (8 - m) c = crcBits 8 c1) (fun _ i => 8 - (intOf i).toNat)
      case atStart => exact ⟨0, by omega, rfl, c1, hlt1, rfl, rfl⟩
      case round =>
        obtain ⟨m, hm, rfl, c, hcl, rfl, hbits⟩ := hrel
        go_wp2
        · have e1 : bits BinOp.xor IntKind.u32 (↑c / 2) (3988292384 * bits BinOp.and IntKind.u32 (↑c) 1 % 4294967296) = ((crcBit c : Nat) : Int) := by
            rw [u32_low hcl]
            have h2 : c % 2 < 2 := Nat.mod_lt _ (by omega)
            have e2 : (3988292384 * ((c % 2 : Nat) : Int) % 4294967296) = ((3988292384 * (c % 2) : Nat) : Int) := by omega
            have e3 : ((c : Int) / 2) = ((c / 2 : Nat) : Int) := by omega
            rw [e2, e3]
            exact u32_xor (by omega) (by omega)
          rw [e1]
          have hlt : crcBit c < 4294967296 := xor_lt (by omega) (by omega)
          have hst : crcBits (8 - (m + 1)) (crcBit c) = crcBits 8 c1 := by
            rw [← hbits, show 8 - m = (8 - (m + 1)) + 1 by omega]; rfl
          exact ⟨⟨m + 1, by omega, by go_num, crcBit c, hlt, rfl, hst⟩, by simp only [intOf]; omega⟩
        · have hm8 : m = 8 := by omega
          subst hm8
          have hf : F (k + 1) = c := by rw [hsk, ← hbits]; rfl
          exact ⟨⟨k + 1, by omega, by go_num, by rw [hf]⟩, by simp only [intOf]; omega⟩
    · go_ret
      have hkl : k = len := by omega
      subst hkl
      refine ⟨?_, rfl⟩
      have e1 : bits BinOp.xor IntKind.u32 IntKind.u32.max ↑(F k) = ((Nat.xor (F k) 4294967295 : Nat) : Int) := by
        rw [show IntKind.u32.max = ((4294967295 : Nat) : Int) by rfl, u32_xor (by omega) hfk]
        show ((4294967295 ^^^ F k : Nat) : Int) = ((F k ^^^ 4294967295 : Nat) : Int)
        rw [Nat.xor_comm]
      simp only [e1]
      rfl
end Go.Proofs
