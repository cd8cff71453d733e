/- The abstract evaluator: operations that touch no memory. -/
import Derived.Test.YtldclhmpgjcimaaGreatDoorTapC
import Derived.Laws.Strings
namespace Go.Abs
open Go

theorem wrapF_eq (k : IntKind) (n : Int) : wrapF k n = k.wrap n := by
  cases n with
  | ofNat m =>
    simp only [wrapF]
    split
    · rename_i h
      have h : m < lim k := by simpa using h
      cases k <;> simp only [lim] at h <;> simp [IntKind.wrap, IntKind.bits, IntKind.signed] <;> omega
    · split
      · rfl
      · rename_i h
        cases k <;> simp [signed] at h <;> simp [IntKind.wrap, IntKind.bits, IntKind.signed, lim]
  | negSucc m =>
    simp only [wrapF]
    split
    · rename_i h
      simp only [Bool.and_eq_true] at h
      have h2 : m < lim k := by simpa using h.2
      have e : Int.negSucc m = -(m : Int) - 1 := by omega
      rw [e]
      cases k <;> simp [signed] at h <;> simp only [lim] at h2 <;> simp only [IntKind.wrap, IntKind.bits, IntKind.signed, Int.reducePow, Bool.true_and, decide_eq_true_eq, ge_iff_le, Nat.reduceSub] <;> split <;> omega
    · rfl
theorem natLt_eq (a b : Int) : natLt a b = decide (a < b) := by
  cases a <;> cases b <;> simp only [natLt] <;> rw [Bool.eq_iff_iff] <;> simp <;> omega
theorem natEq_eq (a b : Int) : natEq a b = (a == b) := by
  cases a <;> cases b <;> simp only [natEq] <;> rw [Bool.eq_iff_iff] <;> simp <;> omega
theorem lim_le (k : IntKind) : lim k ≤ 2 ^ k.bits := by cases k <;> decide
theorem lim_pow (k : IntKind) : ∃ n, lim k = 2 ^ n := by
  cases k
  · exact ⟨7, rfl⟩
  · exact ⟨15, rfl⟩
  · exact ⟨31, rfl⟩
  · exact ⟨63, rfl⟩
  · exact ⟨8, rfl⟩
  · exact ⟨16, rfl⟩
  · exact ⟨32, rfl⟩
  · exact ⟨64, rfl⟩
theorem wrap_small {k : IntKind} {m : Nat} (h : m < lim k) : k.wrap (m : Int) = m := by
  rw [← wrapF_eq]
  have : Nat.blt m (lim k) = true := by simpa using h
  show wrapF k (.ofNat m) = _
  simp [wrapF, this]
theorem bitsF_eq {op : BinOp} {k : IntKind} {x y r : Int} {P : Program} {w : World} (h : bitsF op k x y = some r) : (Op.intBits op k x y).run P w = .ok (.int k r) w := by
  cases x with
  | negSucc _ => simp [bitsF] at h
  | ofNat a =>
  cases y with
  | negSucc _ => simp [bitsF] at h
  | ofNat b =>
  simp only [bitsF] at h
  split at h
  · rename_i hab
    simp only [Bool.and_eq_true] at hab
    have ha : a < lim k := by simpa using hab.1
    have hb : b < lim k := by simpa using hab.2
    have ea : (BitVec.ofInt k.bits (Int.ofNat a)) = BitVec.ofNat k.bits a := by simp
    have eb : (BitVec.ofInt k.bits (Int.ofNat b)) = BitVec.ofNat k.bits b := by simp
    have ma : a % 2 ^ k.bits = a := Nat.mod_eq_of_lt (Nat.lt_of_lt_of_le ha (lim_le k))
    have mb : b % 2 ^ k.bits = b := Nat.mod_eq_of_lt (Nat.lt_of_lt_of_le hb (lim_le k))
    obtain ⟨n, hn⟩ := lim_pow k
    split at h
    · obtain rfl := Option.some.inj h
      simp only [Op.intBits, ea, eb, Sem.run_pure, BitVec.toNat_and, BitVec.toNat_ofNat, ma, mb]
      rw [wrap_small (by rw [hn] at ha ⊢; exact Nat.and_lt_two_pow a (by rw [← hn]; exact hb))]
      rfl
    · obtain rfl := Option.some.inj h
      simp only [Op.intBits, ea, eb, Sem.run_pure, BitVec.toNat_or, BitVec.toNat_ofNat, ma, mb]
      rw [wrap_small (by rw [hn] at ha hb ⊢; exact Nat.or_lt_two_pow ha hb)]
      rfl
    · obtain rfl := Option.some.inj h
      simp only [Op.intBits, ea, eb, Sem.run_pure, BitVec.toNat_xor, BitVec.toNat_ofNat, ma, mb]
      rw [wrap_small (by rw [hn] at ha hb ⊢; exact Nat.xor_lt_two_pow ha hb)]
      rfl
    · cases h
  · cases h

theorem strEq_eq : ∀ (a b : List Nat), strEq a b = (a == b)
  | [], [] => rfl
  | [], _ :: _ => rfl
  | _ :: _, [] => rfl
  | a :: l, b :: r => by
    rw [Bool.eq_iff_iff]
    simp [strEq, strEq_eq l r]
theorem mkStr_toList (l : List Nat) : (mkStr l).toList = l.map UInt8.ofNat := by
  rw [ByteArray.toList_eq]; simp [mkStr]
theorem ofNat_inj {a b : Nat} (ha : a < 256) (hb : b < 256) : UInt8.ofNat a = UInt8.ofNat b ↔ a = b := by
  constructor
  · intro h
    have := congrArg UInt8.toNat h
    simp at this
    omega
  · rintro rfl; rfl
theorem map_inj : ∀ {a b : List Nat}, (∀ c ∈ a, c < 256) → (∀ c ∈ b, c < 256) → (a.map UInt8.ofNat = b.map UInt8.ofNat ↔ a = b)
  | [], [], _, _ => by simp
  | [], _ :: _, _, _ => by simp
  | _ :: _, [], _, _ => by simp
  | x :: a, y :: b, ha, hb => by
    simp only [List.map_cons, List.cons.injEq]
    rw [ofNat_inj (ha x (by simp)) (hb y (by simp)), map_inj (fun c hc => ha c (by simp [hc])) (fun c hc => hb c (by simp [hc]))]
theorem strLt_eq : ∀ {a b : List Nat}, (∀ c ∈ a, c < 256) → (∀ c ∈ b, c < 256) → strLt a b = Op.bytesLess (a.map UInt8.ofNat) (b.map UInt8.ofNat)
  | _, [], _, _ => by simp [strLt, Op.bytesLess]
  | [], _ :: _, _, _ => by simp [strLt, Op.bytesLess]
  | x :: a, y :: b, ha, hb => by
    have hx := ha x (by simp)
    have hy := hb y (by simp)
    have h1 : Nat.blt x y = decide (UInt8.ofNat x < UInt8.ofNat y) := by
      rw [Bool.eq_iff_iff]
      simp only [Nat.blt_eq, decide_eq_true_eq, UInt8.lt_iff_toNat_lt, UInt8.toNat_ofNat']
      omega
    have h2 : Nat.beq x y = (UInt8.ofNat x == UInt8.ofNat y) := by
      rw [Bool.eq_iff_iff]; simp [ofNat_inj hx hy]
    simp only [strLt, Op.bytesLess, List.map_cons, h1, h2, strLt_eq (a := a) (b := b) (fun c hc => ha c (by simp [hc])) (fun c hc => hb c (by simp [hc]))]

section
variable {G : Glob} {P : Program} (hG : GlobOk G P) {S : Map} {E : Env} {a : Go.Act}

theorem intOp_ok {op : BinOp} {k : IntKind} {x y : Int} {r : AV} (t : TypeId) (hs : op ≠ .shl ∧ op ≠ .shr) (h : intOp op k x y = some r) : ∃ v, Rel S r v ∧ ∀ w, (binOp op t (.int k x) (.int k y)).run P w = .ok v w := by
  unfold intOp at h
  split at h
  all_goals try (cases h; done)
  · obtain rfl := Option.some.inj h
    exact ⟨_, by rw [Rel, wrapF_eq], fun w => by simp [binOp, Op.intArith]⟩
  · obtain rfl := Option.some.inj h
    exact ⟨_, by rw [Rel, wrapF_eq], fun w => by simp [binOp, Op.intArith]⟩
  · obtain rfl := Option.some.inj h
    exact ⟨_, by rw [Rel, wrapF_eq], fun w => by simp [binOp, Op.intArith]⟩
  · split at h
    · cases h
    · rename_i hz
      rw [natEq_eq] at hz
      have hz : ¬ y = 0 := by simpa using hz
      obtain rfl := Option.some.inj h
      exact ⟨_, by rw [Rel, wrapF_eq], fun w => by simp [binOp, Op.intDiv, hz]⟩
  · split at h
    · cases h
    · rename_i hz
      rw [natEq_eq] at hz
      have hz : ¬ y = 0 := by simpa using hz
      obtain rfl := Option.some.inj h
      exact ⟨_, by rw [Rel], fun w => by simp [binOp, Op.intDiv, hz]⟩
  · obtain rfl := Option.some.inj h
    exact ⟨_, by rw [Rel, natEq_eq], fun w => by simp [binOp, Op.intCmp]⟩
  · obtain rfl := Option.some.inj h
    exact ⟨_, by rw [Rel, natEq_eq], fun w => by simp [binOp, Op.intCmp, bne]⟩
  · obtain rfl := Option.some.inj h
    exact ⟨_, by rw [Rel, natLt_eq], fun w => by simp [binOp, Op.intCmp]⟩
  · obtain rfl := Option.some.inj h
    refine ⟨.bool (decide (x ≤ y)), ?_, fun w => by simp [binOp, Op.intCmp]⟩
    rw [Rel, natLt_eq]; congr 1; rw [Bool.eq_iff_iff]; simp
  · obtain rfl := Option.some.inj h
    exact ⟨_, by rw [Rel, natLt_eq], fun w => by simp [binOp, Op.intCmp]⟩
  · obtain rfl := Option.some.inj h
    refine ⟨.bool (decide (x ≥ y)), ?_, fun w => by simp [binOp, Op.intCmp]⟩
    rw [Rel, natLt_eq]; congr 1; rw [Bool.eq_iff_iff]; simp
  all_goals
    simp only [Option.map_eq_some_iff] at h
    obtain ⟨q, hq, rfl⟩ := h
    exact ⟨_, by rw [Rel], fun w => by simpa [binOp] using bitsF_eq hq⟩

theorem bits_ge (k : IntKind) : k.bits ≤ 64 := by cases k <;> decide
theorem shiftOp_ok {op : BinOp} {k k' : IntKind} {x y : Int} {r : AV} (t : TypeId) (h : shiftOp op k x y = some r) : ∃ v, Rel S r v ∧ ∀ w, (binOp op t (.int k x) (.int k' y)).run P w = .ok v w := by
  cases y with
  | negSucc _ => simp [shiftOp] at h
  | ofNat n =>
  cases x with
  | negSucc _ => simp [shiftOp] at h
  | ofNat m =>
  simp only [shiftOp] at h
  split at h
  · split at h
    · rename_i hn
      simp only [Bool.and_eq_true, Nat.ble_eq] at hn
      obtain rfl := Option.some.inj h
      refine ⟨.int k (k.wrap ((m : Int) * 2 ^ n)), by rw [Rel, wrapF_eq]; simp, fun w => ?_⟩
      have : min n k.bits = n := by omega
      have h0 : ¬ ((n : Int) < 0) := by omega
      simp [binOp, Op.shift, this, h0]
    · cases h
  · split at h
    · rename_i hn
      simp only [Nat.ble_eq] at hn
      obtain rfl := Option.some.inj h
      refine ⟨.int k ((m : Int).fdiv (2 ^ n)), by rw [Rel]; congr 1; rw [Int.fdiv_eq_ediv_of_nonneg _ (by exact_mod_cast Nat.zero_le _)]; simp, fun w => ?_⟩
      have : min n k.bits = n := by omega
      have h0 : ¬ ((n : Int) < 0) := by omega
      simp [binOp, Op.shift, this, h0]
    · cases h
  · cases h

theorem strOp_ok {op : BinOp} {x y : List Nat} {r : AV} (t : TypeId) (hx : ∀ c ∈ x, c < 256) (hy : ∀ c ∈ y, c < 256) (h : strOp op x y = some r) :
    ∃ v, Rel S r v ∧ ∀ w, (binOp op t (.string (mkStr x)) (.string (mkStr y))).run P w = .ok v w := by
  have heq : ((mkStr x).toList == (mkStr y).toList) = strEq x y := by
    rw [strEq_eq, mkStr_toList, mkStr_toList, Bool.eq_iff_iff]
    simp only [beq_iff_eq]
    exact map_inj hx hy
  have hlt : Op.bytesLess (mkStr x).toList (mkStr y).toList = strLt x y := by
    rw [mkStr_toList, mkStr_toList, strLt_eq hx hy]
  unfold strOp at h
  split at h
  all_goals try (cases h; done)
  · split at h
    · rename_i hn
      simp only [Nat.blt_eq] at hn
      obtain rfl := Option.some.inj h
      refine ⟨.string (mkStr x ++ mkStr y), ?_, fun w => ?_⟩
      · rw [Rel]
        refine ⟨?_, ?_⟩
        · congr 1
          apply ByteArray.ext
          simp [mkStr, ByteArray.data_append]
        · intro c hc
          rcases List.mem_append.1 hc with hc | hc
          · exact hx c hc
          · exact hy c hc
      · have : ¬ ((((mkStr x).size + (mkStr y).size : Nat) : Int) > IntKind.i64.max) := by
          have h1 : (mkStr x).size = x.length := by simp [mkStr, ByteArray.size]
          have h2 : (mkStr y).size = y.length := by simp [mkStr, ByteArray.size]
          rw [h1, h2]
          have : IntKind.i64.max = 9223372036854775807 := by decide
          rw [this]
          omega
        simp only [binOp, Op.stringOp, Sem.run_ite, this, if_false, Sem.run_pure]
    · cases h
  all_goals
    obtain rfl := Option.some.inj h
    exact ⟨_, by rw [Rel], fun w => by simp only [binOp, Op.stringOp, Sem.run_pure, heq, hlt]⟩
end
end Go.Abs
