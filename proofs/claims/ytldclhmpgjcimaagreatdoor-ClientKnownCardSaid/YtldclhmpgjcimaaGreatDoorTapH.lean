/- The abstract evaluator: slicing; all operations that touch no memory. -/
import Derived.Test.YtldclhmpgjcimaaGreatDoorTapF
namespace Go.Abs
open Go
def RelO (S : Map) : Option AV → Option Value → Prop
  | none, none => True
  | some a, some v => Rel S a v
  | _, _ => False
section
variable {G : Glob} {P : Program} (hG : GlobOk G P) {S : Map}

theorem bound_le {x : Option AV} {d m i : Nat} (h : bound x d m = some i) : (x = none ∧ i = d) ∨ (x ≠ none ∧ i ≤ m) := by
  unfold bound at h
  split at h
  · exact .inl ⟨rfl, (Option.some.inj h).symm⟩
  · split at h
    · rename_i hle
      obtain rfl := Option.some.inj h
      exact .inr ⟨by simp, by simpa using hle⟩
    · cases h
  · cases h
theorem sliceBound_ok {a : AV} {v : Value} {d m i m' : Nat} {code : BoundsCode} (h : bound (some a) d m = some i) (hr : Rel S a v) (hm : m ≤ m') (w : World) :
    (Instr.sliceBound v m' code).run P w = .ok i w := by
  unfold bound at h
  split at h
  · rename_i e; cases e
  · rename_i k j e
    obtain rfl := Option.some.inj e
    split at h
    · rename_i hle
      obtain rfl := Option.some.inj h
      have hle : j ≤ m := by simpa using hle
      rw [Rel] at hr; subst hr
      have h1 : (0 : Int) ≤ Int.ofNat j ∧ Int.ofNat j ≤ (m' : Int) := ⟨by simp, by simp; omega⟩
      simp only [Instr.sliceBound, asIntOf, Sem.run_bind, Sem.run_pure, Result.andThen_ok, Sem.run_ite, if_pos h1]
      rfl
    · cases h
  · cases h
theorem bnds_le {c len l h m : Nat} {lo hi mx : Option AV} (hb : bnds c len lo hi mx = some (l, h, m)) (hlc : len ≤ c) : l ≤ h ∧ h ≤ m ∧ m ≤ c := by
  unfold bnds at hb
  split at hb
  · cases hb
  · rename_i hne
    split at hb
    · cases hb
    · rename_i m' hm
      split at hb
      · cases hb
      · rename_i h' hh
        split at hb
        · cases hb
        · rename_i l' hl
          simp only [Option.some.injEq, Prod.mk.injEq] at hb
          obtain ⟨rfl, rfl, rfl⟩ := hb
          rcases bound_le hm with ⟨rfl, rfl⟩ | ⟨hmx, hm⟩ <;> rcases bound_le hh with ⟨rfl, rfl⟩ | ⟨_, hh⟩ <;> rcases bound_le hl with ⟨_, rfl⟩ | ⟨_, hl⟩
          all_goals try omega
          all_goals
            cases mx with
            | none => exact absurd rfl hmx
            | some x => exact absurd rfl (hne x rfl)
theorem bnds_m {c len l h m : Nat} {lo hi : Option AV} (hb : bnds c len lo hi none = some (l, h, m)) : m = c := by
  have : bound none c c = some c := rfl
  unfold bnds at hb
  split at hb
  · cases hb
  · rw [this] at hb
    split at hb
    · rename_i e; cases e
    · rename_i m' hm
      cases hm
      split at hb
      · cases hb
      · split at hb
        · cases hb
        · simp only [Option.some.injEq, Prod.mk.injEq] at hb
          exact hb.2.2.symm
theorem low_ok {lo : Option AV} {vlo : Option Value} {h' l' : Nat} (hl : bound lo 0 h' = some l') (h1 : RelO S lo vlo) :
    (vlo = none ∧ l' = 0) ∨ ∃ v, vlo = some v ∧ ∀ code (w : World), (Instr.sliceBound v h' code).run P w = .ok l' w := by
  cases lo with
  | none => cases vlo with
    | none =>
      rcases bound_le hl with ⟨_, rfl⟩ | ⟨hq, _⟩
      · exact .inl ⟨rfl, rfl⟩
      · exact absurd rfl hq
    | some v => exact h1.elim
  | some a => cases vlo with
    | none => exact h1.elim
    | some v => exact .inr ⟨v, rfl, fun code w => sliceBound_ok hl h1 (Nat.le_refl _) w⟩
/-- The bounds as the model reckons them: where there is no third bound, with any room c' that is at least c, the third being c' itself. -/
theorem bnds_ok {c len l h m c' : Nat} {lo hi mx : Option AV} {vlo vhi vmx : Option Value} {isS : Bool} (hb : bnds c len lo hi mx = some (l, h, m)) (hlc : len ≤ c) (hc : c ≤ c')
    (h1 : RelO S lo vlo) (h2 : RelO S hi vhi) (h3 : RelO S mx vmx) (w : World) :
    (Instr.sliceBounds isS len c' vlo vhi vmx).run P w = .ok (l, h, if mx = none then c' else m) w := by
  unfold bnds at hb
  split at hb
  · cases hb
  · rename_i hne
    split at hb
    · cases hb
    · rename_i m' hm
      split at hb
      · cases hb
      · rename_i h' hh
        split at hb
        · cases hb
        · rename_i l' hl
          simp only [Option.some.injEq, Prod.mk.injEq] at hb
          obtain ⟨rfl, rfl, rfl⟩ := hb
          have e1 := low_ok (P := P) hl h1
          cases mx with
          | none =>
            cases vmx with
            | some _ => exact h3.elim
            | none =>
            have hm' : m' = c := by rcases bound_le hm with ⟨_, rfl⟩ | ⟨hq, _⟩; · rfl
                                    · exact absurd rfl hq
            cases hi with
            | none => cases vhi with
              | some _ => exact h2.elim
              | none =>
                have : h' = len := by rcases bound_le hh with ⟨_, rfl⟩ | ⟨hq, _⟩; · rfl
                                      · exact absurd rfl hq
                subst this
                rcases e1 with ⟨rfl, rfl⟩ | ⟨v, rfl, hv⟩ <;> simp [Instr.sliceBounds, *]
            | some a => cases vhi with
              | none => exact h2.elim
              | some v =>
                have := sliceBound_ok (P := P) (m' := c') (code := if isS then .sliceAcap else .sliceAlen) hh h2 (by omega) w
                rcases e1 with ⟨rfl, rfl⟩ | ⟨v, rfl, hv⟩ <;> simp [Instr.sliceBounds, *]
          | some x =>
            cases vmx with
            | none => exact h3.elim
            | some vx =>
            cases hi with
            | none => exact absurd rfl (hne x rfl)
            | some a => cases vhi with
              | none => exact h2.elim
              | some v =>
                have q1 := sliceBound_ok (P := P) (m' := c') (code := if isS then .slice3Acap else .slice3Alen) hm h3 (by omega) w
                have q2 := sliceBound_ok (P := P) (m' := m') (code := .slice3B) hh h2 (Nat.le_refl _) w
                rcases e1 with ⟨rfl, rfl⟩ | ⟨v, rfl, hv⟩ <;> simp [Instr.sliceBounds, *]

theorem cutAt_rel {b v o e sz l h m R T : Nat} (hS : S b v = some (R, T)) (hhm : h ≤ m) :
    Rel S (cutAt b v o e sz l h m) (.slice (some (if m = l then (⟨R, o, none⟩ : Addr) else (⟨R, o, none⟩ : Addr).add (l * sz))) (h - l) (m - l)) := by
  unfold cutAt
  split
  · rename_i hml
    obtain rfl := Nat.eq_of_beq_eq_true hml
    rw [if_pos rfl, Rel]
    exact ⟨R, T, hS, rfl, by omega⟩
  · rename_i hml
    have : ¬ m = l := fun e => hml (by subst e; simp)
    rw [if_neg this, Rel, addr_add]
    exact ⟨R, T, hS, rfl, by omega⟩

theorem mkStr_extract (s : List Nat) (l h : Nat) : (mkStr s).extract l h = mkStr ((s.take h).drop l) := by
  apply ByteArray.ext
  apply Array.ext'
  simp [mkStr, ByteArray.data_extract, List.extract_eq_take_drop, List.drop_take]

include hG in
theorem sliceA_ok {t : Nat} {x r : AV} {lo hi mx : Option AV} {vx : Value} {vlo vhi vmx : Option Value} (h : sliceA G t x lo hi mx = some r) (hx : Rel S x vx)
    (h1 : RelO S lo vlo) (h2 : RelO S hi vhi) (h3 : RelO S mx vmx) : ∃ v, Rel S r v ∧ ∀ w, (Instr.sliceAt t vx vlo vhi vmx).run P w = .ok v w := by
  unfold sliceA at h
  split at h
  · rename_i n e b v o hu
    split at h
    · rename_i sz l hh m hs hb
      obtain rfl := Option.some.inj h
      rw [Rel] at hx
      obtain ⟨R, T, hS, rfl⟩ := hx
      have hle := bnds_le hb (Nat.le_refl _)
      refine ⟨_, cutAt_rel hS hle.2.1, fun w => ?_⟩
      have hm : (if mx = none then n else m) = m := by
        cases mx with
        | none => simp [bnds_m hb]
        | some _ => rfl
      simp only [Instr.sliceAt, Sem.run_bind, run_und hG hu, Result.andThen_ok, Instr.sureAddr, Sem.run_pure, bnds_ok (P := P) (c' := n) hb (Nat.le_refl _) (Nat.le_refl _) h1 h2 h3, run_size hG hs, hm]
    · cases h
  · rename_i s hu
    split at h
    · rename_i l hh m hb
      obtain rfl := Option.some.inj h
      rw [Rel] at hx
      obtain ⟨rfl, hx⟩ := hx
      cases vmx with
      | some _ => exact h3.elim
      | none =>
      have hsz : (mkStr s).size = s.length := by simp [mkStr, ByteArray.size]
      refine ⟨.string ((mkStr s).extract l hh), ?_, fun w => ?_⟩
      · rw [Rel, mkStr_extract]
        exact ⟨rfl, fun c hc => hx c (List.mem_of_mem_take (List.mem_of_mem_drop hc))⟩
      · have := bnds_ok (P := P) (isS := false) (c' := s.length) hb (Nat.le_refl _) (Nat.le_refl _) h1 h2 (show RelO S none none from trivial) w
        simp [Instr.sliceAt, Instr.slice, run_und hG hu, hsz, this]
    · cases h
  · rename_i e b v o e' len cap hu
    split at h
    · cases h
    · rename_i sz hs
      obtain ⟨R, T, k, rfl, hS, hlk, hcap⟩ := hx.slice_inv
      have step : ∀ (l h m : Nat) (w : World), (Instr.sliceBounds true len k vlo vhi vmx).run P w = .ok (l, h, m) w →
          (Instr.sliceAt t (.slice (some ⟨R, o, none⟩) len k) vlo vhi vmx).run P w = .ok (.slice (some (if m = l then (⟨R, o, none⟩ : Addr) else (⟨R, o, none⟩ : Addr).add (l * sz))) (h - l) (m - l)) w := by
        intro l h m w hw
        simp only [Instr.sliceAt, Instr.slice, Sem.run_bind, run_und hG hu, Result.andThen_ok, hw, run_size hG hs, Sem.run_pure]
        split <;> rfl
      unfold subSlice at h
      split at h
      · rename_i c
        have hck : c = k := by
          rcases hcap with hq | ⟨hq, _⟩
          · cases hq; rfl
          · cases hq
        subst hck
        split at h
        · rename_i l hh m hb
          obtain rfl := Option.some.inj h
          have hle := bnds_le hb hlk
          refine ⟨_, cutAt_rel hS hle.2.1, fun w => step _ _ _ w ?_⟩
          have hm : (if mx = none then c else m) = m := by
            cases mx with
            | none => simp [bnds_m hb]
            | some _ => rfl
          rw [bnds_ok (P := P) (isS := true) (c' := c) hb hlk (Nat.le_refl _) h1 h2 h3 w, hm]
        · cases h
      · rename_i m'
        split at h
        · rename_i l hh m hb
          obtain rfl := Option.some.inj h
          have hle := bnds_le hb (Nat.le_refl _)
          refine ⟨_, cutAt_rel hS hle.2.1, fun w => step _ _ _ w ?_⟩
          rw [bnds_ok (P := P) (isS := true) (c' := k) hb (Nat.le_refl _) hlk h1 h2 h3 w]
          rfl
        · cases h
      · split at h
        · rename_i l hh m hb
          have hle := bnds_le hb (Nat.le_refl _)
          obtain rfl := bnds_m hb
          have hrun := fun w => step _ _ _ w (bnds_ok (P := P) (isS := true) (c' := k) hb (Nat.le_refl _) hlk h1 h2 h3 w)
          simp only [if_true] at hrun
          obtain ⟨hk, hel⟩ : k = T - e' ∧ e' + m ≤ T := by
            rcases hcap with hq | ⟨_, hq⟩
            · cases hq
            · exact hq
          refine ⟨_, ?_, hrun⟩
          split at h
          · rename_i hl
            obtain rfl := Nat.eq_of_beq_eq_true hl
            obtain rfl := Option.some.inj h
            rw [Rel]
            refine ⟨R, T, hS, ?_, by omega⟩
            rw [addr_add]
            simp [hk]
          · split at h
            · rename_i hl
              obtain rfl := Nat.eq_of_beq_eq_true hl
              obtain rfl := Option.some.inj h
              rw [Rel]
              obtain rfl : hh = l := by omega
              exact ⟨_, _, by rw [Nat.sub_self]⟩
            · rename_i hl0 hl
              have hl : ¬ l = m := fun e => hl (by subst e; simp)
              obtain rfl := Option.some.inj h
              rw [Rel]
              refine ⟨R, T, hS, ?_, by omega⟩
              rw [if_neg (by omega), addr_add, hk, Nat.sub_sub]
        · cases h
  · rename_i e hu
    split at h
    · rename_i x sz y hs hb
      obtain rfl := Option.some.inj h
      obtain ⟨l, hh, m⟩ := y
      rw [Rel] at hx; subst hx
      have hle := bnds_le hb (Nat.le_refl _)
      have hm : (if mx = none then 0 else m) = 0 := by split <;> omega
      refine ⟨.slice none 0 0, by rw [Rel], fun w => ?_⟩
      have := bnds_ok (P := P) (isS := true) (c' := 0) hb (Nat.le_refl _) (Nat.le_refl _) h1 h2 h3 w
      rw [hm] at this
      obtain rfl : l = 0 := by omega
      obtain rfl : hh = 0 := by omega
      simp [Instr.sliceAt, Instr.slice, run_und hG hu, this, run_size hG hs]
    · cases h
  · rename_i e hu
    split at h
    · rename_i x sz y hs hb
      obtain rfl := Option.some.inj h
      obtain ⟨l, hh, m⟩ := y
      cases vmx with
      | some _ => exact h3.elim
      | none =>
      rw [Rel] at hx
      obtain ⟨a, c, rfl⟩ := hx
      have hle := bnds_le hb (Nat.le_refl _)
      obtain rfl : l = 0 := by omega
      obtain rfl : hh = 0 := by omega
      refine ⟨.slice (some a) 0 c, by rw [Rel]; exact ⟨_, _, rfl⟩, fun w => ?_⟩
      have := bnds_ok (P := P) (isS := true) (c' := c) hb (Nat.le_refl _) (Nat.zero_le _) h1 h2 (show RelO S none none from trivial) w
      simp only [if_true] at this
      have ha : a.add 0 = a := by simp [Addr.add]
      simp [Instr.sliceAt, Instr.slice, run_und hG hu, this, run_size hG hs, ha]
    · cases h
  · cases h
end
end Go.Abs
