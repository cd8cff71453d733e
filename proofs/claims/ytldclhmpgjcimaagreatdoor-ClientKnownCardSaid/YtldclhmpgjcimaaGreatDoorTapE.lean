/- The abstract evaluator: parts of aggregates, equality. -/
import Derived.Test.YtldclhmpgjcimaaGreatDoorTapD
import Derived.Laws.StructEq
namespace Go.Abs
open Go
section
variable {G : Glob} {P : Program} (hG : GlobOk G P) {S : Map}

include hG in
theorem part_ok {t : Nat} {cs : List AV} {off : Nat} {r : AV} {arr : Array Value} (h : partA G t cs off = some r) (hr : RelL S cs arr.toList) :
    ∃ v, Rel S r v ∧ ∀ w, (part t arr off).run P w = .ok v w := by
  unfold partA at h
  split at h
  · rename_i n ha hn
    split at h
    · rename_i hle
      simp only [Nat.ble_eq] at hle
      obtain rfl := Option.some.inj h
      refine ⟨.agg (arr.extract off (off + n)), ?_, fun w => by simp [part, run_agg hG ha, run_size hG hn]⟩
      rw [Rel]
      refine ⟨_, rfl, ?_⟩
      have : (arr.extract off (off + n)).toList = (arr.toList.drop off).take n := by
        rw [Array.toList_extract, List.extract_eq_take_drop]
        congr 1; omega
      rw [this]
      exact (hr.drop off).take n
    · cases h
  · rename_i n ha hn
    obtain ⟨v, h1, h2⟩ := hr.get off h
    have h1' : arr[off]? = some v := by simpa using h1
    exact ⟨v, h2, fun w => by simp [part, run_agg hG ha, h1']⟩
  · cases h


def elemsS (d e n : Nat) (xs ys : Array Value) : Nat → Nat → Sem Bool
  | _, 0 => pure true
  | i, m + 1 => do
    let a ← part e xs (i * n)
    let b ← part e ys (i * n)
    let r ← Op.equalIn d e a b
    if (!r) = true then pure false else elemsS d e n xs ys (i + 1) m
theorem equalIn_arr {d : Nat} {t e n len : Nat} {xs ys : Array Value} {w : World} (ht : P.underlying t = some (.array len e)) (hn : ∀ w, (sizeOf e).run P w = .ok n w) :
    (Op.equalIn (d + 1) t (.agg xs) (.agg ys)).run P w = (elemsS d e n xs ys 0 len).run P w := by
  simp only [Op.equalIn, Sem.run_bind, run_underlying ht, Result.andThen_ok, hn, Std.Legacy.Range.forIn_eq_forIn_range', Std.Legacy.Range.size, Nat.sub_zero, Nat.add_sub_cancel, Nat.div_one]
  generalize (0 : Nat) = i
  clear ht
  induction len generalizing i w with
  | zero => simp [elemsS]
  | succ m ih =>
    rw [List.range'_succ]
    simp only [List.forIn_cons, elemsS, Sem.run_bind, Sem.run_ite]
    generalize (part e xs (i * n)).run P w = r1
    cases r1 with
    | ok a w1 =>
      simp only [Result.andThen_ok]
      generalize (part e ys (i * n)).run P w1 = r2
      cases r2 with
      | ok b w2 =>
        simp only [Result.andThen_ok]
        generalize (Op.equalIn d e a b).run P w2 = r3
        cases r3 with
        | ok r w3 =>
          cases r
          · simp only [Result.andThen_ok, Bool.not_false, if_true, Sem.run_pure]
          · simp only [Result.andThen_ok, Bool.not_true, Bool.false_eq_true, if_false, Sem.run_pure]
            exact ih (i + 1)
        | halt x w3 => simp [Result.andThen]
      | halt x w2 => simp [Result.andThen]
    | halt x w1 => simp [Result.andThen]

theorem run_fieldsOf {t : Nat} {fs : Array Field} (h : P.underlying t = some (.struct fs)) : P.fieldsOf t = fs := by
  simp [Program.fieldsOf, h]

set_option maxHeartbeats 2000000 in
include hG in
theorem eq_ok : ∀ d : Nat,
    (∀ t x y r vx vy, eqA G d t x y = some r → Rel S x vx → Rel S y vy → ∀ d', d ≤ d' → ∀ w, (Op.equalIn d' t vx vy).run P w = .ok r w) ∧
    (∀ fs xs ys r (vx vy : Array Value), eqFields G d fs xs ys = some r → RelL S xs vx.toList → RelL S ys vy.toList → ∀ d', d ≤ d' → ∀ w, (Op.eqFields d' vx vy fs).run P w = .ok r w) ∧
    (∀ e n xs ys i m r (vx vy : Array Value), eqElems G d e n xs ys i m = some r → RelL S xs vx.toList → RelL S ys vy.toList → ∀ d', d ≤ d' → ∀ w,
      (elemsS d' e n vx vy i m).run P w = .ok r w)
  | 0 => ⟨fun t x y r vx vy h => by simp [eqA] at h, fun fs xs ys r vx vy h => by simp [eqFields] at h, fun e n xs ys i m r vx vy h => by simp [eqElems] at h⟩
  | d + 1 => by
    obtain ⟨ihA, ihF, ihE⟩ := eq_ok d
    refine ⟨?_, ?_, ?_⟩
    · intro t x y r vx vy h hx hy d' hd w
      obtain ⟨d', rfl⟩ : ∃ n, d' = n + 1 := ⟨d' - 1, by omega⟩
      have hd : d ≤ d' := by omega
      unfold eqA at h
      split at h
      case h_10 =>
        rename_i ht
        split at h
        · rename_i hb
          obtain rfl := Nat.eq_of_beq_eq_true hb
          split at h
          · rename_i i hi
            split at h
            · rename_i hc
              rw [Rel] at hx; rw [Rel] at hy
              obtain ⟨x', rfl, hx⟩ := hx
              obtain ⟨y', rfl, hy⟩ := hy
              have := ihA _ _ _ _ _ _ h hx hy d' hd w
              simp [Op.equalIn, run_und hG ht, run_info hG hi, hc, this]
            · cases h
          · cases h
        · rename_i hb
          obtain rfl := Option.some.inj h
          rw [Rel] at hx; rw [Rel] at hy
          obtain ⟨x', rfl, hx⟩ := hx
          obtain ⟨y', rfl, hy⟩ := hy
          have hb' := hb
          simp at hb'
          simp [Op.equalIn, run_und hG ht, hb']
      case h_11 =>
        rename_i ht
        split at h
        · rename_i hst
          rw [Rel] at hx; rw [Rel] at hy
          obtain ⟨x', rfl, hx⟩ := hx
          obtain ⟨y', rfl, hy⟩ := hy
          have hu := und_of hG ht
          rw [run_equalIn_struct w d' t x' y' (by rw [run_fieldsOf hu]; exact hu) (hG.stood t hst), run_fieldsOf hu]
          exact ihF _ _ _ _ _ _ h hx hy d' hd w
        · cases h
      case h_12 =>
        rename_i ht
        split at h
        · rename_i n hn
          rw [Rel] at hx; rw [Rel] at hy
          obtain ⟨x', rfl, hx⟩ := hx
          obtain ⟨y', rfl, hy⟩ := hy
          rw [equalIn_arr (und_of hG ht) (run_size hG hn)]
          exact ihE _ _ _ _ _ _ _ _ _ h hx hy d' hd w
        · cases h
      case h_2 =>
        rename_i ht
        split at h
        · rename_i hk
          subst hk
          obtain rfl := Option.some.inj h
          rw [Rel] at hx; rw [Rel] at hy
          subst hx; subst hy
          simp [Op.equalIn, run_und hG ht, natEq_eq]
        · cases h
      case h_3 =>
        rename_i ht
        obtain rfl := Option.some.inj h
        rw [Rel] at hx; rw [Rel] at hy
        obtain ⟨rfl, hx⟩ := hx
        obtain ⟨rfl, hy⟩ := hy
        rw [run_equalIn_string w d' t _ _ (und_of hG ht), mkStr_toList, mkStr_toList, strEq_eq]
        congr 1
        rw [Bool.eq_iff_iff]
        simp only [beq_iff_eq]
        exact map_inj hx hy
      all_goals try (cases h; done)
      all_goals
        rename_i ht
        obtain rfl := Option.some.inj h
        have hr := run_und hG ht
        first
          | (rw [Rel] at hx; rw [Rel] at hy; subst hx; subst hy; simp [Op.equalIn, hr]; done)
          | (rw [Rel] at hx; rw [Rel] at hy; subst hx; obtain ⟨_, _, _, rfl⟩ := hy; simp [Op.equalIn, hr]; done)
          | (rw [Rel] at hx; rw [Rel] at hy; subst hy; obtain ⟨_, _, _, rfl⟩ := hx; simp [Op.equalIn, hr]; done)
          | (rw [Rel] at hx; rw [Rel] at hy; subst hx; obtain ⟨_, rfl, _⟩ := hy; simp [Op.equalIn, hr]; done)
          | (rw [Rel] at hx; rw [Rel] at hy; subst hy; obtain ⟨_, rfl, _⟩ := hx; simp [Op.equalIn, hr]; done)
          | (rw [Rel] at hx; rw [Rel] at hy; subst hx; obtain ⟨_, _, rfl, _⟩ := hy; simp [Op.equalIn, hr]; done)
          | (rw [Rel] at hx; rw [Rel] at hy; subst hy; obtain ⟨_, _, rfl, _⟩ := hx; simp [Op.equalIn, hr]; done)
          | (rw [Rel] at hx; rw [Rel] at hy; subst hx; obtain ⟨_, _, rfl⟩ := hy; simp [Op.equalIn, hr]; done)
          | (rw [Rel] at hx; rw [Rel] at hy; subst hy; obtain ⟨_, _, rfl⟩ := hx; simp [Op.equalIn, hr]; done)
          | (rw [Rel] at hx; subst hx; obtain ⟨_, _, _, rfl, _⟩ := hy.slice_inv; simp [Op.equalIn, hr]; done)
          | (rw [Rel] at hy; subst hy; obtain ⟨_, _, _, rfl, _⟩ := hx.slice_inv; simp [Op.equalIn, hr]; done)
    · intro fs xs ys r vx vy h hx hy d' hd w
      cases fs with
      | nil =>
        simp only [eqFields] at h
        obtain rfl := Option.some.inj h
        simp [Op.eqFields]
      | cons f fr =>
        simp only [eqFields] at h
        split at h
        · rename_i hf
          have hf' : f.name = "_" := by simpa using hf
          simp only [Op.eqFields, hf', ne_eq, not_true_eq_false, if_false]
          exact ihF _ _ _ _ _ _ h hx hy d' (by omega) w
        · rename_i hf
          have hf' : f.name ≠ "_" := by simpa using hf
          split at h
          · rename_i a b ha hb
            obtain ⟨va, hva, ra⟩ := part_ok hG ha hx
            obtain ⟨vb, hvb, rb⟩ := part_ok hG hb hy
            split at h
            · rename_i hq
              have := ihA _ _ _ _ _ _ hq hva hvb d' (by omega) w
              simp only [Op.eqFields, hf', ne_eq, not_false_eq_true, if_true, Sem.run_bind, ra, rb, this, Result.andThen_ok, Bool.not_true, Bool.false_eq_true, if_false]
              exact ihF _ _ _ _ _ _ h hx hy d' (by omega) w
            · rename_i hq
              have := ihA _ _ _ _ _ _ h hva hvb d' (by omega) w
              cases r with
              | true => exact absurd h hq
              | false => simp [Op.eqFields, hf', ra, rb, this]
          · cases h
    · intro e n xs ys i m r vx vy h hx hy d' hd w
      cases m with
      | zero =>
        simp only [eqElems] at h
        obtain rfl := Option.some.inj h
        simp [elemsS]
      | succ m =>
        simp only [eqElems] at h
        split at h
        · rename_i a b ha hb
          obtain ⟨va, hva, ra⟩ := part_ok hG ha hx
          obtain ⟨vb, hvb, rb⟩ := part_ok hG hb hy
          split at h
          · rename_i hq
            have := ihA _ _ _ _ _ _ hq hva hvb d' (by omega) w
            simp only [elemsS, Sem.run_bind, ra, rb, this, Result.andThen_ok, Bool.not_true, Bool.false_eq_true, if_false]
            exact ihE _ _ _ _ _ _ _ _ _ h hx hy d' (by omega) w
          · rename_i hq
            have := ihA _ _ _ _ _ _ h hva hvb d' (by omega) w
            cases r with
            | true => exact absurd h hq
            | false => simp [elemsS, ra, rb, this]
        · cases h
end
end Go.Abs
