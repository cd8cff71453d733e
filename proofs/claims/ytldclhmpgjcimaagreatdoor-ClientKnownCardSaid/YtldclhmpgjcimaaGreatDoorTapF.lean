/- The abstract evaluator: the guard of ==, all two-sided operations, filling aggregates. -/
import Derived.Test.YtldclhmpgjcimaaGreatDoorTapE
namespace Go.Abs
open Go
section
variable {G : Glob} {P : Program} (hG : GlobOk G P) {S : Map}

theorem rel_nilIface {a : AV} (h : Rel S a .nilIface) : a = .nilIface := by
  cases a with
  | slice b v o e len c => obtain ⟨_, _, _, h, _⟩ := h.slice_inv; cases h
  | _ => first
    | rfl
    | (rw [Rel] at h; cases h; done)
    | (rw [Rel] at h; obtain ⟨h, _⟩ := h; cases h; done)
    | (rw [Rel] at h; obtain ⟨_, h, _⟩ := h; cases h; done)
    | (rw [Rel] at h; obtain ⟨_, _, h, _⟩ := h; cases h; done)
    | (rw [Rel] at h; obtain ⟨_, _, h⟩ := h; cases h; done)
    | (rw [Rel] at h; obtain ⟨_, _, _, h⟩ := h; cases h; done)
theorem rel_agg {a : AV} {l : Array Value} (h : Rel S a (.agg l)) : ∃ l', a = .agg l' ∧ RelL S l' l.toList := by
  cases a with
  | slice b v o e len c => obtain ⟨_, _, _, h, _⟩ := h.slice_inv; cases h
  | agg l' => rw [Rel] at h; obtain ⟨_, h, h'⟩ := h; cases h; exact ⟨_, rfl, h'⟩
  | _ => first
    | (rw [Rel] at h; cases h; done)
    | (rw [Rel] at h; obtain ⟨h, _⟩ := h; cases h; done)
    | (rw [Rel] at h; obtain ⟨_, h, _⟩ := h; cases h; done)
    | (rw [Rel] at h; obtain ⟨_, _, h, _⟩ := h; cases h; done)
    | (rw [Rel] at h; obtain ⟨_, _, h⟩ := h; cases h; done)
    | (rw [Rel] at h; obtain ⟨_, _, _, h⟩ := h; cases h; done)

include hG in
theorem noIface_ok : ∀ (f t : Nat), noIface G f t = true → ∀ d, f ≤ d → P.eqGuardType d t = false
  | 0, t, h => by simp [noIface] at h
  | f + 1, t, h => by
    intro d hd
    obtain ⟨d, rfl⟩ : ∃ n, d = n + 1 := ⟨d - 1, by omega⟩
    unfold noIface at h
    unfold Program.eqGuardType
    split at h
    · cases h
    · rename_i fs hu
      rw [und_of hG hu]
      simp only [List.all_eq_true] at h
      simp only [Array.any_eq_false']
      intro x hx
      have := noIface_ok f _ (h x (by simpa using hx)) d (by omega)
      simp [this]
    · rename_i e hu
      rw [und_of hG hu]
      exact noIface_ok f _ h d (by omega)
    · rename_i dd h1 h2 h3 hu
      rw [und_of hG hu]
      cases dd <;> first | rfl | (exact absurd rfl (h1 _)) | (exact absurd rfl (h2 _)) | (exact absurd rfl (h3 _ _))
    · cases h
theorem depth_big (P : Program) : 8 ≤ P.depth := by
  unfold Program.depth Made.depth; omega

include hG in
theorem eqGuard_ok {op : BinOp} {t : Nat} {x y : Operand} {a b : AV} {va vb : Value} (h : eqGuardA G t x y a b = true) (ha : Rel S a va) (hb : Rel S b vb) (w : World) :
    (eqGuard op t x y va vb).run P w = .ok () w := by
  have key : (op = .eql ∨ op = .neq) → (eqGuard op t x y va vb).run P w = .ok () w := by
    intro hop
    have : eqGuard op t x y va vb = eqGuard .eql t x y va vb := by rcases hop with rfl | rfl <;> rfl
    rw [this]
    unfold eqGuard
    simp only [Bool.not_true, Bool.false_eq_true, ↓reduceIte]
    split
    · obtain rfl := rel_nilIface ha
      obtain rfl := rel_nilIface hb
      cases x <;> cases y <;> first | rfl | (simp [eqGuardA] at h; done)
    · obtain ⟨_, rfl, _⟩ := rel_agg ha
      obtain ⟨_, rfl, _⟩ := rel_agg hb
      have h' : noIface G 8 t = true := h
      have := noIface_ok hG 8 t h' P.depth (depth_big P)
      simp [this]
    · rfl
  cases op <;> first | exact key (.inl rfl) | exact key (.inr rfl) | rfl

def cls : AV → Nat
  | .int _ _ => 0
  | .str _ => 1
  | _ => 2
theorem eqA_cls {d t : Nat} {x y : AV} {r : Bool} (h : eqA G d t x y = some r) : cls x = cls y := by
  cases d with
  | zero => simp [eqA] at h
  | succ d =>
    unfold eqA at h
    split at h <;> first | rfl | (cases h; done)
theorem rel_plain {a : AV} {v : Value} (h : Rel S a v) (hc : cls a = 2) : (∀ k n, v ≠ .int k n) ∧ (∀ k n, v ≠ .float k n) ∧ (∀ k n m, v ≠ .complex k n m) ∧ (∀ s, v ≠ .string s) := by
  cases a with
  | slice b v o e len c => obtain ⟨_, _, _, rfl, _⟩ := h.slice_inv; simp
  | int k n => simp [cls] at hc
  | str s => simp [cls] at hc
  | _ => first
    | (rw [Rel] at h; subst h; simp; done)
    | (rw [Rel] at h; obtain ⟨_, rfl, _⟩ := h; simp; done)
    | (rw [Rel] at h; obtain ⟨_, _, rfl, _⟩ := h; simp; done)
    | (rw [Rel] at h; obtain ⟨_, _, rfl⟩ := h; simp; done)
    | (rw [Rel] at h; obtain ⟨_, _, _, rfl⟩ := h; simp; done)
theorem run_eql_plain {t : TypeId} {x y : Value} (hx : (∀ k n, x ≠ .int k n) ∧ (∀ k n, x ≠ .float k n) ∧ (∀ k n m, x ≠ .complex k n m) ∧ (∀ s, x ≠ .string s)) (w : World) :
    (binOp .eql t x y).run P w = ((Op.equal t x y).run P w).andThen fun r w' => .ok (.bool r) w' := by
  cases x with
  | int k n => exact absurd rfl (hx.1 k n)
  | float k n => exact absurd rfl (hx.2.1 k n)
  | complex k n m => exact absurd rfl (hx.2.2.1 k n m)
  | string s => exact absurd rfl (hx.2.2.2 s)
  | _ => simp [binOp]
theorem run_neq_plain {t : TypeId} {x y : Value} (hx : (∀ k n, x ≠ .int k n) ∧ (∀ k n, x ≠ .float k n) ∧ (∀ k n m, x ≠ .complex k n m) ∧ (∀ s, x ≠ .string s)) (w : World) :
    (binOp .neq t x y).run P w = ((Op.equal t x y).run P w).andThen fun r w' => .ok (.bool (!r)) w' := by
  cases x with
  | int k n => exact absurd rfl (hx.1 k n)
  | float k n => exact absurd rfl (hx.2.1 k n)
  | complex k n m => exact absurd rfl (hx.2.2.1 k n m)
  | string s => exact absurd rfl (hx.2.2.2 s)
  | _ => simp [binOp]

include hG in
theorem binOpA_ok {op : BinOp} {t : Nat} {a b r : AV} {va vb : Value} (h : binOpA G op t a b = some r) (ha : Rel S a va) (hb : Rel S b vb) :
    ∃ v, Rel S r v ∧ ∀ w, (binOp op t va vb).run P w = .ok v w := by
  unfold binOpA at h
  split at h
  · rw [Rel] at ha; rw [Rel] at hb
    subst ha; subst hb
    split at h
    · exact shiftOp_ok t h
    · exact shiftOp_ok t h
    · rename_i h1 h2
      split at h
      · rename_i hk; subst hk
        exact intOp_ok t ⟨fun e => h1 e, fun e => h2 e⟩ h
      · cases h
  · rw [Rel] at ha; rw [Rel] at hb
    obtain ⟨rfl, ha⟩ := ha
    obtain ⟨rfl, hb⟩ := hb
    exact strOp_ok t ha hb h
  · rename_i hi hs
    split at h
    · simp only [Option.map_eq_some_iff] at h
      obtain ⟨q, hq, rfl⟩ := h
      have hc := eqA_cls hq
      have h2 : cls a = 2 := by
        cases a with
        | int k n => cases b <;> simp [cls] at hc; exact absurd rfl (hi _ _ _ _ rfl)
        | str s => cases b <;> simp [cls] at hc; exact absurd rfl (hs _ _ rfl)
        | _ => rfl
      refine ⟨.bool q, by rw [Rel], fun w => ?_⟩
      rw [run_eql_plain (rel_plain ha h2)]
      unfold Op.equal
      rw [(eq_ok hG eqFuel).1 _ _ _ _ _ _ hq ha hb Op.maxDepth (by decide) w]
      rfl
    · simp only [Option.map_eq_some_iff] at h
      obtain ⟨q, hq, rfl⟩ := h
      have hc := eqA_cls hq
      have h2 : cls a = 2 := by
        cases a with
        | int k n => cases b <;> simp [cls] at hc; exact absurd rfl (hi _ _ _ _ rfl)
        | str s => cases b <;> simp [cls] at hc; exact absurd rfl (hs _ _ rfl)
        | _ => rfl
      refine ⟨.bool (!q), by rw [Rel], fun w => ?_⟩
      rw [run_neq_plain (rel_plain ha h2)]
      unfold Op.equal
      rw [(eq_ok hG eqFuel).1 _ _ _ _ _ _ hq ha hb Op.maxDepth (by decide) w]
      rfl
    · cases h

/-! filling -/
theorem RelL.of_get {S : Map} : ∀ {a : List AV} {x : List Value}, x.length = a.length → (∀ (i : Nat) (y : AV) (z : Value), a[i]? = some y → x[i]? = some z → Rel S y z) → RelL S a x
  | [], [], _, _ => RelL.nil
  | [], _ :: _, h, _ => by simp at h
  | _ :: _, [], h, _ => by simp at h
  | y :: a, z :: x, h, k => RelL.cons (k 0 y z (by simp) (by simp)) (RelL.of_get (by simpa using h) fun i y z h1 h2 => k (i + 1) y z (by simpa using h1) (by simpa using h2))
theorem RelL.at {S : Map} {a : List AV} {x : List Value} (h : RelL S a x) {i : Nat} {y : AV} {z : Value} (h1 : a[i]? = some y) (h2 : x[i]? = some z) : Rel S y z := by
  obtain ⟨z', h3, h4⟩ := h.get i h1
  rw [h2] at h3; cases h3; exact h4

theorem fillAt_get : ∀ (cells : List AV) (off : Nat) (ps cs : List AV), fillAt cells off ps = some cs →
    cs.length = cells.length ∧ off + ps.length ≤ cells.length + (if ps = [] then off else 0) ∧ ∀ i, cs[i]? = if off ≤ i ∧ i < off + ps.length then ps[i - off]? else cells[i]?
  | cells, off, [], cs, h => by
    cases cells <;> simp [fillAt] at h <;> subst h <;> simp <;> intro i h1 h2 <;> omega
  | [], off, p :: ps, cs, h => by simp [fillAt] at h
  | c :: cells, 0, p :: ps, cs, h => by
    simp only [fillAt, Option.map_eq_some_iff] at h
    obtain ⟨cs', h, rfl⟩ := h
    obtain ⟨h1, h2, h3⟩ := fillAt_get cells 0 ps cs' h
    refine ⟨by simp [h1], by simp; split at h2 <;> simp_all, fun i => ?_⟩
    cases i with
    | zero => simp
    | succ i =>
      simp only [List.getElem?_cons_succ, h3, Nat.zero_le, true_and, Nat.zero_add, List.length_cons, Nat.sub_zero, Nat.add_lt_add_iff_right]
  | c :: cells, off + 1, p :: ps, cs, h => by
    simp only [fillAt, Option.map_eq_some_iff] at h
    obtain ⟨cs', h, rfl⟩ := h
    obtain ⟨h1, h2, h3⟩ := fillAt_get cells off (p :: ps) cs' h
    refine ⟨by simp [h1], by simp at h2 ⊢; omega, fun i => ?_⟩
    cases i with
    | zero => simp
    | succ i =>
      simp only [List.getElem?_cons_succ, h3]
      have : i + 1 - (off + 1) = i - off := by omega
      rw [this]
      by_cases hc : off ≤ i ∧ i < off + (p :: ps).length
      · rw [if_pos hc, if_pos (by omega)]
      · rw [if_neg hc, if_neg (by omega)]

theorem foldl_set (off : Nat) : ∀ (vs : List Value) (k : Nat) (arr : Array Value),
    let r := (vs.zipIdx k).foldl (fun cs (c, j) => cs.setIfInBounds (off + j) c) arr
    r.size = arr.size ∧ ∀ i, i < arr.size → r[i]? = if off + k ≤ i ∧ i < off + k + vs.length then vs[i - (off + k)]? else arr[i]?
  | [], k, arr => by simp; intro i _ h1 h2; omega
  | v :: vs, k, arr => by
    have ih := foldl_set off vs (k + 1) (arr.setIfInBounds (off + k) v)
    simp only [List.zipIdx_cons, List.foldl_cons] at ih ⊢
    refine ⟨by simpa using ih.1, fun i hi => ?_⟩
    rw [ih.2 i (by simpa using hi)]
    by_cases h1 : off + (k + 1) ≤ i ∧ i < off + (k + 1) + vs.length
    · rw [if_pos h1, if_pos (by simp; omega)]
      rw [show i - (off + k) = (i - (off + (k + 1))) + 1 from by omega]
      simp
    · rw [if_neg h1]
      by_cases h2 : i = off + k
      · subst h2
        simp [hi]
      · rw [if_neg (by simp; omega), Array.getElem?_setIfInBounds_ne (by omega)]

/-- Parts, as they stand on both sides. -/
def RelP (S : Map) : List (Nat × AV) → List (Nat × Value) → Prop
  | [], l => l = []
  | (i, a) :: r, l => ∃ x l', l = (i, x) :: l' ∧ Rel S a x ∧ RelP S r l'

theorem fillA_ok {place place' : Nat → Option (Nat × Nat)} (hp : ∀ i y, place i = some y → place' i = some y) :
    ∀ (ps : List (Nat × AV)) (vs : List (Nat × Value)) (cells cs : List AV) (arr : Array Value), fillA place cells ps = some cs → RelP S ps vs → RelL S cells arr.toList →
      ∃ arr', Instr.fill place' arr vs = some arr' ∧ RelL S cs arr'.toList
  | [], vs, cells, cs, arr, h, hr, hc => by
    simp only [RelP] at hr; subst hr
    simp only [fillA, Option.some.injEq] at h; subst h
    exact ⟨arr, rfl, hc⟩
  | (i, a) :: ps, vs, cells, cs, arr, h, hr, hc => by
    simp only [RelP] at hr
    obtain ⟨x, vs', rfl, hx, hr⟩ := hr
    simp only [fillA] at h
    split at h
    · cases h
    · rename_i off sz hpl
      split at h
      · rename_i hsz
        simp only [Bool.and_eq_true, Nat.ble_eq] at hsz
        have hle := hsz.2
        have hsz : a.cells.length = sz := by simpa using hsz.1
        split at h
        · cases h
        · rename_i cs1 hcs1
          obtain ⟨h1, _, h3⟩ := fillAt_get _ _ _ _ hcs1
          have hxc := hx.cells
          have hl : x.cells.size = a.cells.length := by simpa using hxc.length
          have hcl : arr.size = cells.length := by simpa using hc.length
          have hfold := foldl_set off x.cells.toList 0 arr
          have hz : x.cells.zipIdx.foldl (fun cs (p : Value × Nat) => cs.setIfInBounds (off + p.2) p.1) arr = (x.cells.toList.zipIdx 0).foldl (fun cs (p : Value × Nat) => cs.setIfInBounds (off + p.2) p.1) arr := by
            rw [← Array.foldl_toList]; simp
          have hnext : RelL S cs1 (x.cells.zipIdx.foldl (fun cs (p : Value × Nat) => cs.setIfInBounds (off + p.2) p.1) arr).toList := by
            rw [hz]
            apply RelL.of_get
            · simp only [Array.length_toList]
              rw [hfold.1, h1, hcl]
            · intro i y z hy hz
              have hi : i < arr.size := by
                have := (List.getElem?_eq_some_iff.1 hy).1
                omega
              rw [h3] at hy
              rw [Array.getElem?_toList, hfold.2 i hi] at hz
              simp only [Array.length_toList, hl, Nat.add_zero] at hz
              split at hy
              · rename_i hin
                rw [if_pos hin] at hz
                exact hxc.at hy (by simpa using hz)
              · rename_i hin
                rw [if_neg hin] at hz
                exact hc.at hy (by simpa using hz)
          obtain ⟨arr', h5, h6⟩ := fillA_ok hp ps vs' cs1 cs _ h hr hnext
          refine ⟨arr', ?_, h6⟩
          simp only [Instr.fill, hp _ _ hpl]
          rw [if_neg]
          · exact h5
          · simp
            omega
      · cases h
end
end Go.Abs
