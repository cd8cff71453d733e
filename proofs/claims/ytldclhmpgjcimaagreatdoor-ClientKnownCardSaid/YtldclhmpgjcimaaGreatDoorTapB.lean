/- The abstract evaluator: what an abstract value, heap and frame stand for; the moves of the heap. -/
import Derived.Test.YtldclhmpgjcimaaGreatDoorTapA
import Derived.Laws.Sem
namespace Go.Abs
open Go

def Path.ok : Path → Bool
  | .e => true
  | .l p => p.ok
  | .r p => p.ok
  | .z => false
section
variable {α : Type}
theorem getP_nil (p : Path) : getP p (T.nil : T α) = none := by cases p <;> rfl
theorem getP_ok : ∀ {p : Path} {t : T α} {y : α}, getP p t = some y → p.ok = true
  | .e, _, _, _ => rfl
  | .l p, t, y, h => by
    cases t with
    | nil => rw [getP_nil] at h; cases h
    | node l v r => exact getP_ok (p := p) (t := l) h
  | .r p, t, y, h => by
    cases t with
    | nil => rw [getP_nil] at h; cases h
    | node l v r => exact getP_ok (p := p) (t := r) h
  | .z, t, y, h => by cases h
theorem getP_setP : ∀ (p q : Path) (t : T α) (x y : α), getP q (setP p x t) = some y → (q = p ∧ y = x) ∨ (q ≠ p ∧ getP q t = some y)
  | .z, q, t, x, y, h => .inr ⟨fun e => by subst e; exact absurd (getP_ok h) (by decide), h⟩
  | .e, q, t, x, y, h => by
    cases q with
    | e => cases t <;> exact .inl ⟨rfl, (Option.some.inj h).symm⟩
    | l q => refine .inr ⟨by simp, ?_⟩; cases t with
      | nil => have h : getP q (T.nil : T α) = some y := h
               rw [getP_nil] at h; cases h
      | node l v r => exact h
    | r q => refine .inr ⟨by simp, ?_⟩; cases t with
      | nil => have h : getP q (T.nil : T α) = some y := h
               rw [getP_nil] at h; cases h
      | node l v r => exact h
    | z => cases h
  | .l p, q, t, x, y, h => by
    cases q with
    | e => refine .inr ⟨by simp, ?_⟩; cases t with
      | nil => cases h
      | node l v r => exact h
    | l q => cases t with
      | nil =>
        have h : getP q (setP p x (T.nil : T α)) = some y := h
        rcases getP_setP p q _ _ _ h with ⟨h1, h2⟩ | ⟨_, h2⟩
        · exact .inl ⟨by rw [h1], h2⟩
        · rw [getP_nil] at h2; cases h2
      | node l v r =>
        have h : getP q (setP p x l) = some y := h
        rcases getP_setP p q _ _ _ h with ⟨h1, h2⟩ | ⟨h1, h2⟩
        · exact .inl ⟨by rw [h1], h2⟩
        · exact .inr ⟨by simpa using h1, h2⟩
    | r q => refine .inr ⟨by simp, ?_⟩; cases t with
      | nil => have h : getP q (T.nil : T α) = some y := h
               rw [getP_nil] at h; cases h
      | node l v r => exact h
    | z => cases h
  | .r p, q, t, x, y, h => by
    cases q with
    | e => refine .inr ⟨by simp, ?_⟩; cases t with
      | nil => cases h
      | node l v r => exact h
    | r q => cases t with
      | nil =>
        have h : getP q (setP p x (T.nil : T α)) = some y := h
        rcases getP_setP p q _ _ _ h with ⟨h1, h2⟩ | ⟨_, h2⟩
        · exact .inl ⟨by rw [h1], h2⟩
        · rw [getP_nil] at h2; cases h2
      | node l v r =>
        have h : getP q (setP p x r) = some y := h
        rcases getP_setP p q _ _ _ h with ⟨h1, h2⟩ | ⟨h1, h2⟩
        · exact .inl ⟨by rw [h1], h2⟩
        · exact .inr ⟨by simpa using h1, h2⟩
    | l q => refine .inr ⟨by simp, ?_⟩; cases t with
      | nil => have h : getP q (T.nil : T α) = some y := h
               rw [getP_nil] at h; cases h
      | node l v r => exact h
    | z => cases h
theorem getP_setP_self : ∀ (p : Path) (t : T α) (x : α), p.ok = true → getP p (setP p x t) = some x
  | .z, _, _, h => by cases h
  | .e, t, x, _ => by cases t <;> rfl
  | .l p, t, x, h => by
    cases t with
    | nil => exact getP_setP_self p (T.nil : T α) x h
    | node l v r => exact getP_setP_self p l x h
  | .r p, t, x, h => by
    cases t with
    | nil => exact getP_setP_self p (T.nil : T α) x h
    | node l v r => exact getP_setP_self p r x h
theorem getP_setP_ne : ∀ (p q : Path) (t : T α) (x : α), q ≠ p → getP q (setP p x t) = getP q t
  | .z, q, t, x, h => rfl
  | .e, q, t, x, h => by
    cases q with
    | e => exact (h rfl).elim
    | l q => cases t with
      | nil => exact getP_nil q
      | node l v r => rfl
    | r q => cases t with
      | nil => exact getP_nil q
      | node l v r => rfl
    | z => rfl
  | .l p, q, t, x, h => by
    cases q with
    | e => cases t <;> rfl
    | l q =>
      have h' : q ≠ p := fun e => h (by rw [e])
      cases t with
      | nil =>
        have := getP_setP_ne p q (T.nil : T α) x h'
        rw [getP_nil] at this
        exact this
      | node l v r => exact getP_setP_ne p q l x h'
    | r q => cases t with
      | nil => exact getP_nil q
      | node l v r => rfl
    | z => rfl
  | .r p, q, t, x, h => by
    cases q with
    | e => cases t <;> rfl
    | r q =>
      have h' : q ≠ p := fun e => h (by rw [e])
      cases t with
      | nil =>
        have := getP_setP_ne p q (T.nil : T α) x h'
        rw [getP_nil] at this
        exact this
      | node l v r => exact getP_setP_ne p q r x h'
    | l q => cases t with
      | nil => exact getP_nil q
      | node l v r => rfl
    | z => rfl
theorem toP_succ (f n : Nat) : toP (f + 1) (n + 1) = if n % 2 = 0 then .l (toP f (n / 2)) else .r (toP f (n / 2)) := by
  show Nat.rec (motive := fun _ => Path) (.l (toP f (n / 2))) (fun _ _ => .r (toP f (n / 2))) (n % 2) = _
  cases h : n % 2 with
  | zero => rfl
  | succ k => rw [if_neg (by omega)]
theorem toP_inj : ∀ (f i j : Nat), (toP f i).ok = true → toP f i = toP f j → i = j
  | 0, i, j, h, _ => by cases h
  | f + 1, 0, 0, _, _ => rfl
  | f + 1, 0, j + 1, _, h => by
    rw [toP_succ] at h
    have h : Path.e = _ := h
    split at h <;> cases h
  | f + 1, i + 1, 0, _, h => by
    rw [toP_succ] at h
    have h : _ = Path.e := h
    split at h <;> cases h
  | f + 1, i + 1, j + 1, h, k => by
    rw [toP_succ] at h
    rw [toP_succ, toP_succ] at k
    split at h
    · rename_i hi
      rw [if_pos hi] at k
      split at k
      · rename_i hj
        have := toP_inj f _ _ h (Path.l.inj k)
        omega
      · cases k
    · rename_i hi
      rw [if_neg hi] at k
      split at k
      · cases k
      · rename_i hj
        have := toP_inj f _ _ h (Path.r.inj k)
        omega
namespace T
theorem get_set_self {f : Nat} {t u : T α} {i : Nat} {x y : α} (h : u.get i = some y) : (set f t i x).get i = some x := getP_setP_self _ _ _ (getP_ok h)
theorem get_set_ne {f : Nat} {t : T α} {i j : Nat} {x y : α} (hy : t.get j = some y) (h : j ≠ i) : (set f t i x).get j = some y := by
  unfold T.get at hy ⊢
  rw [show set f t i x = setP (toP 64 i) x t from rfl, getP_setP_ne _ _ _ _ fun e => h (toP_inj 64 _ _ (getP_ok hy) e)]
  exact hy
theorem get_nil (i : Nat) : (T.nil : T α).get i = none := getP_nil _
theorem get_set (f : Nat) (t : T α) (i j : Nat) (x y : α) (h : (set f t i x).get j = some y) : (j = i ∧ y = x) ∨ (j ≠ i ∧ t.get j = some y) := by
  rcases getP_setP _ _ _ _ _ h with ⟨h1, h2⟩ | ⟨h1, h2⟩
  · exact .inl ⟨toP_inj 64 _ _ (getP_ok h) h1, h2⟩
  · exact .inr ⟨by rintro rfl; exact h1 rfl, h2⟩
end T
end

/-- Which real block a version of an abstract block lies in, and for how many elements that has room. -/
abbrev Map := Nat → Nat → Option (Nat × Nat)
def Map.le (S S' : Map) : Prop := ∀ b v x, S b v = some x → S' b v = some x
theorem Map.le_refl (S : Map) : S.le S := fun _ _ _ h => h
theorem Map.le_trans {S S' S'' : Map} (h : S.le S') (k : S'.le S'') : S.le S'' := fun b v x e => k b v x (h b v x e)

def mkStr (l : List Nat) : ByteArray := ⟨(l.map UInt8.ofNat).toArray⟩

mutual
def Rel (S : Map) : AV → Value → Prop
  | .bool b, x => x = .bool b
  | .int k n, x => x = .int k n
  | .str s, x => x = .string (mkStr s) ∧ ∀ c ∈ s, c < 256
  | .ptr b v o, x => ∃ R T, S b v = some (R, T) ∧ x = .pointer (some ⟨R, o, none⟩)
  | .nilPtr, x => x = .pointer none
  | .slice b v o _ len (some c), x => ∃ R T, S b v = some (R, T) ∧ x = .slice (some ⟨R, o, none⟩) len c ∧ len ≤ c
  | .slice b v o e len none, x => ∃ R T, S b v = some (R, T) ∧ x = .slice (some ⟨R, o, none⟩) len (T - e) ∧ e + len ≤ T
  | .nilSlice, x => x = .slice none 0 0
  | .vague, x => ∃ a c, x = .slice (some a) 0 c
  | .map b, x => ∃ R T, S b 0 = some (R, T) ∧ x = .map (some R)
  | .nilMap, x => x = .map none
  | .func fn f c, x => ∃ f' c', x = .func fn f' c' ∧ RelL S f f'.toList ∧ RelL S c c'.toList
  | .nilFunc, x => x = .nilFunc
  | .iface t a, x => ∃ y, x = .iface t y ∧ Rel S a y
  | .nilIface, x => x = .nilIface
  | .agg l, x => ∃ l', x = .agg l' ∧ RelL S l l'.toList
  | .tuple l, x => ∃ l', x = .tuple l' ∧ RelL S l l'.toList
def RelL (S : Map) : List AV → List Value → Prop
  | [], l => l = []
  | a :: r, l => ∃ x l', l = x :: l' ∧ Rel S a x ∧ RelL S r l'
end

mutual
theorem Rel.mono {S S' : Map} (h : S.le S') : ∀ {a : AV} {x : Value}, Rel S a x → Rel S' a x
  | .bool _, _, r => r
  | .int _ _, _, r => r
  | .str _, _, r => r
  | .ptr _ _ _, _, ⟨R, T, e, r⟩ => ⟨R, T, h _ _ _ e, r⟩
  | .nilPtr, _, r => r
  | .slice _ _ _ _ _ (some _), _, ⟨R, T, e, r⟩ => ⟨R, T, h _ _ _ e, r⟩
  | .slice _ _ _ _ _ none, _, ⟨R, T, e, r⟩ => ⟨R, T, h _ _ _ e, r⟩
  | .nilSlice, _, r => r
  | .vague, _, r => r
  | .map _, _, ⟨R, T, e, r⟩ => ⟨R, T, h _ _ _ e, r⟩
  | .nilMap, _, r => r
  | .func _ _ _, _, ⟨f', c', e, r, q⟩ => ⟨f', c', e, RelL.mono h r, RelL.mono h q⟩
  | .nilFunc, _, r => r
  | .iface _ _, _, ⟨y, e, r⟩ => ⟨y, e, Rel.mono h r⟩
  | .nilIface, _, r => r
  | .agg _, _, ⟨l', e, r⟩ => ⟨l', e, RelL.mono h r⟩
  | .tuple _, _, ⟨l', e, r⟩ => ⟨l', e, RelL.mono h r⟩
theorem RelL.mono {S S' : Map} (h : S.le S') : ∀ {a : List AV} {x : List Value}, RelL S a x → RelL S' a x
  | [], _, r => r
  | _ :: _, _, ⟨x, l', e, r, q⟩ => ⟨x, l', e, Rel.mono h r, RelL.mono h q⟩
end

theorem RelL.length {S : Map} : ∀ {a : List AV} {x : List Value}, RelL S a x → x.length = a.length
  | [], _, r => by rw [RelL] at r; simp [r]
  | _ :: _, _, r => by
    rw [RelL] at r
    obtain ⟨x, l', rfl, _, q⟩ := r
    simp [RelL.length q]
theorem RelL.get {S : Map} : ∀ {a : List AV} {x : List Value} (i : Nat) {y : AV}, RelL S a x → a[i]? = some y → ∃ z, x[i]? = some z ∧ Rel S y z
  | [], _, i, y, _, h => by simp at h
  | b :: l, _, i, y, r, h => by
    rw [RelL] at r
    obtain ⟨x, l', rfl, r, q⟩ := r
    cases i with
    | zero => simp at h; subst h; exact ⟨x, by simp, r⟩
    | succ i => simpa using RelL.get i q (by simpa using h)
theorem RelL.append {S : Map} : ∀ {a b : List AV} {x y : List Value}, RelL S a x → RelL S b y → RelL S (a ++ b) (x ++ y)
  | [], _, _, _, r, q => by rw [RelL] at r; subst r; simpa using q
  | _ :: _, _, _, _, r, q => by
    rw [RelL] at r
    obtain ⟨x, l', rfl, r, s⟩ := r
    exact ⟨x, l' ++ _, rfl, r, RelL.append s q⟩
theorem RelL.nil {S : Map} : RelL S [] [] := by rw [RelL]
theorem RelL.cons {S : Map} {a : AV} {x : Value} {l : List AV} {r : List Value} (h : Rel S a x) (k : RelL S l r) : RelL S (a :: l) (x :: r) := by
  rw [RelL]; exact ⟨x, r, rfl, h, k⟩
theorem RelL.cons_inv {S : Map} {a : AV} {l : List AV} {r : List Value} (h : RelL S (a :: l) r) : ∃ x r', r = x :: r' ∧ Rel S a x ∧ RelL S l r' := by
  rw [RelL] at h; exact h
theorem RelL.nil_inv {S : Map} {r : List Value} (h : RelL S [] r) : r = [] := by rw [RelL] at h; exact h
theorem RelL.drop {S : Map} : ∀ {a : List AV} {x : List Value} (n : Nat), RelL S a x → RelL S (a.drop n) (x.drop n)
  | _, _, 0, r => r
  | [], _, n + 1, r => by rw [RelL.nil_inv r]; simpa using RelL.nil
  | _ :: _, _, n + 1, r => by
    obtain ⟨x, l', rfl, _, q⟩ := r.cons_inv
    simpa using RelL.drop n q
theorem RelL.take {S : Map} : ∀ {a : List AV} {x : List Value} (n : Nat), RelL S a x → RelL S (a.take n) (x.take n)
  | _, _, 0, _ => by simpa using RelL.nil
  | [], _, n + 1, r => by rw [RelL.nil_inv r]; simpa using RelL.nil
  | _ :: _, _, n + 1, r => by
    obtain ⟨x, l', rfl, h, q⟩ := r.cons_inv
    simpa using RelL.cons h (RelL.take n q)

theorem Rel.slice_inv {S : Map} {b v o e len : Nat} {c : Option Nat} {x : Value} (h : Rel S (.slice b v o e len c) x) :
    ∃ R T k, x = .slice (some ⟨R, o, none⟩) len k ∧ S b v = some (R, T) ∧ len ≤ k ∧ (c = some k ∨ (c = none ∧ k = T - e ∧ e + len ≤ T)) := by
  cases c with
  | some c => rw [Rel] at h; obtain ⟨R, T, h1, rfl, h2⟩ := h; exact ⟨R, T, c, rfl, h1, h2, .inl rfl⟩
  | none => rw [Rel] at h; obtain ⟨R, T, h1, rfl, h2⟩ := h; exact ⟨R, T, T - e, rfl, h1, by omega, .inr ⟨rfl, rfl, h2⟩⟩

/-- The cells of a value. -/
theorem Rel.cells {S : Map} {a : AV} {x : Value} (h : Rel S a x) : RelL S a.cells x.cells.toList := by
  cases a with
  | agg l => rw [Rel] at h; obtain ⟨l', rfl, r⟩ := h; exact r
  | tuple l => rw [Rel] at h; obtain ⟨l', rfl, r⟩ := h; exact RelL.cons (by rw [Rel]; exact ⟨_, rfl, r⟩) RelL.nil
  | slice b v o e len c => cases c <;> (rw [Rel] at h; obtain ⟨_, _, _, rfl, _⟩ := h; exact RelL.cons (by rw [Rel]; exact ⟨_, _, ‹_›, rfl, ‹_›⟩) RelL.nil)
  | _ => first
    | (rw [Rel] at h; subst h; exact RelL.cons (by rw [Rel]) RelL.nil)
    | (rw [Rel] at h; obtain ⟨rfl, q⟩ := h; exact RelL.cons (by rw [Rel]; exact ⟨rfl, q⟩) RelL.nil)
    | (rw [Rel] at h; obtain ⟨y, rfl, q⟩ := h; exact RelL.cons (by rw [Rel]; exact ⟨y, rfl, q⟩) RelL.nil)
    | (rw [Rel] at h; obtain ⟨R, T', e, rfl⟩ := h; exact RelL.cons (by rw [Rel]; exact ⟨R, T', e, rfl⟩) RelL.nil)
    | (rw [Rel] at h; obtain ⟨R, T', rfl⟩ := h; exact RelL.cons (by rw [Rel]; exact ⟨R, T', rfl⟩) RelL.nil)
    | (rw [Rel] at h; obtain ⟨f, c, rfl, q, r⟩ := h; exact RelL.cons (by rw [Rel]; exact ⟨f, c, rfl, q, r⟩) RelL.nil)
/-- A scalar value is one cell, and no aggregate. -/
theorem Rel.scalar {S : Map} {a : AV} {x : Value} (h : Rel S a x) (hs : a.scalar = true) : (∀ l, x ≠ .agg l) ∧ (∀ l, x ≠ .tuple l) := by
  cases a with
  | agg l => simp [AV.scalar] at hs
  | tuple l => simp [AV.scalar] at hs
  | slice b v o e len c => cases c <;> (rw [Rel] at h; obtain ⟨_, _, _, rfl, _⟩ := h; exact ⟨by simp, by simp⟩)
  | _ => first
    | (rw [Rel] at h; subst h; exact ⟨by simp, by simp⟩)
    | (rw [Rel] at h; obtain ⟨rfl, _⟩ := h; exact ⟨by simp, by simp⟩)
    | (rw [Rel] at h; obtain ⟨y, rfl, q⟩ := h; exact ⟨by simp, by simp⟩)
    | (rw [Rel] at h; obtain ⟨R, T', e, rfl⟩ := h; exact ⟨by simp, by simp⟩)
    | (rw [Rel] at h; obtain ⟨R, T', rfl⟩ := h; exact ⟨by simp, by simp⟩)
    | (rw [Rel] at h; obtain ⟨f, c, rfl, q, r⟩ := h; exact ⟨by simp, by simp⟩)

def RelE (S : Map) : List (AV × AV × Nat) → List MapEntry → Prop
  | [], l => l = []
  | (k, v, s) :: r, l => ∃ x l', l = x :: l' ∧ Rel S k x.key ∧ Rel S v x.val ∧ x.born = s ∧ RelE S r l'
theorem RelE.mono {S S' : Map} (h : S.le S') : ∀ {a : List (AV × AV × Nat)} {x : List MapEntry}, RelE S a x → RelE S' a x
  | [], _, r => r
  | (_, _, _) :: _, _, ⟨x, l', e, r, q, s, t⟩ => ⟨x, l', e, r.mono h, q.mono h, s, t.mono h⟩

section
variable (G : Glob) (P : Program)

/-- What the evaluator is told of the program is so. -/
structure GlobOk : Prop where
  ty : ∀ t i, G.ty t = some i → P.info? t = some i
  fn : ∀ f x, G.fn f = some x → P.funcs[f]? = some x
  stood : ∀ t, G.stood t = true → P.stoodInHeld t = false
  mixed : P.follows .mixedOrders = true
  fix : G.nfix = 0

def BlkRel (S : Map) (v R C : Nat) (w : World) : Blk → Prop
  | .cells e n cur shut t => v ≤ cur ∧ ∃ c fr, w.heap[R]? = some (.cells c e fr) ∧
      (∀ i a k, t.get i = some (a, k) → k ≤ v → a.scalar = true ∧ ∃ x, c[i]? = some x ∧ Rel S a x) ∧
      (shut = false → ∀ i, i < c.size → ¬ (fr.1 ≤ i ∧ i < fr.2)) ∧
      (∀ i, G.ty e = some i → C * i.size ≤ c.size) ∧
      (∀ i a k, t.get i = some (a, k) → i < n ∧ k ≤ cur)
  | .map es clock => v = 0 ∧ ∃ es', w.heap[R]? = some (.map es' clock) ∧ RelE S es es'.toList
  | .mapIter m since seen stepped => v = 0 ∧ ∃ m', w.heap[R]? = some (.mapIter m' since seen.toArray stepped) ∧
      (match m, m' with | none, none => True | some b, some R' => ∃ C', S b 0 = some (R', C') | _, _ => False)

/-- The program's own variables lie below 'low', no abstract block does, and some are as they were at the start. -/
structure Fixed (S : Map) (w : World) : Prop where
  up : ∀ b v R C, S b v = some (R, C) → G.low ≤ R
  size : G.low ≤ w.heap.size
  get : ∀ R v, G.fixd R = some v → R < G.low ∧ w.cell? ⟨R, 0, none⟩ = some v
theorem Fixed.of {G : Glob} {S S' : Map} {w w' : World} (h : Fixed G S w) (hS : ∀ b v R C, S' b v = some (R, C) → (∃ b v C, S b v = some (R, C)) ∨ w.heap.size ≤ R) (hs : w.heap.size ≤ w'.heap.size) (hw : ∀ R, R < G.low → w'.heap[R]? = w.heap[R]?) : Fixed G S' w' where
  up := fun b v R C e => by
    rcases hS b v R C e with ⟨b, v, C, e⟩ | e
    · exact h.up _ _ _ _ e
    · exact Nat.le_trans h.size e
  size := Nat.le_trans h.size hs
  get := fun R v e => ⟨(h.get R v e).1, by have := (h.get R v e).2; unfold World.cell? at this ⊢; rw [hw R (h.get R v e).1]; exact this⟩

structure Inv (S : Map) (H : Heap) (w : World) : Prop where
  blk : ∀ b v R C, S b v = some (R, C) → R < w.heap.size ∧ (b < H.next ∨ H.top ≤ b) ∧ ∀ x, H.t.get b = some x → BlkRel G S v R C w x
  inj : ∀ b v R C b' v' C', S b v = some (R, C) → S b' v' = some (R, C') → b = b'
  fix : Fixed G S w

/-- A move of the abstract heap and the world together. -/
structure Step (S : Map) (H : Heap) (w : World) (S' : Map) (H' : Heap) (w' : World) : Prop where
  dom : ∀ b v x, S b v = some x → b < H.next ∨ H.top ≤ b
  le : S.le S'
  inv : Inv G S' H' w'
  os : w'.os = w.os
  tape : w'.tape = w.tape
  output : w'.output = w.output
  size : w.heap.size ≤ w'.heap.size
  real : ∀ R, R < w.heap.size → (∀ b v C, S b v = some (R, C) → H.t.get b = none) → w'.heap[R]? = w.heap[R]?
  abs : ∀ b x, H'.t.get b = some x → H.t.get b = some x ∨ ((∃ v y, S b v = some y) ∧ ∃ z, H.t.get b = some z) ∨ (H.next ≤ b ∧ b < H.top)
  next : H.next ≤ H'.next
  top : H'.top ≤ H.top
  new : ∀ b v R C, S' b v = some (R, C) → S b v = some (R, C) ∨ w.heap.size ≤ R ∨ ∃ v' C', S b v' = some (R, C')
  newb : ∀ b v x, S' b v = some x → S b v = some x ∨ ((∃ v' y, S b v' = some y) ∧ ∃ z, H.t.get b = some z) ∨ (H.next ≤ b ∧ b < H.top)

variable {G}
theorem Inv.dom {S : Map} {H : Heap} {w : World} (h : Inv G S H w) (b v : Nat) (x : Nat × Nat) (e : S b v = some x) : b < H.next ∨ H.top ≤ b := (h.blk b v x.1 x.2 e).2.1
theorem Step.refl {S : Map} {H : Heap} {w : World} (h : Inv G S H w) : Step G S H w S H w :=
  ⟨h.dom, S.le_refl, h, rfl, rfl, rfl, Nat.le_refl _, fun _ _ _ => rfl, fun _ _ e => .inl e, Nat.le_refl _, Nat.le_refl _, fun _ _ _ _ e => .inl e, fun _ _ _ e => .inl e⟩

theorem Step.trans {S S1 S2 : Map} {H H1 H2 : Heap} {w w1 w2 : World} (h : Step G S H w S1 H1 w1) (k : Step G S1 H1 w1 S2 H2 w2) : Step G S H w S2 H2 w2 where
  dom := h.dom
  le := Map.le_trans h.le k.le
  inv := k.inv
  os := k.os.trans h.os
  tape := k.tape.trans h.tape
  output := k.output.trans h.output
  size := Nat.le_trans h.size k.size
  real := fun R hR hn => by
    have hnone : ∀ b v C, S b v = some (R, C) → H1.t.get b = none := by
      intro b v C e
      cases hq : H1.t.get b with
      | none => rfl
      | some x =>
        have h0 := hn b v C e
        rcases h.abs b x hq with h1 | ⟨_, z, h1⟩ | h1
        · rw [h0] at h1; cases h1
        · rw [h0] at h1; cases h1
        · have := h.dom b v _ e; omega
    rw [k.real R (Nat.lt_of_lt_of_le hR h.size) ?_, h.real R hR hn]
    intro b v C e
    rcases h.new b v R C e with e1 | e1 | ⟨v', C', e1⟩
    · exact hnone _ _ _ e1
    · omega
    · exact hnone _ _ _ e1
  abs := fun b x hx => by
    rcases k.abs b x hx with h1 | ⟨⟨v, y, h1⟩, z, h2⟩ | ⟨h1, h2⟩
    · exact h.abs b x h1
    · rcases h.abs b z h2 with h3 | h3 | h3
      · rcases h.newb b v y h1 with e1 | e1 | e1
        · exact .inr (.inl ⟨⟨v, y, e1⟩, z, h3⟩)
        · exact .inr (.inl e1)
        · exact .inr (.inr e1)
      · exact .inr (.inl h3)
      · exact .inr (.inr h3)
    · exact .inr (.inr ⟨Nat.le_trans h.next h1, Nat.lt_of_lt_of_le h2 h.top⟩)
  next := Nat.le_trans h.next k.next
  top := Nat.le_trans k.top h.top
  new := fun b v R C e => by
    rcases k.new b v R C e with e1 | e1 | ⟨v', C', e1⟩
    · rcases h.new b v R C e1 with e2 | e2 | e2
      · exact .inl e2
      · exact .inr (.inl e2)
      · exact .inr (.inr e2)
    · exact .inr (.inl (Nat.le_trans h.size e1))
    · rcases h.new b v' R C' e1 with e2 | e2 | ⟨v'', C'', e2⟩
      · exact .inr (.inr ⟨v', C', e2⟩)
      · exact .inr (.inl e2)
      · exact .inr (.inr ⟨v'', C'', e2⟩)
  newb := fun b v x e => by
    rcases k.newb b v x e with e1 | ⟨⟨v', y, e1⟩, z, h2⟩ | ⟨e1, e2⟩
    · exact h.newb b v x e1
    · rcases h.abs b z h2 with h3 | h3 | h3
      · rcases h.newb b v' y e1 with e1 | e1 | e1
        · exact .inr (.inl ⟨⟨v', y, e1⟩, z, h3⟩)
        · exact .inr (.inl e1)
        · exact .inr (.inr e1)
      · exact .inr (.inl h3)
      · exact .inr (.inr h3)
    · exact .inr (.inr ⟨Nat.le_trans h.next e1, Nat.lt_of_lt_of_le e2 h.top⟩)

theorem BlkRel.mono {S S' : Map} (h : S.le S') {v R C : Nat} {w w' : World} (hw : w'.heap[R]? = w.heap[R]?) : ∀ {x : Blk}, BlkRel G S v R C w x → BlkRel G S' v R C w' x
  | .cells _ _ _ _ _, ⟨hv, c, fr, e, r, q⟩ => ⟨hv, c, fr, hw.trans e, fun i a k ht hk => let ⟨hs, x, hc, hx⟩ := r i a k ht hk; ⟨hs, x, hc, hx.mono h⟩, q⟩
  | .map _ _, ⟨hv, es', e, r⟩ => ⟨hv, es', hw.trans e, r.mono h⟩
  | .mapIter m _ _ _, ⟨hv, m', e, r⟩ => ⟨hv, m', hw.trans e, by
      cases m <;> cases m' <;> simp only at r ⊢
      · obtain ⟨C', r⟩ := r; exact ⟨C', h _ _ _ r⟩⟩

/-- A draw of the tape. -/
theorem Step.drew {S : Map} {H : Heap} {w : World} (h : Inv G S H w) (n : Nat) : Step G S H w S H { w with drawn := n } :=
  ⟨h.dom, S.le_refl, ⟨fun b v R C e => let ⟨h1, h2, h3⟩ := h.blk b v R C e; ⟨h1, h2, fun x hx => (h3 x hx).mono S.le_refl rfl⟩, h.inj, ⟨h.fix.up, h.fix.size, h.fix.get⟩⟩, rfl, rfl, rfl, Nat.le_refl _, fun _ _ _ => rfl, fun _ _ e => .inl e, Nat.le_refl _, Nat.le_refl _, fun _ _ _ _ e => .inl e, fun _ _ _ e => .inl e⟩

end
end Go.Abs
