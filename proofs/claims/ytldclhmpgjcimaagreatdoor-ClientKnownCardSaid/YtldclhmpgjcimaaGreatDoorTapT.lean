/- Regions that draw their order: what the log tells; what is ahead of what. -/
import Derived.Test.YtldclhmpgjcimaaGreatDoorTapS
import Derived.Test.YtldclhmpgjcimaaGreatDoorTapC2
import Derived.Orders
namespace Go.Abs
open Go

/-! equal values -/
theorem natEq_eq' : ∀ {a b : Int}, natEq a b = true → a = b
  | .ofNat a, .ofNat b, h => by simp [natEq] at h; simp [h]
  | .negSucc a, .negSucc b, h => by simp [natEq] at h; simp [h]
  | .ofNat _, .negSucc _, h => by simp [natEq] at h
  | .negSucc _, .ofNat _, h => by simp [natEq] at h
theorem strEq_eq' : ∀ {a b : List Nat}, strEq a b = true → a = b
  | [], [], _ => rfl
  | a :: l, b :: r, h => by
    simp only [strEq, Bool.and_eq_true] at h
    rw [Nat.eq_of_beq_eq_true h.1, strEq_eq' h.2]
  | [], _ :: _, h => by simp [strEq] at h
  | _ :: _, [], h => by simp [strEq] at h
mutual
theorem eqAV_eq : ∀ {a b : AV}, eqAV a b = true → a = b := by
  intro a b h
  unfold eqAV at h
  split at h
  · simp at h; rw [h]
  · simp at h; rw [h.1, natEq_eq' h.2]
  · rw [strEq_eq' h]
  · simp at h; simp [h]
  · rfl
  · simp at h; simp [h]
  · simp at h; simp [h]
  · rfl
  · simp at h; simp [h]
  · rfl
  · simp only [Bool.and_eq_true] at h; rw [Nat.eq_of_beq_eq_true h.1, eqAVL_eq h.2]
  · rfl
  · simp only [Bool.and_eq_true] at h; rw [Nat.eq_of_beq_eq_true h.1, eqAV_eq h.2]
  · rfl
  · rw [eqAVL_eq h]
  · rw [eqAVL_eq h]
  · cases h
theorem eqAVL_eq : ∀ {a b : List AV}, eqAVL a b = true → a = b := by
  intro a b h
  unfold eqAVL at h
  split at h
  · rfl
  · simp only [Bool.and_eq_true] at h; rw [eqAV_eq h.1, eqAVL_eq h.2]
  · cases h
end

/-! slots -/
theorem keepA_get {E : Env} {i : Nat} {x : AV} : ∀ {l : List Nat}, (keepA E l).get i = some x → i ∈ l ∧ E.get i = some x
  | [], h => by simp [keepA, T.get_nil] at h
  | j :: r, h => by
    simp only [keepA] at h
    split at h
    · rename_i y hy
      rcases T.get_set fuel _ _ _ _ _ h with ⟨h1, h2⟩ | ⟨_, h2⟩
      · subst h1; subst h2; exact ⟨by simp, hy⟩
      · have := keepA_get h2; exact ⟨by simp [this.1], this.2⟩
    · have := keepA_get h; exact ⟨by simp [this.1], this.2⟩
theorem only_get {E : Env} {l : List Nat} {i : Nat} {x : AV} (h : (E.only l).get i = some x) : i ∈ l ∧ E.get i = some x := keepA_get h
theorem keepA_some {E : Env} {i : Nat} {x : AV} (h : E.get i = some x) : ∀ {l : List Nat}, i ∈ l → (keepA E l).get i = some x
  | [], hi => by simp at hi
  | j :: r, hi => by
    simp only [keepA]
    by_cases hij : i = j
    · subst hij
      rw [h]
      exact T.get_set_self (u := E.t) h
    · have hr : i ∈ r := (List.mem_cons.1 hi).resolve_left hij
      have ih := keepA_some h hr
      split
      · exact T.get_set_ne ih hij
      · exact ih
theorem only_same (E : Env) {l : List Nat} {i : Nat} (h : i ∈ l) : E.get i = (E.only l).get i := by
  cases hx : E.get i with
  | some x => exact (keepA_some hx h).symm
  | none =>
    cases hy : (E.only l).get i with
    | none => rfl
    | some y => rw [(only_get hy).2] at hx; cases hx
theorem only_n (E : Env) (l : List Nat) : (E.only l).n = E.n := rfl
theorem put_n {E E' : Env} {d : Option Nat} {x : AV} (h : E.put d x = some E') : E'.n = E.n := by
  unfold Env.put at h
  split at h
  · cases h; rfl
  · split at h
    · cases h; rfl
    · cases h
theorem put_lt {E E' : Env} {d : Nat} {x : AV} (h : E.put (some d) x = some E') : d < E.n := by
  simp only [Env.put] at h
  split at h
  · rename_i hd; simpa [Nat.blt_eq] using hd
  · cases h
theorem put_get' {E E' : Env} {d : Option Nat} {x y : AV} {i : Nat} (h : E.put d x = some E') (hy : E'.get i = some y) : (d = some i ∧ y = x) ∨ (d ≠ some i ∧ E.get i = some y) := by
  unfold Env.put at h
  split at h
  · cases h; exact .inr ⟨by simp, hy⟩
  · split at h
    · cases h
      rcases T.get_set fuel _ _ _ _ _ hy with ⟨h1, h2⟩ | ⟨h1, h2⟩
      · exact .inl ⟨by rw [h1], h2⟩
      · exact .inr ⟨by simpa using fun e => h1 e.symm, h2⟩
    · cases h

/-! the log -/
section
variable (G : Glob) (call : Nat → List AV → Heap → Option (AV × Heap)) (ops : Array Oper)

def envAt (l : List Entry) (E' : Env) (k : Nat) : Env := match l[k]? with | some e => e.E | none => E'
def heapAt (l : List Entry) (H' : Heap) (k : Nat) : Heap := match l[k]? with | some e => e.H | none => H'

structure LogOk (b : Nat) (L : List Oper) (E : Env) (H : Heap) (l : List Entry) (E' : Env) (H' : Heap) : Prop where
  length : l.length = L.length
  env : envAt l E' 0 = E
  heap : heapAt l H' 0 = H
  entry : ∀ k e, l[k]? = some e → L[k]? = some e.o ∧ e.E.put e.o.dst e.r = some (envAt l E' (k + 1)) ∧
    ((e.k = 4 ∧ wantedA ops (e.E.only (usesA ops e.o)) e.o = some false ∧ e.r = .tuple [] ∧ heapAt l H' (k + 1) = e.H) ∨
     (wantedA ops (e.E.only (usesA ops e.o)) e.o = some true ∧ opD G call (b + k) e.o (e.E.only (usesA ops e.o)) e.H = some (e.k, e.r, heapAt l H' (k + 1))))

theorem opD_only (n : Nat) (o : Oper) (E : Env) (H : Heap) : opD G call n o E H = opD G call n o (E.only (usesA ops o)) H := by
  have h : Same E (E.only (usesA ops o)) o.op.operands.toList := same_uses (ops := ops) fun t ht => only_same E ht
  unfold opD
  rw [pureOp_same h, readOp_same h, newOp_same h, actOp_same h]
theorem wantedA_only (o : Oper) (E : Env) : wantedA ops E o = wantedA ops (E.only (usesA ops o)) o := wantedA_same fun t ht => only_same E ht

theorem envAt_cons (x : Entry) (l : List Entry) (E' : Env) (k : Nat) : envAt (x :: l) E' (k + 1) = envAt l E' k := rfl
theorem heapAt_cons (x : Entry) (l : List Entry) (H' : Heap) (k : Nat) : heapAt (x :: l) H' (k + 1) = heapAt l H' k := rfl

theorem logA_ok : ∀ {L : List Oper} {b : Nat} {E : Env} {H : Heap} {l : List Entry} {E' : Env} {H' : Heap}, logA G call ops b L E H = some (l, E', H') → LogOk G call ops b L E H l E' H'
  | [], b, E, H, l, E', H', h => by
    simp only [logA, Option.some.injEq, Prod.mk.injEq] at h
    obtain ⟨rfl, rfl, rfl⟩ := h
    exact ⟨rfl, rfl, rfl, fun k e h => by simp at h⟩
  | o :: L, b, E, H, l, E', H', h => by
    simp only [logA] at h
    split at h
    · cases h
    · rename_i hw
      split at h
      · cases h
      · rename_i k a H1 hop
        split at h
        · cases h
        · rename_i E1 hput
          split at h
          · cases h
          · rename_i l1 E2 H2 hl
            simp only [Option.some.injEq, Prod.mk.injEq] at h
            obtain ⟨rfl, rfl, rfl⟩ := h
            have ih := logA_ok hl
            rw [wantedA_only] at hw
            rw [opD_only (ops := ops)] at hop
            refine ⟨by simp [ih.length], rfl, rfl, fun j e hj => ?_⟩
            rw [envAt_cons, heapAt_cons]
            cases j with
            | zero =>
              simp only [List.getElem?_cons_zero, Option.some.injEq] at hj
              subst hj
              refine ⟨by simp, by rw [ih.env]; exact hput, .inr ⟨hw, ?_⟩⟩
              rw [ih.heap]; exact hop
            | succ j =>
              simp only [List.getElem?_cons_succ] at hj ⊢
              have := ih.entry j e hj
              rw [show b + (j + 1) = b + 1 + j by omega]
              exact this
    · rename_i hw
      split at h
      · cases h
      · rename_i E1 hput
        split at h
        · cases h
        · rename_i l1 E2 H2 hl
          simp only [Option.some.injEq, Prod.mk.injEq] at h
          obtain ⟨rfl, rfl, rfl⟩ := h
          have ih := logA_ok hl
          rw [wantedA_only] at hw
          refine ⟨by simp [ih.length], rfl, rfl, fun j e hj => ?_⟩
          rw [envAt_cons, heapAt_cons]
          cases j with
          | zero =>
            simp only [List.getElem?_cons_zero, Option.some.injEq] at hj
            subst hj
            exact ⟨by simp, by rw [ih.env]; exact hput, .inl ⟨rfl, hw, rfl, ih.heap⟩⟩
          | succ j =>
            simp only [List.getElem?_cons_succ] at hj ⊢
            have := ih.entry j e hj
            rw [show b + (j + 1) = b + 1 + j by omega]
            exact this
end

/-! order -/
theorem edgeMask_inv {acc : List Nat} {i : Nat} : ∀ {l : List Edge}, Nat.testBit (edgeMask acc l) i = true → ∃ e ∈ l, Region.binds .any e = true ∧ (e.on = i ∨ Nat.testBit ((acc[e.on]?).getD 0) i = true)
  | [], h => by simp [edgeMask] at h
  | e :: r, h => by
    simp only [edgeMask] at h
    split at h
    · rename_i hb
      have h : Nat.testBit (2 ^ e.on ||| (((acc[e.on]?).getD 0) ||| edgeMask acc r)) i = true := h
      rw [Nat.testBit_or, Nat.testBit_or, Nat.testBit_two_pow, Bool.or_eq_true, Bool.or_eq_true] at h
      rcases h with h | h | h
      · exact ⟨e, by simp, hb, .inl (by simpa using h)⟩
      · exact ⟨e, by simp, hb, .inr h⟩
      · obtain ⟨e', h1, h2⟩ := edgeMask_inv h
        exact ⟨e', by simp [h1], h2⟩
    · obtain ⟨e', h1, h2⟩ := edgeMask_inv h
      exact ⟨e', by simp [h1], h2⟩

theorem befA_get : ∀ {L : List Oper} {acc : List Nat} {j : Nat}, (befA acc L)[j]? = if j < acc.length then acc[j]? else (L[j - acc.length]?).map fun o => edgeMask ((befA acc L).take j) o.after.toList
  | [], acc, j => by
    simp only [befA, List.getElem?_nil, Option.map_none]
    split
    · rfl
    · exact List.getElem?_eq_none (by omega)
  | o :: L, acc, j => by
    rw [befA, befA_get]
    simp only [List.length_append, List.length_singleton]
    by_cases h1 : j < acc.length
    · rw [if_pos (by omega), if_pos h1, List.getElem?_append_left h1]
    · rw [if_neg h1]
      by_cases h2 : j = acc.length
      · subst h2
        rw [if_pos (by omega), List.getElem?_append_right (Nat.le_refl _)]
        simp only [Nat.sub_self, List.getElem?_cons_zero, Option.map_some]
        congr 2
        have : ∀ (L : List Oper) (acc : List Nat) (n : Nat), n ≤ acc.length → (befA acc L).take n = acc.take n := by
          intro L
          induction L with
          | nil => intro acc n _; rfl
          | cons o L ih =>
            intro acc n hn
            rw [befA, ih _ _ (by simp; omega), List.take_append_of_le_length hn]
        rw [this _ _ _ (by simp)]
        simp
      · rw [if_neg (by omega)]
        have : j - acc.length = (j - (acc.length + 1)) + 1 := by omega
        rw [this, List.getElem?_cons_succ]

theorem ahead_inv {L : List Oper} {i j : Nat} (h : ahead (befA [] L) i j = true) : ∃ o e, L[j]? = some o ∧ e ∈ o.after.toList ∧ Region.binds .any e = true ∧ (e.on = i ∨ (e.on < j ∧ ahead (befA [] L) i e.on = true)) := by
  unfold ahead at h
  rw [befA_get] at h
  simp only [List.length_nil, Nat.not_lt_zero, if_false, Nat.sub_zero] at h
  cases ho : L[j]? with
  | none => rw [ho] at h; simp at h
  | some o =>
    rw [ho] at h
    simp only [Option.map_some, Option.getD_some] at h
    obtain ⟨e, h1, h2, h3⟩ := edgeMask_inv h
    refine ⟨o, e, rfl, h1, h2, ?_⟩
    rcases h3 with h3 | h3
    · exact .inl h3
    · rw [List.getElem?_take] at h3
      split at h3
      · rename_i hlt; exact .inr ⟨hlt, h3⟩
      · simp at h3

/-- What is done is done with all ahead of it. -/
theorem ahead_done {L : List Oper} {D : Nat → Prop} (hD : ∀ j o e, D j → L[j]? = some o → e ∈ o.after.toList → Region.binds .any e = true → D e.on) {i : Nat} : ∀ (j : Nat), D j → ahead (befA [] L) i j = true → D i := by
  intro j
  induction j using Nat.strongRecOn with
  | _ j ih =>
    intro hj h
    obtain ⟨o, e, h1, h2, h3, h4⟩ := ahead_inv h
    have he := hD j o e hj h1 h2 h3
    rcases h4 with rfl | ⟨h4, h5⟩
    · exact he
    · exact ih _ h4 he h5

theorem backA_inv : ∀ {L : List Oper} {i : Nat}, backA i L = true → ∀ k o e, L[k]? = some o → e ∈ o.after.toList → Region.binds .any e = true → e.on < i + k
  | [], i, _, k, o, e, h, _, _ => by simp at h
  | x :: L, i, h, k, o, e, hk, he, hb => by
    simp only [backA, Bool.and_eq_true] at h
    cases k with
    | zero =>
      simp only [List.getElem?_cons_zero, Option.some.injEq] at hk
      subst hk
      have := List.all_eq_true.1 h.1 e he
      rw [hb] at this
      simpa [Nat.blt_eq] using this
    | succ k =>
      have := backA_inv h.2 k o e (by simpa using hk) he hb
      omega

theorem meets_true {t : Nat} {l : List Nat} (h : t ∈ l) : meets (some t) l = true := by
  simp only [meets, List.any_eq_true]
  exact ⟨t, h, by simp⟩

theorem actsOf_mem : ∀ {l : List Entry} {b i : Nat} {x : Entry}, l[i]? = some x → x.k = 3 → b + i ∈ actsOf b l
  | [], b, i, x, h, _ => by simp at h
  | y :: l, b, 0, x, h, hk => by
    simp only [List.getElem?_cons_zero, Option.some.injEq] at h
    subst h
    simp [actsOf, hk]
  | y :: l, b, i + 1, x, h, hk => by
    have := actsOf_mem (b := b + 1) (i := i) (x := x) (by simpa using h) hk
    rw [show b + (i + 1) = b + 1 + i by omega]
    unfold actsOf
    split
    · exact List.mem_cons_of_mem _ this
    · exact this
theorem actsOf_inv : ∀ {l : List Entry} {b j : Nat}, j ∈ actsOf b l → ∃ i x, j = b + i ∧ l[i]? = some x ∧ x.k = 3
  | [], b, j, h => by simp [actsOf] at h
  | y :: l, b, j, h => by
    unfold actsOf at h
    split at h
    · rename_i hk
      rcases List.mem_cons.1 h with rfl | h
      · exact ⟨0, y, rfl, rfl, Nat.eq_of_beq_eq_true hk⟩
      · obtain ⟨i, x, h1, h2, h3⟩ := actsOf_inv h
        exact ⟨i + 1, x, by omega, by simpa using h2, h3⟩
    · obtain ⟨i, x, h1, h2, h3⟩ := actsOf_inv h
      exact ⟨i + 1, x, by omega, by simpa using h2, h3⟩
theorem actPairs_inv {m : List Nat} : ∀ {l : List Entry} {b i j : Nat} {x y : Entry}, actPairs m (actsOf b l) = true → i < j → l[i]? = some x → l[j]? = some y → x.k = 3 → y.k = 3 → ahead m (b + i) (b + j) = true
  | [], b, i, j, x, y, _, _, h, _, _, _ => by simp at h
  | z :: l, b, 0, j, x, y, h, hij, hx, hy, kx, ky => by
    simp only [List.getElem?_cons_zero, Option.some.injEq] at hx
    subst hx
    unfold actsOf at h
    rw [kx, if_pos (show Nat.beq 3 3 = true from rfl)] at h
    simp only [actPairs, Bool.and_eq_true] at h
    obtain ⟨j, rfl⟩ : ∃ k, j = k + 1 := ⟨j - 1, by omega⟩
    have := List.all_eq_true.1 h.1 _ (actsOf_mem (b := b + 1) (i := j) (x := y) (by simpa using hy) ky)
    rwa [show b + (j + 1) = b + 1 + j by omega]
  | z :: l, b, i + 1, j, x, y, h, hij, hx, hy, kx, ky => by
    obtain ⟨j, rfl⟩ : ∃ k, j = k + 1 := ⟨j - 1, by omega⟩
    have h' : actPairs m (actsOf (b + 1) l) = true := by
      unfold actsOf at h
      split at h
      · simp only [actPairs, Bool.and_eq_true] at h; exact h.2
      · exact h
    have := actPairs_inv (x := x) (y := y) h' (show i < j by omega) (by simpa using hx) (by simpa using hy) kx ky
    rwa [show b + (i + 1) = b + 1 + i by omega, show b + (j + 1) = b + 1 + j by omega]

/-- What the checks of order tell. -/
structure Pairs (ops : Array Oper) (m : List Nat) (l : List Entry) : Prop where
  pair : ∀ i j x y, i < j → l[i]? = some x → l[j]? = some y → clash ops x.o y.o = true ∨ (x.k = 3 ∧ y.k = 3) → ahead m i j = true
theorem pairs_ok {ops : Array Oper} {m : List Nat} {l : List Entry} (hl : ∀ (k : Nat) e, l[k]? = some e → ops.toList[k]? = some e.o) (h : ordA ops m = true) (h' : actPairs m (actsOf 0 l) = true) : Pairs ops m l := ⟨by
  intro i j x y hij hx hy hc
  rcases hc with hc | ⟨kx, ky⟩
  · have hi : ops[i]? = some x.o := by have := hl i x hx; rw [Array.getElem?_toList] at this; exact this
    have hj : ops[j]? = some y.o := by have := hl j y hy; rw [Array.getElem?_toList] at this; exact this
    have hjs : j < ops.size := (Array.getElem?_eq_some_iff.1 hj).1
    simp only [ordA, Bool.and_eq_true] at h
    have := List.all_eq_true.1 (List.all_eq_true.1 h.2 j (by simpa using hjs)) i (by simpa using hij)
    rw [hi, hj] at this
    simpa [hc] using this
  · have := actPairs_inv (b := 0) h' hij hx hy kx ky
    simpa using this⟩
theorem pairsA_inv {ops : Array Oper} {m : List Nat} {l : List Entry} (h : Pairs ops m l) {i j : Nat} {x y : Entry} (hij : i < j) (hx : l[i]? = some x) (hy : l[j]? = some y)
    (hc : clash ops x.o y.o = true ∨ (x.k = 3 ∧ y.k = 3)) : ahead m i j = true := h.pair i j x y hij hx hy hc

theorem readsA_at {G : Glob} {m acts : List Nat} {l : List Entry} {H : Heap} : ∀ {r : List Entry} {b i : Nat} {x : Entry}, readsA G m acts l H b r = true → r[i]? = some x → x.k = 1 → readA G m acts l H (b + i) x = true
  | [], b, i, x, _, h, _ => by simp at h
  | y :: r, b, i, x, h, hx, hk => by
    unfold readsA at h
    cases i with
    | zero =>
      simp only [List.getElem?_cons_zero, Option.some.injEq] at hx
      subst hx
      rw [hk, if_pos (show Nat.beq 1 1 = true from rfl), Bool.and_eq_true] at h
      exact h.1
    | succ i =>
      have h' : readsA G m acts l H (b + 1) r = true := by
        split at h
        · rw [Bool.and_eq_true] at h; exact h.2
        · exact h
      have := readsA_at (i := i) (x := x) h' (by simpa using hx) hk
      rwa [show b + (i + 1) = b + 1 + i by omega]

theorem readsA_inv {G : Glob} {ops : Array Oper} {m : List Nat} {l : List Entry} {H : Heap} (h : readsA G m (actsOf 0 l) l H 0 l = true) {i p : Nat} {x : Entry} (hx : l[i]? = some x) (hk : x.k = 1) (hp : p ≤ l.length)
    (h1 : ∀ y, l[p]? = some y → y.k = 3 ∧ ahead m p i = false) (h2 : ∀ s y, s < p → l[s]? = some y → y.k = 3 → ahead m i s = false) :
    readOp G (x.E.only (usesA ops x.o)) (heapAt l H p) x.o = some x.r := by
  have := readsA_at h hx hk
  rw [Nat.zero_add] at this
  unfold readA at this
  have hmem : p ∈ l.length :: actsOf 0 l := by
    rcases Nat.lt_or_ge p l.length with hlt | hge
    · obtain ⟨y, hy⟩ : ∃ y, l[p]? = some y := ⟨l[p]'hlt, List.getElem?_eq_getElem hlt⟩
      have := actsOf_mem (b := 0) hy (h1 y hy).1
      rw [Nat.zero_add] at this
      exact List.mem_cons_of_mem _ this
    · have : p = l.length := by omega
      rw [this]; exact List.mem_cons_self
  have := List.all_eq_true.1 this p hmem
  have hm : mayA m (actsOf 0 l) l.length i p = true := by
    unfold mayA
    rw [Bool.and_eq_true]
    constructor
    · cases hb : Nat.beq p l.length with
      | true => rfl
      | false =>
        have hne : p ≠ l.length := fun e => by rw [e] at hb; simp at hb
        obtain ⟨y, hy⟩ : ∃ y, l[p]? = some y := ⟨l[p]'(by omega), List.getElem?_eq_getElem (by omega)⟩
        rw [(h1 y hy).2]; rfl
    · rw [List.all_eq_true]
      intro s hs
      obtain ⟨s', y, hs1, hs2, hs3⟩ := actsOf_inv hs
      rw [Nat.zero_add] at hs1
      subst hs1
      cases hb : Nat.blt s p with
      | false => rfl
      | true =>
        rw [h2 s y (by simpa [Nat.blt_eq] using hb) hs2 hs3]; rfl
  rw [hm] at this
  simp only [Bool.not_true, Bool.false_or] at this
  have hh : ((l[p]?).map (·.H)).getD H = heapAt l H p := by
    unfold heapAt
    cases l[p]? <;> rfl
  rw [hh] at this
  split at this
  · rename_i r hr
    rw [← readOp_same (same_uses (ops := ops) fun t ht => only_same x.E ht), hr, eqAV_eq this]
  · cases this

theorem freeA_inv {t : T Blk} {b n k : Nat} (h : freeA t b n = true) (hk : k < n) : t.get (b + k) = none := by
  have := List.all_eq_true.1 h k (by simpa using hk)
  simpa using this
end Go.Abs
