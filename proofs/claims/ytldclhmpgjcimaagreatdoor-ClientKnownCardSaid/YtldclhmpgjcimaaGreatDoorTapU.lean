/- Regions that draw their order: the state between two operations. -/
import Derived.Test.YtldclhmpgjcimaaGreatDoorTapT
namespace Go.Abs
open Go
section
variable {G : Glob} {P : Program}

theorem Step.view {S0 S : Map} {H0 Ha Hb : Heap} {w0 w : World} (h : Step G S0 H0 w0 S Ha w) (hn : Hb.next = Ha.next) (ht : Hb.top = Ha.top)
    (hi : ∀ b v R C, S b v = some (R, C) → ∀ x, Hb.t.get b = some x → BlkRel G S v R C w x)
    (ha : ∀ b x, Hb.t.get b = some x → Ha.t.get b = some x ∨ (H0.next ≤ b ∧ b < H0.top)) : Step G S0 H0 w0 S Hb w where
  dom := h.dom
  le := h.le
  inv := ⟨fun b v R C e => by
    obtain ⟨h1, h2, _⟩ := h.inv.blk b v R C e
    exact ⟨h1, by rw [hn, ht]; exact h2, hi b v R C e⟩, h.inv.inj, h.inv.fix⟩
  os := h.os
  tape := h.tape
  output := h.output
  size := h.size
  real := h.real
  abs := fun b x e => by
    rcases ha b x e with e1 | e1
    · exact h.abs b x e1
    · exact .inr (.inr e1)
  next := by rw [hn]; exact h.next
  top := by rw [ht]; exact h.top
  new := h.new
  newb := h.newb

theorem Step.alloc {S0 S : Map} {H0 Hp : Heap} {w0 w : World} (h : Step G S0 H0 w0 S Hp w) {b C n : Nat} {o : Obj} (hb : H0.next ≤ b ∧ b < H0.top) (hp : Hp.top ≤ b) (hS : ∀ v, S b v = none)
    (hx : ∀ x, Hp.t.get b = some x → BlkRel G (S.add b 0 (w.heap.size, C)) 0 w.heap.size C (pushW w o) x) :
    Step G S0 H0 w0 (S.add b 0 (w.heap.size, C)) Hp { pushW w o with drawn := n } where
  dom := h.dom
  le := Map.le_trans h.le (Map.add_le (hS 0))
  inv := by
    have hle : S.le (S.add b 0 (w.heap.size, C)) := Map.add_le (hS 0)
    have hfix : Fixed G (S.add b 0 (w.heap.size, C)) { pushW w o with drawn := n } := by
      refine h.inv.fix.of (fun b v R C' e => ?_) (by simp [pushW]) (fun R hR => ?_)
      · rcases Map.add_inv e with ⟨rfl, rfl, e1⟩ | e1
        · simp only [Prod.mk.injEq] at e1; exact .inr (by omega)
        · exact .inl ⟨_, _, _, e1⟩
      · have := h.inv.fix.size
        show (pushW w o).heap[R]? = _
        rw [pushW_heap, if_neg (by omega)]
    refine ⟨?_, ?_, hfix⟩
    · intro b' v R C' e
      rcases Map.add_inv e with ⟨rfl, rfl, e1⟩ | e1
      · simp only [Prod.mk.injEq] at e1
        obtain ⟨rfl, rfl⟩ := e1
        exact ⟨by simp [pushW], .inr hp, fun y hy => (hx y hy).mono (Map.le_refl _) rfl⟩
      · obtain ⟨h1, h2, h3⟩ := h.inv.blk _ _ _ _ e1
        refine ⟨by simp [pushW]; omega, h2, fun y hy => (h3 y hy).mono hle ?_⟩
        show (pushW w o).heap[R]? = _
        rw [pushW_heap, if_neg (by omega)]
    · intro b1 v R C1 b' v' C2 e1 e2
      rcases Map.add_inv e1 with ⟨rfl, rfl, h1⟩ | h1 <;> rcases Map.add_inv e2 with ⟨rfl, rfl, h2⟩ | h2
      · rfl
      · simp only [Prod.mk.injEq] at h1; have := (h.inv.blk _ _ _ _ h2).1; omega
      · simp only [Prod.mk.injEq] at h2; have := (h.inv.blk _ _ _ _ h1).1; omega
      · exact h.inv.inj _ _ _ _ _ _ _ h1 h2
  os := h.os
  tape := h.tape
  output := h.output
  size := Nat.le_trans h.size (by simp [pushW])
  real := fun R hR hn => by
    show (pushW w o).heap[R]? = _
    have := h.size
    rw [pushW_heap, if_neg (by omega)]
    exact h.real R hR hn
  abs := h.abs
  next := h.next
  top := h.top
  new := fun b' v R C' e => by
    have := h.size
    rcases Map.add_inv e with ⟨rfl, rfl, e1⟩ | e1
    · simp only [Prod.mk.injEq] at e1; exact .inr (.inl (by omega))
    · exact h.new _ _ _ _ e1
  newb := fun b' v x e => by
    rcases Map.add_inv e with ⟨rfl, rfl, _⟩ | e1
    · exact .inr (.inr hb)
    · exact h.newb _ _ _ e1

/-- Between two operations: these are done; the heap is the text's ahead of p. -/
structure Mid (G : Glob) (ops : Array Oper) (l : List Entry) (E' : Env) (H' : Heap) (S0 : Map) (H : Heap) (w0 : World) (T n : Nat) (done : Nat → Prop) (p : Nat) (a : Go.Act) (w : World) (S : Map) : Prop where
  step : Step G S0 H w0 S (heapAt l H' p) w
  top : (heapAt l H' p).top ≤ T
  pn : p ≤ l.length
  act : ∀ k e, l[k]? = some e → e.k = 3 → (k < p ↔ done k)
  size : a.tmps.size = n
  env : ∀ j t x, j ≤ l.length → (∀ e, l[j]? = some e → ¬ done j ∧ t ∈ usesA ops e.o) → (∀ k e, k < j → ¬ done k → l[k]? = some e → e.o.dst ≠ some t) → (envAt l E' j).get t = some x → ∃ v, a.tmps[t]? = some v ∧ Rel S x v
  heap : ∀ k x, k < l.length → (p ≤ k ∨ ¬ done k) → (heapAt l H' p).t.get (T + k) = some x → k < p ∧ ∃ e mk, l[k]? = some e ∧ e.k = 2 ∧ newOp G (e.E.only (usesA ops e.o)) e.o = some (x, mk)
  undone : ∀ k v, k < l.length → ¬ done k → S (T + k) v = none
  new : ∀ k e x mk, l[k]? = some e → e.k = 2 → newOp G (e.E.only (usesA ops e.o)) e.o = some (x, mk) → done k → p ≤ k →
    ∃ R C, S (T + k) 0 = some (R, C) ∧ (∀ v, v ≠ 0 → S (T + k) v = none) ∧ ∀ (S' : Map) (w' : World), S.le S' → w'.heap[R]? = w.heap[R]? → BlkRel G S' 0 R C w' x

section
variable {call : Nat → List AV → Heap → Option (AV × Heap)} {ops : Array Oper} {E E' : Env} {H H1 H' : Heap} {l : List Entry} {S0 S : Map} {w0 w : World} {T n p : Nat} {done : Nat → Prop} {a : Go.Act}

theorem envAt_some {k : Nat} {e : Entry} (h : l[k]? = some e) : envAt l E' k = e.E := by simp [envAt, h]
theorem heapAt_some {k : Nat} {e : Entry} (h : l[k]? = some e) : heapAt l H' k = e.H := by simp [heapAt, h]

theorem LogOk.back (hl : LogOk G call ops T ops.toList E H1 l E' H') {i t : Nat} {x : AV} : ∀ (j : Nat), i ≤ j → j ≤ l.length → (∀ k e, i ≤ k → k < j → l[k]? = some e → e.o.dst ≠ some t) → (envAt l E' j).get t = some x → (envAt l E' i).get t = some x := by
  intro j
  induction j with
  | zero => intro h _ _ hx; have : i = 0 := by omega
            subst this; exact hx
  | succ j ih =>
    intro h hj hw hx
    by_cases hi : i = j + 1
    · subst hi; exact hx
    · obtain ⟨e, he⟩ : ∃ e, l[j]? = some e := ⟨l[j], List.getElem?_eq_getElem (by omega)⟩
      obtain ⟨_, h2, _⟩ := hl.entry j e he
      rcases put_get' h2 hx with ⟨h3, _⟩ | ⟨_, h3⟩
      · exact (hw j e (by omega) (by omega) he h3).elim
      · refine ih (by omega) (by omega) (fun k e' h1 h2 => hw k e' h1 (by omega)) ?_
        rw [envAt_some he]; exact h3

theorem LogOk.n_eq (hl : LogOk G call ops T ops.toList E H1 l E' H') : ∀ (j : Nat), j ≤ l.length → (envAt l E' j).n = E.n := by
  intro j
  induction j with
  | zero => intro _; rw [hl.env]
  | succ j ih =>
    intro hj
    obtain ⟨e, he⟩ : ∃ e, l[j]? = some e := ⟨l[j], List.getElem?_eq_getElem (by omega)⟩
    obtain ⟨_, h2, _⟩ := hl.entry j e he
    rw [put_n h2, ← envAt_some (E' := E') he]
    exact ih (by omega)

/-- The heap's pointer goes by an operation that does not act. -/
theorem Mid.advance (hl : LogOk G call ops T ops.toList E H1 l E' H') (hT : H.next ≤ T) (hT' : T + l.length ≤ H.top) (hm : Mid G ops l E' H' S0 H w0 T n done p a w S) {e : Entry} (he : l[p]? = some e) (hk : e.k ≠ 3) :
    Mid G ops l E' H' S0 H w0 T n done (p + 1) a w S := by
  have hp : p < l.length := (List.getElem?_eq_some_iff.1 he).1
  have hact : ∀ k e, l[k]? = some e → e.k = 3 → (k < p + 1 ↔ done k) := by
    intro k e' hk' h3
    rw [← hm.act k e' hk' h3]
    have : k ≠ p := by intro h; subst h; rw [he] at hk'; cases hk'; exact hk h3
    omega
  have hcase : heapAt l H' (p + 1) = heapAt l H' p ∨ ∃ b mk, e.k = 2 ∧ newOp G (e.E.only (usesA ops e.o)) e.o = some (b, mk) ∧ heapAt l H' (p + 1) = (heapAt l H' p).put (T + p) b := by
    rw [heapAt_some he]
    rcases (hl.entry p e he).2.2 with ⟨_, _, _, h4⟩ | ⟨_, h4⟩
    · exact .inl h4
    · unfold opD at h4
      split at h4
      · simp only [Option.some.injEq, Prod.mk.injEq] at h4; exact .inl h4.2.2.symm
      · split at h4
        · simp only [Option.some.injEq, Prod.mk.injEq] at h4; exact .inl h4.2.2.symm
        · split at h4
          · rename_i b mk hb
            simp only [Option.some.injEq, Prod.mk.injEq] at h4
            exact .inr ⟨b, mk, h4.1.symm, hb, h4.2.2.symm⟩
          · exfalso
            split at h4
            · simp only [Option.some.injEq, Prod.mk.injEq] at h4; exact hk h4.1.symm
            · split at h4
              · simp only [Option.some.injEq, Prod.mk.injEq] at h4; exact hk h4.1.symm
              · cases h4
            · cases h4
  have hnew : ∀ k e x mk, l[k]? = some e → e.k = 2 → newOp G (e.E.only (usesA ops e.o)) e.o = some (x, mk) → done k → p + 1 ≤ k →
    ∃ R C, S (T + k) 0 = some (R, C) ∧ (∀ v, v ≠ 0 → S (T + k) v = none) ∧ ∀ (S' : Map) (w' : World), S.le S' → w'.heap[R]? = w.heap[R]? → BlkRel G S' 0 R C w' x :=
    fun k e x mk h1 h2 h3 h4 h5 => hm.new k e x mk h1 h2 h3 h4 (by omega)
  rcases hcase with hc | ⟨b, mk, h2, hb, hc⟩
  · refine ⟨by rw [hc]; exact hm.step, by rw [hc]; exact hm.top, hp, hact, hm.size, hm.env, ?_, hm.undone, hnew⟩
    intro k x hk' ho hx
    rw [hc] at hx
    have := hm.heap k x hk' (ho.imp (fun h => by omega) id) hx
    exact ⟨by omega, this.2⟩
  · refine ⟨?_, by rw [hc]; exact hm.top, hp, hact, hm.size, hm.env, ?_, hm.undone, hnew⟩
    · rw [hc]
      refine hm.step.view rfl rfl ?_ ?_
      · intro b' v R C hS x hx
        rcases Go.Abs.T.get_set fuel _ _ _ _ _ hx with ⟨rfl, rfl⟩ | ⟨_, hx⟩
        · by_cases hd : done p
          · obtain ⟨R', C', g1, g2, g3⟩ := hm.new p e _ mk he h2 hb hd (Nat.le_refl _)
            by_cases hv : v = 0
            · subst hv
              rw [g1] at hS
              simp only [Option.some.injEq, Prod.mk.injEq] at hS
              obtain ⟨rfl, rfl⟩ := hS
              exact g3 S w S.le_refl rfl
            · rw [g2 v hv] at hS; cases hS
          · rw [hm.undone p v hp hd] at hS; cases hS
        · exact (hm.step.inv.blk _ _ _ _ hS).2.2 x hx
      · intro b' x hx
        rcases Go.Abs.T.get_set fuel _ _ _ _ _ hx with ⟨rfl, rfl⟩ | ⟨_, hx⟩
        · exact .inr ⟨by omega, by omega⟩
        · exact .inl hx
    · intro k x hk' ho hx
      rw [hc] at hx
      rcases Go.Abs.T.get_set fuel _ _ _ _ _ hx with ⟨h3, rfl⟩ | ⟨_, hx⟩
      · have : k = p := by omega
        subst this
        exact ⟨by omega, e, mk, he, h2, hb⟩
      · have := hm.heap k x hk' (ho.imp (fun h => by omega) id) hx
        exact ⟨by omega, this.2⟩

theorem Mid.advances (hl : LogOk G call ops T ops.toList E H1 l E' H') (hT : H.next ≤ T) (hT' : T + l.length ≤ H.top) : ∀ (d p : Nat), l.length - p = d → Mid G ops l E' H' S0 H w0 T n done p a w S →
    ∃ q, Mid G ops l E' H' S0 H w0 T n done q a w S ∧ ∀ e, l[q]? = some e → e.k = 3
  | 0, p, h, hm => ⟨p, hm, fun e he => by have := (List.getElem?_eq_some_iff.1 he).1; omega⟩
  | d + 1, p, h, hm => by
    obtain ⟨e, he⟩ : ∃ e, l[p]? = some e := ⟨l[p]'(by omega), List.getElem?_eq_getElem (by omega)⟩
    by_cases hk : e.k = 3
    · exact ⟨p, hm, fun e' he' => by rw [he] at he'; cases he'; exact hk⟩
    · exact Mid.advances hl hT hT' d (p + 1) (by omega) (hm.advance hl hT hT' he hk)

/-- All that is ahead of i is done, i not. -/
structure Ready (ops : Array Oper) (l : List Entry) (done : Nat → Prop) (i : Nat) : Prop where
  not : ¬ done i
  before : ∀ k, ahead (befA [] ops.toList) k i = true → done k
  closed : ∀ k j, done j → ahead (befA [] ops.toList) k j = true → done k

/-- The slots that the one at i reads stand as in the text. -/
theorem Mid.reads (hl : LogOk G call ops T ops.toList E H1 l E' H') (hp : Pairs ops (befA [] ops.toList) l) (hn : n = E.n) (hm : Mid G ops l E' H' S0 H w0 T n done p a w S) {i : Nat} {e : Entry} (he : l[i]? = some e) (hi : Ready ops l done i) :
    EnvRel S (e.E.only (usesA ops e.o)) a := by
  have hlt : i < l.length := (List.getElem?_eq_some_iff.1 he).1
  refine ⟨by rw [only_n, ← envAt_some (E' := E') he, hl.n_eq i (by omega), hm.size, hn], fun t x hx => ?_⟩
  obtain ⟨h1, h2⟩ := only_get hx
  refine hm.env i t x (by omega) (fun e' he' => ?_) (fun k e' hk hd hk' ht => ?_) (by rw [envAt_some he]; exact h2)
  · rw [he] at he'; cases he'; exact ⟨hi.not, h1⟩
  · refine hd (hi.before k (pairsA_inv hp hk hk' he (.inl ?_)))
    unfold clash
    rw [ht, meets_true (by simp [h1])]
    rfl

/-- The slots behind the one at i. -/
theorem Mid.env_step (hl : LogOk G call ops T ops.toList E H1 l E' H') (hp : Pairs ops (befA [] ops.toList) l) (hn : n = E.n) (hm : Mid G ops l E' H' S0 H w0 T n done p a w S) {i : Nat} {e : Entry} (he : l[i]? = some e) (hi : Ready ops l done i)
    {S' : Map} {v : Value} (hle : S.le S') (hv : Rel S' e.r v) : ∀ j t x, j ≤ l.length → (∀ e, l[j]? = some e → ¬ (j = i ∨ done j) ∧ t ∈ usesA ops e.o) → (∀ k e, k < j → ¬ (k = i ∨ done k) → l[k]? = some e → e.o.dst ≠ some t) → (envAt l E' j).get t = some x →
      ∃ u, (a.put e.o.dst v).tmps[t]? = some u ∧ Rel S' x u := by
  intro j t x hj h1 h2 hx
  have hlt : i < l.length := (List.getElem?_eq_some_iff.1 he).1
  obtain ⟨_, hput, _⟩ := hl.entry i e he
  by_cases hd : e.o.dst = some t
  · have hij : i < j := by
      rcases Nat.lt_trichotomy i j with h | h | h
      · exact h
      · subst h; exact ((h1 e he).1 (.inl rfl)).elim
      · exfalso
        obtain ⟨e', he'⟩ : ∃ e, l[j]? = some e := ⟨l[j]'(by omega), List.getElem?_eq_getElem (by omega)⟩
        obtain ⟨h3, h4⟩ := h1 e' he'
        refine h3 (.inr (hi.before j (pairsA_inv hp h he' he (.inl ?_))))
        unfold clash
        rw [hd, meets_true h4]
        simp
    have hb := hl.back (i := i + 1) (t := t) (x := x) j hij hj (fun k e' hk1 hk2 hk3 hk4 => ?_) hx
    · rcases put_get' hput hb with ⟨_, rfl⟩ | ⟨h3, _⟩
      · refine ⟨v, ?_, hv⟩
        rw [hd] at hput ⊢
        have h4 := put_lt hput
        rw [← envAt_some (E' := E') he, hl.n_eq i (by omega), ← hn, ← hm.size] at h4
        simp [Go.Act.put, h4]
      · exact (h3 hd).elim
    · have hdone : done k := Classical.byContradiction fun hnd => h2 k e' hk2 (by rintro (h | h); omega; exact hnd h) hk3 hk4
      refine hi.not (hi.closed i k hdone (pairsA_inv hp (by omega) he hk3 (.inl ?_)))
      unfold clash
      rw [hd, hk4, meets_true (by simp)]
      rfl
  · obtain ⟨u, h3, h4⟩ := hm.env j t x hj (fun e' he' => ⟨fun h => (h1 e' he').1 (.inr h), (h1 e' he').2⟩) (fun k e' hk hnd hk' ht => by
      by_cases hki : k = i
      · subst hki; rw [he] at hk'; cases hk'; exact hd ht
      · exact h2 k e' hk (by rintro (h | h); exact hki h; exact hnd h) hk' ht) hx
    refine ⟨u, ?_, h4.mono hle⟩
    cases hq : e.o.dst with
    | none => exact h3
    | some d =>
      have : d ≠ t := fun h => hd (by rw [hq, h])
      simp [Go.Act.put, Array.getElem?_setIfInBounds_ne this, h3]

theorem put_size (a : Go.Act) (d : Option Tmp) (v : Value) : (a.put d v).tmps.size = a.tmps.size := by
  cases d <;> simp [Go.Act.put]

/-- Behind an operation that touches no memory. -/
theorem Mid.quiet (hl : LogOk G call ops T ops.toList E H1 l E' H') (hp : Pairs ops (befA [] ops.toList) l) (hn : n = E.n) (hm : Mid G ops l E' H' S0 H w0 T n done p a w S) {i : Nat} {e : Entry} (he : l[i]? = some e) (hi : Ready ops l done i)
    (hk : e.k ≠ 2 ∧ e.k ≠ 3) {v : Value} (hv : Rel S e.r v) : Mid G ops l E' H' S0 H w0 T n (fun k => k = i ∨ done k) p (a.put e.o.dst v) w S where
  step := hm.step
  top := hm.top
  pn := hm.pn
  act := fun k e' h1 h2 => by
    rw [hm.act k e' h1 h2]
    refine ⟨.inr, fun h => h.elim (fun h => ?_) id⟩
    subst h; rw [he] at h1; cases h1; exact (hk.2 h2).elim
  size := by rw [put_size]; exact hm.size
  env := hm.env_step hl hp hn he hi S.le_refl hv
  heap := fun k x h1 h2 h3 => hm.heap k x h1 (h2.imp id fun h => fun h' => h (.inr h')) h3
  undone := fun k v h1 h2 => hm.undone k v h1 fun h => h2 (.inr h)
  new := fun k e' x mk h1 h2 h3 h4 h5 => by
    rcases h4 with rfl | h4
    · rw [he] at h1; cases h1; exact (hk.1 h2).elim
    · exact hm.new k e' x mk h1 h2 h3 h4 h5

/-- Behind a new block. -/
theorem Mid.made (hl : LogOk G call ops T ops.toList E H1 l E' H') (hp : Pairs ops (befA [] ops.toList) l) (hn : n = E.n) (hT : H.next ≤ T) (hT' : T + l.length ≤ H.top) (hm : Mid G ops l E' H' S0 H w0 T n done p a w S) {i : Nat} {e : Entry} (he : l[i]? = some e) (hi : Ready ops l done i)
    (hk : e.k = 2) {x : Blk} {mk : Nat → AV} (hx : newOp G (e.E.only (usesA ops e.o)) e.o = some (x, mk)) {v : Value} {o : Obj} {C d : Nat} (hv : Rel (S.add (T + i) 0 (w.heap.size, C)) e.r v)
    (hb : ∀ (S' : Map) (w'' : World), S.le S' → w''.heap[w.heap.size]? = some o → BlkRel G S' 0 w.heap.size C w'' x) :
    Mid G ops l E' H' S0 H w0 T n (fun k => k = i ∨ done k) p (a.put e.o.dst v) { pushW w o with drawn := d } (S.add (T + i) 0 (w.heap.size, C)) := by
  have hlt : i < l.length := (List.getElem?_eq_some_iff.1 he).1
  have hS := fun v => hm.undone i v hlt hi.not
  have hle : S.le (S.add (T + i) 0 (w.heap.size, C)) := Map.add_le (hS 0)
  have htop := hm.top
  have hself : (pushW w o).heap[w.heap.size]? = some o := by rw [pushW_heap, if_pos rfl]
  refine ⟨hm.step.alloc ⟨by omega, by omega⟩ (by omega) hS ?_, hm.top, hm.pn, ?_, by rw [put_size]; exact hm.size, hm.env_step hl hp hn he hi hle hv, ?_, ?_, ?_⟩
  · intro y hy
    obtain ⟨_, e', mk', h1, _, h3⟩ := hm.heap i y hlt (.inr hi.not) hy
    rw [he] at h1; cases h1
    rw [hx] at h3; cases h3
    exact hb _ _ hle hself
  · intro k e' h1 h2
    rw [hm.act k e' h1 h2]
    refine ⟨.inr, fun h => h.elim (fun h => ?_) id⟩
    subst h; rw [he] at h1; cases h1; rw [hk] at h2; cases h2
  · exact fun k x h1 h2 h3 => hm.heap k x h1 (h2.imp id fun h => fun h' => h (.inr h')) h3
  · intro k v h1 h2
    cases hq : S.add (T + i) 0 (w.heap.size, C) (T + k) v with
    | none => rfl
    | some y =>
      rcases Map.add_inv hq with ⟨h3, _, _⟩ | h3
      · exact (h2 (.inl (by omega))).elim
      · rw [hm.undone k v h1 fun h => h2 (.inr h)] at h3; cases h3
  · intro k e' y mk' h1 h2 h3 h4 h5
    by_cases hki : k = i
    · subst hki
      rw [he] at h1; cases h1
      rw [hx] at h3; cases h3
      refine ⟨w.heap.size, C, Map.add_self _ _ _ _, fun v hv => ?_, fun S' w' hS' hw' => hb S' w' (Map.le_trans hle hS') (hw'.trans hself)⟩
      cases hq : S.add (T + k) 0 (w.heap.size, C) (T + k) v with
      | none => rfl
      | some y =>
        rcases Map.add_inv hq with ⟨_, h3, _⟩ | h3
        · exact (hv h3).elim
        · rw [hS v] at h3; cases h3
    · obtain ⟨R, C', g1, g2, g3⟩ := hm.new k e' y mk' h1 h2 h3 (h4.resolve_left hki) h5
      have hR := (hm.step.inv.blk _ _ _ _ g1).1
      refine ⟨R, C', hle _ _ _ g1, fun v hv => ?_, fun S' w' hS' hw' => g3 S' w' (Map.le_trans hle hS') (hw'.trans ?_)⟩
      · cases hq : S.add (T + i) 0 (w.heap.size, C) (T + k) v with
        | none => rfl
        | some y =>
          rcases Map.add_inv hq with ⟨h3, _, _⟩ | h3
          · omega
          · rw [g2 v hv] at h3; cases h3
      · show (pushW w o).heap[R]? = _
        rw [pushW_heap, if_neg (by omega)]

/-- Behind one that acted. -/
theorem Mid.acted (hl : LogOk G call ops T ops.toList E H1 l E' H') (hp : Pairs ops (befA [] ops.toList) l) (hn : n = E.n) (hT : H.next ≤ T) (hT' : T + l.length ≤ H.top) (hm : Mid G ops l E' H' S0 H w0 T n done p a w S) {e : Entry} (he : l[p]? = some e) (hi : Ready ops l done p)
    (hk : e.k = 3) {v : Value} {w' : World} {S' : Map} (hs : Step G S (heapAt l H' p) w S' (heapAt l H' (p + 1)) w') (hv : Rel S' e.r v) :
    Mid G ops l E' H' S0 H w0 T n (fun k => k = p ∨ done k) (p + 1) (a.put e.o.dst v) w' S' := by
  have hlt : p < l.length := (List.getElem?_eq_some_iff.1 he).1
  have htop := hm.top
  have hnone : ∀ k, k < l.length → p ≤ k → (heapAt l H' p).t.get (T + k) = none := by
    intro k h1 h2
    cases hq : (heapAt l H' p).t.get (T + k) with
    | none => rfl
    | some x => have := (hm.heap k x h1 (.inl h2) hq).1; omega
  have hheap : ∀ k x, k < l.length → (p ≤ k ∨ ¬ done k) → (heapAt l H' (p + 1)).t.get (T + k) = some x → (heapAt l H' p).t.get (T + k) = some x := by
    intro k x h1 h2 h3
    rcases hs.abs _ _ h3 with h4 | ⟨⟨v, y, h4⟩, z, h5⟩ | ⟨h4, h5⟩
    · exact h4
    · rcases h2 with h2 | h2
      · rw [hnone k h1 h2] at h5; cases h5
      · rw [hm.undone k v h1 h2] at h4; cases h4
    · omega
  refine ⟨hm.step.trans hs, Nat.le_trans hs.top htop, hlt, ?_, by rw [put_size]; exact hm.size, hm.env_step hl hp hn he hi hs.le hv, ?_, ?_, ?_⟩
  · intro k e' h1 h2
    have := hm.act k e' h1 h2
    constructor
    · intro h
      by_cases hkp : k = p
      · exact .inl hkp
      · exact .inr (this.1 (by omega))
    · rintro (h | h)
      · omega
      · have := this.2 h; omega
  · intro k x h1 h2 h3
    have h2' : p ≤ k ∨ ¬ done k := by
      rcases h2 with h2 | h2
      · exact .inl (by omega)
      · exact .inr fun h => h2 (.inr h)
    obtain ⟨h4, h5⟩ := hm.heap k x h1 h2' (hheap k x h1 h2' h3)
    exact ⟨by omega, h5⟩
  · intro k v h1 h2
    cases hq : S' (T + k) v with
    | none => rfl
    | some y =>
      have hu := fun v => hm.undone k v h1 fun h => h2 (.inr h)
      rcases hs.newb _ _ _ hq with h3 | ⟨⟨v', y', h3⟩, _⟩ | ⟨h3, h4⟩
      · rw [hu] at h3; cases h3
      · rw [hu] at h3; cases h3
      · omega
  · intro k e' x mk h1 h2 h3 h4 h5
    have hk' : k < l.length := (List.getElem?_eq_some_iff.1 h1).1
    have hd : done k := h4.resolve_left (by omega)
    obtain ⟨R, C, g1, g2, g3⟩ := hm.new k e' x mk h1 h2 h3 hd (by omega)
    refine ⟨R, C, hs.le _ _ _ g1, fun v hv => ?_, fun S'' w'' hS'' hw'' => g3 S'' w'' (Map.le_trans hs.le hS'') (hw''.trans ?_)⟩
    · cases hq : S' (T + k) v with
      | none => rfl
      | some y =>
        rcases hs.newb _ _ _ hq with h3 | ⟨_, z, h3⟩ | ⟨h3, h4⟩
        · rw [g2 v hv] at h3; cases h3
        · rw [hnone k hk' (by omega)] at h3; cases h3
        · omega
    · refine hs.real R (hm.step.inv.blk _ _ _ _ g1).1 fun b v C' hb => ?_
      have := hm.step.inv.inj _ _ _ _ _ _ _ hb g1
      subst this
      exact hnone k hk' (by omega)
end
end
end Go.Abs
