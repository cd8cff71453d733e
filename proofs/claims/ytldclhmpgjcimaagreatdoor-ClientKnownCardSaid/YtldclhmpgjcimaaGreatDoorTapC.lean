/- The abstract evaluator: facts on types, constants, loads, stores and new blocks. -/
import Derived.Test.YtldclhmpgjcimaaGreatDoorTapB
namespace Go.Abs
open Go
section
variable {G : Glob} {P : Program} (hG : GlobOk G P) {S : Map} {H : Heap} {w : World}

include hG in
theorem und_of {t : Nat} {d : TypeDesc} (h : und G t = some d) : P.underlying t = some d := by
  unfold und at h
  split at h
  · cases h
  · rename_i i hi
    have hp := hG.ty _ _ hi
    unfold Program.underlying
    rw [hp]
    obtain ⟨desc, str, sz, bytes, hp', al, fa, zero, cmp, ms⟩ := i
    simp only at h
    cases desc <;> simp only [Option.some.injEq] at h <;> try (subst h; rfl)
    rename_i nm u
    simp only [Option.map_eq_some_iff] at h
    obtain ⟨j, hj, rfl⟩ := h
    simp [hG.ty _ _ hj]
include hG in
theorem run_und {t : Nat} {d : TypeDesc} (h : und G t = some d) (w : World) : (underlying t).run P w = .ok d w := by
  simp [underlying, und_of hG h]
include hG in
theorem run_info {t : Nat} {i : TypeInfo} (h : G.ty t = some i) (w : World) : (typeInfo t).run P w = .ok i w := by
  simp [typeInfo, hG.ty _ _ h]
include hG in
theorem run_size {t n : Nat} (h : size G t = some n) (w : World) : (sizeOf t).run P w = .ok n w := by
  unfold size at h
  simp only [Option.map_eq_some_iff] at h
  obtain ⟨i, hi, rfl⟩ := h
  simp [sizeOf, run_info hG hi]
include hG in
theorem run_agg {t : Nat} {b : Bool} (h : agg G t = some b) (w : World) : (isAgg t).run P w = .ok b w := by
  unfold agg at h
  simp only [Option.map_eq_some_iff] at h
  obtain ⟨d, hd, rfl⟩ := h
  simp only [isAgg, Sem.run_bind, run_und hG hd, Result.andThen_ok]
  cases d <;> rfl

theorem mkStr_of (s : ByteArray) : mkStr (s.data.toList.map UInt8.toNat) = s := by
  obtain ⟨⟨l⟩⟩ := s
  have : UInt8.ofNat ∘ UInt8.toNat = id := funext fun x => by simp
  simp [mkStr, this]
theorem absCell_rel {v : Value} {a : AV} (h : absCell v = some a) : Rel S a v := by
  unfold absCell at h
  split at h <;> first
    | (cases h; done)
    | (obtain rfl := Option.some.inj h; rw [Rel]; done)
    | (obtain rfl := Option.some.inj h; rw [Rel]; refine ⟨by rw [mkStr_of], ?_⟩; intro c hc; simp only [List.mem_map] at hc; obtain ⟨u, _, rfl⟩ := hc; exact UInt8.toNat_lt u)
theorem absCell_scalar {v : Value} {a : AV} (h : absCell v = some a) : a.scalar = true := by
  unfold absCell at h
  split at h <;> first
    | (cases h; done)
    | (obtain rfl := Option.some.inj h; rfl)
theorem absAll_rel : ∀ {l : List Value} {a : List AV}, absAll l = some a → RelL S a l
  | [], a, h => by simp [absAll] at h; subst h; exact RelL.nil
  | v :: r, a, h => by
    unfold absAll at h
    split at h
    · rename_i b l hb hl
      obtain rfl := Option.some.inj h
      exact RelL.cons (absCell_rel hb) (absAll_rel hl)
    · cases h
theorem absV_rel {v : Value} {a : AV} (h : absV v = some a) : Rel S a v := by
  unfold absV at h
  split at h
  · simp only [Option.map_eq_some_iff] at h
    obtain ⟨l, hl, rfl⟩ := h
    rw [Rel]; exact ⟨_, rfl, absAll_rel hl⟩
  · simp only [Option.map_eq_some_iff] at h
    obtain ⟨l, hl, rfl⟩ := h
    rw [Rel]; exact ⟨_, rfl, absAll_rel hl⟩
  · simp only [Option.map_eq_some_iff] at h
    obtain ⟨l, hl, rfl⟩ := h
    rw [Rel]; exact ⟨_, rfl, absCell_rel hl⟩
  · exact absCell_rel h
include hG in
theorem run_zero {t : Nat} {z : AV} (h : zeroV G t = some z) : ∃ x, (∀ S, Rel S z x) ∧ ∀ w, (zeroValue t).run P w = .ok x w := by
  unfold zeroV at h
  split at h
  · cases h
  · rename_i i hi
    split at h
    · cases h
    · rename_i x hx
      exact ⟨x, fun S => absV_rel h, fun w => by simp [zeroValue, run_info hG hi, hx]⟩

/-! slots -/
structure EnvRel (S : Map) (E : Env) (a : Go.Act) : Prop where
  size : a.tmps.size = E.n
  get : ∀ i x, E.get i = some x → ∃ v, a.tmps[i]? = some v ∧ Rel S x v
theorem EnvRel.mono {S S' : Map} (h : S.le S') {E : Env} {a : Go.Act} (r : EnvRel S E a) : EnvRel S' E a :=
  ⟨r.size, fun i x e => let ⟨v, h1, h2⟩ := r.get i x e; ⟨v, h1, h2.mono h⟩⟩
theorem EnvRel.put {S : Map} {E E' : Env} {a : Go.Act} {d : Option Nat} {x : AV} {v : Value} (r : EnvRel S E a) (h : E.put d x = some E') (hx : Rel S x v) :
    EnvRel S E' (a.put d v) := by
  cases d with
  | none => simp [Env.put] at h; subst h; exact r
  | some i =>
    simp only [Env.put] at h
    split at h
    · rename_i hi
      obtain rfl := Option.some.inj h
      have hi' : i < a.tmps.size := by rw [r.size]; simpa using hi
      refine ⟨by simp [Act.put, r.size], fun j y hy => ?_⟩
      rcases T.get_set fuel _ _ _ _ _ hy with ⟨rfl, rfl⟩ | ⟨hne, hy⟩
      · exact ⟨v, by simp [Act.put, hi'], hx⟩
      · obtain ⟨u, h1, h2⟩ := r.get j y hy
        exact ⟨u, by simp only [Act.put]; rw [Array.getElem?_setIfInBounds_ne (by omega)]; exact h1, h2⟩
    · cases h
include hG in
theorem opnd_rel {E : Env} {a : Go.Act} (r : EnvRel S E a) {o : Operand} {x : AV} (h : opnd G E o = some x) : Rel S x (a.eval o) := by
  cases o with
  | tmp t =>
    obtain ⟨v, h1, h2⟩ := r.get t x h
    have : a.eval (.tmp t) = v := by simp [Act.eval, Array.getD_eq_getD_getElem?, h1]
    rw [this]; exact h2
  | const v => exact absV_rel h
  | global g => simp [opnd, hG.fix] at h
  | func f => simp only [opnd, Option.some.injEq] at h; subst h; rw [Rel]; exact ⟨#[], #[], rfl, RelL.nil, RelL.nil⟩
include hG in
theorem opnds_rel {E : Env} {a : Go.Act} (r : EnvRel S E a) : ∀ {l : List Operand} {x : List AV}, opnds G E l = some x → RelL S x (l.map a.eval)
  | [], x, h => by simp [opnds] at h; subst h; exact RelL.nil
  | o :: l, x, h => by
    unfold opnds at h
    split at h
    · rename_i b q hb hq
      obtain rfl := Option.some.inj h
      exact RelL.cons (opnd_rel hG r hb) (opnds_rel r hq)
    · cases h

/-! cells -/
theorem addr_add (R o i : Nat) : (⟨R, o, none⟩ : Addr).add i = ⟨R, o + i, none⟩ := by
  unfold Addr.add; split
  · rename_i h; subst h; rfl
  · rfl
theorem cell_at {R o : Nat} {c : Array Value} {e : TypeId} {fr : Nat × Nat} (h : w.heap[R]? = some (.cells c e fr)) : w.cell? ⟨R, o, none⟩ = c[o]? := by
  simp [World.cell?, h]
theorem run_loadFrom {R v : Nat} {c : Array Value} {e : TypeId} {fr : Nat × Nat} {t : T (AV × Nat)}
    (ht : ∀ i a k, t.get i = some (a, k) → k ≤ v → a.scalar = true ∧ ∃ x, c[i]? = some x ∧ Rel S a x) :
    ∀ (n o i o0 : Nat) (l : List AV) (acc : Array Value), o = o0 + i → cellsGet t v o n = some l →
      ∃ arr : List Value, RelL S l arr ∧ (∀ a ∈ l, a.scalar = true) ∧ arr.length = n ∧ (∀ w' : World, w'.heap[R]? = some (.cells c e fr) → (loadCellsFrom ⟨R, o0, none⟩ i n acc).run P w' = .ok (acc ++ arr.toArray) w') ∧ (∀ j, j < n → ∃ y, c[o + j]? = some y ∧ arr[j]? = some y)
  | 0, o, i, o0, l, acc, _, h => by
    simp [cellsGet_zero] at h; subst h
    exact ⟨[], RelL.nil, by simp, rfl, fun w' _ => by simp [loadCellsFrom], by simp⟩
  | n + 1, o, i, o0, l, acc, ho, h => by
    rw [cellsGet_succ] at h
    split at h
    · cases h
    · rename_i a k hk
      split at h
      · rename_i hle
        split at h
        · cases h
        · rename_i l' hl'
          obtain rfl := Option.some.inj h
          obtain ⟨hs, x, hx, hr⟩ := ht o a k hk (by simpa using hle)
          obtain ⟨arr, h1, h2, h3, h4, h5⟩ := run_loadFrom (R := R) (e := e) (fr := fr) ht n (o + 1) (i + 1) o0 l' (acc.push x) (by omega) hl'
          refine ⟨x :: arr, RelL.cons hr h1, ?_, by simp [h3], ?_, ?_⟩
          · intro y hy
            rcases List.mem_cons.1 hy with rfl | hy
            · exact hs
            · exact h2 y hy
          · intro w' hc
            have : w'.cell? ((⟨R, o0, none⟩ : Addr).add i) = some x := by rw [addr_add, cell_at hc, ← ho]; exact hx
            simp only [loadCellsFrom, Sem.run_bind, run_load, this, Result.andThen_ok, h4 w' hc]
            have : acc.push x ++ arr.toArray = acc ++ (x :: arr).toArray := by apply Array.ext'; simp
            rw [this]
          · intro j hj
            cases j with
            | zero => exact ⟨x, by simpa using hx, by simp⟩
            | succ j => obtain ⟨y, h6, h7⟩ := h5 j (by omega); exact ⟨y, by rw [show o + (j + 1) = o + 1 + j from by omega]; exact h6, by simpa using h7⟩
      · cases h

theorem run_loadRow' (hI : Inv G S H w) {b v o n R C : Nat} {l : List AV} (hb : S b v = some (R, C)) (h : loadRow H b v o n = some l) :
    ∃ arr : List Value, RelL S l arr ∧ (∀ a ∈ l, a.scalar = true) ∧ arr.length = n ∧ ∀ w' : World, w'.heap = w.heap → (loadCells ⟨R, o, none⟩ n).run P w' = .ok arr.toArray w' := by
  unfold loadRow at h
  split at h
  · rename_i e m cur shut t hx
    obtain ⟨_, _, hB⟩ := hI.blk b v R C hb
    obtain ⟨_, c, fr, hc, ht, _⟩ := hB _ hx
    obtain ⟨arr, h1, h2, h3, h4, _⟩ := run_loadFrom (P := P) (R := R) (e := e) (fr := fr) ht n o 0 o l #[] rfl h
    exact ⟨arr, h1, h2, h3, fun w' hw => by simpa [loadCells] using h4 w' (by rw [hw]; exact hc)⟩
  · cases h
theorem run_loadRow (hI : Inv G S H w) {b v o n R C : Nat} {l : List AV} (hb : S b v = some (R, C)) (h : loadRow H b v o n = some l) :
    ∃ arr : List Value, RelL S l arr ∧ (∀ a ∈ l, a.scalar = true) ∧ arr.length = n ∧ (loadCells ⟨R, o, none⟩ n).run P w = .ok arr.toArray w := by
  obtain ⟨arr, h1, h2, h3, h4⟩ := run_loadRow' (P := P) hI hb h
  exact ⟨arr, h1, h2, h3, h4 w rfl⟩

include hG in
theorem run_loadVar (hI : Inv G S H w) {b v o R C t : Nat} {x : AV} (hb : S b v = some (R, C)) (h : loadVarA G H t b v o = some x) :
    ∃ y, Rel S x y ∧ (loadVar t ⟨R, o, none⟩).run P w = .ok y w := by
  unfold loadVarA at h
  split at h
  · rename_i n ha hn
    simp only [Option.map_eq_some_iff] at h
    obtain ⟨l, hl, rfl⟩ := h
    obtain ⟨arr, h1, _, _, h4⟩ := run_loadRow (P := P) hI hb hl
    exact ⟨.agg arr.toArray, by rw [Rel]; exact ⟨_, rfl, by simpa using h1⟩, by simp [loadVar, run_agg hG ha, run_size hG hn, h4]⟩
  · rename_i n ha hn
    split at h
    · rename_i a hl
      obtain rfl := Option.some.inj h
      obtain ⟨arr, h1, h2, h3, h4⟩ := run_loadRow (P := P) hI hb hl
      obtain ⟨y, r', rfl, hr, hr'⟩ := h1.cons_inv
      obtain rfl := hr'.nil_inv
      refine ⟨y, hr, ?_⟩
      have h5 : w.cell? ⟨R, o, none⟩ = some y := by
        unfold loadRow at hl
        split at hl
        · rename_i e m cur shut t hx
          obtain ⟨_, _, hB⟩ := hI.blk b v R C hb
          obtain ⟨_, c, fr, hc, ht, _⟩ := hB _ hx
          obtain ⟨arr, q1, q2, q3, q4, q5⟩ := run_loadFrom (P := P) (R := R) (e := e) (fr := fr) ht 1 o 0 o _ #[] rfl hl
          have : (loadCells ⟨R, o, none⟩ 1).run P w = .ok arr.toArray w := by simpa [loadCells] using q4 w hc
          rw [h4] at this
          simp only [Result.ok.injEq, and_true] at this
          obtain ⟨z, q6, q7⟩ := q5 0 (by omega)
          have : arr = [y] := by simpa using this.symm
          subst this
          simp at q7
          subst q7
          rw [cell_at hc]
          simpa using q6
        · cases hl
      simp [loadVar, run_agg hG ha, h5]
    · cases h
  · cases h

/-! stores -/
def putRow (w : World) (R : Nat) (o : Obj) : World := { w with heap := w.heap.setIfInBounds R o }
theorem putRow_heap (w : World) (R R' : Nat) (o : Obj) : (putRow w R o).heap[R']? = if R = R' then (if R < w.heap.size then some o else none) else w.heap[R']? := by
  simp [putRow, Array.getElem?_setIfInBounds]
theorem putRow_self {R : Nat} {o : Obj} (h : w.heap[R]? = some o) : putRow w R o = w := by
  unfold putRow
  have : w.heap.setIfInBounds R o = w.heap := by
    apply Array.ext_getElem?
    intro i
    rw [Array.getElem?_setIfInBounds]
    split
    · rename_i e; subst e
      obtain ⟨hlt, he⟩ := Array.getElem?_eq_some_iff.1 h
      simp [hlt, he]
    · rfl
  rw [this]
theorem putRow_putRow (w : World) (R : Nat) (o o' : Obj) : putRow (putRow w R o) R o' = putRow w R o' := by
  simp [putRow]
theorem setCell_putRow {R o : Nat} {c : Array Value} {e : TypeId} {fr : Nat × Nat} (h : w.heap[R]? = some (.cells c e fr)) (v : Value) :
    w.setCell ⟨R, o, none⟩ v = putRow w R (.cells (c.setIfInBounds o v) e fr) := by
  unfold World.setCell putRow
  have : (w.heap.modify R fun | .cells c elem frozen => .cells (if (none : Option Nat).isSome then c else c.setIfInBounds o v) elem frozen | o => o) = w.heap.setIfInBounds R (.cells (c.setIfInBounds o v) e fr) := by
    apply Array.ext_getElem?
    intro i
    rw [Array.getElem?_modify, Array.getElem?_setIfInBounds]
    split
    · rename_i hi; subst hi
      obtain ⟨hlt, he⟩ := Array.getElem?_eq_some_iff.1 h
      simp [hlt, he]
    · rfl
  exact congrArg (fun x => ({ w with heap := x } : World)) this

theorem run_storeFrom {R tag : Nat} {e : TypeId} {fr : Nat × Nat} :
    ∀ (l : List AV) (vs : List Value) (o i o0 : Nat) (t t' : T (AV × Nat)) (c : Array Value) (w : World), o = o0 + i → RelL S l vs → cellsSet tag t o l = some t' →
      w.heap[R]? = some (.cells c e fr) → (∀ i x, t.get i = some x → i < c.size) → (∀ i, i < c.size → ¬ (fr.1 ≤ i ∧ i < fr.2)) →
      ∃ c' : Array Value, (storeCells ⟨R, o0, none⟩ vs i).run P w = .ok () (putRow w R (.cells c' e fr)) ∧ c'.size = c.size ∧
        (∀ j, ¬ (o ≤ j ∧ j < o + l.length) → c'[j]? = c[j]?) ∧
        (∀ j x k, t'.get j = some (x, k) → (t.get j = some (x, k) ∧ ¬ (o ≤ j ∧ j < o + l.length)) ∨ (k = tag ∧ x.scalar = true ∧ (∃ q, t.get j = some q) ∧ ∃ y, c'[j]? = some y ∧ Rel S x y))
  | [], vs, o, i, o0, t, t', c, w, _, hr, h, hc, hex, hfr => by
    obtain rfl := hr.nil_inv
    simp [cellsSet] at h; subst h
    exact ⟨c, by simp [storeCells, putRow_self hc], rfl, fun _ _ => rfl, fun j x k hj => .inl ⟨hj, by simp⟩⟩
  | a :: l, vs, o, i, o0, t, t', c, w, ho, hr, h, hc, hex, hfr => by
    obtain ⟨x, vs', rfl, hx, hr'⟩ := hr.cons_inv
    unfold cellsSet at h
    split at h
    · cases h
    · rename_i q hq
      split at h
      · rename_i hs
        have hlt : o < c.size := hex o q hq
        have hc1 : (putRow w R (.cells (c.setIfInBounds o x) e fr)).heap[R]? = some (.cells (c.setIfInBounds o x) e fr) := by
          rw [putRow_heap]
          obtain ⟨hlt', _⟩ := Array.getElem?_eq_some_iff.1 hc
          simp [hlt']
        obtain ⟨c', h1, h2, h3, h4⟩ := run_storeFrom l vs' (o + 1) (i + 1) o0 (t.set fuel o (a, tag)) t' (c.setIfInBounds o x) (putRow w R (.cells (c.setIfInBounds o x) e fr)) (by omega) hr' h hc1
          (fun j y hj => by
            rcases T.get_set fuel _ _ _ _ _ hj with ⟨rfl, _⟩ | ⟨_, hj⟩
            · simpa using hlt
            · simpa using hex j y hj) (by simpa using hfr)
        refine ⟨c', ?_, by simpa using h2, ?_, ?_⟩
        · have hone : x.oneCell' = true := by
            have := hx.scalar hs
            cases x <;> first | rfl | (exact absurd rfl (this.1 _)) | (exact absurd rfl (this.2 _))
          have hcell : w.cell? ((⟨R, o0, none⟩ : Addr).add i) = some c[o] := by rw [addr_add, cell_at hc, ← ho]; simp [hlt]
          have hfro : w.frozen? ((⟨R, o0, none⟩ : Addr).add i) = false := by
            rw [addr_add, ← ho]
            simp only [World.frozen?, hc]
            have := hfr o hlt
            simpa using this
          simp only [storeCells, Sem.run_bind, run_store _ _ _ _ _ hone, hcell, hfro, Result.andThen_ok, Bool.false_eq_true, if_false]
          rw [addr_add, ← ho, setCell_putRow hc, h1, putRow_putRow]
        · intro j hj
          rw [h3 j (by simp at hj ⊢; omega)]
          rw [Array.getElem?_setIfInBounds_ne (by simp at hj; omega)]
        · intro j y k hj
          rcases h4 j y k hj with ⟨h5, h6⟩ | h5
          · rcases T.get_set fuel _ _ _ _ _ h5 with ⟨rfl, he⟩ | ⟨hne, h5⟩
            · simp only [Prod.mk.injEq] at he
              obtain ⟨rfl, rfl⟩ := he
              refine .inr ⟨rfl, hs, ⟨q, hq⟩, x, ?_, hx⟩
              rw [h3 j (by omega)]
              simp [hlt]
            · exact .inl ⟨h5, by simp at h6 ⊢; omega⟩
          · obtain ⟨rfl, h6, ⟨q', h7⟩, h8⟩ := h5
            refine .inr ⟨rfl, h6, ?_, h8⟩
            rcases T.get_set fuel _ _ _ _ _ h7 with ⟨rfl, _⟩ | ⟨_, h7⟩
            · exact ⟨q, hq⟩
            · exact ⟨q', h7⟩
      · cases h

/-- The heap's put, read. -/
theorem put_get {H : Heap} {b b' : Nat} {x y : Blk} (h : (H.put b x).t.get b' = some y) : (b' = b ∧ y = x) ∨ (b' ≠ b ∧ H.t.get b' = some y) := T.get_set fuel _ _ _ _ _ h

theorem run_storeRow (hI : Inv G S H w) {b v o R C : Nat} {l : List AV} {vs : List Value} {H' : Heap} (hb : S b v = some (R, C)) (hr : RelL S l vs) (h : storeRow H b v o l = some H') :
    ∃ w', (storeCells ⟨R, o, none⟩ vs).run P w = .ok () w' ∧ Step G S H w S H' w' := by
  unfold storeRow at h
  split at h
  · rename_i e n cur t hx
    split at h
    · rename_i hv
      obtain rfl : v = cur := by simpa using hv
      simp only [Option.map_eq_some_iff] at h
      obtain ⟨t', ht', rfl⟩ := h
      obtain ⟨hlt, _, hB⟩ := hI.blk b v R C hb
      obtain ⟨_, c, fr, hc, ht, hfz, hcap, hn⟩ := hB _ hx
      obtain ⟨c', h1, h2, h3, h4⟩ := run_storeFrom (P := P) l vs o 0 o t t' c w rfl hr ht' hc
        (fun i x hi => by
          obtain ⟨a, k⟩ := x
          obtain ⟨_, y, hy, _⟩ := ht i a k hi (hn i a k hi).2
          exact (Array.getElem?_eq_some_iff.1 hy).1) (hfz rfl)
      refine ⟨_, h1, hI.dom, S.le_refl, ⟨?_, hI.inj, hI.fix.of (fun b v _ C e => .inl ⟨b, v, C, e⟩) (by simp [putRow]) (fun R' hR' => by have := hI.fix.up _ _ _ _ hb; rw [putRow_heap, if_neg (by omega)])⟩, rfl, rfl, rfl, by simp [putRow], ?_, ?_, Nat.le_refl _, Nat.le_refl _, fun _ _ _ _ e => .inl e, fun _ _ _ e => .inl e⟩
      · intro b' v' R' C' hb'
        obtain ⟨hlt', hnx, hB'⟩ := hI.blk b' v' R' C' hb'
        refine ⟨by simpa [putRow] using hlt', hnx, fun x hx' => ?_⟩
        rcases put_get hx' with ⟨rfl, rfl⟩ | ⟨hne, hx'⟩
        · obtain ⟨hv', c0, fr0, hc0, ht0, hfz0, hcap0, hn0⟩ := hB' _ hx
          by_cases hRR : R = R'
          · subst hRR
            rw [hc] at hc0
            simp only [Option.some.injEq, Obj.cells.injEq] at hc0
            obtain ⟨rfl, _, rfl⟩ := hc0
            refine ⟨hv', c', fr, by rw [putRow_heap]; simp [hlt], ?_, by rw [h2]; exact hfz0, by rw [h2]; exact hcap0, ?_⟩
            · intro j y k hj hk
              rcases h4 j y k hj with ⟨h5, h6⟩ | ⟨rfl, hs, _, h5⟩
              · obtain ⟨hs, z, hz, hrz⟩ := ht0 j y k h5 hk
                exact ⟨hs, z, by rw [h3 j h6]; exact hz, hrz⟩
              · exact ⟨hs, h5⟩
            · intro j y k hj
              rcases h4 j y k hj with ⟨h5, _⟩ | ⟨rfl, _, ⟨⟨q1, q2⟩, h6⟩, _⟩
              · exact hn0 j y k h5
              · exact ⟨(hn0 j q1 q2 h6).1, Nat.le_refl _⟩
          · refine ⟨hv', c0, fr0, by rw [putRow_heap, if_neg hRR]; exact hc0, ?_, hfz0, hcap0, ?_⟩
            · intro j y k hj hk
              rcases h4 j y k hj with ⟨h5, _⟩ | ⟨rfl, hs, _, h5⟩
              · exact ht0 j y k h5 hk
              · obtain rfl : v' = k := by omega
                rw [hb] at hb'
                simp only [Option.some.injEq, Prod.mk.injEq] at hb'
                exact absurd hb'.1 hRR
            · intro j y k hj
              rcases h4 j y k hj with ⟨h5, _⟩ | ⟨rfl, _, ⟨⟨q1, q2⟩, h6⟩, _⟩
              · exact hn0 j y k h5
              · exact ⟨(hn0 j q1 q2 h6).1, Nat.le_refl _⟩
        · refine (hB' x hx').mono S.le_refl ?_
          rw [putRow_heap, if_neg]
          intro e; subst e
          exact hne (hI.inj _ _ _ _ _ _ _ hb' hb)
      · intro R' hR' hno
        rw [putRow_heap, if_neg]
        intro e; subst e
        rw [hno _ _ _ hb] at hx; cases hx
      · intro b' x hx'
        rcases put_get hx' with ⟨rfl, _⟩ | ⟨_, hx'⟩
        · exact .inr (.inl ⟨⟨v, _, hb⟩, _, hx⟩)
        · exact .inl hx'
    · cases h
  · cases h

/-! new blocks -/
def Map.add (S : Map) (b v : Nat) (x : Nat × Nat) : Map := fun b' v' => if b' = b ∧ v' = v then some x else S b' v'
theorem Map.add_le {S : Map} {b v : Nat} {x : Nat × Nat} (h : S b v = none) : S.le (S.add b v x) := fun b' v' y e => by
  unfold Map.add; split
  · rename_i hc; obtain ⟨rfl, rfl⟩ := hc; rw [h] at e; cases e
  · exact e
theorem Map.add_self (S : Map) (b v : Nat) (x : Nat × Nat) : S.add b v x b v = some x := by simp [Map.add]
theorem Map.add_inv {S : Map} {b v b' v' : Nat} {x y : Nat × Nat} (h : S.add b v x b' v' = some y) : (b' = b ∧ v' = v ∧ y = x) ∨ S b' v' = some y := by
  unfold Map.add at h; split at h
  · rename_i hc; exact .inl ⟨hc.1, hc.2, (Option.some.inj h).symm⟩
  · exact .inr h
def pushW (w : World) (o : Obj) : World := { w with heap := w.heap.push o }
theorem pushW_heap (w : World) (o : Obj) (R : Nat) : (pushW w o).heap[R]? = if R = w.heap.size then some o else w.heap[R]? := by
  show (w.heap.push o)[R]? = _
  rw [Array.getElem?_push]

theorem free_lt {H : Heap} (h : H.free = true) : H.next < H.top := by simpa [Heap.free] using h
theorem Inv.fresh (hI : Inv G S H w) (hf : H.free = true) (v : Nat) : S H.next v = none := by
  have := free_lt hf
  cases e : S H.next v with
  | none => rfl
  | some x => have := (hI.blk _ _ x.1 x.2 e).2.1; omega

/-- A new block on both sides, the world's draws counted by whatever way. -/
theorem Step.push (hI : Inv G S H w) (hfree : H.free = true) {x : Blk} {o : Obj} {C : Nat} (n : Nat)
    (hx : ∀ S', S.le S' → S' H.next 0 = some (w.heap.size, C) → BlkRel G S' 0 w.heap.size C (pushW w o) x) :
    Step G S H w (S.add H.next 0 (w.heap.size, C)) (H.push x) { pushW w o with drawn := n } := by
  have hf := hI.fresh hfree
  have hlt := free_lt hfree
  have hle : S.le (S.add H.next 0 (w.heap.size, C)) := Map.add_le (hf 0)
  have hfix : Fixed G (S.add H.next 0 (w.heap.size, C)) { pushW w o with drawn := n } := by
    refine hI.fix.of (fun b v R C' e => ?_) (by simp [pushW]) (fun R hR => ?_)
    · rcases Map.add_inv e with ⟨rfl, rfl, e1⟩ | e1
      · simp only [Prod.mk.injEq] at e1; exact .inr (by omega)
      · exact .inl ⟨_, _, _, e1⟩
    · have := hI.fix.size
      show (pushW w o).heap[R]? = _
      rw [pushW_heap, if_neg (by omega)]
  refine ⟨hI.dom, hle, ⟨?_, ?_, hfix⟩, rfl, rfl, rfl, by simp [pushW], ?_, ?_, by simp [Heap.push], Nat.le_refl _, ?_, ?_⟩
  · intro b v R C' e
    rcases Map.add_inv e with ⟨rfl, rfl, e1⟩ | e1
    · simp only [Prod.mk.injEq] at e1
      obtain ⟨rfl, rfl⟩ := e1
      refine ⟨by simp [pushW], by simp [Heap.push], fun y hy => ?_⟩
      rcases T.get_set fuel _ _ _ _ _ hy with ⟨_, rfl⟩ | ⟨hne, _⟩
      · exact (hx _ hle (Map.add_self _ _ _ _)).mono (Map.le_refl _) rfl
      · exact absurd rfl hne
    · obtain ⟨h1, h2, h3⟩ := hI.blk _ _ _ _ e1
      refine ⟨by simp [pushW]; omega, by simp only [Heap.push]; omega, fun y hy => ?_⟩
      rcases T.get_set fuel _ _ _ _ _ hy with ⟨rfl, _⟩ | ⟨_, hy⟩
      · omega
      · refine (h3 y hy).mono hle ?_
        show (pushW w o).heap[R]? = _
        rw [pushW_heap, if_neg (by omega)]
  · intro b v R C1 b' v' C2 e1 e2
    rcases Map.add_inv e1 with ⟨rfl, rfl, h1⟩ | h1 <;> rcases Map.add_inv e2 with ⟨rfl, rfl, h2⟩ | h2
    · rfl
    · simp only [Prod.mk.injEq] at h1; have := (hI.blk _ _ _ _ h2).1; omega
    · simp only [Prod.mk.injEq] at h2; have := (hI.blk _ _ _ _ h1).1; omega
    · exact hI.inj _ _ _ _ _ _ _ h1 h2
  · intro R hR _
    show (pushW w o).heap[R]? = _
    rw [pushW_heap, if_neg (by omega)]
  · intro b y hy
    rcases T.get_set fuel _ _ _ _ _ hy with ⟨rfl, _⟩ | ⟨_, hy⟩
    · exact .inr (.inr ⟨Nat.le_refl _, hlt⟩)
    · exact .inl hy
  · intro b v R C' e
    rcases Map.add_inv e with ⟨rfl, rfl, e1⟩ | e1
    · simp only [Prod.mk.injEq] at e1; exact .inr (.inl (by omega))
    · exact .inl e1
  · intro b v x e
    rcases Map.add_inv e with ⟨rfl, rfl, _⟩ | e1
    · exact .inr (.inr ⟨Nat.le_refl _, hlt⟩)
    · exact .inl e1

theorem cellsNew_get {tag : Nat} : ∀ (l : List AV) (t : T (AV × Nat)) (o j : Nat) (x : AV) (k : Nat), (cellsNew tag t o l).get j = some (x, k) →
    (∃ i, j = o + i ∧ l[i]? = some x ∧ k = tag) ∨ (¬ (o ≤ j ∧ j < o + l.length) ∧ t.get j = some (x, k))
  | [], t, o, j, x, k, h => .inr ⟨by simp, h⟩
  | a :: l, t, o, j, x, k, h => by
    rcases cellsNew_get l (t.set fuel o (a, tag)) (o + 1) j x k h with ⟨i, h1, h2, h3⟩ | ⟨h1, h2⟩
    · exact .inl ⟨i + 1, by omega, by simpa using h2, h3⟩
    · rcases T.get_set fuel _ _ _ _ _ h2 with ⟨rfl, h3⟩ | ⟨h3, h4⟩
      · simp only [Prod.mk.injEq] at h3
        exact .inl ⟨0, rfl, by simp [h3.1], h3.2⟩
      · exact .inr ⟨by simp at h1 ⊢; omega, h4⟩
/-- The block of a row of cells just made. -/
theorem newCells_rel {e : Nat} {l : List AV} {arr : List Value} {R C : Nat} {rest : List Value} {fr : Nat × Nat} {w' : World} {S' : Map} (hr : RelL S' l arr) (hs : ∀ a ∈ l, a.scalar = true)
    (hw : w'.heap[R]? = some (.cells (arr ++ rest).toArray e fr)) (hfr : ∀ i, i < (arr ++ rest).length → ¬ (fr.1 ≤ i ∧ i < fr.2))
    (hC : ∀ i, G.ty e = some i → C * i.size ≤ (arr ++ rest).length) : BlkRel G S' 0 R C w' (newCells e l) := by
  refine ⟨Nat.le_refl _, _, fr, hw, ?_, fun _ => by simpa using hfr, fun i hi => by simpa using hC i hi, ?_⟩
  · intro i a k ht _
    rcases cellsNew_get _ _ _ _ _ _ ht with ⟨j, rfl, h2, _⟩ | ⟨_, h2⟩
    · obtain ⟨y, h3, h4⟩ := hr.get _ h2
      refine ⟨hs a (List.mem_of_getElem? h2), y, ?_, h4⟩
      simp only [Nat.zero_add, List.getElem?_toArray]
      rw [List.getElem?_append_left (List.getElem?_eq_some_iff.1 h3).1]
      exact h3
    · simp [T.get_nil] at h2
  · intro i a k ht
    rcases cellsNew_get _ _ _ _ _ _ ht with ⟨j, rfl, h2, rfl⟩ | ⟨_, h2⟩
    · exact ⟨by simpa using (List.getElem?_eq_some_iff.1 h2).1, Nat.le_refl _⟩
    · simp [T.get_nil] at h2
end
end Go.Abs
