/- Runs in parts, and what a call that was looked at once tells of all such calls. -/
import Derived.Test.YtldclhmpgjcimaaGreatDoorTapX
import Derived.Test.YtldclhmpgjcimaaGreatDoorTapV
namespace Go.Abs
open Go
noncomputable section

/-! written heaps and frames -/
section
variable {α : Type}
def mkT (l : List (Nat × α)) : T α := List.rec .nil (fun x _ ih => ih.set fuel x.1 x.2) l
theorem mkT_get : ∀ {l : List (Nat × α)} {i : Nat} {x : α}, (mkT l).get i = some x → (i, x) ∈ l
  | [], i, x, h => by rw [show mkT ([] : List (Nat × α)) = .nil from rfl, T.get_nil] at h; cases h
  | (j, y) :: l, i, x, h => by
    rcases T.get_set fuel _ _ _ _ _ (show ((mkT l).set fuel j y).get i = some x from h) with ⟨rfl, rfl⟩ | ⟨_, h⟩
    · exact List.mem_cons_self
    · exact List.mem_cons_of_mem _ (mkT_get h)
end

inductive LBlk where
  | cells (elem n cur : Nat) (shut : Bool) (l : List (Nat × AV × Nat))
  | map (es : List (AV × AV × Nat)) (clock : Nat)
def LBlk.blk : LBlk → Blk
  | .cells e n c s l => .cells e n c s (mkT l)
  | .map es c => .map es c
structure LHeap where
  next : Nat
  top : Nat
  l : List (Nat × LBlk)
def LHeap.heap (L : LHeap) : Heap := ⟨L.next, L.top, mkT (L.l.map fun p => (p.1, p.2.blk))⟩
structure LEnv where
  n : Nat
  l : List (Nat × AV)
def LEnv.env (L : LEnv) : Env := ⟨L.n, mkT L.l⟩

def leCells (t : T (AV × Nat)) : List (Nat × AV × Nat) → Bool
  | [] => true
  | (i, a, k) :: r => (match t.get i with | some (b, m) => eqAV a b && Nat.beq k m | none => false) && leCells t r
def eqEs : List (AV × AV × Nat) → List (AV × AV × Nat) → Bool
  | [], [] => true
  | (a, b, k) :: l, (a', b', k') :: r => eqAV a a' && eqAV b b' && Nat.beq k k' && eqEs l r
  | _, _ => false
def leB : LBlk → Blk → Bool
  | .cells e n c s l, .cells e' n' c' s' t => Nat.beq e e' && Nat.beq n n' && Nat.beq c c' && (s == s') && leCells t l
  | .map es c, .map es' c' => Nat.beq c c' && eqEs es es'
  | _, _ => false
def leBs (t : T Blk) : List (Nat × LBlk) → Bool
  | [] => true
  | (b, x) :: r => (match t.get b with | some y => leB x y | none => false) && leBs t r
def leH (L : LHeap) (H : Heap) : Bool := Nat.ble H.next L.next && Nat.ble L.top H.top && leBs H.t L.l
def leVs (t : T AV) : List (Nat × AV) → Bool
  | [] => true
  | (i, a) :: r => (match t.get i with | some b => eqAV a b | none => false) && leVs t r
def leE (L : LEnv) (E : Env) : Bool := Nat.beq L.n E.n && leVs E.t L.l

theorem leCells_ok {t : T (AV × Nat)} : ∀ {l : List (Nat × AV × Nat)}, leCells t l = true → ∀ i x, (i, x) ∈ l → t.get i = some x
  | [], _, _, _, hm => by cases hm
  | (j, a, k) :: r, h, i, x, hm => by
    simp only [leCells, Bool.and_eq_true] at h
    rcases List.mem_cons.1 hm with e | hm
    · simp only [Prod.mk.injEq] at e
      obtain ⟨rfl, rfl⟩ := e
      obtain ⟨h, _⟩ := h
      split at h
      · rename_i b m hg
        simp only [Bool.and_eq_true] at h
        rw [hg, eqAV_eq h.1, Nat.eq_of_beq_eq_true h.2]
      · cases h
    · exact leCells_ok h.2 i x hm
theorem eqEs_eq : ∀ {l r : List (AV × AV × Nat)}, eqEs l r = true → l = r
  | [], [], _ => rfl
  | (a, b, k) :: l, (a', b', k') :: r, h => by
    simp only [eqEs, Bool.and_eq_true] at h
    rw [eqAV_eq h.1.1.1, eqAV_eq h.1.1.2, Nat.eq_of_beq_eq_true h.1.2, eqEs_eq h.2]
  | [], _ :: _, h => by simp [eqEs] at h
  | _ :: _, [], h => by simp [eqEs] at h
theorem leBs_ok {t : T Blk} : ∀ {l : List (Nat × LBlk)}, leBs t l = true → ∀ b x, (b, x) ∈ l → ∃ y, t.get b = some y ∧ leB x y = true
  | [], _, _, _, hm => by cases hm
  | (j, a) :: r, h, b, x, hm => by
    simp only [leBs, Bool.and_eq_true] at h
    rcases List.mem_cons.1 hm with e | hm
    · simp only [Prod.mk.injEq] at e
      obtain ⟨rfl, rfl⟩ := e
      obtain ⟨h, _⟩ := h
      split at h
      · rename_i y hg; exact ⟨y, hg, h⟩
      · cases h
    · exact leBs_ok h.2 b x hm
theorem leVs_ok {t : T AV} : ∀ {l : List (Nat × AV)}, leVs t l = true → ∀ i x, (i, x) ∈ l → t.get i = some x
  | [], _, _, _, hm => by cases hm
  | (j, a) :: r, h, i, x, hm => by
    simp only [leVs, Bool.and_eq_true] at h
    rcases List.mem_cons.1 hm with e | hm
    · simp only [Prod.mk.injEq] at e
      obtain ⟨rfl, rfl⟩ := e
      obtain ⟨h, _⟩ := h
      split at h
      · rename_i b hg; rw [hg, eqAV_eq h]
      · cases h
    · exact leVs_ok h.2 i x hm

section
variable {G : Glob} {P : Program}

theorem BlkRel.less {S : Map} {v R C : Nat} {w : World} {x : LBlk} {y : Blk} (hl : leB x y = true) (h : BlkRel G S v R C w y) : BlkRel G S v R C w x.blk := by
  cases x with
  | cells e n c s l =>
    cases y with
    | cells e' n' c' s' t =>
      simp only [leB, Bool.and_eq_true] at hl
      obtain ⟨⟨⟨⟨h1, h2⟩, h3⟩, h4⟩, h5⟩ := hl
      obtain rfl := Nat.eq_of_beq_eq_true h1
      obtain rfl := Nat.eq_of_beq_eq_true h2
      obtain rfl := Nat.eq_of_beq_eq_true h3
      obtain rfl : s = s' := by simpa using h4
      obtain ⟨hv, cc, fr, q1, q2, q3, q4, q5⟩ := h
      exact ⟨hv, cc, fr, q1, fun i a k ht hk => q2 i a k (leCells_ok h5 _ _ (mkT_get ht)) hk, q3, q4, fun i a k ht => q5 i a k (leCells_ok h5 _ _ (mkT_get ht))⟩
    | _ => simp [leB] at hl
  | map es c =>
    cases y with
    | map es' c' =>
      simp only [leB, Bool.and_eq_true] at hl
      obtain rfl := Nat.eq_of_beq_eq_true hl.1
      obtain rfl := eqEs_eq hl.2
      exact h
    | _ => simp [leB] at hl
theorem heap_get {L : LHeap} {b : Nat} {x : Blk} (h : L.heap.t.get b = some x) : ∃ y, (b, y) ∈ L.l ∧ x = y.blk := by
  have := mkT_get (show (mkT (L.l.map fun p => (p.1, p.2.blk))).get b = some x from h)
  simp only [List.mem_map, Prod.mk.injEq] at this
  obtain ⟨⟨b', y⟩, h1, h2, h3⟩ := this
  subst h2
  exact ⟨y, h1, h3.symm⟩
theorem Inv.less {S : Map} {H : Heap} {w : World} {L : LHeap} (hl : leH L H = true) (h : Inv G S H w) : Inv G S L.heap w := by
  simp only [leH, Bool.and_eq_true] at hl
  obtain ⟨⟨h1, h2⟩, h3⟩ := hl
  have h1 := Nat.le_of_ble_eq_true h1
  have h2 := Nat.le_of_ble_eq_true h2
  refine ⟨fun b v R C e => ?_, h.inj, h.fix⟩
  obtain ⟨q1, q2, q3⟩ := h.blk b v R C e
  refine ⟨q1, ?_, fun x hx => ?_⟩
  · show b < L.next ∨ L.top ≤ b
    rcases q2 with q2 | q2
    · exact .inl (Nat.lt_of_lt_of_le q2 h1)
    · exact .inr (Nat.le_trans h2 q2)
  · obtain ⟨y, hy, rfl⟩ := heap_get hx
    obtain ⟨z, hz, hyz⟩ := leBs_ok h3 _ _ hy
    exact (q3 z hz).less hyz
theorem EnvRel.less {S : Map} {E : Env} {a : Go.Act} {L : LEnv} (hl : leE L E = true) (h : EnvRel S E a) : EnvRel S L.env a := by
  simp only [leE, Bool.and_eq_true] at hl
  exact ⟨h.size.trans (Nat.eq_of_beq_eq_true hl.1).symm, fun i x hx => h.get i x (leVs_ok hl.2 _ _ (mkT_get hx))⟩

/-- All that a run from w0 on knows: it made all that it knows, and left alone what was there before. -/
structure Own (G : Glob) (S : Map) (H : Heap) (w0 w : World) : Prop where
  inv : Inv G S H w
  own : ∀ b v R C, S b v = some (R, C) → w0.heap.size ≤ R
  old : ∀ R, R < w0.heap.size → w.heap[R]? = w0.heap[R]?
  size : w0.heap.size ≤ w.heap.size
  os : w.os = w0.os
  tape : w.tape = w0.tape
  output : w.output = w0.output
/-- A world at which the program may be entered. -/
def ReadyW (G : Glob) (w : World) : Prop := Fixed G (fun _ _ => none) w
theorem Own.start (w : World) (hw : ReadyW G w) (n t : Nat) : Own G (fun _ _ => none) ⟨n, t, .nil⟩ w w :=
  ⟨⟨fun _ _ _ _ e => (by cases e), fun _ _ _ _ _ _ _ e => (by cases e), hw⟩, fun _ _ _ _ e => (by cases e), fun _ _ => rfl, Nat.le_refl _, rfl, rfl, rfl⟩
theorem Own.step {S S' : Map} {H H' : Heap} {w0 w w' : World} (h : Own G S H w0 w) (k : Step G S H w S' H' w') : Own G S' H' w0 w' where
  inv := k.inv
  own := fun b v R C e => by
    rcases k.new b v R C e with e1 | e1 | ⟨v', C', e1⟩
    · exact h.own _ _ _ _ e1
    · exact Nat.le_trans h.size e1
    · exact h.own _ _ _ _ e1
  old := fun R hR => by
    rw [k.real R (Nat.lt_of_lt_of_le hR h.size) (fun b v C e => absurd (h.own _ _ _ _ e) (by omega)), h.old R hR]
  size := Nat.le_trans h.size k.size
  os := k.os.trans h.os
  tape := k.tape.trans h.tape
  output := k.output.trans h.output
theorem Own.less {S : Map} {H : Heap} {w0 w : World} {L : LHeap} (h : Own G S H w0 w) (hl : leH L H = true) : Own G S L.heap w0 w :=
  ⟨h.inv.less hl, h.own, h.old, h.size, h.os, h.tape, h.output⟩

/-- This code leads from here to there. -/
def Runs (G : Glob) (P : Program) (c : Code) (E : Env) (H : Heap) (x : Ex) (E' : Env) (H' : Heap) : Prop :=
  ∀ (S : Map) (a : Go.Act) (w0 w : World) (Q : Exit → Go.Act → World → Prop), Own G S H w0 w → EnvRel S E a →
    (∀ a' w' S', Own G S' H' w0 w' → EnvRel S' E' a' → a'.defers = a.defers → Q x.to a' w') → c.wp P Q a w
/-- A call without arguments leads to this. -/
def CallOwn (G : Glob) (P : Program) (f : Nat) (r : AV) (H : Heap) : Prop :=
  ∀ w, ReadyW G w → CallR P f #[] w fun v w' => ∃ S, Own G S H w w' ∧ Rel S r v

def yes : R := some (.nilPtr, ⟨0, 0, .nil⟩)
def ksFor (x : Ex) (k : Env → Heap → R) : Ks :=
  match x with
  | .normal => ⟨k, fun _ _ _ => none, fun _ _ => none⟩
  | .exit i => ⟨fun _ _ => none, fun j E H => if Nat.beq j i then k E H else none, fun _ _ => none⟩
  | .ret => ⟨fun _ _ => none, fun _ _ _ => none, k⟩
def isSome (r : R) : Bool := match r with | some _ => true | none => false
theorem isSome_inv {r : R} (h : isSome r = true) : ∃ x, r = some x := by
  cases r with
  | none => cases h
  | some x => exact ⟨x, rfl⟩
def codeFact (G : Glob) (m n : Nat) (c : Code) (E : LEnv) (H : LHeap) (x : Ex) (E' : LEnv) (H' : LHeap) : Bool :=
  isSome (fcode c G (fcall G m n) (callA G m n) m (ksFor x fun E1 H1 => test (leE E' E1) (test (leH H' H1) yes)) E.env H.heap)
def callFact (G : Glob) (m n f next top : Nat) (r : AV) (H' : LHeap) : Bool :=
  isSome (fcall G m n f [] ⟨next, top, .nil⟩ fun a H1 => test (eqAV r a) (test (leH H' H1) yes))

theorem ksFor_inv {x y : Ex} {k : Env → Heap → R} {E : Env} {H : Heap} {r : AV × Heap} (h : (ksFor x k).app y E H = some r) : y = x ∧ k E H = some r := by
  cases x <;> cases y <;> first | exact ⟨rfl, h⟩ | cases h | skip
  rename_i i j
  have h : (if Nat.beq j i then k E H else none) = some r := h
  split at h
  · rename_i e; exact ⟨by rw [Nat.eq_of_beq_eq_true e], h⟩
  · cases h

theorem Runs.of (hG : GlobOk G P) (hn : Named G) (ho : OvSound G P) {m n : Nat} {c : Code} {E E' : LEnv} {H H' : LHeap} {x : Ex} (h : codeFact G m n c E H x E' H' = true) : Runs G P c E.env H.heap x E'.env H'.heap := by
  obtain ⟨r, h⟩ := isSome_inv h
  obtain ⟨y, E1, H1, h1, h⟩ := fcode_ok (fcall_ok G m n) m _ _ _ _ h
  obtain ⟨hxy, k1⟩ := ksFor_inv h
  obtain ⟨h2, k2⟩ := test_inv k1
  obtain ⟨h3, _⟩ := test_inv k2
  subst hxy
  intro S a w0 w Q hO hE hQ
  have hc := callA_ok hG hn ho (fun _ h => drawA_ok hG h) m n
  exact execA_ok hG hc (drawA_ok hG hc) m c _ _ _ _ _ S a w Q h1 hO.inv hE fun a' w' S' hs hE' hd => hQ a' w' S' ((hO.step hs).less h3) (hE'.less h2) hd
theorem CallOwn.of (hG : GlobOk G P) (hn : Named G) (ho : OvSound G P) {m n f next top : Nat} {r : AV} {H' : LHeap} (h : callFact G m n f next top r H' = true) : CallOwn G P f r H'.heap := by
  obtain ⟨q, h⟩ := isSome_inv h
  obtain ⟨a, H1, h1, h⟩ := fcall_ok G m n _ _ _ _ _ h
  obtain ⟨h2, k1⟩ := test_inv h
  obtain ⟨h3, _⟩ := test_inv k1
  have h4 := eqAV_eq h2
  subst h4
  intro w hw
  have hc := callA_ok hG hn ho (fun _ h => drawA_ok hG h) m n
  have := hc f [] _ _ _ (fun _ _ => none) w #[] h1 (Own.start (G := G) w hw next top).inv RelL.nil
  unfold CallR at this ⊢
  split
  · rename_i v w' hq
    rw [hq] at this
    obtain ⟨S', hs, hr⟩ := this
    exact ⟨S', ((Own.start w hw next top).step hs).less h3, hr⟩
  · rename_i g args w' hq
    rw [hq] at this
    refine Calls.mono this ?_
    rintro e w'' ⟨v, rfl, S', hs, hr⟩
    exact ⟨v, rfl, S', ((Own.start w hw next top).step hs).less h3, hr⟩
  · rename_i hq1 hq2
    split at this
    · rename_i hq; exact (hq1 _ _ hq).elim
    · rename_i hq; exact (hq2 _ _ _ hq).elim
    · exact this.elim

theorem Runs.seq {c d : Code} {E E1 E' : Env} {H H1 H' : Heap} {x : Ex} (h : Runs G P c E H .normal E1 H1) (k : Runs G P d E1 H1 x E' H') : Runs G P (.seq c d) E H x E' H' :=
  fun S a w0 w Q hO hE hQ => wp_seq (h S a w0 w _ hO hE fun a1 w1 S1 hO1 hE1 hd1 => k S1 a1 w0 w1 Q hO1 hE1 fun a2 w2 S2 hO2 hE2 hd2 => hQ a2 w2 S2 hO2 hE2 (hd2.trans hd1))
theorem Runs.seq_ret {c d : Code} {E E' : Env} {H H' : Heap} (h : Runs G P c E H .ret E' H') : Runs G P (.seq c d) E H .ret E' H' :=
  fun S a w0 w _ hO hE hQ => wp_seq (h S a w0 w _ hO hE hQ)

theorem Runs.exec (hG : GlobOk G P) (hn : Named G) (ho : OvSound G P) {m n : Nat} {c : Code} {E E' : Env} {H H' : Heap} {x : Ex} (h : execA G (callA G m n) m c E H = some (x, E', H')) : Runs G P c E H x E' H' := by
  intro S a w0 w Q hO hE hQ
  have hc := callA_ok hG hn ho (fun _ h => drawA_ok hG h) m n
  exact execA_ok hG hc (drawA_ok hG hc) m c _ _ _ _ _ S a w Q h hO.inv hE fun a' w' S' hs hE' hd => hQ a' w' S' (hO.step hs) hE' hd
theorem Runs.less {c : Code} {E E' : Env} {H H' : Heap} {L : LEnv} {K : LHeap} {x : Ex} (h1 : leE L E = true) (h2 : leH K H = true) (h : Runs G P c L.env K.heap x E' H') : Runs G P c E H x E' H' :=
  fun S a w0 w Q hO hE hQ => h S a w0 w Q (hO.less h2) (hE.less h1) hQ

/-! the first statements of a body, and the rest -/
def takeL : Nat → Code → List Code
  | n + 1, .seq a b => a :: takeL n b
  | _, _ => []
def dropL : Nat → Code → Code
  | n + 1, .seq _ b => dropL n b
  | _, c => c
def seqs : List Code → Code → Code
  | [], d => d
  | c :: l, d => .seq c (seqs l d)
theorem seqs_take : ∀ (n : Nat) (c : Code), seqs (takeL n c) (dropL n c) = c
  | 0, c => by cases c <;> rfl
  | n + 1, c => by
    cases c with
    | seq a b => show Code.seq a (seqs (takeL n b) (dropL n b)) = _; rw [seqs_take n b]
    | _ => rfl
def fcodes (G : Glob) (m n : Nat) (k : Env → Heap → R) : List Code → Env → Heap → R
  | [] => k
  | c :: l => fcode c G (fcall G m n) (callA G m n) m ⟨fcodes G m n k l, fun _ _ _ => none, fun _ _ => none⟩
theorem fcodes_ok (hG : GlobOk G P) (hn : Named G) (ho : OvSound G P) {m n : Nat} {k : Env → Heap → R} {r : AV × Heap} : ∀ (l : List Code) (E : Env) (H : Heap), fcodes G m n k l E H = some r →
    ∃ E' H', (∀ d x E2 H2, Runs G P d E' H' x E2 H2 → Runs G P (seqs l d) E H x E2 H2) ∧ k E' H' = some r
  | [], E, H, h => ⟨E, H, fun _ _ _ _ hd => hd, h⟩
  | c :: l, E, H, h => by
    obtain ⟨y, E1, H1, h1, h2⟩ := fcode_ok (fcall_ok G m n) m _ _ _ _ h
    cases y with
    | normal =>
      obtain ⟨E', H', h3, h4⟩ := fcodes_ok hG hn ho l E1 H1 h2
      exact ⟨E', H', fun d x E2 H2 hd => (Runs.exec hG hn ho h1).seq (h3 d x E2 H2 hd), h4⟩
    | exit i => cases h2
    | ret => cases h2
def partFact (G : Glob) (m n : Nat) (l : List Code) (E : Env) (H : Heap) (E' : LEnv) (H' : LHeap) : Bool :=
  isSome (fcodes G m n (fun E1 H1 => test (leE E' E1) (test (leH H' H1) yes)) l E H)
theorem Runs.part (hG : GlobOk G P) (hn : Named G) (ho : OvSound G P) {m n : Nat} {l : List Code} {E : Env} {E' : LEnv} {H : Heap} {H' : LHeap} (h : partFact G m n l E H E' H' = true) {d : Code} {x : Ex} {E2 : Env} {H2 : Heap} (hd : Runs G P d E'.env H'.heap x E2 H2) :
    Runs G P (seqs l d) E H x E2 H2 := by
  obtain ⟨r, h⟩ := isSome_inv h
  obtain ⟨E1, H1, h1, h⟩ := fcodes_ok hG hn ho l _ _ h
  obtain ⟨h2, k2⟩ := test_inv h
  obtain ⟨h3, _⟩ := test_inv k2
  exact h1 d x E2 H2 (hd.less h2 h3)

/-- A call, by its body's run. -/
theorem CallOwn.body (hG : GlobOk G P) (hn : Named G) {f next top : Nat} {fn : Func} {c : Code} {x : Ex} {E : Env} {H : Heap} {r : AV} (hf : G.fn f = some fn) (hb : fn.body = some c)
    (h : Runs G P c (enterA fn []) ⟨next, top, .nil⟩ x E H) (hx : x = .normal ∨ x = .ret) (hr : resultsA G E H fn.results.toList = some [r]) : CallOwn G P f r H := by
  intro w hw
  have hf' := hG.fn _ _ hf
  unfold CallR
  have hrun : (callFunc f #[]).run P w = .ok (.enter f #[]) w := by
    have hn' : ¬ fn.name = "runtime.NumGoroutine" := by simpa using hn _ _ hf
    simp [callFunc, hf', hn', hb]
  rw [hrun]
  refine calls_of_wp hf' hb ?_
  refine h (fun _ _ => none) _ w w _ (Own.start w hw next top) (enterA_rel RelL.nil) fun a' w' S' hO hE' hdf => ?_
  have hdf' : a'.defers = [] := hdf
  suffices hs : ∃ v, (results fn a'.tmps).run P w' = .ok v w' ∧ ∃ u, Ending.returned v = .returned u ∧ ∃ S', Own G S' H w w' ∧ Rel S' r u by
    rcases hx with rfl | rfl <;> exact ⟨hdf', hs⟩
  obtain ⟨l', h1, h2⟩ := resultsA_ok hG hO.inv hE' hr
  obtain ⟨y, r', rfl, h3, h4⟩ := h1.cons_inv
  obtain rfl := h4.nil_inv
  refine ⟨y, ?_, y, rfl, S', hO, h3⟩
  rw [results_eq, Array.mapM_eq_mapM_toList, Sem.run_bind, Sem.run_map, h2]
  rfl

/-! what was looked at once, put into another heap -/
mutual
def shift (d : Nat) : AV → AV
  | .ptr b v o => .ptr (d + b) v o
  | .slice b v o e l c => .slice (d + b) v o e l c
  | .map b => .map (d + b)
  | .func fn f c => .func fn (shiftL d f) (shiftL d c)
  | .iface t x => .iface t (shift d x)
  | .agg l => .agg (shiftL d l)
  | .tuple l => .tuple (shiftL d l)
  | x => x
def shiftL (d : Nat) : List AV → List AV
  | [] => []
  | a :: l => shift d a :: shiftL d l
end
mutual
/-- All blocks that it names are among these. -/
def within (p : Nat → Bool) : AV → Bool
  | .ptr b _ _ => p b
  | .slice b _ _ _ _ _ => p b
  | .map b => p b
  | .func _ f c => withinL p f && withinL p c
  | .iface _ x => within p x
  | .agg l => withinL p l
  | .tuple l => withinL p l
  | _ => true
def withinL (p : Nat → Bool) : List AV → Bool
  | [] => true
  | a :: l => within p a && withinL p l
end
mutual
theorem Rel.shift {S S' : Map} {d : Nat} {p : Nat → Bool} (h : ∀ b v x, p b = true → S b v = some x → S' (d + b) v = some x) : ∀ {a : AV} {x : Value}, within p a = true → Rel S a x → Rel S' (shift d a) x
  | .bool _, _, _, r => r
  | .int _ _, _, _, r => r
  | .str _, _, _, r => r
  | .ptr _ _ _, _, hw, ⟨R, T, e, r⟩ => ⟨R, T, h _ _ _ hw e, r⟩
  | .nilPtr, _, _, r => r
  | .slice _ _ _ _ _ (some _), _, hw, ⟨R, T, e, r⟩ => ⟨R, T, h _ _ _ hw e, r⟩
  | .slice _ _ _ _ _ none, _, hw, ⟨R, T, e, r⟩ => ⟨R, T, h _ _ _ hw e, r⟩
  | .nilSlice, _, _, r => r
  | .vague, _, _, r => r
  | .map _, _, hw, ⟨R, T, e, r⟩ => ⟨R, T, h _ _ _ hw e, r⟩
  | .nilMap, _, _, r => r
  | .func _ _ _, _, hw, ⟨f', c', e, r, q⟩ => by
    simp only [within, Bool.and_eq_true] at hw
    exact ⟨f', c', e, RelL.shift h hw.1 r, RelL.shift h hw.2 q⟩
  | .nilFunc, _, _, r => r
  | .iface _ _, _, hw, ⟨y, e, r⟩ => ⟨y, e, Rel.shift h hw r⟩
  | .nilIface, _, _, r => r
  | .agg _, _, hw, ⟨l', e, r⟩ => ⟨l', e, RelL.shift h hw r⟩
  | .tuple _, _, hw, ⟨l', e, r⟩ => ⟨l', e, RelL.shift h hw r⟩
theorem RelL.shift {S S' : Map} {d : Nat} {p : Nat → Bool} (h : ∀ b v x, p b = true → S b v = some x → S' (d + b) v = some x) : ∀ {a : List AV} {x : List Value}, withinL p a = true → RelL S a x → RelL S' (shiftL d a) x
  | [], _, _, r => r
  | _ :: _, _, hw, ⟨x, l', e, r, q⟩ => by
    simp only [withinL, Bool.and_eq_true] at hw
    exact ⟨x, l', e, Rel.shift h hw.1 r, RelL.shift h hw.2 q⟩
end
theorem scalar_shift {d : Nat} {a : AV} (h : a.scalar = true) : (shift d a).scalar = true := by
  cases a <;> first | rfl | cases h

def shiftC (d : Nat) : List (Nat × AV × Nat) → List (Nat × AV × Nat)
  | [] => []
  | (i, a, k) :: r => (i, shift d a, k) :: shiftC d r
def shiftM (d : Nat) : List (AV × AV × Nat) → List (AV × AV × Nat)
  | [] => []
  | (a, b, k) :: r => (shift d a, shift d b, k) :: shiftM d r
def shiftB (d : Nat) : LBlk → LBlk
  | .cells e n c s l => .cells e n c s (shiftC d l)
  | .map es c => .map (shiftM d es) c
def withinC (p : Nat → Bool) : List (Nat × AV × Nat) → Bool
  | [] => true
  | (_, a, _) :: r => within p a && withinC p r
def withinM (p : Nat → Bool) : List (AV × AV × Nat) → Bool
  | [] => true
  | (a, b, _) :: r => within p a && within p b && withinM p r
def withinB (p : Nat → Bool) : LBlk → Bool
  | .cells _ _ _ _ l => withinC p l
  | .map es _ => withinM p es
theorem mem_withinC {p : Nat → Bool} : ∀ {l : List (Nat × AV × Nat)} {i k : Nat} {a : AV}, withinC p l = true → (i, a, k) ∈ l → within p a = true
  | [], _, _, _, _, h => by cases h
  | (j, b, m) :: l, i, k, a, hw, h => by
    simp only [withinC, Bool.and_eq_true] at hw
    rcases List.mem_cons.1 h with e | h
    · simp only [Prod.mk.injEq] at e
      obtain ⟨rfl, rfl, rfl⟩ := e
      exact hw.1
    · exact mem_withinC hw.2 h
theorem get_shiftC {d : Nat} : ∀ {l : List (Nat × AV × Nat)} {i k : Nat} {a : AV}, (mkT (shiftC d l)).get i = some (a, k) → ∃ a', a = shift d a' ∧ (mkT l).get i = some (a', k)
  | [], i, k, a, h => by
    rw [show mkT (shiftC d []) = (.nil : T (AV × Nat)) from rfl, T.get_nil] at h; cases h
  | (j, b, m) :: l, i, k, a, h => by
    have h0 := h
    rcases T.get_set fuel _ _ _ _ _ (show ((mkT (shiftC d l)).set fuel j (shift d b, m)).get i = some (a, k) from h) with ⟨rfl, e⟩ | ⟨hne, h⟩
    · simp only [Prod.mk.injEq] at e
      obtain ⟨rfl, rfl⟩ := e
      exact ⟨b, rfl, T.get_set_self (f := fuel) (t := mkT l) h0⟩
    · obtain ⟨a', h1, h2⟩ := get_shiftC h
      exact ⟨a', h1, T.get_set_ne (f := fuel) h2 hne⟩
theorem RelE.shift {S S' : Map} {d : Nat} {p : Nat → Bool} (h : ∀ b v x, p b = true → S b v = some x → S' (d + b) v = some x) : ∀ {a : List (AV × AV × Nat)} {x : List MapEntry}, withinM p a = true → RelE S a x → RelE S' (shiftM d a) x
  | [], _, _, r => r
  | (_, _, _) :: _, _, hw, ⟨x, l', e, r, q, s, t⟩ => by
    simp only [withinM, Bool.and_eq_true] at hw
    exact ⟨x, l', e, Rel.shift h hw.1.1 r, Rel.shift h hw.1.2 q, s, RelE.shift h hw.2 t⟩

theorem BlkRel.shift {S S' : Map} {d : Nat} {p : Nat → Bool} (h : ∀ b v x, p b = true → S b v = some x → S' (d + b) v = some x) {v R C : Nat} {w : World} {y : LBlk} (hw : withinB p y = true) (hr : BlkRel G S v R C w y.blk) : BlkRel G S' v R C w (shiftB d y).blk := by
  cases y with
  | cells e n c s l =>
    obtain ⟨hv, cc, fr, q1, q2, q3, q4, q5⟩ := hr
    refine ⟨hv, cc, fr, q1, fun i a k ht hk => ?_, q3, q4, fun i a k ht => ?_⟩
    · obtain ⟨a', rfl, h2⟩ := get_shiftC ht
      obtain ⟨g1, x, g2, g3⟩ := q2 i a' k h2 hk
      exact ⟨scalar_shift g1, x, g2, g3.shift h (mem_withinC hw (mkT_get h2))⟩
    · obtain ⟨a', rfl, h2⟩ := get_shiftC ht
      exact q5 i a' k h2
  | map es c =>
    obtain ⟨hv, es', q1, q2⟩ := hr
    exact ⟨hv, es', q1, q2.shift h hw⟩

def putAll (d : Nat) (t : T Blk) (l : List (Nat × LBlk)) : T Blk := List.rec t (fun q _ ih => ih.set fuel (Nat.add d q.1) (shiftB d q.2).blk) l
theorem putAll_get {d : Nat} {t : T Blk} : ∀ {l : List (Nat × LBlk)} {c : Nat} {x : Blk}, (∀ q ∈ l, (toP 64 q.1).ok = true) → (putAll d t l).get c = some x →
    (∃ b y, (b, y) ∈ l ∧ (mkT (l.map fun p => (p.1, p.2.blk))).get b = some y.blk ∧ c = d + b ∧ x = (shiftB d y).blk) ∨ (t.get c = some x ∧ ∀ q ∈ l, c ≠ d + q.1)
  | [], c, x, _, h => .inr ⟨h, fun _ hq => by cases hq⟩
  | (b, y) :: l, c, x, hok, h => by
    rcases T.get_set fuel _ _ _ _ _ (show ((putAll d t l).set fuel (d + b) (shiftB d y).blk).get c = some x from h) with ⟨rfl, rfl⟩ | ⟨hne, h⟩
    · refine .inl ⟨b, y, List.mem_cons_self, ?_, rfl, rfl⟩
      exact getP_setP_self _ _ _ (hok _ List.mem_cons_self)
    · rcases putAll_get (fun q hq => hok q (List.mem_cons_of_mem _ hq)) h with ⟨b', y', h1, h2, rfl, rfl⟩ | ⟨h1, h2⟩
      · exact .inl ⟨b', y', List.mem_cons_of_mem _ h1, T.get_set_ne (f := fuel) h2 (show b' ≠ b by omega), rfl, rfl⟩
      · refine .inr ⟨h1, fun q hq => ?_⟩
        rcases List.mem_cons.1 hq with rfl | hq
        · exact hne
        · exact h2 q hq

def memo (top : Nat) (r : AV) (L : LHeap) (args : List AV) (H : Heap) : Option (AV × Heap) :=
  match args with
  | [] => if Nat.ble (Nat.add H.next top) H.top then some (shift H.next r, ⟨Nat.add H.next top, H.top, putAll H.next H.t L.l⟩) else none
  | _ => none
def among (L : LHeap) (b : Nat) : Bool := L.l.any fun q => Nat.beq q.1 b
def memoOk (top : Nat) (r : AV) (L : LHeap) : Bool :=
  within (among L) r && L.l.all fun q => Nat.blt q.1 top && withinB (among L) q.2 && (toP 64 q.1).ok

theorem CallR.mono {f : Nat} {vs : Array Value} {w : World} {R R' : Value → World → Prop} (h : CallR P f vs w R) (k : ∀ v w', R v w' → R' v w') : CallR P f vs w R' := by
  unfold CallR at h ⊢
  split
  · rename_i v w' hq
    rw [hq] at h
    exact k _ _ h
  · rename_i g args w' hq
    rw [hq] at h
    refine Calls.mono h ?_
    rintro e w'' ⟨v, rfl, hv⟩
    exact ⟨v, rfl, k _ _ hv⟩
  · rename_i hq1 hq2
    split at h
    · rename_i hq; exact (hq1 _ _ hq).elim
    · rename_i hq; exact (hq2 _ _ _ hq).elim
    · exact h.elim

/-- What a call without arguments was seen to do it does in every heap. -/
theorem memo_ok {f top : Nat} {r : AV} {L : LHeap} (hm : memoOk top r L = true) (hc : CallOwn G P f r L.heap) {args : List AV} {H H' : Heap} {r' : AV} {S : Map} {w : World} {vs : Array Value}
    (h : memo top r L args H = some (r', H')) (hI : Inv G S H w) (hr : RelL S args vs.toList) : CallR P f vs w fun v w' => ∃ S', Step G S H w S' H' w' ∧ Rel S' r' v := by
  unfold memo at h
  split at h
  · split at h
    · rename_i hle
      have hle : H.next + top ≤ H.top := Nat.le_of_ble_eq_true hle
      simp only [Option.some.injEq, Prod.mk.injEq] at h
      obtain ⟨rfl, rfl⟩ := h
      have hvs : vs = #[] := by simpa using hr.nil_inv
      subst hvs
      simp only [memoOk, Bool.and_eq_true, List.all_eq_true] at hm
      obtain ⟨hmr, hml⟩ := hm
      have hin : ∀ b, among L b = true → b < top := by
        intro b hb
        simp only [among, List.any_eq_true] at hb
        obtain ⟨q, hq, e⟩ := hb
        have := (hml q hq).1.1
        rw [Nat.eq_of_beq_eq_true e] at this
        simpa using this
      have hok : ∀ q ∈ L.l, (toP 64 q.1).ok = true := fun q hq => (hml q hq).2
      refine (hc w ⟨fun _ _ _ _ e => (by cases e), hI.fix.size, hI.fix.get⟩).mono fun v w' hv => ?_
      obtain ⟨S1, hO, hv⟩ := hv
      let S2 : Map := fun c u => if H.next ≤ c ∧ c < H.next + top ∧ among L (c - H.next) = true then S1 (c - H.next) u else S c u
      have hnew : ∀ b u x, among L b = true → S1 b u = some x → S2 (H.next + b) u = some x := by
        intro b u x hb e
        have := hin b hb
        show (if _ then _ else _) = _
        rw [if_pos ⟨by omega, by omega, by rw [Nat.add_sub_cancel_left]; exact hb⟩, Nat.add_sub_cancel_left]
        exact e
      have hle' : S.le S2 := by
        intro c u x e
        have := hI.dom c u x e
        show (if _ then _ else _) = _
        rw [if_neg (by omega)]
        exact e
      have hcase : ∀ c u x, S2 c u = some x → (∃ b, c = H.next + b ∧ among L b = true ∧ S1 b u = some x) ∨ S c u = some x := by
        intro c u x e
        have e : (if H.next ≤ c ∧ c < H.next + top ∧ among L (c - H.next) = true then S1 (c - H.next) u else S c u) = some x := e
        split at e
        · rename_i hq; exact .inl ⟨c - H.next, by omega, hq.2.2, e⟩
        · exact .inr e
      have hfix : Fixed G S2 w' := by
        refine hI.fix.of (fun c u R C e => ?_) hO.size (fun R hR => hO.old R (Nat.lt_of_lt_of_le hR hI.fix.size))
        rcases hcase c u _ e with ⟨b, rfl, hb, e1⟩ | e1
        · exact .inr (hO.own _ _ _ _ e1)
        · exact .inl ⟨_, _, _, e1⟩
      refine ⟨S2, ⟨hI.dom, hle', ⟨?_, ?_, hfix⟩, hO.os, hO.tape, hO.output, hO.size, fun R hR _ => hO.old R hR, ?_, Nat.le_add_right _ _, Nat.le_refl _, ?_, ?_⟩, hv.shift hnew hmr⟩
      · intro c u R C e
        rcases hcase c u _ e with ⟨b, rfl, hb, e1⟩ | e1
        · obtain ⟨g1, g2, g3⟩ := hO.inv.blk _ _ _ _ e1
          have := hin b hb
          refine ⟨g1, .inl (show H.next + b < H.next + top by omega), fun x hx => ?_⟩
          rcases putAll_get hok hx with ⟨b', y, h1, h2, h3, rfl⟩ | ⟨h1, h2⟩
          · obtain rfl : b = b' := by omega
            exact (g3 _ h2).shift hnew (hml _ h1).1.2
          · simp only [among, List.any_eq_true] at hb
            obtain ⟨q, hq, e⟩ := hb
            exact (h2 q hq (by rw [Nat.eq_of_beq_eq_true e])).elim
        · obtain ⟨g1, g2, g3⟩ := hI.blk _ _ _ _ e1
          refine ⟨Nat.lt_of_lt_of_le g1 hO.size, ?_, fun x hx => ?_⟩
          · show c < H.next + top ∨ H.top ≤ c
            omega
          · rcases putAll_get hok hx with ⟨b', y, h1, h2, h3, rfl⟩ | ⟨h1, h2⟩
            · have := hin b' (by simp only [among, List.any_eq_true]; exact ⟨_, h1, Nat.beq_refl _⟩)
              omega
            · exact (g3 _ h1).mono hle' (hO.old R g1)
      · intro c u R C c' u' C' e e'
        rcases hcase c u _ e with ⟨b, rfl, hb, e1⟩ | e1 <;> rcases hcase c' u' _ e' with ⟨b', rfl, hb', e1'⟩ | e1'
        · rw [hO.inv.inj _ _ _ _ _ _ _ e1 e1']
        · have := hO.own _ _ _ _ e1; have := (hI.blk _ _ _ _ e1').1; omega
        · have := hO.own _ _ _ _ e1'; have := (hI.blk _ _ _ _ e1).1; omega
        · exact hI.inj _ _ _ _ _ _ _ e1 e1'
      · intro c x hx
        rcases putAll_get hok hx with ⟨b', y, h1, h2, rfl, rfl⟩ | ⟨h1, h2⟩
        · have := hin b' (by simp only [among, List.any_eq_true]; exact ⟨_, h1, Nat.beq_refl _⟩)
          exact .inr (.inr ⟨by omega, by omega⟩)
        · exact .inl h1
      · intro c u R C e
        rcases hcase c u _ e with ⟨b, rfl, hb, e1⟩ | e1
        · exact .inr (.inl (hO.own _ _ _ _ e1))
        · exact .inl e1
      · intro c u x e
        rcases hcase c u _ e with ⟨b, rfl, hb, e1⟩ | e1
        · have := hin b hb
          exact .inr (.inr ⟨by omega, by omega⟩)
        · exact .inl e1
    · cases h
  · cases h
end
end
end Go.Abs
