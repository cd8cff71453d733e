/- Regions that draw their order are sound. -/
import Derived.Test.YtldclhmpgjcimaaGreatDoorTapU
namespace Go.Abs
open Go
section
variable {G : Glob} {P : Program}
variable {call : Nat → List AV → Heap → Option (AV × Heap)} {ops : Array Oper} {E E' : Env} {H H1 H' : Heap} {l : List Entry} {S0 S : Map} {w0 w : World} {T n p : Nat} {done : Nat → Prop} {a : Go.Act}

theorem Mid.run (hG : GlobOk G P) (hc : CallSound G P call) (hl : LogOk G call ops T ops.toList E H1 l E' H') (hp : Pairs ops (befA [] ops.toList) l) (hr : readsA G (befA [] ops.toList) (actsOf 0 l) l H' 0 l = true) (hn : n = E.n) (hT : H.next ≤ T) (hT' : T + l.length ≤ H.top)
    (hm : Mid G ops l E' H' S0 H w0 T n done p a w S) (hq : ∀ e, l[p]? = some e → e.k = 3) {i : Nat} {e : Entry} (he : l[i]? = some e) (hi : Ready ops l done i) {Q : Exit → Go.Act → World → Prop} {K : Go.Act → World → Prop}
    (hK : ∀ a' w' S' p', Mid G ops l E' H' S0 H w0 T n (fun k => k = i ∨ done k) p' a' w' S' → (∀ e, l[p']? = some e → e.k = 3) → a'.defers = a.defers → K a' w') : wpOp P ops Q i K a w := by
  have hlt : i < l.length := (List.getElem?_eq_some_iff.1 he).1
  obtain ⟨ho, hput, hcase⟩ := hl.entry i e he
  have hE := hm.reads hl hp hn he hi
  have hops : ops[i]? = some e.o := by simpa using ho
  have hdf : ∀ v, (a.put e.o.dst v).defers = a.defers := fun v => by cases e.o.dst <;> rfl
  unfold wpOp
  rw [hops]
  simp only
  rcases hcase with ⟨h4, hw, h5, _⟩ | ⟨hw, hop⟩
  · rw [wantedA_ok hE hw, if_neg (by decide)]
    refine hK _ _ _ _ (hm.quiet hl hp hn he hi ⟨by omega, by omega⟩ (v := undef) ?_) hq (hdf _)
    rw [h5]; exact undef_rel S
  · rw [wantedA_ok hE hw, if_pos rfl]
    refine .inl ?_
    unfold opD at hop
    split at hop
    · rename_i x hx
      simp only [Option.some.injEq, Prod.mk.injEq] at hop
      obtain ⟨h1, rfl, h3⟩ := hop
      obtain ⟨v, g1, g2⟩ := pureOp_ok hG hE hx
      unfold Oper.wp; rw [g2]
      exact hK _ _ _ _ (hm.quiet hl hp hn he hi ⟨by omega, by omega⟩ g1) hq (hdf _)
    · split at hop
      · rename_i x hx
        simp only [Option.some.injEq, Prod.mk.injEq] at hop
        obtain ⟨h1, rfl, h3⟩ := hop
        have hread := readsA_inv (ops := ops) hr (p := p) he h1.symm hm.pn (fun y hy => ⟨hq y hy, ?_⟩) (fun s y hs hy h3 => ?_)
        · obtain ⟨v, g1, g2⟩ := readOp_ok hG hm.step.inv hE hread
          unfold Oper.wp; rw [g2]
          exact hK _ _ _ _ (hm.quiet hl hp hn he hi ⟨by omega, by omega⟩ g1) hq (hdf _)
        · cases hb : ahead (befA [] ops.toList) p i with
          | false => rfl
          | true =>
            have := (hm.act p y hy (hq y hy)).2 (hi.before p hb)
            omega
        · cases hb : ahead (befA [] ops.toList) i s with
          | false => rfl
          | true => exact (hi.not (hi.closed i s ((hm.act s y hy h3).1 hs) hb)).elim
      · split at hop
        · rename_i blk mk hx
          simp only [Option.some.injEq, Prod.mk.injEq] at hop
          obtain ⟨h1, h2, h3⟩ := hop
          obtain ⟨obj, C, d, v, g1, g2, g3⟩ := newOp_ok (P := P) (S := S) hG hE hx w
          unfold Oper.wp; rw [g1]
          have hS := fun v => hm.undone i v hlt hi.not
          refine hK _ _ _ _ (hm.made hl hp hn hT hT' he hi h1.symm hx (C := C) ?_ g3) hq (hdf _)
          rw [← h2]
          exact g2 _ _ (Map.add_le (hS 0)) (Map.add_self _ _ _ _)
        · have hact : e.k = 3 → p = i := by
            intro h3
            have h4 := hm.act i e he h3
            have : p ≤ i := by
              rcases Nat.lt_or_ge i p with h | h
              · exact (hi.not (h4.1 h)).elim
              · exact h
            rcases Nat.lt_or_ge p i with h | h
            · obtain ⟨y, hy⟩ : ∃ y, l[p]? = some y := ⟨l[p]'(by omega), List.getElem?_eq_getElem (by omega)⟩
              have := (hm.act p y hy (hq y hy)).2 (hi.before p (pairsA_inv hp h hy he (.inr ⟨hq y hy, h3⟩)))
              omega
            · omega
          have fin : ∀ v w' S', e.k = 3 → Step G S e.H w S' (heapAt l H' (i + 1)) w' → Rel S' e.r v → K (a.put e.o.dst v) w' := by
            intro v w' S' h3 hs hv
            have := hact h3
            subst this
            have hm' := hm.acted hl hp hn hT hT' he hi h3 (by rw [heapAt_some he]; exact hs) hv
            obtain ⟨q, hm2, hq2⟩ := Mid.advances hl hT hT' _ _ rfl hm'
            exact hK _ _ _ _ hm2 hq2 (hdf _)
          have hinv : e.k = 3 → Inv G S e.H w := by
            intro h3
            have := hm.step.inv
            rw [hact h3, heapAt_some he] at this
            exact this
          split at hop
          · rename_i x h hx
            simp only [Option.some.injEq, Prod.mk.injEq] at hop
            obtain ⟨h1, rfl, rfl⟩ := hop
            obtain ⟨nx, v, w', S', g1, g2, g3, g4⟩ := actOp_ok hG (hinv h1.symm) hE hx
            unfold Oper.wp; rw [g1]
            rcases g2 with rfl | ⟨rfl, rfl⟩
            · exact fin _ _ _ h1.symm g3 g4
            · exact fin _ _ _ h1.symm g3 g4
          · rename_i f args hx
            split at hop
            · rename_i x h hcall
              simp only [Option.some.injEq, Prod.mk.injEq] at hop
              obtain ⟨h1, rfl, rfl⟩ := hop
              obtain ⟨vs, g1, g2⟩ := actOp_enter hG hE hx
              exact wp_call (g2 w) (hc _ _ _ _ _ _ _ _ hcall (hinv h1.symm) g1) fun v w' ⟨S', g3, g4⟩ => fin v w' S' h1.symm g3 g4
            · cases hop
          · cases hop

theorem count_set : ∀ (l : List Bool) (i : Nat), l[i]? = some false → (l.set i true).count false + 1 = l.count false
  | [], i, h => by simp at h
  | b :: l, 0, h => by simp at h; subst h; simp
  | b :: l, i + 1, h => by
    have := count_set l i (by simpa using h)
    cases b <;> simp [List.count_cons] <;> omega

theorem mem_ready {listed : Array Bool} (hs : listed.size = ops.size) {i : Nat} : i ∈ Region.ready .any ops listed ↔ ∃ o, ops[i]? = some o ∧ listed[i]? = some false ∧ ∀ e ∈ o.after.toList, Region.binds .any e = true → listed[e.on]? = some true := by
  unfold Region.ready
  rw [List.mem_filter, List.mem_range]
  constructor
  · rintro ⟨h1, h2⟩
    have ho : ops[i]? = some ops[i] := Array.getElem?_eq_getElem h1
    have hl : listed[i]? = some listed[i] := Array.getElem?_eq_getElem (by omega)
    rw [ho] at h2
    simp only [Array.getD_eq_getD_getElem?, hl, Option.getD_some, Option.map_some, Bool.and_eq_true, Bool.not_eq_true'] at h2
    refine ⟨_, ho, by rw [hl, h2.1], fun e he hb => ?_⟩
    have := (Array.all_eq_true'.1 h2.2) e (by simpa using he)
    rw [hb] at this
    simp only [Bool.not_true, Bool.false_or] at this
    cases hq : listed[e.on]? with
    | none => rw [hq] at this; simp at this
    | some b => rw [hq] at this; simp only [Option.getD_some] at this; rw [this]
  · rintro ⟨o, h1, h2, h3⟩
    refine ⟨(Array.getElem?_eq_some_iff.1 h1).1, ?_⟩
    rw [h1]
    simp only [Array.getD_eq_getD_getElem?, h2, Option.getD_some, Option.map_some, Bool.not_false, Bool.true_and]
    rw [Array.all_eq_true']
    intro e he
    cases hb : Region.binds .any e with
    | false => rfl
    | true => rw [h3 e (by simpa using he) hb]; rfl

theorem Mid.all (hG : GlobOk G P) (hc : CallSound G P call) (hl : LogOk G call ops T ops.toList E H1 l E' H') (hp : Pairs ops (befA [] ops.toList) l) (hr : readsA G (befA [] ops.toList) (actsOf 0 l) l H' 0 l = true) (hback : backA 0 ops.toList = true) (hn : n = E.n) (hT : H.next ≤ T) (hT' : T + l.length ≤ H.top)
    {Q : Exit → Go.Act → World → Prop} (d0 : List Deferred) (hQ : ∀ a' w' S', Step G S0 H w0 S' H' w' → EnvRel S' E' a' → a'.defers = d0 → Q .normal a' w') :
    ∀ (f : Nat) (listed : Array Bool) (p : Nat) (a : Go.Act) (w : World) (S : Map), listed.size = ops.size → listed.toList.count false = f → (∀ (i : Nat) (o : Oper) (e : Edge), listed[i]? = some true → ops[i]? = some o → e ∈ o.after.toList → Region.binds .any e = true → listed[e.on]? = some true) →
      Mid G ops l E' H' S0 H w0 T n (fun k => listed[k]? = some true) p a w S → (∀ e, l[p]? = some e → e.k = 3) → a.defers = d0 → wpAny P .any ops Q f listed a w := by
  have hlen : l.length = ops.size := by rw [hl.length]; simp
  have fin : ∀ (listed : Array Bool) (p : Nat) (a : Go.Act) (w : World) (S : Map), listed.size = ops.size → (∀ i, i < ops.size → listed[i]? = some true) →
      Mid G ops l E' H' S0 H w0 T n (fun k => listed[k]? = some true) p a w S → (∀ e, l[p]? = some e → e.k = 3) → a.defers = d0 → Q .normal a w := by
    intro listed p a w S hs hall hm hq hd
    have hpl : p = l.length := by
      rcases Nat.lt_or_ge p l.length with h | h
      · obtain ⟨y, hy⟩ : ∃ y, l[p]? = some y := ⟨l[p]'h, List.getElem?_eq_getElem h⟩
        have := (hm.act p y hy (hq y hy)).2 (hall p (by omega))
        omega
      · have := hm.pn; omega
    have hst := hm.step
    have hnone : l[l.length]? = none := List.getElem?_eq_none (Nat.le_refl _)
    rw [hpl, heapAt, hnone] at hst
    refine hQ a w S hst ⟨?_, fun t x hx => ?_⟩ hd
    · have := hl.n_eq l.length (Nat.le_refl _)
      rw [envAt, hnone] at this
      rw [this, hm.size, hn]
    · refine hm.env l.length t x (Nat.le_refl _) (fun e he => by rw [hnone] at he; cases he) (fun k e hk hnd hk' => ?_) (by rw [envAt, hnone]; exact hx)
      exact (hnd (hall k (by omega))).elim
  have hready : ∀ (listed : Array Bool), listed.size = ops.size → Region.ready .any ops listed = [] → ∀ i, i < ops.size → listed[i]? = some true := by
    intro listed hs hr i
    induction i using Nat.strongRecOn with
    | _ i ih =>
      intro hi
      have hli : listed[i]? = some (listed[i]'(by omega)) := Array.getElem?_eq_getElem (by omega)
      cases hb : listed[i]'(by omega) with
      | true => rw [hli, hb]
      | false =>
        exfalso
        have ho : ops[i]? = some ops[i] := Array.getElem?_eq_getElem hi
        have : i ∈ Region.ready .any ops listed := by
          rw [mem_ready hs]
          refine ⟨_, ho, by rw [hli, hb], fun e he hbd => ?_⟩
          have := backA_inv hback i ops[i] e (by simp) he hbd
          exact ih e.on (by omega) (by omega)
        rw [hr] at this
        simp at this
  intro f
  induction f with
  | zero =>
    intro listed p a w S hs hcount hcl hm hq hd
    have hall : ∀ i, i < ops.size → listed[i]? = some true := by
      intro i hi
      have hli : listed[i]? = some (listed[i]'(by omega)) := Array.getElem?_eq_getElem (by omega)
      cases hb : listed[i]'(by omega) with
      | true => rw [hli, hb]
      | false =>
        exfalso
        have := List.count_eq_zero.1 hcount
        apply this
        rw [hb] at hli
        have : listed.toList[i]? = some false := by rw [Array.getElem?_toList]; exact hli
        exact List.mem_of_getElem? this
    refine ⟨?_, fin listed p a w S hs hall hm hq hd⟩
    cases hrd : Region.ready .any ops listed with
    | nil => rfl
    | cons i r =>
      exfalso
      have : i ∈ Region.ready .any ops listed := by rw [hrd]; simp
      obtain ⟨o, h1, h2, _⟩ := (mem_ready hs).1 this
      rw [hall i (Array.getElem?_eq_some_iff.1 h1).1] at h2
      cases h2
  | succ f ih =>
    intro listed p a w S hs hcount hcl hm hq hd
    refine ⟨fun hrd => fin listed p a w S hs (hready listed hs hrd) hm hq hd, fun i hi => ?_⟩
    obtain ⟨o, h1, h2, h3⟩ := (mem_ready hs).1 hi
    have hi' : i < ops.size := (Array.getElem?_eq_some_iff.1 h1).1
    obtain ⟨e, he⟩ : ∃ e, l[i]? = some e := ⟨l[i]'(by omega), List.getElem?_eq_getElem (by omega)⟩
    have hcl' : ∀ (j : Nat) (o : Oper) (e : Edge), listed[j]? = some true → ops.toList[j]? = some o → e ∈ o.after.toList → Region.binds .any e = true → listed[e.on]? = some true :=
      fun j o e g1 g2 => hcl j o e g1 (by simpa using g2)
    have hrd : Ready ops l (fun k => listed[k]? = some true) i := by
      refine ⟨by rw [h2]; simp, fun k hk => ?_, fun k j hj hk => ahead_done (D := fun k => listed[k]? = some true) hcl' j hj hk⟩
      obtain ⟨o', e', g1, g2, g3, g4⟩ := ahead_inv hk
      have : o' = o := by
        have : ops[i]? = some o' := by simpa using g1
        rw [h1] at this; exact (Option.some.inj this).symm
      subst this
      have := h3 e' g2 g3
      rcases g4 with rfl | ⟨_, g4⟩
      · exact this
      · exact ahead_done (D := fun k => listed[k]? = some true) hcl' _ this g4
    refine hm.run hG hc hl hp hr hn hT hT' hq he hrd fun a' w' S' p' hm' hq' hd' => ?_
    have hset : ∀ k, (listed.setIfInBounds i true)[k]? = some true ↔ (k = i ∨ listed[k]? = some true) := by
      intro k
      rw [Array.getElem?_setIfInBounds]
      by_cases hki : i = k
      · subst hki
        simp; omega
      · rw [if_neg hki]
        constructor
        · exact .inr
        · rintro (h | h)
          · exact (hki h.symm).elim
          · exact h
    have hfun : (fun k => k = i ∨ listed[k]? = some true) = (fun k => (listed.setIfInBounds i true)[k]? = some true) := by
      funext k
      exact propext (hset k).symm
    rw [hfun] at hm'
    refine ih _ p' a' w' S' (by simpa using hs) ?_ ?_ hm' hq' (hd'.trans hd)
    · have := count_set listed.toList i (by simpa using h2)
      have h6 : (listed.setIfInBounds i true).toList = listed.toList.set i true := by simp
      rw [h6]
      omega
    · intro j o' e' g1 g2 g3 g4
      rw [hset] at g1 ⊢
      rcases g1 with rfl | g1
      · rw [h1] at g2; cases g2
        exact .inr (h3 e' g3 g4)
      · exact .inr (hcl j o' e' g1 g2 g3 g4)
end

theorem drawA_ok {G : Glob} {P : Program} (hG : GlobOk G P) {call : Nat → List AV → Heap → Option (AV × Heap)} (hc : CallSound G P call) : DrawSound G P call := by
  intro ops E H E' H' S a w Q t h hI hE hQ
  unfold drawA at h
  split at h
  case isFalse => cases h
  rename_i hcond
  simp only [Bool.and_eq_true] at hcond
  obtain ⟨⟨h1, h2⟩, h3⟩ := hcond
  have h1 : H.next + ops.size ≤ H.top := by simpa using h1
  split at h
  · cases h
  · rename_i l E1 H1 hlog
    split at h
    case isFalse => cases h
    rename_i hck
    simp only [Bool.and_eq_true] at hck
    simp only [Option.some.injEq, Prod.mk.injEq] at h
    obtain ⟨rfl, rfl⟩ := h
    have hl := logA_ok G call ops hlog
    have hlen : l.length = ops.size := by rw [hl.length]; simp
    simp only [Region.schedule, Bool.true_or, if_true]
    refine wpAny_sound ops.size t _ a w ?_
    have hm0 : Mid G ops l E1 H1 S H w (H.top - ops.size) E.n (fun k => (Array.replicate ops.size false)[k]? = some true) 0 a w S := by
      have hno : ∀ k : Nat, ¬ (Array.replicate ops.size false)[k]? = some true := by
        intro k hk
        rw [Array.getElem?_replicate] at hk
        split at hk <;> cases hk
      have hfree : ∀ k v, k < l.length → S (H.top - ops.size + k) v = none := by
        intro k v hk
        cases hq : S (H.top - ops.size + k) v with
        | none => rfl
        | some y =>
          have := hI.dom _ _ _ hq
          omega
      refine ⟨?_, ?_, by omega, fun k e _ _ => ?_, hE.size, ?_, ?_, fun k v hk _ => hfree k v hk, fun k e x mk _ _ _ hd => (hno k hd).elim⟩
      · rw [hl.heap]
        refine ⟨hI.dom, S.le_refl, ⟨fun b v R C e => ?_, hI.inj, hI.fix⟩, rfl, rfl, rfl, Nat.le_refl _, fun _ _ _ => rfl, fun _ _ e => .inl e, Nat.le_refl _, Nat.sub_le _ _, fun _ _ _ _ e => .inl e, fun _ _ _ e => .inl e⟩
        obtain ⟨g1, g2, g3⟩ := hI.blk b v R C e
        refine ⟨g1, ?_, g3⟩
        show b < H.next ∨ H.top - ops.size ≤ b
        omega
      · rw [hl.heap]; exact Nat.le_refl _
      · constructor
        · intro h; omega
        · intro h; exact (hno k h).elim
      · intro j t x hj _ hw hx
        have := hl.back (i := 0) j (Nat.zero_le _) hj (fun k e _ hk hk' => hw k e hk (hno k) hk') hx
        rw [hl.env] at this
        exact hE.get t x this
      · intro k x hk _ hx
        rw [hl.heap] at hx
        have := freeA_inv h3 (k := k) (by omega)
        have hx : H.t.get (H.top - ops.size + k) = some x := hx
        rw [this] at hx; cases hx
    obtain ⟨q, hm, hq⟩ := Mid.advances hl (by omega) (by omega) _ _ rfl hm0
    refine Mid.all hG hc hl (pairs_ok (fun k e hk => (hl.entry k e hk).1) h2 hck.1) hck.2 (by simp only [ordA, Bool.and_eq_true] at h2; exact h2.1) rfl (by omega) (by omega) a.defers hQ ops.size _ q a w S (by simp) ?_ ?_ hm hq rfl
    · simp
    · intro i o e hi
      rw [Array.getElem?_replicate] at hi
      split at hi <;> cases hi
end Go.Abs
