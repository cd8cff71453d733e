/- The abstract evaluator: one operation, a region in the order of the text. -/
import Derived.Test.YtldclhmpgjcimaaGreatDoorTapQ
namespace Go.Abs
open Go
section
variable {G : Glob} {P : Program} {S : Map} {E : Env} {a : Go.Act} {H : Heap} {w : World}

theorem actOp_enter (hG : GlobOk G P) (hE : EnvRel S E a) {o : Oper} {f : Nat} {args : List AV} (h : actOp G E H o = some (.enter f args)) :
    ∃ vs : Array Value, RelL S args vs.toList ∧ ∀ w, (execOp a.eval o).run P w = (callFunc f vs).run P w := by
  unfold actOp at h
  split at h
  case h_10 =>
    rename_i fo as ats ho
    split at h
    · rename_i g first cap l hf hl
      simp only [Option.some.injEq, Act.enter.injEq] at h
      obtain ⟨rfl, rfl⟩ := h
      have hr := opnd_rel hG hE hf
      rw [Rel] at hr
      obtain ⟨f', c', he, h1, h2⟩ := hr
      refine ⟨f' ++ as.map a.eval ++ c', ?_, fun w => by simp [execOp, ho, resolve, he, Deferred.ofValue, invoke]⟩
      have := opnds_rel hG hE hl
      simpa using (h1.append this).append h2
    · cases h
  all_goals (exfalso; revert h; repeat' split) <;> first | (intro h; cases h; done) | (intro h; exact rangeA_no h) | (intro h; exact nextA_no h) | (intro h; exact entryA_no h) | (intro h; simp at h; done)

/-- What a call of a function, by its number, is to end in. -/
def CallR (P : Program) (f : Nat) (vs : Array Value) (w : World) (R : Value → World → Prop) : Prop :=
  match (callFunc f vs).run P w with
  | .ok (.value v) w' => R v w'
  | .ok (.enter g args) w' => Calls P g args w' fun e w'' => ∃ v, e = .returned v ∧ R v w''
  | _ => False
def CallSound (G : Glob) (P : Program) (call : Nat → List AV → Heap → Option (AV × Heap)) : Prop :=
  ∀ f args H r H' S w (vs : Array Value), call f args H = some (r, H') → Inv G S H w → RelL S args vs.toList → CallR P f vs w fun v w' => ∃ S', Step G S H w S' H' w' ∧ Rel S' r v

theorem wp_call {o : Oper} {f : Nat} {vs : Array Value} {R : Value → World → Prop} {next : Go.Act → World → Prop} {Q : Exit → Go.Act → World → Prop} (hrun : (execOp a.eval o).run P w = (callFunc f vs).run P w) (h : CallR P f vs w R)
    (hn : ∀ v w', R v w' → next (a.put o.dst v) w') : o.wp P a w next Q := by
  unfold Oper.wp
  rw [hrun]
  unfold CallR at h
  split at h
  · rename_i hq; rw [hq]; exact hn _ _ h
  · rename_i hq; rw [hq]
    refine Calls.mono h ?_
    rintro e w'' ⟨v, rfl, hv⟩
    exact hn _ _ hv
  · exact h.elim

theorem opA_ok (hG : GlobOk G P) {call : Nat → List AV → Heap → Option (AV × Heap)} (hc : CallSound G P call) (hI : Inv G S H w) (hE : EnvRel S E a) {o : Oper} {r : AV} {H' : Heap} (h : opA G call o E H = some (r, H'))
    {next : Go.Act → World → Prop} {Q : Exit → Go.Act → World → Prop} (hn : ∀ v w' S', Step G S H w S' H' w' → Rel S' r v → next (a.put o.dst v) w') : o.wp P a w next Q := by
  unfold opA at h
  split at h
  · rename_i x hx
    simp only [Option.some.injEq, Prod.mk.injEq] at h
    obtain ⟨rfl, rfl⟩ := h
    obtain ⟨v, h1, h2⟩ := pureOp_ok hG hE hx
    unfold Oper.wp; rw [h2]
    exact hn _ _ _ (Step.refl hI) h1
  · split at h
    · rename_i x hx
      simp only [Option.some.injEq, Prod.mk.injEq] at h
      obtain ⟨rfl, rfl⟩ := h
      obtain ⟨v, h1, h2⟩ := readOp_ok hG hI hE hx
      unfold Oper.wp; rw [h2]
      exact hn _ _ _ (Step.refl hI) h1
    · split at h
      · rename_i blk mk hx
        split at h
        case isFalse => cases h
        rename_i hfree
        simp only [Option.some.injEq, Prod.mk.injEq] at h
        obtain ⟨rfl, rfl⟩ := h
        obtain ⟨obj, C, d, v, h1, h2, h3⟩ := newOp_ok (P := P) (S := S) hG hE hx w
        unfold Oper.wp; rw [h1]
        refine hn _ _ (S.add H.next 0 (w.heap.size, C)) (Step.push hI hfree d fun S' hle _ => ?_) ?_
        · exact h3 S' _ hle (by rw [pushW_heap, if_pos rfl])
        · exact h2 _ _ (Map.add_le (hI.fresh hfree 0)) (Map.add_self _ _ _ _)
      · split at h
        · rename_i x h' hx
          simp only [Option.some.injEq, Prod.mk.injEq] at h
          obtain ⟨rfl, rfl⟩ := h
          obtain ⟨nx, v, w', S', h1, h2, h3, h4⟩ := actOp_ok hG hI hE hx
          unfold Oper.wp; rw [h1]
          rcases h2 with rfl | ⟨rfl, rfl⟩
          · exact hn _ _ _ h3 h4
          · exact hn _ _ _ h3 h4
        · rename_i f args hx
          obtain ⟨vs, h1, h2⟩ := actOp_enter hG hE hx
          exact wp_call (h2 w) (hc _ _ _ _ _ _ _ _ h hI h1) fun v w' ⟨S', h3, h4⟩ => hn v w' S' h3 h4
        · cases h

theorem wantedA_ok (hE : EnvRel S E a) {ops : Array Oper} {o : Oper} {b : Bool} (h : wantedA ops E o = some b) : Region.wanted o (yielded ops a.tmps) = b := by
  unfold wantedA at h
  unfold Region.wanted
  split at h
  · rename_i hg
    rw [hg]
    exact Option.some.inj h
  · rename_i j want hg
    rw [hg]
    simp only
    split at h
    · cases h
    · rename_i d hd
      split at h
      · rename_i q hq
        obtain rfl := Option.some.inj h
        obtain ⟨v, h1, h2⟩ := hE.get d _ hq
        rw [Rel] at h2; subst h2
        have : yielded ops a.tmps j = some q := by simp [yielded, hd, h1]
        rw [this]
        simp
      · rename_i hq
        obtain rfl := Option.some.inj h
        obtain ⟨v, h1, h2⟩ := hE.get d _ hq
        rw [Rel] at h2
        obtain ⟨l, rfl, _⟩ := h2
        have : yielded ops a.tmps j = none := by simp [yielded, hd, h1]
        rw [this]
        rfl
      · cases h

theorem undef_rel (S : Map) : Rel S (.tuple []) undef := by rw [Rel]; exact ⟨#[], rfl, RelL.nil⟩

theorem opsA_ok (hG : GlobOk G P) {call : Nat → List AV → Heap → Option (AV × Heap)} (hc : CallSound G P call) (ops : Array Oper) {Q : Exit → Go.Act → World → Prop} :
    ∀ (l : List Oper) (k : Nat) (S : Map) (E : Env) (a : Go.Act) (H : Heap) (w : World) (E' : Env) (H' : Heap), ops.toList.drop k = l → opsA G call ops l E H = some (E', H') → Inv G S H w → EnvRel S E a →
      (∀ a' w' S', Step G S H w S' H' w' → EnvRel S' E' a' → a'.defers = a.defers → Q .normal a' w') → wpOps P ops Q (List.range' k l.length) a w
  | [], k, S, E, a, H, w, E', H', hd, h, hI, hE, hQ => by
    simp only [opsA, Option.some.injEq, Prod.mk.injEq] at h
    obtain ⟨rfl, rfl⟩ := h
    exact hQ a w S (Step.refl hI) hE rfl
  | o :: l, k, S, E, a, H, w, E', H', hd, h, hI, hE, hQ => by
    have hk : ops[k]? = some o := by
      have : ops.toList[k]? = some o := by
        have := List.getElem?_drop (xs := ops.toList) (i := k) (j := 0)
        rw [hd] at this
        simpa using this.symm
      simpa using this
    have hd' : ops.toList.drop (k + 1) = l := by
      rw [← List.drop_drop, hd]; rfl
    simp only [List.length_cons, List.range'_succ, wpOps, hk]
    simp only [opsA] at h
    split at h
    · cases h
    · rename_i hw
      rw [wantedA_ok hE hw, if_pos rfl]
      split at h
      · cases h
      · rename_i x H1 hop
        split at h
        · cases h
        · rename_i E1 hput
          refine .inl (opA_ok hG hc hI hE hop fun v w' S' hs hr => ?_)
          refine opsA_ok hG hc ops l (k + 1) S' E1 _ H1 w' E' H' hd' h hs.inv ((hE.mono hs.le).put hput hr) ?_
          intro a' w'' S'' hs' hE' hdf
          refine hQ a' w'' S'' (hs.trans hs') hE' (hdf.trans ?_)
          cases o.dst <;> rfl
    · rename_i hw
      rw [wantedA_ok hE hw, if_neg (by decide)]
      split at h
      · cases h
      · rename_i E1 hput
        refine opsA_ok hG hc ops l (k + 1) S E1 _ H w E' H' hd' h hI (hE.put hput (undef_rel S)) ?_
        intro a' w'' S'' hs' hE' hdf
        refine hQ a' w'' S'' hs' hE' (hdf.trans ?_)
        cases o.dst <;> rfl
end
end Go.Abs
