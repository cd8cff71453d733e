/- The abstract evaluator: code and calls. -/
import Derived.Test.YtldclhmpgjcimaaGreatDoorTapR
namespace Go.Abs
open Go

/-- The exit of the model that an exit of the evaluator stands for. -/
def Ex.to : Ex → Exit
  | .normal => .normal
  | .exit i => .exit i
  | .ret => .ret

def DrawSound (G : Glob) (P : Program) (call : Nat → List AV → Heap → Option (AV × Heap)) : Prop :=
  ∀ (ops : Array Oper) (E : Env) (H : Heap) (E' : Env) (H' : Heap) (S : Map) (a : Go.Act) (w : World) (Q : Exit → Go.Act → World → Prop) (t : Nat), drawA G call ops E H = some (E', H') → Inv G S H w → EnvRel S E a →
    (∀ a' w' S', Step G S H w S' H' w' → EnvRel S' E' a' → a'.defers = a.defers → Q .normal a' w') → wpOps P ops Q (Region.schedule true ops t) a w

section
variable {G : Glob} {P : Program}

theorem execA_ok (hG : GlobOk G P) {call : Nat → List AV → Heap → Option (AV × Heap)} (hc : CallSound G P call) (hd : DrawSound G P call) (n : Nat) :
    ∀ (c : Code) (E : Env) (H : Heap) (x : Ex) (E' : Env) (H' : Heap) (S : Map) (a : Go.Act) (w : World) (Q : Exit → Go.Act → World → Prop),
      execA G call n c E H = some (x, E', H') → Inv G S H w → EnvRel S E a →
      (∀ a' w' S', Step G S H w S' H' w' → EnvRel S' E' a' → a'.defers = a.defers → Q x.to a' w') → c.wp P Q a w
  | .skip, E, H, x, E', H', S, a, w, Q, h, hI, hE, hQ => by
    simp only [execA, Option.some.injEq, Prod.mk.injEq] at h
    obtain ⟨rfl, rfl, rfl⟩ := h
    exact wp_skip (hQ _ _ _ (Step.refl hI) hE rfl)
  | .label _, E, H, x, E', H', S, a, w, Q, h, hI, hE, hQ => by
    simp only [execA, Option.some.injEq, Prod.mk.injEq] at h
    obtain ⟨rfl, rfl, rfl⟩ := h
    exact wp_label (hQ _ _ _ (Step.refl hI) hE rfl)
  | .ret, E, H, x, E', H', S, a, w, Q, h, hI, hE, hQ => by
    simp only [execA, Option.some.injEq, Prod.mk.injEq] at h
    obtain ⟨rfl, rfl, rfl⟩ := h
    exact wp_ret (hQ _ _ _ (Step.refl hI) hE rfl)
  | .exit i, E, H, x, E', H', S, a, w, Q, h, hI, hE, hQ => by
    simp only [execA, Option.some.injEq, Prod.mk.injEq] at h
    obtain ⟨rfl, rfl, rfl⟩ := h
    exact wp_exit (hQ _ _ _ (Step.refl hI) hE rfl)
  | .region _ ops false, E, H, x, E', H', S, a, w, Q, h, hI, hE, hQ => by
    simp only [execA] at h
    split at h
    · rename_i E1 H1 hr
      simp only [Option.some.injEq, Prod.mk.injEq] at h
      obtain ⟨rfl, rfl, rfl⟩ := h
      have := opsA_ok hG hc ops (Q := Q) ops.toList 0 S E a H w _ _ rfl hr hI hE hQ
      refine wp_region ?_
      rw [List.range_eq_range']
      simpa using this
    · cases h
  | .region _ ops true, E, H, x, E', H', S, a, w, Q, h, hI, hE, hQ => by
    simp only [execA] at h
    split at h
    · rename_i E1 H1 hr
      simp only [Option.some.injEq, Prod.mk.injEq] at h
      obtain ⟨rfl, rfl, rfl⟩ := h
      refine wp_region_draw fun t => ?_
      rw [hG.mixed]
      have hs := Step.drew hI (w.drawn + 1)
      exact hd ops E H _ _ S a _ Q t hr hs.inv hE fun a' w' S' hs' hE' hf => hQ a' w' S' (hs.trans hs') hE' hf
    · cases h
  | .seq c d, E, H, x, E', H', S, a, w, Q, h, hI, hE, hQ => by
    simp only [execA] at h
    refine wp_seq ?_
    split at h
    · rename_i E1 H1 hr
      refine execA_ok hG hc hd n c E H _ _ _ S a w _ hr hI hE fun a1 w1 S1 hs1 hE1 hf1 => ?_
      exact execA_ok hG hc hd n d _ _ _ _ _ S1 a1 w1 _ h hs1.inv hE1 fun a2 w2 S2 hs2 hE2 hf2 => hQ a2 w2 S2 (hs1.trans hs2) hE2 (hf2.trans hf1)
    · rename_i hr
      refine execA_ok hG hc hd n c E H _ _ _ S a w _ h hI hE fun a1 w1 S1 hs1 hE1 hf1 => ?_
      have := hQ a1 w1 S1 hs1 hE1 hf1
      cases x with
      | normal => exact (hr _ _ h).elim
      | exit i => exact this
      | ret => exact this
  | .cond o c d, E, H, x, E', H', S, a, w, Q, h, hI, hE, hQ => by
    simp only [execA] at h
    split at h
    · rename_i hr
      have := opnd_rel hG hE hr
      rw [Rel] at this
      exact wp_cond_true this (execA_ok hG hc hd n c _ _ _ _ _ S a w _ h hI hE hQ)
    · rename_i hr
      have := opnd_rel hG hE hr
      rw [Rel] at this
      exact wp_cond_false this (execA_ok hG hc hd n d _ _ _ _ _ S a w _ h hI hE hQ)
    · cases h
  | .block i b, E, H, x, E', H', S, a, w, Q, h, hI, hE, hQ => by
    simp only [execA] at h
    refine wp_block ?_
    split at h
    · rename_i j E1 H1 hr
      refine execA_ok hG hc hd n b E H _ _ _ S a w _ hr hI hE fun a1 w1 S1 hs1 hE1 hf1 => ?_
      split at h
      · rename_i hj
        simp only [Option.some.injEq, Prod.mk.injEq] at h
        obtain ⟨rfl, rfl, rfl⟩ := h
        obtain rfl := Nat.eq_of_beq_eq_true hj
        have := hQ a1 w1 S1 hs1 hE1 hf1
        simpa [Ex.to, Exit.inBlock] using this
      · rename_i hj
        simp only [Option.some.injEq, Prod.mk.injEq] at h
        obtain ⟨rfl, rfl, rfl⟩ := h
        have hj : j ≠ i := by intro e; subst e; simp at hj
        have := hQ a1 w1 S1 hs1 hE1 hf1
        simpa [Ex.to, Exit.inBlock, hj] using this
    · rename_i hr
      refine execA_ok hG hc hd n b E H _ _ _ S a w _ h hI hE fun a1 w1 S1 hs1 hE1 hf1 => ?_
      have := hQ a1 w1 S1 hs1 hE1 hf1
      cases x with
      | normal => exact this
      | exit i => exact (hr _ _ _ h).elim
      | ret => exact this
  | .loop b, E, H, x, E', H', S, a, w, Q, h, hI, hE, hQ => by
    simp only [execA] at h
    refine wp_loop_rounds n ?_
    suffices key : ∀ (m : Nat) (E : Env) (H : Heap) (S : Map) (a : Go.Act) (w : World), loopA (execA G call n b) m E H = some (x, E', H') → Inv G S H w → EnvRel S E a →
        (∀ a' w' S', Step G S H w S' H' w' → EnvRel S' E' a' → a'.defers = a.defers → Q x.to a' w') → Code.rounds P b Q m a w from key n E H S a w h hI hE hQ
    clear h hI hE hQ
    intro m
    induction m with
    | zero => intro E H S a w h; simp [loopA] at h
    | succ m ih =>
      intro E H S a w h hI hE hQ
      simp only [loopA] at h
      rw [rounds_succ]
      split at h
      · rename_i E1 H1 hr
        refine execA_ok hG hc hd n b E H _ _ _ S a w _ hr hI hE fun a1 w1 S1 hs1 hE1 hf1 => ?_
        exact ih _ _ S1 a1 w1 h hs1.inv hE1 fun a2 w2 S2 hs2 hE2 hf2 => hQ a2 w2 S2 (hs1.trans hs2) hE2 (hf2.trans hf1)
      · rename_i hr
        refine execA_ok hG hc hd n b E H _ _ _ S a w _ h hI hE fun a1 w1 S1 hs1 hE1 hf1 => ?_
        have := hQ a1 w1 S1 hs1 hE1 hf1
        cases x with
        | normal => exact (hr _ _ h).elim
        | exit i => exact this
        | ret => exact this
  | .scope b, E, H, x, E', H', S, a, w, Q, h, hI, hE, hQ => by
    simp only [execA] at h
    refine wp_scope_straight ?_
    refine execA_ok hG hc hd n b E H _ _ _ S a w _ h hI hE fun a1 w1 S1 hs1 hE1 hf1 => ?_
    have := hQ a1 w1 S1 hs1 hE1 hf1
    cases x <;> exact this
  | .goto _, E, H, x, E', H', S, a, w, Q, h, hI, hE, hQ => by simp [execA] at h
  | .refuse _, E, H, x, E', H', S, a, w, Q, h, hI, hE, hQ => by simp [execA] at h

def resRun (tmps : Array Value) : ResultVar → Sem Value
  | .tmp t => pure (tmps.getD t undef)
  | .cell b t => do loadVar t (← asAddr (tmps.getD b undef))
theorem results_eq (fn : Func) (tmps : Array Value) : results fn tmps = (do
    let vs ← fn.results.mapM (resRun tmps)
    pure (if h : vs.size = 1 then vs[0] else .tuple vs)) := by
  unfold results
  congr 2

theorem resultA_ok (hG : GlobOk G P) {S : Map} {E : Env} {H : Heap} {a : Go.Act} {w : World} (hI : Inv G S H w) (hE : EnvRel S E a) {r : ResultVar} {x : AV} (h : resultA G E H r = some x) :
    ∃ v, Rel S x v ∧ (resRun a.tmps r).run P w = .ok v w := by
  cases r with
  | tmp t =>
    simp only [resultA] at h
    obtain ⟨v, h1, h2⟩ := hE.get t x h
    exact ⟨v, h2, by simp [resRun, Array.getD_eq_getD_getElem?, h1]⟩
  | cell b t =>
    simp only [resultA] at h
    split at h
    · rename_i bb v o hb
      obtain ⟨y, h1, h2⟩ := hE.get b _ hb
      rw [Rel] at h2
      obtain ⟨R, T, hS, rfl⟩ := h2
      obtain ⟨y, h3, h4⟩ := run_loadVar (P := P) hG hI hS h
      exact ⟨y, h3, by simp [resRun, Array.getD_eq_getD_getElem?, h1, asAddr, h4]⟩
    · cases h

theorem resultsA_ok (hG : GlobOk G P) {S : Map} {E : Env} {H : Heap} {a : Go.Act} {w : World} (hI : Inv G S H w) (hE : EnvRel S E a) : ∀ {l : List ResultVar} {x : List AV}, resultsA G E H l = some x →
    ∃ vs : List Value, RelL S x vs ∧ (l.mapM (resRun a.tmps)).run P w = .ok vs w
  | [], x, h => by
    simp only [resultsA, Option.some.injEq] at h
    subst h
    exact ⟨[], RelL.nil, by simp⟩
  | r :: l, x, h => by
    simp only [resultsA] at h
    split at h
    · rename_i y q hy hq
      obtain rfl := Option.some.inj h
      obtain ⟨v, h1, h2⟩ := resultA_ok hG hI hE hy
      obtain ⟨vs, h3, h4⟩ := resultsA_ok hG hI hE hq
      refine ⟨v :: vs, RelL.cons h1 h3, ?_⟩
      rw [List.mapM_cons, Sem.run_bind, h2, Result.andThen_ok, Sem.run_bind, h4]
      rfl
    · cases h

theorem enterA_get (fn : Func) : ∀ (l : List AV) (k : Nat) (t : T AV) (i : Nat) (x : AV), (l.foldl (fun (p : Nat × T AV) a => (p.1 + 1, p.2.set fuel p.1 a)) (k, t)).2.get i = some x → (k ≤ i ∧ l[i - k]? = some x) ∨ t.get i = some x
  | [], k, t, i, x, h => .inr h
  | a :: l, k, t, i, x, h => by
    rcases enterA_get fn l (k + 1) _ i x h with ⟨h1, h2⟩ | h1
    · refine .inl ⟨by omega, ?_⟩
      have : i - k = (i - (k + 1)) + 1 := by omega
      rw [this, List.getElem?_cons_succ]; exact h2
    · rcases T.get_set fuel _ _ _ _ _ h1 with ⟨h2, h3⟩ | ⟨h2, h3⟩
      · subst h2; exact .inl ⟨Nat.le_refl _, by simp [h3]⟩
      · exact .inr h3

theorem enterA_rel {S : Map} {fn : Func} {args : List AV} {vs : Array Value} (h : RelL S args vs.toList) :
    EnvRel S (enterA fn args) { tmps := vs ++ Array.replicate (fn.ntmps - vs.size) undef, defers := [] } := by
  have hl := h.length
  simp only [Array.length_toList] at hl
  refine ⟨by simp [enterA]; omega, fun i x hi => ?_⟩
  rcases enterA_get fn args 0 .nil i x hi with ⟨_, h1⟩ | h1
  · obtain ⟨z, h2, h3⟩ := h.get _ h1
    refine ⟨z, ?_, h3⟩
    simp only [Nat.sub_zero, Array.getElem?_toList] at h2
    have : i < vs.size := by
      rcases Nat.lt_or_ge i vs.size with q | q
      · exact q
      · rw [Array.getElem?_eq_none q] at h2; cases h2
    rw [Array.getElem?_append, if_pos this]
    exact h2
  · simp [T.get_nil] at h1

/-- What stands in for functions is so. -/
def OvSound (G : Glob) (P : Program) : Prop :=
  ∀ f g args H r H' S w (vs : Array Value), G.ov f = some g → g args H = some (r, H') → Inv G S H w → RelL S args vs.toList → CallR P f vs w fun v w' => ∃ S', Step G S H w S' H' w' ∧ Rel S' r v
def Named (G : Glob) : Prop := ∀ f x, G.fn f = some x → (x.name == "runtime.NumGoroutine") = false

theorem callA_ok (hG : GlobOk G P) (hn : Named G) (ho : OvSound G P) (hd : ∀ call, CallSound G P call → DrawSound G P call) (m : Nat) : ∀ n, CallSound G P (callA G m n)
  | 0 => by intro f args H r H' S w vs h; simp [callA] at h
  | n + 1 => by
    intro f args H r H' S w vs h hI hr
    simp only [callA] at h
    split at h
    · rename_i g hg
      exact ho f g args H r H' S w vs hg h hI hr
    · split at h
      · cases h
      · rename_i fn hfn
        split at h
        · cases h
        · rename_i c hb
          have hf := hG.fn _ _ hfn
          unfold CallR
          have hrun : (callFunc f vs).run P w = .ok (.enter f vs) w := by
            have hn' : ¬ fn.name = "runtime.NumGoroutine" := by simpa using hn _ _ hfn
            simp [callFunc, hf, hn', hb]
          rw [hrun]
          have ih := callA_ok hG hn ho hd m n
          have key : ∀ (x : Ex) (E : Env) (H1 : Heap), execA G (callA G m n) m c (enterA fn args) H = some (x, E, H1) → (x = .normal ∨ x = .ret) →
              (match resultsA G E H1 fn.results.toList with | some [a] => some (a, H1) | some l => some (.tuple l, H1) | none => none) = some (r, H') →
              Calls P f vs w fun e w'' => ∃ v, e = .returned v ∧ ∃ S', Step G S H w S' H' w'' ∧ Rel S' r v := by
            intro x E H1 hx hk hres
            refine calls_of_wp hf hb ?_
            refine execA_ok hG ih (hd _ ih) m c _ _ _ _ _ S _ w _ hx hI (enterA_rel hr) fun a' w' S' hs hE' hdf => ?_
            have hdf' : a'.defers = [] := hdf
            suffices hs : ∃ v, (results fn a'.tmps).run P w' = .ok v w' ∧ ∃ u, Ending.returned v = .returned u ∧ ∃ S', Step G S H w S' H' w' ∧ Rel S' r u by
              rcases hk with rfl | rfl <;> exact ⟨hdf', hs⟩
            split at hres
            · rename_i b hl
              simp only [Option.some.injEq, Prod.mk.injEq] at hres
              obtain ⟨rfl, rfl⟩ := hres
              obtain ⟨l', h1, h2⟩ := resultsA_ok hG hs.inv hE' hl
              obtain ⟨y, r', rfl, h3, h4⟩ := h1.cons_inv
              obtain rfl := h4.nil_inv
              refine ⟨y, ?_, y, rfl, S', hs, h3⟩
              rw [results_eq, Array.mapM_eq_mapM_toList, Sem.run_bind, Sem.run_map, h2]
              rfl
            · rename_i l hne hl
              simp only [Option.some.injEq, Prod.mk.injEq] at hres
              obtain ⟨rfl, rfl⟩ := hres
              obtain ⟨l', h1, h2⟩ := resultsA_ok hG hs.inv hE' hl
              have hlen := h1.length
              refine ⟨.tuple l'.toArray, ?_, _, rfl, S', hs, by rw [Rel]; exact ⟨_, rfl, by simpa using h1⟩⟩
              rw [results_eq, Array.mapM_eq_mapM_toList, Sem.run_bind, Sem.run_map, h2]
              have : l'.toArray.size ≠ 1 := by
                intro e
                simp only [List.size_toArray] at e
                rw [hlen] at e
                match l, e with
                | [b], _ => exact hne b rfl
              simp only [Result.andThen_ok]
              rw [dif_neg this]
              rfl
            · cases hres
          split at h
          · rename_i E H1 hx; exact key _ _ _ hx (.inl rfl) h
          · rename_i E H1 hx; exact key _ _ _ hx (.inr rfl) h
          · cases h
end
end Go.Abs
