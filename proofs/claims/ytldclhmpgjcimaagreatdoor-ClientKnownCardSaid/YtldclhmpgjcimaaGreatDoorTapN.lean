/- The abstract evaluator: append, whole. -/
import Derived.Test.YtldclhmpgjcimaaGreatDoorTapM
namespace Go.Abs
open Go
section
variable {G : Glob} {P : Program} {S : Map} {E : Env} {a : Go.Act} {H : Heap} {w : World}

/-- The run of append within the room. -/
theorem append_fits {t e xt : Nat} {i : TypeInfo} {xd : TypeDesc} {base : Option Addr} {sLen sCap n : Nat} {vx : Value} {new : List Value} (hG : GlobOk G P) (hu : und G t = some (.slice e)) (hi : G.ty e = some i)
    (hx : und G xt = some xd) (hxd : ∀ k, xd ≠ .int k)
    (ts : Array TypeId) (ht0 : ts[0]? = some t) (ht1 : ts[1]? = some xt) (ty : TypeId)
    (hlen : (Builtin.lenOf vx).run P w = .ok n w) (hfit : sLen + n ≤ sCap)
    (hnew : (Builtin.firstCells i.size n vx).run P w = .ok new.toArray w) :
    (Builtin.append_ ts ty #[.slice base sLen sCap, vx]).run P w =
      ((match base with | some b => storeCells (b.add (sLen * i.size)) new | none => pure () : Sem Unit).run P w).andThen fun _ w' => .ok (.slice base (sLen + n) sCap) w' := by
  have hsz : size G e = some i.size := by simp [size, hi]
  have g0 : (#[Value.slice base sLen sCap, vx] : Array Value)[0]? = some (.slice base sLen sCap) := rfl
  have g1 : (#[Value.slice base sLen sCap, vx] : Array Value)[1]? = some vx := rfl
  have hni := notInt xd hxd
  have hf0 : ¬ ((false : Bool) = true) := by decide
  have hnf : (!false) = true := rfl
  unfold Builtin.append_
  simp only [ht0, ht1, g0, g1, Sem.run_bind, run_und hG hu, run_size hG hsz, run_und hG hx, Result.andThen_ok, Sem.run_pure, hni, if_neg hf0, hlen, if_pos hfit, if_pos hnf, hnew]
  cases base with
  | none => rfl
  | some b => simp only [Sem.run_bind]; rfl

theorem run_loadAll {R o : Nat} {c : Array Value} {e : TypeId} {fr : Nat × Nat} (hc : w.heap[R]? = some (.cells c e fr)) :
    ∀ (n i : Nat) (acc : Array Value), o + i + n ≤ c.size → (loadCellsFrom ⟨R, o, none⟩ i n acc).run P w = .ok (acc ++ c.extract (o + i) (o + i + n)) w
  | 0, i, acc, h => by simp [loadCellsFrom]; omega
  | n + 1, i, acc, h => by
    have hcell : w.cell? ((⟨R, o, none⟩ : Addr).add i) = some (c[o + i]'(by omega)) := by rw [addr_add, cell_at hc]; simp
    simp only [loadCellsFrom, Sem.run_bind, run_load, hcell, Result.andThen_ok]
    rw [run_loadAll hc n (i + 1) _ (by omega)]
    congr 1
    apply Array.ext'
    simp only [Array.toList_append, Array.toList_push, Array.toList_extract, List.extract_eq_take_drop, List.append_assoc]
    congr 1
    have h1 : o + (i + 1) + n - (o + (i + 1)) = n := by omega
    have h2 : o + i + (n + 1) - (o + i) = n + 1 := by omega
    rw [h1, h2]
    have h3 : c.toList.drop (o + i) = c[o + i]'(by omega) :: c.toList.drop (o + i + 1) := by
      rw [List.drop_eq_getElem_cons (by simp; omega)]
      simp
    rw [h3, List.take_succ_cons]
    rfl
theorem run_loadWhole {R o n : Nat} {c : Array Value} {e : TypeId} {fr : Nat × Nat} (hc : w.heap[R]? = some (.cells c e fr)) (h : o + n ≤ c.size) :
    (loadCells ⟨R, o, none⟩ n).run P w = .ok (c.extract o (o + n)) w := by
  have := run_loadAll (P := P) (o := o) hc n 0 #[] (by omega)
  simpa [loadCells] using this

/-- A slice grown into a block of its own: the step and what is told. -/
theorem regrow_ok (hI : Inv G S H w) (hfree : H.free = true) {e need sz cap : Nat} {i : TypeInfo} {old new : List AV} {vold vnew rest : List Value} (hi : G.ty e = some i) (hsz : i.size = sz) (h1 : RelL S old vold) (h2 : RelL S new vnew)
    (s1 : ∀ x ∈ old, x.scalar = true) (s2 : ∀ x ∈ new, x.scalar = true) (hl : (old ++ new).length = need * sz) (hcap : need ≤ cap) (hrest : rest.length = (cap - need) * sz) :
    ∃ S', Step G S H w S' (regrow H e old new need).2 { pushW w (.cells ((vold ++ vnew) ++ rest).toArray e) with drawn := w.drawn + 1 } ∧
      Rel S' (regrow H e old new need).1 (.slice (some ⟨w.heap.size, 0, none⟩) need cap) := by
  refine ⟨S.add H.next 0 (w.heap.size, cap), Step.push hI hfree (w.drawn + 1) ?_, ?_⟩
  · intro S' hle _
    refine newCells_rel ((h1.append h2).mono hle) (fun x hx => ?_) (rest := rest) (fr := (0, 0)) ?_ (by intro j _ hj; omega) ?_
    · rcases List.mem_append.1 hx with hx | hx
      · exact s1 x hx
      · exact s2 x hx
    · rw [pushW_heap, if_pos rfl]
    · intro j hj
      rw [hi] at hj; cases hj
      have := (h1.append h2).length
      rw [List.length_append, this, hl, hrest, hsz]
      rw [← Nat.add_mul]
      exact Nat.mul_le_mul_right _ (by omega)
  · show Rel _ (.slice H.next 0 0 0 need none) _
    rw [Rel]
    exact ⟨_, _, Map.add_self _ _ _ _, rfl, by omega⟩

/-- A version more: the old row, written behind its end, or a new one. -/
theorem bump_ok (hI : Inv G S H w) {b v R C e m need sz : Nat} {i : TypeInfo} {tt tt' : T (AV × Nat)} {new : List AV} {vnew : List Value} {len : Nat} (hb : S b v = some (R, C)) (hx : H.t.get b = some (.cells e m v false tt))
    (hi : G.ty e = some i) (hsz : i.size = sz) (hsub : ∀ j x, tt'.get j = some x → j < len * sz ∧ tt.get j = some x) (h2 : RelL S new vnew) (s2 : ∀ x ∈ new, x.scalar = true) (hnl : new.length + len * sz = need * sz)
    {w' : World} {R' C' : Nat} {c' : Array Value} {fr' : Nat × Nat} (hw : w'.heap[R']? = some (.cells c' e fr')) (hfr : ∀ j, j < c'.size → ¬ (fr'.1 ≤ j ∧ j < fr'.2)) (hC : C' * sz ≤ c'.size)
    (hold : ∀ (c : Array Value) fr, w.heap[R]? = some (.cells c e fr) → ∀ j, j < len * sz → ∀ y, c[j]? = some y → c'[j]? = some y) (hnew : ∀ j, j < new.length → c'[len * sz + j]? = vnew[j]?)
    (hos : w'.os = w.os) (htape : w'.tape = w.tape) (hout : w'.output = w.output) (hsize : w.heap.size ≤ w'.heap.size) (hR : (R' = R ∧ C' = C) ∨ (w.heap.size ≤ R'))
    (hreal : ∀ R1, R1 < w.heap.size → R1 ≠ R' → w'.heap[R1]? = w.heap[R1]?) (hlt : R' < w'.heap.size) (hcap : need ≤ C') (hcc : R' = R → ∀ c fr, w.heap[R]? = some (.cells c e fr) → c'.size = c.size ∧ fr' = fr) (hnv : new.length ≤ vnew.length) :
    ∃ S', Step G S H w S' (H.put b (.cells e (need * sz) (v + 1) false (cellsNew (v + 1) tt' (len * sz) new))) w' ∧ Rel S' (.slice b (v + 1) 0 0 need none) (.slice (some ⟨R', 0, none⟩) need C') := by
  obtain ⟨hRlt, hbn, hB⟩ := hI.blk _ _ _ _ hb
  obtain ⟨_, c, fr, hc, ht, hfz, hcapc, hn⟩ := hB _ hx
  have hno : S b (v + 1) = none := by
    cases q : S b (v + 1) with
    | none => rfl
    | some y =>
      have := (hI.blk _ _ y.1 y.2 q).2.2 _ hx
      exact absurd this.1 (by omega)
  have hle : S.le (S.add b (v + 1) (R', C')) := Map.add_le hno
  have hget : ∀ j x k, (cellsNew (v + 1) tt' (len * sz) new).get j = some (x, k) → (k = v + 1 ∧ ∃ q, j = len * sz + q ∧ new[q]? = some x) ∨ (j < len * sz ∧ tt.get j = some (x, k)) := by
    intro j x k hj
    rcases cellsNew_get _ _ _ _ _ _ hj with ⟨q, h3, h4, h5⟩ | ⟨_, h4⟩
    · exact .inl ⟨h5, q, h3, h4⟩
    · exact .inr (hsub _ _ h4)
  have hclaim : ∀ j x k, (cellsNew (v + 1) tt' (len * sz) new).get j = some (x, k) → j < need * sz ∧ k ≤ v + 1 := by
    intro j x k hj
    rcases hget j x k hj with ⟨rfl, q, rfl, h4⟩ | ⟨h4, h5⟩
    · have := (List.getElem?_eq_some_iff.1 h4).1
      exact ⟨by omega, Nat.le_refl _⟩
    · exact ⟨by omega, by have := (hn _ _ _ h5).2; omega⟩
  have hfix : Fixed G (S.add b (v + 1) (R', C')) w' := by
    have hup := hI.fix.up _ _ _ _ hb
    refine hI.fix.of (fun b1 v1 R1 C1 e => ?_) hsize (fun R1 hR1 => ?_)
    · rcases Map.add_inv e with ⟨rfl, rfl, e1⟩ | e1
      · simp only [Prod.mk.injEq] at e1
        rcases hR with ⟨h, _⟩ | h
        · exact .inl ⟨b1, v, C, by rw [e1.1, h]; exact hb⟩
        · exact .inr (by omega)
      · exact .inl ⟨_, _, _, e1⟩
    · have := hI.fix.size
      refine hreal R1 (by omega) ?_
      rcases hR with ⟨h, _⟩ | h <;> omega
  refine ⟨S.add b (v + 1) (R', C'), ⟨hI.dom, hle, ⟨?_, ?_, hfix⟩, hos, htape, hout, hsize, ?_, ?_, Nat.le_refl _, Nat.le_refl _, ?_, ?_⟩, ?_⟩
  · intro b1 v1 R1 C1 e1
    rcases Map.add_inv e1 with ⟨rfl, rfl, e2⟩ | e2
    · simp only [Prod.mk.injEq] at e2
      obtain ⟨rfl, rfl⟩ := e2
      refine ⟨hlt, hbn, fun y hy => ?_⟩
      rcases put_get hy with ⟨_, rfl⟩ | ⟨hne, _⟩
      · refine ⟨Nat.le_refl _, c', fr', hw, ?_, fun _ => hfr, fun i' hi' => by rw [hi] at hi'; cases hi'; rw [hsz]; exact hC, hclaim⟩
        intro j x k hj hk
        rcases hget j x k hj with ⟨rfl, q, rfl, h4⟩ | ⟨h4, h5⟩
        · obtain ⟨z, h6, h7⟩ := h2.get q h4
          refine ⟨s2 x (List.mem_of_getElem? h4), z, ?_, h7.mono hle⟩
          rw [hnew q (List.getElem?_eq_some_iff.1 h4).1]; exact h6
        · obtain ⟨h6, z, h7, h8⟩ := ht j x k h5 (hn _ _ _ h5).2
          exact ⟨h6, z, hold c fr hc j h4 z h7, h8.mono hle⟩
      · exact absurd rfl hne
    · obtain ⟨q1, q2, q3⟩ := hI.blk _ _ _ _ e2
      refine ⟨Nat.lt_of_lt_of_le q1 hsize, q2, fun y hy => ?_⟩
      rcases put_get hy with ⟨rfl, rfl⟩ | ⟨hne, hy⟩
      · obtain ⟨hv1, c1, fr1, hc1, ht1, hfz1, hcap1, hn1⟩ := q3 _ hx
        by_cases hRR : R1 = R'
        · subst hRR
          have hRe : R1 = R := by
            rcases hR with ⟨h, _⟩ | h
            · exact h
            · omega
          subst hRe
          obtain ⟨g1, g2⟩ := hcc rfl c1 fr1 hc1
          refine ⟨by omega, c', fr', hw, ?_, by rw [g1, g2]; exact hfz1, by rw [g1]; exact hcap1, hclaim⟩
          intro j x k hj hk
          rcases hget j x k hj with ⟨rfl, _⟩ | ⟨h4, h5⟩
          · omega
          · obtain ⟨h6, z, h7, h8⟩ := ht1 j x k h5 hk
            exact ⟨h6, z, hold c1 fr1 hc1 j h4 z h7, h8.mono hle⟩
        · refine ⟨by omega, c1, fr1, by rw [hreal R1 q1 hRR]; exact hc1, ?_, hfz1, hcap1, hclaim⟩
          intro j x k hj hk
          rcases hget j x k hj with ⟨rfl, _⟩ | ⟨h4, h5⟩
          · omega
          · obtain ⟨h6, z, h7, h8⟩ := ht1 j x k h5 hk
            exact ⟨h6, z, h7, h8.mono hle⟩
      · refine (q3 y hy).mono hle (hreal R1 q1 ?_)
        intro e4; subst e4
        rcases hR with ⟨rfl, _⟩ | h
        · exact hne (hI.inj _ _ _ _ _ _ _ e2 hb)
        · omega
  · intro b1 v1 R1 C1 b2 v2 C2 e1 e2
    rcases Map.add_inv e1 with ⟨rfl, rfl, h1⟩ | h1 <;> rcases Map.add_inv e2 with ⟨rfl, rfl, h3⟩ | h3
    · rfl
    · simp only [Prod.mk.injEq] at h1
      rcases hR with ⟨h, _⟩ | h
      · exact (hI.inj _ _ _ _ _ _ _ h3 (by rw [h1.1, h]; exact hb)).symm
      · have := (hI.blk _ _ _ _ h3).1; omega
    · simp only [Prod.mk.injEq] at h3
      rcases hR with ⟨h, _⟩ | h
      · exact hI.inj _ _ _ _ _ _ _ h1 (by rw [h3.1, h]; exact hb)
      · have := (hI.blk _ _ _ _ h1).1; omega
    · exact hI.inj _ _ _ _ _ _ _ h1 h3
  · intro R1 hR1 hno1
    refine hreal R1 hR1 ?_
    intro e4; subst e4
    rcases hR with ⟨h, _⟩ | h
    · rw [hno1 b v C (by rw [h]; exact hb)] at hx; cases hx
    · omega
  · intro b1 y hy
    rcases put_get hy with ⟨rfl, _⟩ | ⟨_, hy⟩
    · exact .inr (.inl ⟨⟨v, _, hb⟩, _, hx⟩)
    · exact .inl hy
  · intro b1 v1 R1 C1 e1
    rcases Map.add_inv e1 with ⟨rfl, rfl, e2⟩ | e2
    · simp only [Prod.mk.injEq] at e2
      rcases hR with ⟨h, _⟩ | h
      · exact .inr (.inr ⟨v, C, by rw [e2.1, h]; exact hb⟩)
      · exact .inr (.inl (by omega))
    · exact .inl e2
  · intro b1 v1 x e1
    rcases Map.add_inv e1 with ⟨rfl, rfl, _⟩ | e2
    · exact .inr (.inl ⟨⟨v, _, hb⟩, _, hx⟩)
    · exact .inl e2
  · rw [Rel]
    exact ⟨R', C', Map.add_self _ _ _ _, rfl, by omega⟩
end
end Go.Abs
