/- The abstract evaluator: operations that act. -/
import Derived.Test.YtldclhmpgjcimaaGreatDoorTapQ0
namespace Go.Abs
open Go
section
variable {G : Glob} {P : Program} {S : Map} {E : Env} {a : Go.Act} {H : Heap} {w : World}

theorem Step.setMap (hI : Inv G S H w) {b v R C : Nat} {es es2 : List (AV × AV × Nat)} {c c2 : Nat} {es2' : Array MapEntry} (hb : S b v = some (R, C)) (hx : H.t.get b = some (.map es c)) (hr : RelE S es2 es2'.toList) :
    Step G S H w S (H.put b (.map es2 c2)) (putRow w R (.map es2' c2)) := by
  obtain ⟨hlt, hbn, hB⟩ := hI.blk _ _ _ _ hb
  obtain ⟨hv, es', hc, _⟩ := hB _ hx
  subst hv
  refine ⟨hI.dom, S.le_refl, ⟨?_, hI.inj, hI.fix.of (fun b v _ C e => .inl ⟨b, v, C, e⟩) (by simp [putRow]) (fun R' hR' => by have := hI.fix.up _ _ _ _ hb; rw [putRow_heap, if_neg (by omega)])⟩, rfl, rfl, rfl, by simp [putRow], ?_, ?_, Nat.le_refl _, Nat.le_refl _, fun _ _ _ _ e => .inl e, fun _ _ _ e => .inl e⟩
  · intro b' v' R' C' hb'
    obtain ⟨hlt', hnx, hB'⟩ := hI.blk b' v' R' C' hb'
    refine ⟨by simpa [putRow] using hlt', hnx, fun x hx' => ?_⟩
    rcases put_get hx' with ⟨rfl, rfl⟩ | ⟨hne, hx'⟩
    · obtain ⟨hv', _⟩ := hB' _ hx
      subst hv'
      rw [hb] at hb'
      simp only [Option.some.injEq, Prod.mk.injEq] at hb'
      obtain ⟨rfl, rfl⟩ := hb'
      exact ⟨rfl, es2', by rw [putRow_heap]; simp [hlt], hr⟩
    · refine (hB' x hx').mono S.le_refl ?_
      rw [putRow_heap, if_neg]
      intro e; subst e
      exact hne (hI.inj _ _ _ _ _ _ _ hb' hb)
  · intro R' hR' hno
    rw [putRow_heap, if_neg]
    intro e; subst e
    rw [hno _ _ _ hb] at hx; cases hx
  · intro b' x hx'
    rcases put_get hx' with ⟨rfl, _⟩ | ⟨_, hx'⟩
    · exact .inr (.inl ⟨⟨0, _, hb⟩, _, hx⟩)
    · exact .inl hx'
theorem run_setMap {R : Nat} {es : Array MapEntry} {c : Nat} (h : w.heap[R]? = some (.map es c)) (o : Obj) : (setObj R o).run P w = .ok () (putRow w R o) := by
  simp [setObj, Sem.run, h, putRow]

theorem findA_at {k : Nat} {key : AV} : ∀ (es : List (AV × AV × Nat)) (j i : Nat) (v : AV), findA G k key es j = some (some (i, v)) → ∃ x s, j ≤ i ∧ es[i - j]? = some (x, v, s)
  | [], j, i, v, h => by simp [findA] at h
  | (x, u, s) :: es, j, i, v, h => by
    simp only [findA] at h
    split at h
    · simp only [Option.some.injEq, Prod.mk.injEq] at h
      obtain ⟨rfl, rfl⟩ := h
      exact ⟨x, s, Nat.le_refl _, by simp⟩
    · obtain ⟨x', s', h1, h2⟩ := findA_at es (j + 1) i v h
      exact ⟨x', s', by omega, by rw [show i - j = (i - (j + 1)) + 1 from by omega]; simpa using h2⟩
    · cases h

theorem sameCell_ok {x y : AV} {vx vy : Value} (h : sameCellA x y = true) (hx : Rel S x vx) (hy : Rel S y vy) (n : Nat) : Instr.sameBits n vx vy = true := by
  unfold sameCellA at h
  split at h
  · simp only [Bool.and_eq_true, decide_eq_true_eq] at h
    obtain ⟨rfl, h⟩ := h
    rw [natEq_eq] at h
    rw [Rel] at hx; rw [Rel] at hy; subst hx; subst hy
    cases n <;> simpa [Instr.sameBits] using h
  · rw [strEq_eq] at h
    have h := eq_of_beq h
    subst h
    rw [Rel] at hx; rw [Rel] at hy
    obtain ⟨rfl, _⟩ := hx
    obtain ⟨rfl, _⟩ := hy
    cases n <;> simp [Instr.sameBits, beq_toListBytes]
  · have h := eq_of_beq h
    subst h
    rw [Rel] at hx; rw [Rel] at hy; subst hx; subst hy
    cases n <;> simp [Instr.sameBits]
  · cases h
theorem sameAll_ok (n : Nat) : ∀ (x y : List AV) (vx vy : List Value), sameAllA x y = true → RelL S x vx → RelL S y vy → vx.length = vy.length ∧ (vx.zip vy).all (fun (p : Value × Value) => Instr.sameBits n p.1 p.2) = true
  | [], [], vx, vy, _, hx, hy => by rw [hx.nil_inv, hy.nil_inv]; simp
  | [], _ :: _, _, _, h, _, _ => by simp [sameAllA] at h
  | _ :: _, [], _, _, h, _, _ => by simp [sameAllA] at h
  | a :: x, b :: y, vx, vy, h, hx, hy => by
    obtain ⟨u, vx', rfl, hu, hx⟩ := hx.cons_inv
    obtain ⟨v, vy', rfl, hv, hy⟩ := hy.cons_inv
    simp only [sameAllA, Bool.and_eq_true] at h
    obtain ⟨h1, h2⟩ := sameAll_ok n x y vx' vy' h.2 hx hy
    refine ⟨by simp [h1], ?_⟩
    simp only [List.zip_cons_cons, List.all_cons, Bool.and_eq_true]
    exact ⟨sameCell_ok h.1 hu hv n, h2⟩
theorem same_ok {x y : AV} {vx vy : Value} (h : sameA x y = true) (hx : Rel S x vx) (hy : Rel S y vy) (n : Nat) : Instr.sameBits (n + 1) vx vy = true := by
  unfold sameA at h
  split at h
  · rw [Rel] at hx; rw [Rel] at hy
    obtain ⟨lx, rfl, hx⟩ := hx
    obtain ⟨ly, rfl, hy⟩ := hy
    obtain ⟨h1, h2⟩ := sameAll_ok n _ _ _ _ h hx hy
    simp only [Array.length_toList] at h1
    simp only [Instr.sameBits, h1, Bool.and_eq_true]
    exact ⟨by simp, h2⟩
  · exact sameCell_ok h hx hy _

theorem RelE.get : ∀ {es : List (AV × AV × Nat)} {es' : List MapEntry} (i : Nat) {k v : AV} {s : Nat}, RelE S es es' → es[i]? = some (k, v, s) → ∃ e, es'[i]? = some e ∧ Rel S k e.key ∧ Rel S v e.val ∧ e.born = s
  | [], _, i, k, v, s, _, h => by simp at h
  | (k0, v0, s0) :: es, es', i, k, v, s, hr, h => by
    simp only [RelE] at hr
    obtain ⟨e, l', rfl, h1, h2, h3, hr⟩ := hr
    cases i with
    | zero =>
      simp only [List.getElem?_cons_zero, Option.some.injEq, Prod.mk.injEq] at h
      obtain ⟨rfl, rfl, rfl⟩ := h
      exact ⟨e, by simp, h1, h2, h3⟩
    | succ i => simpa using RelE.get i hr (by simpa using h)
theorem RelE.append : ∀ {es : List (AV × AV × Nat)} {es' : List MapEntry} {k v : AV} {s : Nat} {e : MapEntry}, RelE S es es' → Rel S k e.key → Rel S v e.val → e.born = s → RelE S (es ++ [(k, v, s)]) (es' ++ [e])
  | [], es', k, v, s, e, hr, h1, h2, h3 => by
    simp only [RelE] at hr; subst hr
    simp only [List.nil_append, RelE]
    exact ⟨e, [], rfl, h1, h2, h3, rfl⟩
  | (k0, v0, s0) :: es, es', k, v, s, e, hr, h1, h2, h3 => by
    simp only [RelE] at hr
    obtain ⟨e0, l', rfl, g1, g2, g3, hr⟩ := hr
    exact ⟨e0, l' ++ [e], rfl, g1, g2, g3, RelE.append hr h1 h2 h3⟩
theorem RelE.modify {f : AV × AV × Nat → AV × AV × Nat} {g : MapEntry → MapEntry} : ∀ {es : List (AV × AV × Nat)} {es' : List MapEntry} (i : Nat), RelE S es es' →
    (∀ k v s e, es[i]? = some (k, v, s) → Rel S k e.key → Rel S v e.val → e.born = s → Rel S (f (k, v, s)).1 (g e).key ∧ Rel S (f (k, v, s)).2.1 (g e).val ∧ (g e).born = (f (k, v, s)).2.2) → RelE S (es.modify i f) (es'.modify i g)
  | [], _, i, hr, _ => by
    simp only [RelE] at hr; subst hr
    cases i <;> simp [RelE]
  | (k0, v0, s0) :: es, es', i, hr, h => by
    simp only [RelE] at hr
    obtain ⟨e, l', rfl, h1, h2, h3, hr⟩ := hr
    cases i with
    | zero =>
      obtain ⟨q1, q2, q3⟩ := h k0 v0 s0 e (by simp) h1 h2 h3
      simp only [List.modify_zero_cons]
      exact ⟨g e, l', rfl, q1, q2, q3, hr⟩
    | succ i =>
      simp only [List.modify_succ_cons]
      exact ⟨e, l'.modify i g, rfl, h1, h2, h3, RelE.modify i hr (by simpa using h)⟩
theorem RelE.erase : ∀ {es : List (AV × AV × Nat)} {es' : List MapEntry} (i : Nat), RelE S es es' → RelE S (es.eraseIdx i) (es'.eraseIdx i)
  | [], _, i, hr => by
    simp only [RelE] at hr; subst hr
    simp [RelE]
  | (k0, v0, s0) :: es, es', i, hr => by
    simp only [RelE] at hr
    obtain ⟨e, l', rfl, h1, h2, h3, hr⟩ := hr
    cases i with
    | zero => simpa using hr
    | succ i =>
      simp only [List.eraseIdx_cons_succ]
      exact ⟨e, _, rfl, h1, h2, h3, RelE.erase i hr⟩
theorem RelE.findIdx (born : Nat) : ∀ {es : List (AV × AV × Nat)} {es' : List MapEntry}, RelE S es es' → es'.findIdx? (fun e => (e.born : Int) == (Int.ofNat born)) = es.findIdx? (fun e => Nat.beq e.2.2 born)
  | [], _, hr => by simp only [RelE] at hr; subst hr; rfl
  | (k0, v0, s0) :: es, es', hr => by
    simp only [RelE] at hr
    obtain ⟨e, l', rfl, h1, h2, h3, hr⟩ := hr
    have ih := hr.findIdx born
    rw [List.findIdx?_cons, List.findIdx?_cons, ih]
    have : ((e.born : Int) == Int.ofNat born) = Nat.beq s0 born := by
      rw [h3, Bool.eq_iff_iff]; simp; omega
    rw [this]
theorem cellsGet_take {t : T (AV × Nat)} {v : Nat} : ∀ (n o k : Nat) (l : List AV), cellsGet t v o n = some l → k ≤ n → cellsGet t v o k = some (l.take k)
  | n, o, 0, l, h, _ => by simp [cellsGet_zero]
  | 0, o, k + 1, l, h, hk => by omega
  | n + 1, o, k + 1, l, h, hk => by
    rw [cellsGet_succ] at h ⊢
    split at h
    · cases h
    · rename_i x k0 hx
      split at h
      · rename_i hle
        split at h
        · cases h
        · rename_i l' hl'
          obtain rfl := Option.some.inj h
          simp [hle, cellsGet_take n (o + 1) k l' hl' (by omega)]
      · cases h
theorem source_take (hI : Inv G S H w) {sz n k : Nat} {x : AV} {vx : Value} {l : List AV} (h : sourceA H sz x = some (n, l)) (hr : Rel S x vx) (hk : k ≤ n) :
    ∃ arr : List Value, RelL S (l.take (k * sz)) arr ∧ (Builtin.firstCells sz k vx).run P w = .ok arr.toArray w := by
  unfold sourceA at h
  split at h
  · simp only [Option.some.injEq, Prod.mk.injEq] at h
    obtain ⟨rfl, rfl⟩ := h
    obtain rfl : k = 0 := by omega
    rw [Rel] at hr; subst hr
    exact ⟨[], by simpa using RelL.nil, by simp [Builtin.firstCells]⟩
  · simp only [Option.some.injEq, Prod.mk.injEq] at h
    obtain ⟨rfl, rfl⟩ := h
    obtain rfl : k = 0 := by omega
    rw [Rel] at hr; obtain ⟨ad, c, rfl⟩ := hr
    exact ⟨[], by simpa using RelL.nil, by simp [Builtin.firstCells, loadCells, loadCellsFrom]⟩
  · rename_i b v o el m cap
    simp only [Option.map_eq_some_iff] at h
    obtain ⟨l', hl, he⟩ := h
    simp only [Prod.mk.injEq] at he
    obtain ⟨rfl, rfl⟩ := he
    obtain ⟨R, T, k', rfl, hS, _⟩ := hr.slice_inv
    have hl2 : loadRow H b v o (k * sz) = some (l'.take (k * sz)) := by
      unfold loadRow at hl ⊢
      split at hl
      · exact cellsGet_take _ _ _ _ hl (Nat.mul_le_mul_right _ hk)
      · cases hl
    obtain ⟨arr, h1, h2, h3, h4⟩ := run_loadRow (P := P) hI hS hl2
    exact ⟨arr, h1, by simp [Builtin.firstCells, h4]⟩
  · rename_i s
    split at h
    · rename_i hs
      obtain rfl := Nat.eq_of_beq_eq_true hs
      simp only [Option.some.injEq, Prod.mk.injEq] at h
      obtain ⟨rfl, rfl⟩ := h
      rw [Rel] at hr
      obtain ⟨rfl, hb⟩ := hr
      refine ⟨(s.take k).map byteV, ?_, ?_⟩
      · rw [Nat.mul_one, ← List.map_take]
        apply RelL.of_get
        · simp
        · intro i y v hy hv
          simp only [List.getElem?_map, Option.map_eq_some_iff] at hy hv
          obtain ⟨c, hc, rfl⟩ := hy
          obtain ⟨c', hc', rfl⟩ := hv
          rw [hc] at hc'; cases hc'
          rw [Rel]; rfl
      · have e : (mkStr s).extract 0 k = mkStr (s.take k) := by rw [mkStr_extract]; simp
        have hdata : (mkStr (s.take k)).data.map (fun b => Value.int .u8 (b.toNat : Int)) = ((s.take k).map byteV).toArray := by
          simp only [mkStr, List.map_toArray, List.map_map, Array.mk.injEq]
          apply List.map_congr_left
          intro c hc
          have := hb c (List.mem_of_mem_take hc)
          simp [byteV]
          omega
        simp only [Builtin.firstCells, e, hdata, Sem.run_pure]
    · cases h
  · cases h
theorem run_keyStays {old new : Value} (h : Instr.sameBits 10000 old new = true) (w : World) : (Instr.keyThatStays old new).run P w = .ok new w := by
  simp [Instr.keyThatStays, h]

theorem mapUpdate_ok (hG : GlobOk G P) (hI : Inv G S H w) {t kt e : Nat} {m key : AV} {f : Option AV → AV} {x : AV} {vm vk vx : Value} {H' : Heap} (hu : und G t = some (.map kt e)) (h : mapPut G H kt m key f = some H') (hf : ∀ o, f o = x)
    (hm : Rel S m vm) (hk : Rel S key vk) (hx : Rel S x vx) : ∃ w', (Instr.mapUpdate t vm vk vx).run P w = .ok () w' ∧ Step G S H w S H' w' := by
  unfold mapPut at h
  split at h
  · rename_i hp
    obtain ⟨d, hd⟩ := plainKey_und hp
    have hck := checkKey_ok (P := P) hG hp hk false 9998 w
    split at h
    · rename_i b
      rw [Rel] at hm
      obtain ⟨R, C, hS, rfl⟩ := hm
      split at h
      · rename_i es clock hb
        obtain ⟨_, _, hB⟩ := hI.blk _ _ _ _ hS
        obtain ⟨_, es', hR, hes⟩ := hB _ hb
        split at h
        · rename_i i v hfd
          split at h
          · rename_i hsame
            obtain rfl := Option.some.inj h
            obtain ⟨q, h1, h2⟩ := findKey_ok (P := P) hG hd hk w hfd hes
            cases q with
            | none => exact h2.elim
            | some q =>
              obtain ⟨j, y⟩ := q
              obtain ⟨rfl, h2⟩ := h2
              unfold sameAt at hsame
              split at hsame
              · rename_i ko vo so hio
                obtain ⟨e0, g1, g2, g3, g4⟩ := hes.get i hio
                have g1 : es'[i]? = some e0 := by simpa using g1
                refine ⟨_, ?_, Step.setMap (es2' := es'.modify i fun e => { e with key := vk, val := vx }) hI hS hb ?_⟩
                · have hkey : ((es'[i]?).map (·.key)).getD vk = e0.key := by rw [g1]; rfl
                  simp only [Instr.mapUpdate, Sem.run_bind, run_und hG hu, Result.andThen_ok, run_getMap hR, hck, h1, hkey, run_keyStays (same_ok hsame g2 hk 9999), run_setMap hR]
                · rw [Array.toList_modify]
                  refine RelE.modify i hes ?_
                  intro k v s e _ _ _ hb
                  simp only [hf]
                  exact ⟨hk, hx, hb⟩
              · cases hsame
          · cases h
        · rename_i hfd
          obtain rfl := Option.some.inj h
          obtain ⟨q, h1, h2⟩ := findKey_ok (P := P) hG hd hk w hfd hes
          cases q with
          | some q => exact h2.elim
          | none =>
            refine ⟨_, ?_, Step.setMap (es2' := es'.push { key := vk, val := vx, born := clock }) hI hS hb ?_⟩
            · simp only [Instr.mapUpdate, Sem.run_bind, run_und hG hu, Result.andThen_ok, run_getMap hR, hck, h1, run_setMap hR]
            · rw [Array.toList_push, hf]
              exact hes.append hk hx rfl
        · cases h
      · cases h
    · cases h
  · cases h

/-- What an operation leaves for its slot. -/
def NextVal (nx : Next) (v : Value) : Prop := nx = .value v ∨ (nx = .skip ∧ v = undef)

set_option maxHeartbeats 1000000 in
theorem actOp_ok (hG : GlobOk G P) (hI : Inv G S H w) (hE : EnvRel S E a) {o : Oper} {r : AV} {H' : Heap} (h : actOp G E H o = some (.val r H')) :
    ∃ nx v w' S', (execOp a.eval o).run P w = .ok nx w' ∧ NextVal nx v ∧ Step G S H w S' H' w' ∧ Rel S' r v := by
  have hun : ∀ S : Map, Rel S (.tuple []) undef := fun S => by rw [Rel]; exact ⟨#[], rfl, RelL.nil⟩
  unfold actOp at h
  split at h
  all_goals try (cases h; done)
  · rename_i t x ho
    split at h
    · rename_i k e m hu hm
      obtain ⟨v, w', S', h1, h2, h3⟩ := rangeA_ok (P := P) hG hI hu (opnd_rel hG hE hm) h
      exact ⟨.value v, v, w', S', by simp [execOp, ho, h1], .inl rfl, h2, h3⟩
    · cases h
  · rename_i it ho
    split at h
    · rename_i p hp
      obtain ⟨v, w', h1, h2, h3⟩ := nextA_ok (P := P) hI (opnd_rel hG hE hp) h o.type
      exact ⟨.value v, v, w', S, by simp [execOp, ho, h1], .inl rfl, h2, h3⟩
    · cases h
  · rename_i it ho
    split at h
    · rename_i p hp
      obtain ⟨v, w', h1, h2, h3⟩ := entryA_ok (P := P) hI (opnd_rel hG hE hp) h
      exact ⟨.value v, v, w', S, by simp [execOp, ho, h1], .inl rfl, h2, h3⟩
    · cases h
  · rename_i t x y ho
    split at h
    · rename_i b v off z hx hy
      simp only [Option.map_eq_some_iff, Act.val.injEq] at h
      obtain ⟨h', hst, rfl, rfl⟩ := h
      have hr := opnd_rel hG hE hx
      have hz := opnd_rel hG hE hy
      rw [Rel] at hr
      obtain ⟨R, T, hS, he⟩ := hr
      unfold storeVarA at hst
      split at hst
      · rename_i n hn
        split at hst
        · rename_i hl
          have hl := Nat.eq_of_beq_eq_true hl
          have hcs : (a.eval y).cells.size = n := by
            have := hz.cells.length; simp at this; omega
          obtain ⟨w', h1, h2⟩ := run_storeRow (P := P) hI hS hz.cells hst
          exact ⟨.skip, undef, w', S, by simp [execOp, ho, he, Instr.storeAt, Instr.sureAddr, storeVar, run_size hG hn, hcs, h1], .inr ⟨rfl, rfl⟩, h2, hun S⟩
        · cases hst
      · cases hst
    · cases h
  · rename_i t m k x ho
    split at h
    · rename_i kt e m' k' x' hu hm hk hx
      simp only [Option.map_eq_some_iff, Act.val.injEq] at h
      obtain ⟨h', hst, rfl, rfl⟩ := h
      obtain ⟨w', h1, h2⟩ := mapUpdate_ok hG hI hu hst (fun _ => rfl) (opnd_rel hG hE hm) (opnd_rel hG hE hk) (opnd_rel hG hE hx)
      exact ⟨.skip, undef, w', S, by simp [execOp, ho, h1], .inr ⟨rfl, rfl⟩, h2, hun S⟩
    · cases h
  · rename_i t m k x ho
    split at h
    · rename_i kt e m' k' x' hu hm hk hx
      simp only [Option.map_eq_some_iff, Act.val.injEq] at h
      obtain ⟨h', hst, rfl, rfl⟩ := h
      obtain ⟨w', h1, h2⟩ := mapUpdate_ok hG hI hu hst (fun _ => rfl) (opnd_rel hG hE hm) (opnd_rel hG hE hk) (opnd_rel hG hE hx)
      exact ⟨.skip, undef, w', S, by simp [execOp, ho, h1], .inr ⟨rfl, rfl⟩, h2, hun S⟩
    · cases h
  · rename_i t m k ho
    split at h
    · rename_i kt e b key hu hm hk
      split at h
      · rename_i z hz
        split at h
        · rename_i hp
          obtain ⟨d, hd⟩ := plainKey_und hp
          have hkr := opnd_rel hG hE hk
          have hmr := opnd_rel hG hE hm
          have hck := checkKey_ok (P := P) hG hp hkr false 9998 w
          rw [Rel] at hmr
          obtain ⟨R, C, hS, he⟩ := hmr
          obtain ⟨zv, hzr, hzrun⟩ := run_zero hG hz
          split at h
          · rename_i es clock hb
            obtain ⟨_, _, hB⟩ := hI.blk _ _ _ _ hS
            obtain ⟨_, es', hR, hes⟩ := hB _ hb
            split at h
            · rename_i i v hfd
              obtain ⟨q, h1, h2⟩ := findKey_ok (P := P) hG hd hkr w hfd hes
              cases q with
              | none => exact h2.elim
              | some q =>
                obtain ⟨j, y⟩ := q
                obtain ⟨rfl, h2⟩ := h2
                split at h
                · rename_i ko vo born hio
                  split at h
                  · cases h
                  · rename_i hsame
                    have hsame : sameA ko key = true := by simpa using hsame
                    simp only [Option.some.injEq, Act.val.injEq] at h
                    obtain ⟨rfl, rfl⟩ := h
                    obtain ⟨e0, g1, g2, g3, g4⟩ := hes.get i hio
                    have g1 : es'[i]? = some e0 := by simpa using g1
                    have hkey : ((es'[i]?).map (·.key)).getD (a.eval k) = e0.key := by rw [g1]; rfl
                    have hborn : ((es'[i]?).map (fun x => (x.born : Int))).getD 0 = (born : Int) := by rw [g1]; simp [g4]
                    refine ⟨.value (.tuple #[y, goInt born]), .tuple #[y, goInt born], _, S, ?_, .inl rfl, Step.setMap (es2' := es'.modify i fun e => { e with key := a.eval k }) hI hS hb ?_, ?_⟩
                    · simp only [execOp, ho, he, Instr.mapEntry, Sem.run_bind, run_und hG hu, Result.andThen_ok, run_getMap hR, hck, h1, hkey, run_keyStays (same_ok hsame g2 hkr 9999), run_setMap hR, hborn, Sem.run_pure]
                    · rw [Array.toList_modify]
                      refine RelE.modify i hes ?_
                      intro k0 v0 s0 e1 _ _ hv hb
                      exact ⟨hkr, hv, hb⟩
                    · rw [Rel]; exact ⟨_, rfl, RelL.cons h2 (RelL.cons (by rw [Rel]; rfl) RelL.nil)⟩
                · cases h
            · rename_i hfd
              obtain ⟨q, h1, h2⟩ := findKey_ok (P := P) hG hd hkr w hfd hes
              cases q with
              | some q => exact h2.elim
              | none =>
                simp only [Option.some.injEq, Act.val.injEq] at h
                obtain ⟨rfl, rfl⟩ := h
                refine ⟨.value (.tuple #[zv, goInt clock]), .tuple #[zv, goInt clock], _, S, ?_, .inl rfl, Step.setMap (es2' := es'.push { key := a.eval k, val := zv, born := clock }) hI hS hb ?_, ?_⟩
                · simp only [execOp, ho, he, Instr.mapEntry, Sem.run_bind, run_und hG hu, Result.andThen_ok, run_getMap hR, hck, h1, hzrun, run_setMap hR, Sem.run_pure]
                · rw [Array.toList_push]
                  exact hes.append hkr (hzr S) rfl
                · rw [Rel]; exact ⟨_, rfl, RelL.cons (hzr S) (RelL.cons (by rw [Rel]; rfl) RelL.nil)⟩
            · cases h
          · cases h
        · cases h
      · cases h
    · cases h
  · rename_i t m st x ho
    split at h
    · rename_i b kk born v hm hst hx
      split at h
      · rename_i es clock hb
        split at h
        · rename_i i hfi
          simp only [Option.some.injEq, Act.val.injEq] at h
          obtain ⟨rfl, rfl⟩ := h
          have hmr := opnd_rel hG hE hm
          have hsr := opnd_rel hG hE hst
          have hxr := opnd_rel hG hE hx
          rw [Rel] at hmr; rw [Rel] at hsr
          obtain ⟨R, C, hS, he⟩ := hmr
          obtain ⟨_, _, hB⟩ := hI.blk _ _ _ _ hS
          obtain ⟨_, es', hR, hes⟩ := hB _ hb
          have hfi' : es'.findIdx? (fun e => (e.born : Int) == (Int.ofNat born)) = some i := by
            have := hes.findIdx born
            rw [hfi] at this
            obtain ⟨l⟩ := es'
            rw [List.findIdx?_toArray]
            exact this
          refine ⟨.skip, undef, _, S, ?_, .inr ⟨rfl, rfl⟩, Step.setMap (es2' := es'.modify i fun e => { e with val := a.eval x }) hI hS hb ?_, hun S⟩
          · simp only [execOp, ho, he, hsr, Instr.entryStore, asInt, asIntOf, Sem.run_bind, Result.andThen_ok, run_getMap hR, hfi', run_setMap hR, Sem.run_pure]
          · rw [Array.toList_modify]
            refine RelE.modify i hes ?_
            intro k0 v0 s0 e1 _ hk _ hb
            exact ⟨hk, hxr, hb⟩
        · cases h
      · cases h
    · cases h
  · rename_i b args ats ho
    split at h
    all_goals try (cases h; done)
    · rename_i s x hl
      split at h
      · rename_i t xt ht hxt
        simp only [Option.map_eq_some_iff] at h
        obtain ⟨⟨r', h'⟩, hap, he⟩ := h
        simp only [Act.val.injEq] at he
        obtain ⟨rfl, rfl⟩ := he
        obtain ⟨v1, l1, e1, hv1, hl1⟩ := (opnds_rel hG hE hl).cons_inv
        obtain ⟨v2, l2, rfl, hv2, hl2⟩ := hl1.cons_inv
        obtain rfl := hl2.nil_inv
        have he : args.map a.eval = #[v1, v2] := by apply Array.ext'; simpa using e1
        obtain ⟨v, w', S', h1, h2, h3⟩ := appendA_ok hG hI hap hv1 hv2 ats ht hxt o.type
        exact ⟨.value v, v, w', S', by simp [execOp, ho, resolve, invoke, builtin, he, h1], .inl rfl, h2, h3⟩
      · cases h
    · rename_i d x hl
      split at h
      · rename_i t ht
        split at h
        · rename_i e hu
          split at h
          · rename_i sz hsz
            split at h
            · cases h
            · rename_i n l hsrc
              obtain ⟨v1, l1, e1, hv1, hl1⟩ := (opnds_rel hG hE hl).cons_inv
              obtain ⟨v2, l2, rfl, hv2, hl2⟩ := hl1.cons_inv
              obtain rfl := hl2.nil_inv
              have he : args.map a.eval = #[v1, v2] := by apply Array.ext'; simpa using e1
              obtain ⟨hlen, _⟩ := source_ok (P := P) hI hsrc hv2
              split at h
              · simp only [Option.some.injEq, Act.val.injEq] at h
                obtain ⟨rfl, rfl⟩ := h
                rw [Rel] at hv1; subst hv1
                obtain ⟨arr, q1, q2⟩ := source_take (P := P) (k := 0) hI hsrc hv2 (Nat.zero_le _)
                refine ⟨.value (goInt 0), goInt 0, w, S, ?_, .inl rfl, Step.refl hI, by rw [Rel]; rfl⟩
                simp [execOp, ho, resolve, invoke, builtin, he, Builtin.copy_, ht, run_und hG hu, run_size hG hsz, hlen, q2]
              · simp only [Option.some.injEq, Act.val.injEq] at h
                obtain ⟨rfl, rfl⟩ := h
                rw [Rel] at hv1; obtain ⟨ad, c, rfl⟩ := hv1
                obtain ⟨arr, q1, q2⟩ := source_take (P := P) (k := 0) hI hsrc hv2 (Nat.zero_le _)
                have harr : arr = [] := by have := q1.length; simpa using this
                subst harr
                refine ⟨.value (goInt 0), goInt 0, w, S, ?_, .inl rfl, Step.refl hI, by rw [Rel]; rfl⟩
                simp [execOp, ho, resolve, invoke, builtin, he, Builtin.copy_, ht, run_und hG hu, run_size hG hsz, hlen, q2, storeCells]
              · rename_i b v o' el len cap
                simp only [Option.map_eq_some_iff, Act.val.injEq] at h
                obtain ⟨h', hst, rfl, rfl⟩ := h
                obtain ⟨R, T, kk, rfl, hS, _⟩ := hv1.slice_inv
                obtain ⟨arr, q1, q2⟩ := source_take (P := P) (k := Nat.min n len) hI hsrc hv2 (Nat.min_le_left _ _)
                obtain ⟨w', h1, h2⟩ := run_storeRow (P := P) hI hS q1 hst
                refine ⟨.value (goInt (Nat.min n len)), goInt (Nat.min n len), w', S, ?_, .inl rfl, h2, by rw [Rel]; rfl⟩
                simp only [execOp, ho, resolve, invoke, builtin, he, Sem.run_bind, Sem.run_pure, Result.andThen_ok, Builtin.copy_, ht]
                simp [run_und hG hu, run_size hG hsz, hlen, q2, h1]
              · cases h
          · cases h
        · cases h
      · cases h
    · rename_i m key hl
      split at h
      · rename_i t ht
        obtain ⟨v1, l1, e1, hv1, hl1⟩ := (opnds_rel hG hE hl).cons_inv
        obtain ⟨v2, l2, rfl, hv2, hl2⟩ := hl1.cons_inv
        obtain rfl := hl2.nil_inv
        have he : args.map a.eval = #[v1, v2] := by apply Array.ext'; simpa using e1
        split at h
        · rename_i kt e hu
          split at h
          · rename_i hp
            simp only [Option.some.injEq, Act.val.injEq] at h
            obtain ⟨rfl, rfl⟩ := h
            rw [Rel] at hv1; subst hv1
            have hck := checkKey_ok (P := P) hG hp hv2 true 9998 w
            refine ⟨.value (.tuple #[]), .tuple #[], w, S, ?_, .inl rfl, Step.refl hI, hun S⟩
            simp [execOp, ho, resolve, invoke, builtin, he, Builtin.delete_, ht, run_und hG hu, hck]
          · cases h
        · rename_i kt e b hu
          split at h
          · rename_i hp
            obtain ⟨d, hd⟩ := plainKey_und hp
            rw [Rel] at hv1
            obtain ⟨R, C, hS, rfl⟩ := hv1
            split at h
            · rename_i es clock hb
              obtain ⟨_, _, hB⟩ := hI.blk _ _ _ _ hS
              obtain ⟨_, es', hR, hes⟩ := hB _ hb
              have hck := checkKey_ok (P := P) hG hp hv2 es'.isEmpty 9998 w
              split at h
              · rename_i i v hfd
                obtain ⟨q, h1, h2⟩ := findKey_ok (P := P) hG hd hv2 w hfd hes
                cases q with
                | none => exact h2.elim
                | some q =>
                  obtain ⟨j, y⟩ := q
                  obtain ⟨rfl, h2⟩ := h2
                  simp only [Option.some.injEq, Act.val.injEq] at h
                  obtain ⟨rfl, rfl⟩ := h
                  refine ⟨.value (.tuple #[]), .tuple #[], _, S, ?_, .inl rfl, Step.setMap (es2' := es'.eraseIdxIfInBounds i) hI hS hb ?_, hun S⟩
                  · simp [execOp, ho, resolve, invoke, builtin, he, Builtin.delete_, ht, run_und hG hu, run_getMap hR, hck, h1, run_setMap hR]
                  · rw [Array.toList_eraseIdxIfInBounds]
                    exact hes.erase i
              · rename_i hfd
                obtain ⟨q, h1, h2⟩ := findKey_ok (P := P) hG hd hv2 w hfd hes
                cases q with
                | some q => exact h2.elim
                | none =>
                  simp only [Option.some.injEq, Act.val.injEq] at h
                  obtain ⟨rfl, rfl⟩ := h
                  refine ⟨.value (.tuple #[]), .tuple #[], w, S, ?_, .inl rfl, Step.refl hI, hun S⟩
                  simp [execOp, ho, resolve, invoke, builtin, he, Builtin.delete_, ht, run_und hG hu, run_getMap hR, hck, h1, run_setMap hR, putRow_self hR]
              · cases h
            · cases h
          · cases h
        · cases h
      · cases h
  · rename_i f args ats ho
    split at h
    · simp at h
    · cases h
end
end Go.Abs
