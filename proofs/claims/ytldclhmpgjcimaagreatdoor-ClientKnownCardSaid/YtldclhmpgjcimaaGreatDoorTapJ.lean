/- The abstract evaluator: maps; operations that read memory. -/
import Derived.Test.YtldclhmpgjcimaaGreatDoorTapI
namespace Go.Abs
open Go
def RelFound (S : Map) : Option (Nat × AV) → Option (Nat × Value) → Prop
  | none, none => True
  | some (i, v), some (j, x) => i = j ∧ Rel S v x
  | _, _ => False
section
variable {G : Glob} {P : Program} (hG : GlobOk G P) {S : Map} {E : Env} {a : Go.Act} {H : Heap} {w : World}

include hG in
theorem checkKey_ok {k : Nat} {key : AV} {vk : Value} (h : plainKey G k key = true) (hr : Rel S key vk) (em : Bool) (n : Nat) (w : World) : (Instr.checkKey em (n + 2) k vk).run P w = .ok () w := by
  unfold plainKey at h
  split at h
  · rename_i hu
    rw [Rel] at hr; subst hr
    simp [Instr.checkKey, run_und hG hu]
  · rename_i hu
    rw [Rel] at hr; obtain ⟨rfl, _⟩ := hr
    simp [Instr.checkKey, run_und hG hu]
  · rename_i hu
    rw [Rel] at hr; subst hr
    simp [Instr.checkKey, run_und hG hu]
  · rename_i len e cs hu
    simp only [Bool.and_eq_true] at h
    obtain ⟨h1, h2⟩ := h
    split at h1
    · rename_i kk he hs
      rw [Rel] at hr
      obtain ⟨l', rfl, hl⟩ := hr
      have hlen : l'.size = len := by
        have := hl.length
        have h2 := Nat.eq_of_beq_eq_true h2
        simp at this; omega
      rw [show n + 2 = (n + 1) + 1 from rfl, Instr.checkKey]
      simp only [Sem.run_bind, run_und hG hu, Result.andThen_ok, Std.Legacy.Range.forIn_eq_forIn_range', Std.Legacy.Range.size, Nat.sub_zero, Nat.add_sub_cancel, Nat.div_one]
      have hin : ∀ i ∈ List.range' 0 len 1, i < l'.size := fun i hi => by rw [hlen]; simpa using (List.mem_range'_1.1 hi).2
      generalize List.range' 0 len 1 = l at hin ⊢
      induction l with
      | nil => simp
      | cons i l ih =>
        have hi := hin i (by simp)
        have hag : agg G e = some false := by simp [agg, he, isAggD]
        have hp : (part e l' (i * 1)).run P w = .ok l'[i] w := by simp [part, run_agg hG hag, hi]
        have hc : (Instr.checkKey em (n + 1) e l'[i]).run P w = .ok () w := by simp [Instr.checkKey, run_und hG he]
        simp only [List.forIn_cons, Sem.run_bind, run_size hG hs, hp, hc, Result.andThen_ok, Sem.run_pure]
        exact ih fun j hj => hin j (by simp [hj])
    · cases h1
  · cases h

theorem sameNow_eq {k : Nat} {d : TypeDesc} {x y : AV} {vx vy : Value} {r q : Bool} {f : Nat} (hu : und G k = some d) (h : eqA G f k x y = some r) (hx : Rel S x vx) (hy : Rel S y vy) (hs : Instr.sameNow d vx vy = some q) : q = r := by
  cases f with
  | zero => simp [eqA] at h
  | succ f =>
  unfold Instr.sameNow at hs
  split at hs
  · rename_i k1 k2 n1 k3 n2
    split at hs
    · rename_i hk; subst hk
      obtain rfl := Option.some.inj hs
      unfold eqA at h
      rw [hu] at h
      split at h
      all_goals try (rename_i e; cases e; done)
      · rename_i e
        rw [Rel] at hx; rw [Rel] at hy
        cases hx; cases hy
        split at h
        · obtain rfl := Option.some.inj h; rw [natEq_eq]
        · cases h
      · cases h
    · cases hs
  · rename_i s1 s2
    obtain rfl := Option.some.inj hs
    unfold eqA at h
    rw [hu] at h
    split at h
    all_goals try (rename_i e; cases e; done)
    · rename_i e
      rw [Rel] at hx; rw [Rel] at hy
      obtain ⟨hx, hxb⟩ := hx
      obtain ⟨hy, hyb⟩ := hy
      cases hx; cases hy
      obtain rfl := Option.some.inj h
      rw [beq_toListBytes, mkStr_toList, mkStr_toList, strEq_eq, Bool.eq_iff_iff]
      simp only [beq_iff_eq]
      exact map_inj hxb hyb
    · cases h
  · rename_i b1 b2
    obtain rfl := Option.some.inj hs
    unfold eqA at h
    rw [hu] at h
    split at h
    all_goals try (rename_i e; cases e; done)
    · rename_i e
      rw [Rel] at hx; rw [Rel] at hy
      cases hx; cases hy
      exact Option.some.inj h
    · cases h
  · cases hs

theorem findNow_eq {k : Nat} {d : TypeDesc} {key : AV} {vk : Value} (hu : und G k = some d) (hk : Rel S key vk) :
    ∀ (es : List (AV × AV × Nat)) (es' : List MapEntry) (i : Nat) (r : Option (Nat × AV)) (q : Option (Nat × Value)), findA G k key es i = some r → RelE S es es' → Instr.findNow d vk es' i = some q → RelFound S r q
  | [], es', i, r, q, h, he, hn => by
    simp only [RelE] at he; subst he
    simp only [findA, Option.some.injEq] at h; subst h
    simp only [Instr.findNow, Option.some.injEq] at hn; subst hn
    trivial
  | (x, v, s) :: es, es', i, r, q, h, he, hn => by
    simp only [RelE] at he
    obtain ⟨e, l', rfl, h1, h2, _, he⟩ := he
    simp only [findA] at h
    simp only [Instr.findNow] at hn
    split at h
    · rename_i hq
      obtain rfl := Option.some.inj h
      split at hn
      · obtain rfl := Option.some.inj hn; exact ⟨rfl, h2⟩
      · rename_i hs; exact absurd (sameNow_eq hu hq hk h1 hs) (by simp)
      · cases hn
    · rename_i hq
      split at hn
      · rename_i hs; exact absurd (sameNow_eq hu hq hk h1 hs) (by simp)
      · exact findNow_eq hu hk es l' (i + 1) r q h he hn
      · cases hn
    · cases h
include hG in
theorem findAsking_ok {k : Nat} {key : AV} {vk : Value} (hk : Rel S key vk) (w : World) :
    ∀ (es : List (AV × AV × Nat)) (es' : List MapEntry) (i : Nat) (r : Option (Nat × AV)), findA G k key es i = some r → RelE S es es' → ∃ q, (Instr.findAsking k vk es' i).run P w = .ok q w ∧ RelFound S r q
  | [], es', i, r, h, he => by
    simp only [RelE] at he; subst he
    simp only [findA, Option.some.injEq] at h; subst h
    exact ⟨none, by simp [Instr.findAsking], trivial⟩
  | (x, v, s) :: es, es', i, r, h, he => by
    simp only [RelE] at he
    obtain ⟨e, l', rfl, h1, h2, _, he⟩ := he
    simp only [findA] at h
    split at h
    · rename_i hq
      obtain rfl := Option.some.inj h
      have := (eq_ok hG eqFuel).1 _ _ _ _ _ _ hq hk h1 Op.maxDepth (by decide) w
      exact ⟨some (i, e.val), by simp [Instr.findAsking, Op.equal, this], rfl, h2⟩
    · rename_i hq
      have := (eq_ok hG eqFuel).1 _ _ _ _ _ _ hq hk h1 Op.maxDepth (by decide) w
      obtain ⟨q, h3, h4⟩ := findAsking_ok hk w es l' (i + 1) r h he
      exact ⟨q, by simp [Instr.findAsking, Op.equal, this, h3], h4⟩
    · cases h
include hG in
theorem findKey_ok {k : Nat} {key : AV} {vk : Value} {d : TypeDesc} (hu : und G k = some d) (hk : Rel S key vk) (w : World) {es : List (AV × AV × Nat)} {es' : List MapEntry} {r : Option (Nat × AV)} (h : findA G k key es 0 = some r) (he : RelE S es es') :
    ∃ q, (Instr.findKey k vk es').run P w = .ok q w ∧ RelFound S r q := by
  unfold Instr.findKey
  cases hn : Instr.findNow d vk es' 0 with
  | some q => exact ⟨q, by simp [run_und hG hu, hn], findNow_eq hu hk _ _ _ _ _ h he hn⟩
  | none =>
    obtain ⟨q, h1, h2⟩ := findAsking_ok hG hk w es es' 0 r h he
    exact ⟨q, by simp [run_und hG hu, hn, h1], h2⟩
theorem plainKey_und {k : Nat} {key : AV} (h : plainKey G k key = true) : ∃ d, und G k = some d := by
  unfold plainKey at h
  split at h
  all_goals first
    | (rename_i hu; exact ⟨_, hu⟩)
    | cases h
theorem run_getMap {R : Nat} {es : Array MapEntry} {c : Nat} (h : w.heap[R]? = some (.map es c)) : (getObj R).run P w = .ok (.map es c) w := by
  simp [getObj, Sem.run, h]

theorem RelE.length : ∀ {es : List (AV × AV × Nat)} {es' : List MapEntry}, RelE S es es' → es'.length = es.length
  | [], _, h => by simp only [RelE] at h; simp [h]
  | (_, _, _) :: _, _, h => by
    simp only [RelE] at h
    obtain ⟨_, _, rfl, _, _, _, h⟩ := h
    simp [h.length]

include hG in
theorem lookupA_ok (hI : Inv G S H w) {t : Nat} {m key r : AV} {ok : Bool} {vm vk : Value} (h : lookupA G H t m key ok = some r) (hm : Rel S m vm) (hk : Rel S key vk) :
    ∃ v, Rel S r v ∧ (Instr.lookup t vm vk ok).run P w = .ok v w := by
  unfold lookupA at h
  split at h
  · rename_i k e hu
    split at h
    · rename_i hp
      obtain ⟨d, hd⟩ := plainKey_und hp
      have hck := fun b => checkKey_ok (P := P) hG hp hk b 9998 w
      have fin : ∀ (es : List (AV × AV × Nat)) (es' : Array MapEntry) (c : Nat), RelE S es es'.toList → (vm = .map none ∧ es' = #[] ∨ ∃ R, vm = .map (some R) ∧ w.heap[R]? = some (.map es' c)) →
          (match findA G k key es 0, zeroV G e with
            | some (some (_, v)), _ => some (if ok then .tuple [v, .bool true] else v)
            | some none, some z => some (if ok then .tuple [z, .bool false] else z)
            | _, _ => none) = some r → ∃ v, Rel S r v ∧ (Instr.lookup t vm vk ok).run P w = .ok v w := by
        intro es es' c hes hvm h
        split at h
        · rename_i i v hf
          obtain rfl := Option.some.inj h
          obtain ⟨q, h1, h2⟩ := findKey_ok (P := P) hG hd hk w hf hes
          cases q with
          | none => exact h2.elim
          | some q =>
            obtain ⟨j, x⟩ := q
            obtain ⟨rfl, h2⟩ := h2
            refine ⟨if ok then .tuple #[x, .bool true] else x, ?_, ?_⟩
            · cases ok
              · exact h2
              · rw [if_pos rfl, if_pos rfl, Rel]; exact ⟨_, rfl, RelL.cons h2 (RelL.cons (by rw [Rel]) RelL.nil)⟩
            · rcases hvm with ⟨rfl, rfl⟩ | ⟨R, rfl, hR⟩
              · simp [Instr.lookup, run_und hG hu, hck, h1]
              · simp [Instr.lookup, run_und hG hu, hck, h1, run_getMap hR]
        · rename_i z hf hz
          obtain rfl := Option.some.inj h
          obtain ⟨q, h1, h2⟩ := findKey_ok (P := P) hG hd hk w hf hes
          cases q with
          | some q => exact h2.elim
          | none =>
            obtain ⟨zv, hzr, hzrun⟩ := run_zero hG hz
            refine ⟨if ok then .tuple #[zv, .bool false] else zv, ?_, ?_⟩
            · cases ok
              · exact hzr S
              · rw [if_pos rfl, if_pos rfl, Rel]; exact ⟨_, rfl, RelL.cons (hzr S) (RelL.cons (by rw [Rel]) RelL.nil)⟩
            · rcases hvm with ⟨rfl, rfl⟩ | ⟨R, rfl, hR⟩
              · simp [Instr.lookup, run_und hG hu, hck, h1, hzrun]
              · simp [Instr.lookup, run_und hG hu, hck, h1, run_getMap hR, hzrun]
        · cases h
      cases m with
      | nilMap =>
        rw [Rel] at hm; subst hm
        exact fin [] #[] 0 (by simp [RelE]) (.inl ⟨rfl, rfl⟩) h
      | map b =>
        rw [Rel] at hm
        obtain ⟨R, T, hS, rfl⟩ := hm
        simp only at h
        cases hb : H.t.get b with
        | none => rw [hb] at h; simp at h
        | some x =>
          rw [hb] at h
          cases x with
          | map es c =>
            obtain ⟨_, _, hB⟩ := hI.blk _ _ _ _ hS
            obtain ⟨_, es', hR, hes⟩ := hB _ hb
            exact fin es es' c hes (.inr ⟨R, rfl, hR⟩) h
          | _ => simp at h
      | _ => simp at h
    · cases h
  · cases h

def byteV (c : Nat) : Value := .int .u8 (Int.ofNat c)
theorem bytesOf_ok : ∀ (l : List AV) (bs : List Nat) (arr : List Value), bytesOf l = some bs → RelL S l arr →
    (∀ c ∈ bs, c < 256) ∧ arr = bs.map byteV
  | [], bs, arr, h, hr => by
    obtain rfl := hr.nil_inv
    simp only [bytesOf, Option.some.injEq] at h; subst h; simp
  | x :: l, bs, arr, h, hr => by
    obtain ⟨v, l', rfl, hv, hr'⟩ := hr.cons_inv
    unfold bytesOf at h
    split at h
    · rename_i e; cases e
    · rename_i n r e
      simp only [List.cons.injEq] at e
      obtain ⟨rfl, rfl⟩ := e
      split at h
      · rename_i hn
        simp only [Option.map_eq_some_iff] at h
        obtain ⟨bs', h, rfl⟩ := h
        obtain ⟨h1, rfl⟩ := bytesOf_ok _ _ _ h hr'
        rw [Rel] at hv; subst hv
        refine ⟨?_, by simp [byteV]⟩
        intro c hc
        rcases List.mem_cons.1 hc with rfl | hc
        · simpa using hn
        · exact h1 c hc
      · cases h
    · cases h
theorem mkStr_append (a b : List Nat) : mkStr a ++ mkStr b = mkStr (a ++ b) := by
  apply ByteArray.ext
  simp [mkStr, ByteArray.data_append]
theorem mkStr_push (a : List Nat) (c : Nat) : (mkStr a).push (UInt8.ofNat c) = mkStr (a ++ [c]) := by
  apply ByteArray.ext
  apply Array.ext'
  simp [mkStr, ByteArray.data_push]
theorem run_bytesToString {R o n : Nat} {k : Nat} {bs : List Nat} (h : (loadCells ⟨R, o, none⟩ n).run P w = .ok (bs.map byteV).toArray w) :
    (Conv.bytesToString (.slice (some ⟨R, o, none⟩) n k)).run P w = .ok (.string (mkStr bs)) w := by
  simp only [Conv.bytesToString, Sem.run_bind, h, Result.andThen_ok]
  have key : ∀ (F : Value → ByteArray → Sem (ForInStep ByteArray)), (∀ n s, F (.int .u8 n) s = pure (.yield (s.push (UInt8.ofNat n.toNat)))) →
      ∀ (l acc : List Nat), (forIn (l.map byteV).toArray (mkStr acc) F).run P w = .ok (mkStr (acc ++ l)) w := by
    intro F hF l
    induction l with
    | nil => intro acc; rw [← Array.forIn_toList]; simp
    | cons c l ih =>
      intro acc
      have := ih (acc ++ [c])
      rw [← Array.forIn_toList] at this ⊢
      simp only [List.map_cons, List.forIn_cons, Sem.run_bind]
      rw [show byteV c = .int .u8 (Int.ofNat c) from rfl, hF]
      rw [← mkStr_push] at this
      simpa using this
  have e0 : ByteArray.empty = mkStr [] := rfl
  rw [e0, key _ (fun _ _ => rfl) bs []]
  rfl

set_option maxHeartbeats 1000000 in
theorem readOp_ok (hG : GlobOk G P) (hI : Inv G S H w) (hE : EnvRel S E a) {o : Oper} {r : AV} (h : readOp G E H o = some r) :
    ∃ v, Rel S r v ∧ (execOp a.eval o).run P w = .ok (.value v) w := by
  unfold readOp at h
  split at h
  all_goals try (cases h; done)
  · rename_i t x ho
    split at h
    · rename_i b v off hx
      have hr := opnd_rel hG hE hx
      rw [Rel] at hr
      obtain ⟨R, T, hS, he⟩ := hr
      obtain ⟨y, h1, h2⟩ := run_loadVar (P := P) hG hI hS h
      exact ⟨y, h1, by simp [execOp, ho, he, Instr.loadAt, Instr.sureAddr, h2]⟩
    · cases h
  · rename_i t x ix ok ho
    split at h
    · rename_i m k hm hk
      obtain ⟨v, h1, h2⟩ := lookupA_ok hG hI h (opnd_rel hG hE hm) (opnd_rel hG hE hk)
      exact ⟨v, h1, by simp [execOp, ho, h2]⟩
    · cases h
  · rename_i src dst x ho
    split at h
    · rename_i e y hs hd hx
      have hr := opnd_rel hG hE hx
      split at h
      · rename_i he
        split at h
        all_goals try (cases h; done)
        · obtain rfl := Option.some.inj h
          rw [Rel] at hr
          exact ⟨.string (mkStr []), by rw [Rel]; exact ⟨rfl, by simp⟩, by simp [execOp, ho, hr, convert, run_und hG hs, run_und hG hd, run_und hG he, Conv.bytesToString]; rfl⟩
        · obtain rfl := Option.some.inj h
          rw [Rel] at hr
          obtain ⟨ad, c, hr⟩ := hr
          exact ⟨.string (mkStr []), by rw [Rel]; exact ⟨rfl, by simp⟩, by simp [execOp, ho, hr, convert, run_und hG hs, run_und hG hd, run_und hG he, Conv.bytesToString, loadCells, loadCellsFrom]; rfl⟩
        · rename_i b v off el n c
          split at h
          · rename_i l hl
            simp only [Option.map_eq_some_iff] at h
            obtain ⟨bs, hbs, rfl⟩ := h
            obtain ⟨R, T, k, he', hS, _⟩ := hr.slice_inv
            obtain ⟨arr, h1, _, h3, h4⟩ := run_loadRow (P := P) hI hS hl
            obtain ⟨hb, rfl⟩ := bytesOf_ok _ _ _ hbs h1
            refine ⟨.string (mkStr bs), by rw [Rel]; exact ⟨rfl, hb⟩, ?_⟩
            simp [execOp, ho, he', convert, run_und hG hs, run_und hG hd, run_und hG he, run_bytesToString h4]
          · cases h
      · cases h
    · cases h
  · rename_i args ats ho
    split at h
    · rename_i b t hx ht
      split at h
      · rename_i k e es c hu hb
        obtain rfl := Option.some.inj h
        obtain ⟨v, l', he, hv, hl⟩ := (opnds_rel hG hE hx).cons_inv
        obtain rfl := hl.nil_inv
        have he : args.map a.eval = #[v] := by apply Array.ext'; simpa using he
        rw [Rel] at hv
        obtain ⟨R, T, hS, rfl⟩ := hv
        obtain ⟨_, _, hB⟩ := hI.blk _ _ _ _ hS
        obtain ⟨_, es', hR, hes⟩ := hB _ hb
        refine ⟨goInt es'.size, ?_, by simp [execOp, ho, resolve, invoke, builtin, he, Builtin.len_, ht, run_und hG hu, run_getMap hR]⟩
        have := hes.length
        rw [Rel]
        simp only [Array.length_toList] at this
        rw [this]; rfl
      · cases h
    · cases h
end
end Go.Abs
