/- The abstract evaluator: all operations that touch no memory. -/
import Derived.Test.YtldclhmpgjcimaaGreatDoorTapH
namespace Go.Abs
open Go
section
variable {G : Glob} {P : Program} (hG : GlobOk G P) {S : Map} {E : Env} {a : Go.Act}

theorem eqGuard_other {op : BinOp} (h : (match op with | .eql | .neq => false | _ => true) = true) (t : TypeId) (x y : Operand) (va vb : Value) (w : World) :
    (eqGuard op t x y va vb).run P w = .ok () w := by
  cases op <;> first | rfl | (cases h; done)

include hG in
theorem parts_rel (hE : EnvRel S E a) : ∀ {l : List (Nat × Operand)} {ps : List (Nat × AV)}, partsA G E l = some ps → RelP S ps (l.map fun p => (p.1, a.eval p.2))
  | [], ps, h => by simp [partsA] at h; subst h; simp [RelP]
  | (i, x) :: l, ps, h => by
    unfold partsA at h
    split at h
    · rename_i b q hb hq
      obtain rfl := Option.some.inj h
      exact ⟨_, _, rfl, opnd_rel hG hE hb, parts_rel hE hq⟩
    · cases h
include hG in
theorem fieldPlaces_ok : ∀ {fs : List Field} {pl : List (Nat × Nat)}, fieldPlaces G fs = some pl → ∀ w, (fs.mapM fun (f : Field) => (do pure (f.offset, ← sizeOf f.type) : Sem (Nat × Nat))).run P w = .ok pl w
  | [], pl, h, w => by simp [fieldPlaces] at h; subst h; simp
  | f :: fs, pl, h, w => by
    unfold fieldPlaces at h
    split at h
    · rename_i n l hn hl
      obtain rfl := Option.some.inj h
      have := fieldPlaces_ok hl w
      simp only [List.mapM_cons, Sem.run_bind, run_size hG hn, Result.andThen_ok, this, Sem.run_pure]
    · cases h

theorem min2_ok {x y r : AV} {vx vy : Value} (h : min2A x y = some r) (hx : Rel S x vx) (hy : Rel S y vy) : ∃ v, Rel S r v ∧ ∀ w, (Builtin.min2 vx vy).run P w = .ok v w := by
  unfold min2A at h
  split at h
  · obtain rfl := Option.some.inj h
    rw [Rel] at hx; rw [Rel] at hy; subst hx; subst hy
    exact ⟨_, by rw [Rel, natLt_eq], fun w => by simp [Builtin.min2]⟩
  · cases h
theorem max2_ok {x y r : AV} {vx vy : Value} (h : max2A x y = some r) (hx : Rel S x vx) (hy : Rel S y vy) : ∃ v, Rel S r v ∧ ∀ w, (Builtin.max2 vx vy).run P w = .ok v w := by
  unfold max2A at h
  split at h
  · obtain rfl := Option.some.inj h
    rw [Rel] at hx; rw [Rel] at hy; subst hx; subst hy
    exact ⟨_, by rw [Rel, natLt_eq], fun w => by simp [Builtin.max2]⟩
  · cases h
theorem foldA_ok {f : AV → AV → Option AV} {g : Value → Value → Sem Value} (hf : ∀ x y r vx vy, f x y = some r → Rel S x vx → Rel S y vy → ∃ v, Rel S r v ∧ ∀ w, (g vx vy).run P w = .ok v w) :
    ∀ (l : List AV) (x r : AV) (vx : Value) (vl : List Value), foldA f x l = some r → Rel S x vx → RelL S l vl → ∃ v, Rel S r v ∧ ∀ w, (vl.foldlM g vx).run P w = .ok v w
  | [], x, r, vx, vl, h, hx, hl => by
    obtain rfl := hl.nil_inv
    simp only [foldA, Option.some.injEq] at h; subst h
    exact ⟨vx, hx, fun w => by simp⟩
  | b :: l, x, r, vx, vl, h, hx, hl => by
    obtain ⟨vb, vl', rfl, hb, hl⟩ := hl.cons_inv
    simp only [foldA] at h
    split at h
    · cases h
    · rename_i c hc
      obtain ⟨vc, h1, h2⟩ := hf _ _ _ _ _ hc hx hb
      obtain ⟨v, h3, h4⟩ := foldA_ok hf l c r vc vl' h h1 hl
      exact ⟨v, h3, fun w => by simp [List.foldlM_cons, h2, h4]⟩

include hG in
theorem lenA_ok {t : Nat} {x r : AV} {v : Value} (h : lenA G t x = some r) (hx : Rel S x v) (ts : Array TypeId) (hts : ts[0]? = some t) (ty : TypeId) :
    ∃ y, Rel S r y ∧ ∀ w, (Builtin.len_ ts ty #[v]).run P w = .ok y w := by
  unfold lenA at h
  split at h
  all_goals try (cases h; done)
  · rename_i s hu
    obtain rfl := Option.some.inj h
    rw [Rel] at hx; obtain ⟨rfl, _⟩ := hx
    have hsz : (mkStr s).size = s.length := by simp [mkStr, ByteArray.size]
    exact ⟨goInt s.length, by rw [Rel]; rfl, fun w => by simp [Builtin.len_, hts, run_und hG hu, hsz]⟩
  · rename_i n e hu
    obtain rfl := Option.some.inj h
    exact ⟨goInt n, by rw [Rel]; rfl, fun w => by simp [Builtin.len_, hts, run_und hG hu]⟩
  · rename_i e hu
    split at h
    · rename_i n e2 hn
      obtain rfl := Option.some.inj h
      refine ⟨goInt n, by rw [Rel]; rfl, fun w => by simp [Builtin.len_, hts, run_und hG hu, run_und hG hn]⟩
    · cases h
  · rename_i e b v o e' n c hu
    obtain rfl := Option.some.inj h
    obtain ⟨R, T, k, rfl, _⟩ := hx.slice_inv
    exact ⟨goInt n, by rw [Rel]; rfl, fun w => by simp [Builtin.len_, hts, run_und hG hu]⟩
  · rename_i e hu
    obtain rfl := Option.some.inj h
    rw [Rel] at hx; subst hx
    exact ⟨goInt 0, by rw [Rel]; rfl, fun w => by simp [Builtin.len_, hts, run_und hG hu]⟩
  · rename_i e hu
    obtain rfl := Option.some.inj h
    rw [Rel] at hx; obtain ⟨_, _, rfl⟩ := hx
    exact ⟨goInt 0, by rw [Rel]; rfl, fun w => by simp [Builtin.len_, hts, run_und hG hu]⟩
  · rename_i k e hu
    obtain rfl := Option.some.inj h
    rw [Rel] at hx; subst hx
    exact ⟨goInt 0, by rw [Rel]; rfl, fun w => by simp [Builtin.len_, hts, run_und hG hu]⟩
include hG in
theorem capA_ok {t : Nat} {x r : AV} {v : Value} (h : capA G t x = some r) (hx : Rel S x v) (ts : Array TypeId) (hts : ts[0]? = some t) (ty : TypeId) :
    ∃ y, Rel S r y ∧ ∀ w, (Builtin.cap_ ts ty #[v]).run P w = .ok y w := by
  unfold capA at h
  split at h
  all_goals try (cases h; done)
  · rename_i e b v o e' n c hu
    obtain rfl := Option.some.inj h
    rw [Rel] at hx
    obtain ⟨R, T, _, rfl, _⟩ := hx
    exact ⟨goInt c, by rw [Rel]; rfl, fun w => by simp [Builtin.cap_, hts, run_und hG hu]⟩
  · rename_i e hu
    obtain rfl := Option.some.inj h
    rw [Rel] at hx; subst hx
    exact ⟨goInt 0, by rw [Rel]; rfl, fun w => by simp [Builtin.cap_, hts, run_und hG hu]⟩

theorem idx_ok {x : AV} {n i : Nat} {v : Value} (h : idx x n = some i) (hx : Rel S x v) : i < n ∧ ∃ k, v = .int k (i : Int) := by
  unfold idx at h
  split at h
  · split at h
    · rename_i hlt
      obtain rfl := Option.some.inj h
      rw [Rel] at hx
      exact ⟨by simpa using hlt, _, hx⟩
    · cases h
  · cases h

theorem optOpnd_rel (hG : GlobOk G P) (hE : EnvRel S E a) {x : Option Operand} {y : Option AV} (h : optOpnd G E x = some y) : RelO S y (x.map a.eval) := by
  cases x with
  | none => simp [optOpnd] at h; subst h; trivial
  | some x =>
    simp only [optOpnd, Option.map_eq_some_iff] at h
    obtain ⟨z, hz, rfl⟩ := h
    exact opnd_rel hG hE hz

set_option maxHeartbeats 1000000 in
theorem pureOp_ok (hG : GlobOk G P) (hE : EnvRel S E a) {o : Oper} {r : AV} (h : pureOp G E o = some r) :
    ∃ v, Rel S r v ∧ ∀ w, (execOp a.eval o).run P w = .ok (.value v) w := by
  unfold pureOp at h
  split at h
  all_goals try (cases h; done)
  · rename_i x ho
    exact ⟨_, opnd_rel hG hE h, fun w => by simp [execOp, ho]⟩
  · rename_i x ho
    exact ⟨_, opnd_rel hG hE h, fun w => by simp [execOp, ho]⟩
  · rename_i c x y ho
    split at h
    · rename_i hc
      have := opnd_rel hG hE hc
      rw [Rel] at this
      exact ⟨_, opnd_rel hG hE h, fun w => by simp [execOp, ho, this, asBool]⟩
    · rename_i hc
      have := opnd_rel hG hE hc
      rw [Rel] at this
      exact ⟨_, opnd_rel hG hE h, fun w => by simp [execOp, ho, this, asBool]⟩
    · cases h
  · rename_i x ho
    split at h
    all_goals try (cases h; done)
    · rename_i b v o' hx
      obtain rfl := Option.some.inj h
      have hr := opnd_rel hG hE hx
      refine ⟨_, hr, fun w => ?_⟩
      rw [Rel] at hr
      obtain ⟨R, T, _, he⟩ := hr
      simp [execOp, ho, he]
    · rename_i t v hx
      obtain rfl := Option.some.inj h
      have hr := opnd_rel hG hE hx
      refine ⟨_, hr, fun w => ?_⟩
      rw [Rel] at hr
      obtain ⟨y, he, _⟩ := hr
      simp [execOp, ho, he]
    · rename_i f first cap hx
      obtain rfl := Option.some.inj h
      have hr := opnd_rel hG hE hx
      refine ⟨_, hr, fun w => ?_⟩
      rw [Rel] at hr
      obtain ⟨f', c', he, _⟩ := hr
      simp [execOp, ho, he]
  · rename_i t parts ho
    split at h
    · rename_i z fs ps hz hu hps
      obtain ⟨zv, hzr, hzrun⟩ := run_zero hG hz
      have hzr := hzr S
      rw [Rel] at hzr
      obtain ⟨zc, rfl, hzc⟩ := hzr
      split at h
      · rename_i pl hpl
        simp only [Option.map_eq_some_iff] at h
        obtain ⟨cs, hcs, rfl⟩ := h
        have hmap := fun w => fieldPlaces_ok (P := P) hG hpl w
        obtain ⟨arr, h1, h2⟩ := fillA_ok (S := S) (place' := (pl.toArray[·]?)) (by intro i y hy; simpa using hy) ps _ z cs zc hcs (parts_rel hG hE hps) hzc
        refine ⟨.agg arr, by rw [Rel]; exact ⟨_, rfl, h2⟩, fun w => ?_⟩
        have hm : (fs.mapM fun (f : Field) => (do pure (f.offset, ← sizeOf f.type) : Sem (Nat × Nat))).run P w = .ok pl.toArray w := by
          rw [Array.mapM_eq_mapM_toList, Sem.run_map, hmap]; rfl
        have h1' : Instr.fill (fun x => pl.toArray[x]?) zc ((parts.map fun (i, x) => (i, a.eval x)).toList) = some arr := by simpa using h1
        simp only [execOp, ho, Instr.build, Sem.run_bind, hzrun, run_und hG hu, Result.andThen_ok, Value.cells, hm, h1', Sem.run_pure]
      · cases h
    · rename_i z n e ps hz hu hps
      obtain ⟨zv, hzr, hzrun⟩ := run_zero hG hz
      have hzr := hzr S
      rw [Rel] at hzr
      obtain ⟨zc, rfl, hzc⟩ := hzr
      split at h
      · rename_i sz hsz
        simp only [Option.map_eq_some_iff] at h
        obtain ⟨cs, hcs, rfl⟩ := h
        obtain ⟨arr, h1, h2⟩ := fillA_ok (S := S) (place' := fun i => some (i * sz, sz)) (by intro i y hy; exact hy) ps _ z cs zc hcs (parts_rel hG hE hps) hzc
        refine ⟨.agg arr, by rw [Rel]; exact ⟨_, rfl, h2⟩, fun w => ?_⟩
        have h1' : Instr.fill (fun i => some (i * sz, sz)) zc ((parts.map fun (i, x) => (i, a.eval x)).toList) = some arr := by simpa using h1
        simp only [execOp, ho, Instr.build, Sem.run_bind, hzrun, run_und hG hu, Result.andThen_ok, Value.cells, run_size hG hsz, h1', Sem.run_pure]
      · cases h
    · cases h
  · rename_i op t x y yt ho
    split at h
    · rename_i u v hu hv
      split at h
      · rename_i hg
        obtain ⟨r', h1, h2⟩ := binOpA_ok hG h (opnd_rel hG hE hu) (opnd_rel hG hE hv)
        refine ⟨r', h1, fun w => ?_⟩
        have hgd : (eqGuard op t x y (a.eval x) (a.eval y)).run P w = .ok () w := by
          cases op <;> first
            | exact eqGuard_ok hG hg (opnd_rel hG hE hu) (opnd_rel hG hE hv) w
            | exact eqGuard_other rfl _ _ _ _ _ w
        simp [execOp, ho, hgd, h2]
      · cases h
    · cases h
  · rename_i op t x ho
    split at h
    all_goals try (cases h; done)
    · rename_i b hx
      obtain rfl := Option.some.inj h
      have hr := opnd_rel hG hE hx
      rw [Rel] at hr
      exact ⟨.bool (!b), by rw [Rel], fun w => by simp [execOp, ho, hr, Op.unary]⟩
    · rename_i k n hx
      obtain rfl := Option.some.inj h
      have hr := opnd_rel hG hE hx
      rw [Rel] at hr
      exact ⟨.int k (k.wrap (0 - n)), by rw [Rel, wrapF_eq], fun w => by simp [execOp, ho, hr, Op.unary, Op.intArith]⟩
    · rename_i k n hx
      split at h
      · cases h
      · rename_i hsg
        simp only [Option.map_eq_some_iff] at h
        obtain ⟨q, hq, rfl⟩ := h
        have hr := opnd_rel hG hE hx
        rw [Rel] at hr
        refine ⟨.int k q, by rw [Rel], fun w => ?_⟩
        have hm : (if k.signed then (-1 : Int) else k.max) = Int.ofNat (lim k - 1) := by
          cases k <;> first | (exact absurd rfl hsg) | decide
        have := bitsF_eq (P := P) (w := w) hq
        simp only [execOp, ho, hr, Op.unary, hm, this, Sem.run_bind, Result.andThen_ok, Sem.run_pure]
  · rename_i src dst x ho
    split at h
    all_goals try (cases h; done)
    · rename_i k1 k k2 n hs hd hx
      obtain rfl := Option.some.inj h
      have hr := opnd_rel hG hE hx
      rw [Rel] at hr
      refine ⟨.int k (k.wrap n), by rw [Rel, wrapF_eq], fun w => ?_⟩
      simp [execOp, ho, hr, convert, run_und hG hs, run_und hG hd, Conv.intToInt]
    · rename_i s hs hd hx
      obtain rfl := Option.some.inj h
      have hr := opnd_rel hG hE hx
      refine ⟨_, hr, fun w => ?_⟩
      rw [Rel] at hr
      simp [execOp, ho, hr.1, convert, run_und hG hs, run_und hG hd]
  · rename_i t x ho
    split at h
    · cases h
    · rename_i d z hne hd hz
      obtain rfl := Option.some.inj h
      refine ⟨.iface t (a.eval x), by rw [Rel]; exact ⟨_, rfl, opnd_rel hG hE hz⟩, fun w => ?_⟩
      cases d <;> first
        | (exact absurd rfl (hne _))
        | simp [execOp, ho, Instr.makeInterface, run_und hG hd]
    · cases h
  · rename_i fn first cap ho
    split at h
    · rename_i f c hf hc
      obtain rfl := Option.some.inj h
      refine ⟨.func fn (first.map a.eval) (cap.map a.eval), ?_, fun w => by simp [execOp, ho, Instr.makeFunc]⟩
      rw [Rel]
      exact ⟨_, _, rfl, by simpa using opnds_rel hG hE hf, by simpa using opnds_rel hG hE hc⟩
    · cases h
  · rename_i t x lo hi mx ho
    split at h
    · rename_i u l h' m hx hl hh hm
      obtain ⟨v, h1, h2⟩ := sliceA_ok hG h (opnd_rel hG hE hx) (optOpnd_rel hG hE hl) (optOpnd_rel hG hE hh) (optOpnd_rel hG hE hm)
      exact ⟨v, h1, fun w => by simp [execOp, ho, h2]⟩
    · cases h
  · rename_i s x f ho
    split at h
    · rename_i fs b v o' hu hx
      split at h
      · rename_i fd hfd
        split at h
        · rename_i n hn
          obtain rfl := Option.some.inj h
          have hr := opnd_rel hG hE hx
          rw [Rel] at hr
          obtain ⟨R, T, hS, he⟩ := hr
          refine ⟨.pointer (some ⟨R, o' + fd.offset, none⟩), by rw [Rel]; exact ⟨R, T, hS, rfl⟩, fun w => ?_⟩
          simp [execOp, ho, he, Instr.fieldAt, run_und hG hu, hfd, Instr.sureAddr, fieldPlace, run_size hG hn, addr_add]
        · cases h
      · cases h
    · cases h
  · rename_i t x f ho
    split at h
    · rename_i fs cs hu hx
      split at h
      · rename_i fd hfd
        have hr := opnd_rel hG hE hx
        rw [Rel] at hr
        obtain ⟨l', he, hl⟩ := hr
        obtain ⟨v, h1, h2⟩ := part_ok hG h hl
        exact ⟨v, h1, fun w => by simp [execOp, ho, he, Instr.field, run_und hG hu, hfd, asAgg, h2]⟩
      · cases h
    · cases h
  · rename_i t x ix ho
    split at h
    · rename_i len e b v o' i hu hx hi
      split at h
      · rename_i j sz hj hsz
        obtain rfl := Option.some.inj h
        have hr := opnd_rel hG hE hx
        rw [Rel] at hr
        obtain ⟨R, T, hS, he⟩ := hr
        obtain ⟨hlt, k, hv⟩ := idx_ok hj (opnd_rel hG hE hi)
        refine ⟨.pointer (some ⟨R, o' + j * sz, none⟩), by rw [Rel]; exact ⟨R, T, hS, rfl⟩, fun w => ?_⟩
        have h1 : (0 : Int) ≤ (j : Int) ∧ (j : Int) < (len : Int) := by omega
        simp [execOp, ho, he, hv, Instr.indexAt, asIntOf, run_und hG hu, Instr.sureAddr, run_size hG hsz, addr_add, hlt]
      · cases h
    · rename_i e b v o' e' len c i hu hx hi
      split at h
      · rename_i j sz hj hsz
        obtain rfl := Option.some.inj h
        obtain ⟨R, T, k', he, hS, _⟩ := (opnd_rel hG hE hx).slice_inv
        obtain ⟨hlt, k, hv⟩ := idx_ok hj (opnd_rel hG hE hi)
        refine ⟨.pointer (some ⟨R, o' + j * sz, none⟩), by rw [Rel]; exact ⟨R, T, hS, rfl⟩, fun w => ?_⟩
        simp [execOp, ho, he, hv, Instr.indexAt, asIntOf, run_und hG hu, run_size hG hsz, addr_add, hlt]
      · cases h
    · cases h
  · rename_i t x ix ho
    split at h
    · rename_i len e cs i hu hx hi
      split at h
      · rename_i j sz hj hsz
        have hr := opnd_rel hG hE hx
        rw [Rel] at hr
        obtain ⟨l', he, hl⟩ := hr
        obtain ⟨hlt, k, hv⟩ := idx_ok hj (opnd_rel hG hE hi)
        obtain ⟨v, h1, h2⟩ := part_ok hG h hl
        refine ⟨v, h1, fun w => ?_⟩
        simp [execOp, ho, he, hv, Instr.index, asIntOf, run_und hG hu, run_size hG hsz, hlt, h2]
      · cases h
    · rename_i s k i hu hx hi
      simp only [Option.map_eq_some_iff] at h
      obtain ⟨c, hc, rfl⟩ := h
      have hr := opnd_rel hG hE hx
      rw [Rel] at hr
      obtain ⟨he, hb⟩ := hr
      have hv := opnd_rel hG hE hi
      rw [Rel] at hv
      have hlt := hb c (List.mem_of_getElem? hc)
      refine ⟨.int .u8 (c : Int), by rw [Rel]; rfl, fun w => ?_⟩
      have hget : (mkStr s)[i]? = some (UInt8.ofNat c) := by
        obtain ⟨hi', hc'⟩ := List.getElem?_eq_some_iff.1 hc
        have hsz : (mkStr s).size = s.length := by simp [mkStr, ByteArray.size]
        have hi2 : i < (mkStr s).size := by rw [hsz]; exact hi'
        rw [getElem?_pos (mkStr s) i hi2]
        congr 1
        have : (mkStr s)[i] = (mkStr s).data[i]'hi2 := rfl
        rw [this]
        simp [mkStr, hc']
      have h0 : (0 : Int) ≤ Int.ofNat i := by simp
      simp only [execOp, ho, he, hv, Instr.index, asIntOf, run_und hG hu, Sem.run_bind, Sem.run_pure, Result.andThen_ok, if_pos h0]
      have h3 : (Int.ofNat i).toNat = i := rfl
      simp only [h3, hget, Sem.run_pure, Result.andThen_ok]
      congr 3
      simp
      omega
    · cases h
  · rename_i x i ho
    split at h
    · rename_i l hx
      have hr := opnd_rel hG hE hx
      rw [Rel] at hr
      obtain ⟨l', he, hl⟩ := hr
      obtain ⟨v, h1, h2⟩ := hl.get i h
      have h1 : l'[i]? = some v := by simpa using h1
      exact ⟨v, h2, fun w => by simp [execOp, ho, he, Instr.extract, h1]⟩
    · cases h
  · rename_i b args ats ho
    split at h
    all_goals try (cases h; done)
    · rename_i x hx
      split at h
      · rename_i t ht
        obtain ⟨v, l', he, hv, hl⟩ := (opnds_rel hG hE hx).cons_inv
        obtain rfl := hl.nil_inv
        have he : args.map a.eval = #[v] := by apply Array.ext'; simpa using he
        obtain ⟨y, h1, h2⟩ := lenA_ok hG h hv ats ht o.type
        exact ⟨y, h1, fun w => by simp [execOp, ho, resolve, invoke, builtin, he, h2]⟩
      · cases h
    · rename_i x hx
      split at h
      · rename_i t ht
        obtain ⟨v, l', he, hv, hl⟩ := (opnds_rel hG hE hx).cons_inv
        obtain rfl := hl.nil_inv
        have he : args.map a.eval = #[v] := by apply Array.ext'; simpa using he
        obtain ⟨y, h1, h2⟩ := capA_ok hG h hv ats ht o.type
        exact ⟨y, h1, fun w => by simp [execOp, ho, resolve, invoke, builtin, he, h2]⟩
      · cases h
    · rename_i x r' hx
      obtain ⟨v, l', he, hv, hl⟩ := (opnds_rel hG hE hx).cons_inv
      obtain ⟨y, h1, h2⟩ := foldA_ok (P := P) (g := Builtin.min2) (fun _ _ _ _ _ h hx hy => min2_ok h hx hy) _ _ _ _ _ h hv hl
      exact ⟨y, h1, fun w => by simp [execOp, ho, resolve, invoke, builtin, Builtin.min_, he, h2]⟩
    · rename_i x r' hx
      obtain ⟨v, l', he, hv, hl⟩ := (opnds_rel hG hE hx).cons_inv
      obtain ⟨y, h1, h2⟩ := foldA_ok (P := P) (g := Builtin.max2) (fun _ _ _ _ _ h hx hy => max2_ok h hx hy) _ _ _ _ _ h hv hl
      exact ⟨y, h1, fun w => by simp [execOp, ho, resolve, invoke, builtin, Builtin.max_, he, h2]⟩
end
end Go.Abs
