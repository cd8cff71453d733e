/- The fast evaluator says what the evaluator says: what it answers, the evaluator answers. -/
import Derived.Test.YtldclhmpgjcimaaGreatDoorTapW
namespace Go.Abs
open Go

theorem opt_inv {α : Type} {f : α → R} {o : Option α} {r : AV × Heap} (h : opt f o = some r) : ∃ a, o = some a ∧ f a = some r := by
  cases o with
  | none => cases h
  | some a => exact ⟨a, rfl, h⟩
theorem test_inv {b : Bool} {x : R} {r : AV × Heap} (h : test b x = some r) : b = true ∧ x = some r := by
  cases b with
  | false => cases h
  | true => exact ⟨rfl, h⟩
theorem onBool_inv {a : AV} {f : Bool → R} {r : AV × Heap} (h : onBool a f = some r) : ∃ b, a = .bool b ∧ f b = some r := by
  cases a with
  | bool b => exact ⟨b, rfl, h⟩
  | _ => cases h
theorem onInt_inv {a : AV} {f : IntKind → Int → R} {r : AV × Heap} (h : onInt a f = some r) : ∃ k n, a = .int k n ∧ f k n = some r := by
  cases a with
  | int k n => exact ⟨k, n, rfl, h⟩
  | _ => cases h
theorem onPtr_inv {a : AV} {f : Nat → Nat → Nat → R} {r : AV × Heap} (h : onPtr a f = some r) : ∃ b v o, a = .ptr b v o ∧ f b v o = some r := by
  cases a with
  | ptr b v o => exact ⟨b, v, o, rfl, h⟩
  | _ => cases h
theorem onSlice_inv {a : AV} {f : Nat → Nat → Nat → Nat → Nat → Option Nat → R} {r : AV × Heap} (h : onSlice a f = some r) : ∃ b v o e l c, a = .slice b v o e l c ∧ f b v o e l c = some r := by
  cases a with
  | slice b v o e l c => exact ⟨b, v, o, e, l, c, rfl, h⟩
  | _ => cases h
theorem onTuple_inv {a : AV} {f : List AV → R} {r : AV × Heap} (h : onTuple a f = some r) : ∃ l, a = .tuple l ∧ f l = some r := by
  cases a with
  | tuple l => exact ⟨l, rfl, h⟩
  | _ => cases h
theorem onFunc_inv {a : AV} {f : Nat → List AV → List AV → R} {r : AV × Heap} (h : onFunc a f = some r) : ∃ g x y, a = .func (.func g) x y ∧ f g x y = some r := by
  cases a with
  | func fn x y =>
    cases fn with
    | func g => exact ⟨g, x, y, rfl, h⟩
    | _ => cases h
  | _ => cases h
theorem onCells_inv {x : Blk} {f : Nat → Nat → Nat → Bool → T (AV × Nat) → R} {r : AV × Heap} (h : onCells x f = some r) : ∃ e n c s t, x = .cells e n c s t ∧ f e n c s t = some r := by
  cases x with
  | cells e n c s t => exact ⟨e, n, c, s, t, rfl, h⟩
  | _ => cases h
theorem fopnd_ok {x : Operand} {G : Glob} {E : Env} {a : AV} (h : fopnd x G E = some a) : opnd G E x = some a := by
  cases x with
  | tmp t => exact h
  | const v => exact h
  | global g => cases h
  | func f => exact h
theorem fopnds_ok {G : Glob} {E : Env} {r : AV × Heap} : ∀ {l : List Operand} {k : List AV → R}, fopnds l G E k = some r → ∃ vs, opnds G E l = some vs ∧ k vs = some r
  | [], k, h => ⟨[], rfl, h⟩
  | x :: l, k, h => by
    obtain ⟨a, ha, h⟩ := opt_inv (show opt (fun a => fopnds l G E (fun l => k (a :: l))) (fopnd x G E) = some r from h)
    obtain ⟨vs, hv, h⟩ := fopnds_ok h
    exact ⟨a :: vs, by simp only [opnds, fopnd_ok ha, hv], h⟩

/-- An operation, and its kind; pf says where a new block goes. -/
noncomputable def opK (G : Glob) (call : Nat → List AV → Heap → Option (AV × Heap)) (pf : Blk → Heap → Option (Nat × Heap)) (o : Oper) (E : Env) (H : Heap) : Option (Nat × AV × Heap) :=
  match pureOp G E o with
  | some a => some (0, a, H)
  | none => match readOp G E H o with
    | some a => some (1, a, H)
    | none => match newOp G E o with
      | some (b, mk) => match pf b H with
        | some (n, h) => some (2, mk n, h)
        | none => none
      | none => match actOp G E H o with
        | some (.val a h) => some (3, a, h)
        | some (.enter f args) => match call f args H with
          | some (a, h) => some (3, a, h)
          | none => none
        | none => none

def CfOk (cf : CallT) (call : Nat → List AV → Heap → Option (AV × Heap)) : Prop :=
  ∀ f args H k r, cf f args H k = some r → ∃ a H', call f args H = some (a, H') ∧ k a H' = some r
def PlOk (pl : Place) (pf : Blk → Heap → Option (Nat × Heap)) : Prop :=
  ∀ b H k r, pl b H k = some r → ∃ n h, pf b H = some (n, h) ∧ k n h = some r

section
variable {G : Glob} {call : Nat → List AV → Heap → Option (AV × Heap)} {cf : CallT} {pl : Place} {pf : Blk → Heap → Option (Nat × Heap)} {o : Oper} {E : Env} {H : Heap} {k : KD} {r : AV × Heap}

/-- What an alternative must answer. -/
def Good (G : Glob) (call : Nat → List AV → Heap → Option (AV × Heap)) (pf : Blk → Heap → Option (Nat × Heap)) (o : Oper) (E : Env) (H : Heap) (k : KD) (r : AV × Heap) : Prop :=
  ∃ kd a H', opK G call pf o E H = some (kd, a, H') ∧ k kd a H' = some r

theorem Good.pure {a : AV} (h : pureOp G E o = some a) (q : k 0 a H = some r) : Good G call pf o E H k r :=
  ⟨0, a, H, by simp only [opK, h], q⟩
theorem Good.read {a : AV} (h0 : pureOp G E o = none) (h : readOp G E H o = some a) (q : k 1 a H = some r) : Good G call pf o E H k r :=
  ⟨1, a, H, by simp only [opK, h0, h], q⟩
theorem Good.new (hp : PlOk pl pf) {b : Blk} {mk : Nat → AV} (h0 : pureOp G E o = none) (h1 : readOp G E H o = none) (h : newOp G E o = some (b, mk)) (q : pl b H (fun n h => k 2 (mk n) h) = some r) : Good G call pf o E H k r := by
  obtain ⟨n, h', e, q⟩ := hp _ _ _ _ q
  exact ⟨2, mk n, h', by simp only [opK, h0, h1, h, e], q⟩
theorem Good.act {a : AV} {H' : Heap} (h0 : pureOp G E o = none) (h1 : readOp G E H o = none) (h2 : newOp G E o = none) (h : actOp G E H o = some (.val a H')) (q : k 3 a H' = some r) : Good G call pf o E H k r :=
  ⟨3, a, H', by simp only [opK, h0, h1, h2, h], q⟩
theorem Good.enter (hc : CfOk cf call) {f : Nat} {args : List AV} (h0 : pureOp G E o = none) (h1 : readOp G E H o = none) (h2 : newOp G E o = none) (h : actOp G E H o = some (.enter f args)) (q : cf f args H (fun a h => k 3 a h) = some r) : Good G call pf o E H k r := by
  obtain ⟨a, H', e, q⟩ := hc _ _ _ _ _ q
  exact ⟨3, a, H', by simp only [opK, h0, h1, h2, h, e], q⟩
theorem aGen_ok (hp : PlOk pl pf) (h : aGen o G cf pl E H k = some r) : Good G call pf o E H k r := by
  unfold aGen at h
  split at h
  · rename_i a h0; exact Good.pure h0 h
  · rename_i h0
    split at h
    · rename_i a h1; exact Good.read h0 h1 h
    · rename_i h1
      split at h
      · rename_i b mk h2; exact Good.new hp h0 h1 h2 h
      · rename_i h2
        split at h
        · rename_i a h' h3; exact Good.act h0 h1 h2 h3 h
        · cases h

theorem plain1_inv {t : Nat} (h : plain1 G t = true) : agg G t = some false ∧ size G t = some 1 := by
  unfold plain1 at h
  split at h
  · exact ⟨by assumption, by assumption⟩
  · cases h
theorem load1_inv {b v off : Nat} {q : AV → R} (h : load1 H b v off q = some r) : ∃ a, loadRow H b v off 1 = some [a] ∧ q a = some r := by
  obtain ⟨x, hx, h⟩ := opt_inv h
  obtain ⟨e, n, c, s, t, rfl, h⟩ := onCells_inv h
  obtain ⟨⟨a, w⟩, hc, h⟩ := opt_inv h
  obtain ⟨hb, h⟩ := test_inv h
  refine ⟨a, ?_, h⟩
  simp only [loadRow, hx, cellsGet_succ, cellsGet_zero, hc]
  simp only at hb
  rw [hb]; rfl
theorem store1_inv {b v off : Nat} {a : AV} {q : Heap → R} (h : store1 H b v off a q = some r) : ∃ H', storeRow H b v off [a] = some H' ∧ a.scalar = true ∧ q H' = some r := by
  obtain ⟨x, hx, h⟩ := opt_inv h
  obtain ⟨e, n, c, s, t, rfl, h⟩ := onCells_inv h
  cases s with
  | true => cases h
  | false =>
    obtain ⟨hb, h⟩ := test_inv (show test (Nat.beq v c) _ = some r from h)
    obtain ⟨⟨a', w⟩, hc, h⟩ := opt_inv h
    obtain ⟨hs, h⟩ := test_inv h
    exact ⟨_, by simp only [storeRow, hx, hb, cellsSet, hc, hs]; rfl, hs, h⟩

theorem aLoad_ok {t : Nat} {x : Operand} (ho : o.op = .load t x) (h : aLoad t x o G cf pl E H k = some r) : Good G call pf o E H k r := by
  have h0 : pureOp G E o = none := by simp only [pureOp, ho]
  obtain ⟨p, hp, h⟩ := opt_inv h
  obtain ⟨b, v, off, rfl, h⟩ := onPtr_inv h
  have hp := fopnd_ok hp
  cases hq : plain1 G t with
  | false =>
    rw [hq] at h
    obtain ⟨y, hy, h⟩ := opt_inv (show opt (fun y => k 1 y H) (loadVarA G H t b v off) = some r from h)
    exact Good.read h0 (by simp only [readOp, ho, hp, hy]) h
  | true =>
    rw [hq] at h
    obtain ⟨y, hy, h⟩ := load1_inv (show load1 H b v off (fun y => k 1 y H) = some r from h)
    obtain ⟨e1, e2⟩ := plain1_inv hq
    exact Good.read h0 (by simp only [readOp, ho, hp, loadVarA, e1, e2, hy]) h
theorem aStore_ok {t : Nat} {x y : Operand} (ho : o.op = .store t x y) (h : aStore t x y o G cf pl E H k = some r) : Good G call pf o E H k r := by
  have h0 : pureOp G E o = none := by simp only [pureOp, ho]
  have h1 : readOp G E H o = none := by simp only [readOp, ho]
  have h2 : newOp G E o = none := by simp only [newOp, ho]
  obtain ⟨p, hp, h⟩ := opt_inv h
  obtain ⟨b, v, off, rfl, h⟩ := onPtr_inv h
  obtain ⟨a, ha, h⟩ := opt_inv h
  have hp := fopnd_ok hp
  have ha := fopnd_ok ha
  cases hq : plain1 G t with
  | false =>
    rw [hq] at h
    obtain ⟨y, hy, h⟩ := opt_inv (show opt (fun h => k 3 (.tuple []) h) (storeVarA G H t b v off a) = some r from h)
    exact Good.act h0 h1 h2 (by simp only [actOp, ho, hp, ha, hy, Option.map_some]) h
  | true =>
    rw [hq] at h
    obtain ⟨H', hy, hs, h⟩ := store1_inv (show store1 H b v off a (fun h => k 3 (.tuple []) h) = some r from h)
    obtain ⟨e1, e2⟩ := plain1_inv hq
    have e3 : a.cells = [a] := by cases a <;> first | rfl | cases hs
    exact Good.act h0 h1 h2 (by simp only [actOp, ho, hp, ha, storeVarA, e2, e3, List.length_singleton, Nat.beq_refl, if_true, hy, Option.map_some]) h
theorem aFieldAddr_ok {s f : Nat} {x : Operand} (ho : o.op = .fieldAddr s x f) (h : aFieldAddr s x f o G cf pl E H k = some r) : Good G call pf o E H k r := by
  obtain ⟨off, hf, h⟩ := opt_inv h
  obtain ⟨p, hp, h⟩ := opt_inv h
  obtain ⟨b, v, off', rfl, h⟩ := onPtr_inv h
  have hp := fopnd_ok hp
  unfold fieldOff at hf
  split at hf
  · rename_i fs hu
    split at hf
    · rename_i fd hfd
      split at hf
      · rename_i n hn
        obtain rfl := Option.some.inj hf
        exact Good.pure (by simp only [pureOp, ho, hu, hp, hfd, hn]; rfl) h
      · cases hf
    · cases hf
  · cases hf
theorem fidx_inv {i : AV} {len : Nat} {q : Nat → R} (h : fidx i len q = some r) : ∃ j, idx i len = some j ∧ q j = some r := by
  obtain ⟨kk, n, rfl, h⟩ := onInt_inv h
  cases n with
  | ofNat j =>
    obtain ⟨h1, h⟩ := test_inv (show test (Nat.blt j len) (q j) = some r from h)
    exact ⟨j, by simp only [idx, h1, if_true], h⟩
  | negSucc j => cases h
theorem aIndexAddr_ok (hp : PlOk pl pf) {t : Nat} {x ix : Operand} (ho : o.op = .indexAddr t x ix) (h : aIndexAddr t x ix o G cf pl E H k = some r) : Good G call pf o E H k r := by
  unfold aIndexAddr at h
  cases hs : sliceSz G t with
  | none => rw [hs] at h; exact aGen_ok hp h
  | some sz =>
    rw [hs] at h
    obtain ⟨p, hp, h⟩ := opt_inv (show opt _ (fopnd x G E) = some r from h)
    obtain ⟨i, hi, h⟩ := opt_inv h
    obtain ⟨b, v, off, e, l, c, rfl, h⟩ := onSlice_inv h
    obtain ⟨j, hj, h⟩ := fidx_inv h
    have hp := fopnd_ok hp
    have hi := fopnd_ok hi
    unfold sliceSz at hs
    split at hs
    · rename_i e hu
      exact Good.pure (by simp only [pureOp, ho, hu, hp, hi, hj, hs]; rfl) h
    · cases hs
theorem kindNo_inj {a b : IntKind} (h : Nat.beq (kindNo a) (kindNo b) = true) : a = b := by
  cases a <;> cases b <;> first | rfl | (exact absurd h (by decide))
theorem isInt_inv {a : AV} (h : isInt a = true) : ∃ k n, a = .int k n := by
  cases a with
  | int k n => exact ⟨k, n, rfl⟩
  | _ => cases h
theorem bGen_inv {op : BinOp} {t : Nat} {x y : Operand} {a b : AV} (h : bGen op G t x y a b k H = some r) :
    ∃ v, guardA G op t x y a b = true ∧ binOpA G op t a b = some v ∧ k 0 v H = some r := by
  unfold bGen at h
  split at h
  · rename_i hg
    obtain ⟨v, hv, h⟩ := opt_inv h
    exact ⟨v, hg, hv, h⟩
  · cases h
theorem bInt_inv {op : BinOp} {f : IntKind → Int → Int → AV} {t : Nat} {x y : Operand} {a b : AV}
    (hf : ∀ q m n, guardA G op t x y (.int q m) (.int q n) = true ∧ binOpA G op t (.int q m) (.int q n) = some (f q m n)) (h : bInt op f G t x y a b k H = some r) :
    ∃ v, guardA G op t x y a b = true ∧ binOpA G op t a b = some v ∧ k 0 v H = some r := by
  unfold bInt at h
  cases hi : isInt a with
  | false => rw [hi] at h; exact bGen_inv h
  | true =>
    rw [hi] at h
    obtain ⟨q, m, ha, h1⟩ := onInt_inv (show onInt a _ = some r from h)
    obtain ⟨q', n, hb, h2⟩ := onInt_inv (a := b) h1
    obtain ⟨e, h3⟩ := test_inv h2
    obtain rfl := kindNo_inj e
    subst ha; subst hb
    exact ⟨_, (hf q m n).1, (hf q m n).2, h3⟩
theorem bins_inv {op : BinOp} {t : Nat} {x y : Operand} {a b : AV} (h : bins op G t x y a b k H = some r) :
    ∃ v, guardA G op t x y a b = true ∧ binOpA G op t a b = some v ∧ k 0 v H = some r := by
  cases op with
  | add => exact bInt_inv (fun q m n => ⟨rfl, by simp only [binOpA, if_true, intOp]; rfl⟩) h
  | sub => exact bInt_inv (fun q m n => ⟨rfl, by simp only [binOpA, if_true, intOp]; rfl⟩) h
  | eql => exact bInt_inv (fun q m n => ⟨rfl, by simp only [binOpA, if_true, intOp]⟩) h
  | neq => exact bInt_inv (fun q m n => ⟨rfl, by simp only [binOpA, if_true, intOp]⟩) h
  | lss => exact bInt_inv (fun q m n => ⟨rfl, by simp only [binOpA, if_true, intOp]⟩) h
  | leq => exact bInt_inv (fun q m n => ⟨rfl, by simp only [binOpA, if_true, intOp]⟩) h
  | gtr => exact bInt_inv (fun q m n => ⟨rfl, by simp only [binOpA, if_true, intOp]⟩) h
  | geq => exact bInt_inv (fun q m n => ⟨rfl, by simp only [binOpA, if_true, intOp]⟩) h
  | _ => exact bGen_inv h
theorem aBin_ok {op : BinOp} {t : Nat} {x y : Operand} {u : Bool} (ho : ∃ u, o.op = .binOp op t x y u) (h : aBin op t x y o G cf pl E H k = some r) : Good G call pf o E H k r := by
  obtain ⟨u, ho⟩ := ho
  obtain ⟨a, ha, h⟩ := opt_inv h
  obtain ⟨b, hb, h⟩ := opt_inv h
  obtain ⟨v, h1, h2, h⟩ := bins_inv h
  exact Good.pure (by simp only [pureOp, ho, fopnd_ok ha, fopnd_ok hb, h1, if_true, h2]) h
theorem aConvert_ok (hp : PlOk pl pf) {s d : Nat} {x : Operand} (ho : o.op = .convert s d x) (h : aConvert s d x o G cf pl E H k = some r) : Good G call pf o E H k r := by
  unfold aConvert at h
  split at h
  · rename_i k1 k2 h1 h2
    obtain ⟨a, ha, h⟩ := opt_inv h
    split at h
    · exact Good.pure (by simp only [pureOp, ho, h1, h2, fopnd_ok ha]) h
    · cases h
  · exact aGen_ok hp h
theorem aAlloc_ok (hp : PlOk pl pf) {t : Nat} (ho : o.op = .alloc t) (h : aAlloc t o G cf pl E H k = some r) : Good G call pf o E H k r := by
  obtain ⟨z, hz, h⟩ := opt_inv h
  split at h
  · rename_i hs
    exact Good.new hp (mk := fun b => .ptr b 0 0) (by simp only [pureOp, ho]) (by simp only [readOp, ho]) (by simp only [newOp, ho, hz, hs, if_true]) h
  · cases h
theorem aBox_ok (hp : PlOk pl pf) {t : Nat} {x : Operand} (ho : o.op = .box t x) (h : aBox t x o G cf pl E H k = some r) : Good G call pf o E H k r := by
  obtain ⟨z, hz, h⟩ := opt_inv h
  split at h
  · rename_i hs
    exact Good.new hp (mk := fun b => .ptr b 0 0) (by simp only [pureOp, ho]) (by simp only [readOp, ho]) (by simp only [newOp, ho, fopnd_ok hz, hs, if_true]) h
  · cases h
theorem nth_inv : ∀ {l : List AV} {i : Nat} {q : AV → R}, nth l i q = some r → ∃ v, l[i]? = some v ∧ q v = some r
  | [], _, _, h => by cases h
  | a :: l, 0, _, h => ⟨a, rfl, h⟩
  | a :: l, i + 1, q, h => by
    obtain ⟨v, h1, h2⟩ := nth_inv (show nth l i q = some r from h)
    exact ⟨v, by simpa using h1, h2⟩
theorem aExtract_ok {x : Operand} {i : Nat} (ho : o.op = .extract x i) (h : aExtract x i o G cf pl E H k = some r) : Good G call pf o E H k r := by
  obtain ⟨a, ha, h⟩ := opt_inv h
  obtain ⟨l, rfl, h⟩ := onTuple_inv h
  obtain ⟨v, h1, h⟩ := nth_inv h
  exact Good.pure (by simp only [pureOp, ho, fopnd_ok ha, h1]) h
theorem aCall_ok (hc : CfOk cf call) (hp : PlOk pl pf) {c : Call} (ho : o.op = .call c) (h : aCall c o G cf pl E H k = some r) : Good G call pf o E H k r := by
  obtain ⟨callee, args, ats⟩ := c
  cases callee with
  | value f =>
    obtain ⟨p, hp, h⟩ := opt_inv (show aValue f args.toList o G cf pl E H k = some r from h)
    obtain ⟨g, first, captured, rfl, h⟩ := onFunc_inv h
    obtain ⟨vs, hv, h⟩ := fopnds_ok h
    exact Good.enter hc (by simp only [pureOp, ho]) (by simp only [readOp, ho]) (by simp only [newOp, ho]) (by simp only [actOp, ho, fopnd_ok hp, hv]) h
  | invoke a b => exact aGen_ok (cf := cf) hp h
  | builtin b =>
    have h : aBuiltin b args.toList ats o G cf pl E H k = some r := h
    unfold aBuiltin at h
    split at h
    · obtain ⟨vs, hv, h⟩ := fopnds_ok h
      split at h
      · rename_i x
        split at h
        · rename_i t ht
          split at h
          · rename_i a hl
            exact Good.pure (by simp only [pureOp, ho, hv, ht, hl]) h
          · exact aGen_ok hp h
        · cases h
      · cases h
    · obtain ⟨vs, hv, h⟩ := fopnds_ok h
      split at h
      · rename_i s x
        split at h
        · rename_i t xt ht hxt
          split at h
          · rename_i a h' hl
            exact Good.act (by simp only [pureOp, ho]) (by simp only [readOp, ho]) (by simp only [newOp, ho]) (by simp only [actOp, ho, hv, ht, hxt, hl, Option.map_some]) h
          · cases h
        · cases h
      · cases h
    · exact aGen_ok hp h

theorem fop_ok (hc : CfOk cf call) (hp : PlOk pl pf) (h : fop o G cf pl E H k = some r) : Good G call pf o E H k r := by
  unfold fop at h
  cases ho : o.op with
  | move x => rw [ho] at h; obtain ⟨a, ha, h⟩ := opt_inv h; exact Good.pure (by simp only [pureOp, ho, fopnd_ok ha]) h
  | assign x => rw [ho] at h; obtain ⟨a, ha, h⟩ := opt_inv h; exact Good.pure (by simp only [pureOp, ho, fopnd_ok ha]) h
  | pick c a b =>
    rw [ho] at h
    obtain ⟨q, hq, h1⟩ := opt_inv h
    obtain ⟨q, rfl, h2⟩ := onBool_inv h1
    obtain ⟨v, hv, h3⟩ := opt_inv h2
    cases q with
    | true => exact Good.pure (by simp only [pureOp, ho, fopnd_ok hq]; exact fopnd_ok hv) h3
    | false => exact Good.pure (by simp only [pureOp, ho, fopnd_ok hq]; exact fopnd_ok hv) h3
  | nilCheck x =>
    rw [ho] at h
    obtain ⟨p, hp, h1⟩ := opt_inv h
    obtain ⟨b, v, off, rfl, h2⟩ := onPtr_inv h1
    exact Good.pure (by simp only [pureOp, ho, fopnd_ok hp]) h2
  | alloc t => rw [ho] at h; exact aAlloc_ok hp ho h
  | box t x => rw [ho] at h; exact aBox_ok hp ho h
  | load t x => rw [ho] at h; exact aLoad_ok ho h
  | store t x y => rw [ho] at h; exact aStore_ok ho h
  | fieldAddr s x f => rw [ho] at h; exact aFieldAddr_ok ho h
  | indexAddr t x ix => rw [ho] at h; exact aIndexAddr_ok hp ho h
  | binOp op t x y u => rw [ho] at h; exact aBin_ok (u := true) ⟨_, ho⟩ h
  | convert s d x => rw [ho] at h; exact aConvert_ok hp ho h
  | extract x i => rw [ho] at h; exact aExtract_ok ho h
  | call c => rw [ho] at h; exact aCall_ok hc hp ho h
  | _ => rw [ho] at h; exact aGen_ok hp h
end

section
variable {G : Glob} {call : Nat → List AV → Heap → Option (AV × Heap)} {cf : CallT} {r : AV × Heap}

noncomputable def pushF (b : Blk) (H : Heap) : Option (Nat × Heap) := if H.free then some (H.next, H.push b) else none
theorem push_ok : PlOk push pushF := by
  intro b H k r h
  unfold push at h
  cases hf : H.free with
  | false => rw [hf] at h; cases h
  | true => rw [hf] at h; exact ⟨_, _, by simp only [pushF, hf, if_true], h⟩
theorem opK_opA {o : Oper} {E : Env} {H : Heap} {kd : Nat} {a : AV} {H' : Heap} (h : opK G call pushF o E H = some (kd, a, H')) : opA G call o E H = some (a, H') := by
  unfold opK at h
  unfold opA
  split at h
  · rename_i x hx; rw [hx]; simp only [Option.some.injEq, Prod.mk.injEq] at h; obtain ⟨_, rfl, rfl⟩ := h; rfl
  · rename_i hx; rw [hx]
    split at h
    · rename_i x hy; simp only [hy]; simp only [Option.some.injEq, Prod.mk.injEq] at h; obtain ⟨_, rfl, rfl⟩ := h; rfl
    · rename_i hy; simp only [hy]
      split at h
      · rename_i b mk hz
        simp only [hz]
        unfold pushF at h
        split at h
        · rename_i n h1 hq
          split at hq
          · rename_i hf
            simp only [Option.some.injEq, Prod.mk.injEq] at h hq
            obtain ⟨_, rfl, rfl⟩ := h
            obtain ⟨rfl, rfl⟩ := hq
            simp only [hf, if_true]
          · cases hq
        · cases h
      · rename_i hz
        simp only [hz]
        split at h
        · rename_i a1 h1 hq; simp only [hq]; simp only [Option.some.injEq, Prod.mk.injEq] at h; obtain ⟨_, rfl, rfl⟩ := h; rfl
        · rename_i f args hq
          simp only [hq]
          split at h
          · rename_i a1 h1 hw; simp only [Option.some.injEq, Prod.mk.injEq] at h; obtain ⟨_, rfl, rfl⟩ := h; exact hw
          · cases h
        · cases h
theorem at_ok (n : Nat) : PlOk (fun blk h k => k n (h.put n blk)) (fun b H => some (n, H.put n b)) := by
  intro b H k r h
  exact ⟨n, _, rfl, h⟩
theorem opK_opD {n : Nat} {o : Oper} {E : Env} {H : Heap} {x : Nat × AV × Heap} (h : opK G call (fun b H => some (n, H.put n b)) o E H = some x) : opD G call n o E H = some x := by
  unfold opK at h
  unfold opD
  exact h

theorem fput_inv {d : Option Nat} {x : AV} {E : Env} {k : Env → R} (h : fput d x E k = some r) : ∃ E', E.put d x = some E' ∧ k E' = some r := by
  cases d with
  | none => exact ⟨E, rfl, h⟩
  | some i =>
    have h : (Bool.rec (motive := fun _ => R) none (k ⟨E.n, E.t.set fuel i x⟩) (Nat.blt i E.n)) = some r := h
    cases hb : Nat.blt i E.n with
    | false => rw [hb] at h; cases h
    | true => rw [hb] at h; exact ⟨_, by simp only [Env.put, hb, if_true], h⟩

theorem fops_ok (hc : CfOk cf call) (ops : Array Oper) {k : Env → Heap → R} : ∀ (l : List Oper) (E : Env) (H : Heap), fops ops G cf k l E H = some r → ∃ E' H', opsA G call ops l E H = some (E', H') ∧ k E' H' = some r
  | [], E, H, h => ⟨E, H, rfl, h⟩
  | o :: l, E, H, h => by
    have h : Option.rec (motive := fun _ => R) (fop o G cf push E H (fun _ a H' => fput o.dst a E (fun E' => fops ops G cf k l E' H')))
      (fun _ => match wantedA ops E o with
        | none => none
        | some true => fop o G cf push E H (fun _ a H' => fput o.dst a E (fun E' => fops ops G cf k l E' H'))
        | some false => fput o.dst (.tuple []) E (fun E' => fops ops G cf k l E' H)) o.guard = some r := h
    have run : wantedA ops E o = some true → fop o G cf push E H (fun _ a H' => fput o.dst a E (fun E' => fops ops G cf k l E' H')) = some r → ∃ E' H', opsA G call ops (o :: l) E H = some (E', H') ∧ k E' H' = some r := by
      intro hw h
      obtain ⟨kd, a, H1, h1, h⟩ := fop_ok hc push_ok h
      obtain ⟨E1, h2, h⟩ := fput_inv h
      obtain ⟨E', H', h3, h⟩ := fops_ok hc ops l E1 H1 h
      exact ⟨E', H', by simp only [opsA, hw, opK_opA h1, h2, h3], h⟩
    cases hg : o.guard with
    | none => rw [hg] at h; exact run (by simp only [wantedA, hg]) h
    | some g =>
      rw [hg] at h
      simp only at h
      split at h
      · cases h
      · rename_i hw; exact run hw h
      · rename_i hw
        obtain ⟨E1, h2, h⟩ := fput_inv h
        obtain ⟨E', H', h3, h⟩ := fops_ok hc ops l E1 H h
        exact ⟨E', H', by simp only [opsA, hw, h2, h3], h⟩

theorem flog_ok (hc : CfOk cf call) (ops : Array Oper) {k : List Entry → Env → Heap → R} : ∀ (l : List Oper) (n : Nat) (acc : List Entry) (E : Env) (H : Heap), flog ops G cf k l n acc E H = some r →
    ∃ x E' H', logA G call ops n l E H = some (x, E', H') ∧ k (x.reverse ++ acc) E' H' = some r
  | [], n, acc, E, H, h => ⟨[], E, H, rfl, h⟩
  | o :: l, n, acc, E, H, h => by
    have h : Option.rec (motive := fun _ => R) (fop o G cf (fun blk h k => k n (h.put n blk)) E H (fun kd a H' => fput o.dst a E (fun E' => flog ops G cf k l (Nat.succ n) (⟨o, E, H, a, kd⟩ :: acc) E' H')))
      (fun _ => match wantedA ops E o with
        | none => none
        | some true => fop o G cf (fun blk h k => k n (h.put n blk)) E H (fun kd a H' => fput o.dst a E (fun E' => flog ops G cf k l (Nat.succ n) (⟨o, E, H, a, kd⟩ :: acc) E' H'))
        | some false => fput o.dst (.tuple []) E (fun E' => flog ops G cf k l (Nat.succ n) (⟨o, E, H, .tuple [], 4⟩ :: acc) E' H)) o.guard = some r := h
    have run : wantedA ops E o = some true → fop o G cf (fun blk h k => k n (h.put n blk)) E H (fun kd a H' => fput o.dst a E (fun E' => flog ops G cf k l (Nat.succ n) (⟨o, E, H, a, kd⟩ :: acc) E' H')) = some r →
        ∃ x E' H', logA G call ops n (o :: l) E H = some (x, E', H') ∧ k (x.reverse ++ acc) E' H' = some r := by
      intro hw h
      obtain ⟨kd, a, H1, h1, h⟩ := fop_ok hc (at_ok n) h
      obtain ⟨E1, h2, h⟩ := fput_inv h
      obtain ⟨x, E', H', h3, h⟩ := flog_ok hc ops l (n + 1) _ E1 H1 h
      exact ⟨⟨o, E, H, a, kd⟩ :: x, E', H', by simp only [logA, hw, opK_opD h1, h2, h3], by simpa using h⟩
    cases hg : o.guard with
    | none => rw [hg] at h; exact run (by simp only [wantedA, hg]) h
    | some g =>
      rw [hg] at h
      simp only at h
      split at h
      · cases h
      · rename_i hw; exact run hw h
      · rename_i hw
        obtain ⟨E1, h2, h⟩ := fput_inv h
        obtain ⟨x, E', H', h3, h⟩ := flog_ok hc ops l (n + 1) _ E1 H h
        exact ⟨⟨o, E, H, .tuple [], 4⟩ :: x, E', H', by simp only [logA, hw, h2, h3], by simpa using h⟩

theorem fdraw_ok (hc : CfOk cf call) (ops : Array Oper) {k : Env → Heap → R} (E : Env) (H : Heap) (h : fdraw ops G cf k E H = some r) : ∃ E' H', drawA G call ops E H = some (E', H') ∧ k E' H' = some r := by
  unfold fdraw masks at h
  obtain ⟨h1, h⟩ := test_inv h
  obtain ⟨h2, h⟩ := test_inv h
  obtain ⟨h3, h⟩ := test_inv h
  obtain ⟨x, E', H', h4, h⟩ := flog_ok hc ops _ _ _ _ _ h
  simp only [List.append_nil, List.reverse_reverse] at h
  obtain ⟨h5, h⟩ := test_inv h
  obtain ⟨h6, h⟩ := test_inv h
  refine ⟨E', H', ?_, h⟩
  have h1 : Nat.ble (H.next + ops.size) H.top = true := h1
  have h3 : freeA H.t (H.top - ops.size) ops.size = true := h3
  have h4 : logA G call ops (H.top - ops.size) ops.toList E ⟨H.next, H.top - ops.size, H.t⟩ = some (x, E', H') := h4
  simp only [drawA, h1, h2, h3, h4, h5, h6, Bool.and_true, if_true]

def Ks.app (ks : Ks) : Ex → Env → Heap → R
  | .normal => ks.n
  | .exit i => ks.e i
  | .ret => ks.r

theorem fcode_ok (hc : CfOk cf call) (m : Nat) : ∀ (c : Code) (ks : Ks) (E : Env) (H : Heap), fcode c G cf call m ks E H = some r → ∃ x E' H', execA G call m c E H = some (x, E', H') ∧ ks.app x E' H' = some r
  | .skip, ks, E, H, h => ⟨.normal, E, H, rfl, h⟩
  | .label _, ks, E, H, h => ⟨.normal, E, H, rfl, h⟩
  | .ret, ks, E, H, h => ⟨.ret, E, H, rfl, h⟩
  | .exit i, ks, E, H, h => ⟨.exit i, E, H, rfl, h⟩
  | .region _ ops false, ks, E, H, h => by
    obtain ⟨E', H', h1, h⟩ := fops_ok hc ops _ _ _ (show fops ops G cf ks.n ops.toList E H = some r from h)
    exact ⟨.normal, E', H', by simp only [execA, h1], h⟩
  | .region _ ops true, ks, E, H, h => by
    obtain ⟨E', H', h1, h⟩ := fdraw_ok hc ops _ _ (show fdraw ops G cf ks.n E H = some r from h)
    exact ⟨.normal, E', H', by simp only [execA, h1], h⟩
  | .seq a b, ks, E, H, h => by
    obtain ⟨x, E1, H1, h1, h⟩ := fcode_ok hc m a _ E H (show fcode a G cf call m ⟨fcode b G cf call m ks, ks.e, ks.r⟩ E H = some r from h)
    cases x with
    | normal =>
      obtain ⟨x, E', H', h2, h⟩ := fcode_ok hc m b ks E1 H1 h
      exact ⟨x, E', H', by simp only [execA, h1, h2], h⟩
    | exit i => exact ⟨.exit i, E1, H1, by simp only [execA, h1], h⟩
    | ret => exact ⟨.ret, E1, H1, by simp only [execA, h1], h⟩
  | .cond c a b, ks, E, H, h => by
    obtain ⟨v, hv, h⟩ := opt_inv h
    have hv := fopnd_ok hv
    split at h
    · obtain ⟨x, E', H', h2, h⟩ := fcode_ok hc m a ks E H h
      exact ⟨x, E', H', by simp only [execA, hv, h2], h⟩
    · obtain ⟨x, E', H', h2, h⟩ := fcode_ok hc m b ks E H h
      exact ⟨x, E', H', by simp only [execA, hv, h2], h⟩
    · cases h
  | .block i a, ks, E, H, h => by
    obtain ⟨x, E1, H1, h1, h⟩ := fcode_ok hc m a _ E H (show fcode a G cf call m ⟨ks.n, fun j E H => if Nat.beq j i then ks.n E H else ks.e j E H, ks.r⟩ E H = some r from h)
    cases x with
    | normal => exact ⟨.normal, E1, H1, by simp only [execA, h1], h⟩
    | exit j =>
      have h : (if Nat.beq j i then ks.n E1 H1 else ks.e j E1 H1) = some r := h
      split at h
      · rename_i hj; exact ⟨.normal, E1, H1, by simp only [execA, h1, hj, if_true], h⟩
      · rename_i hj; exact ⟨.exit j, E1, H1, by simp only [execA, h1]; rw [if_neg hj], h⟩
    | ret => exact ⟨.ret, E1, H1, by simp only [execA, h1], h⟩
  | .loop a, ks, E, H, h => by
    suffices key : ∀ (n : Nat) (E : Env) (H : Heap), Nat.rec (motive := fun _ => Env → Heap → R) (fun _ _ => none) (fun _ go => fcode a G cf call m ⟨go, ks.e, ks.r⟩) n E H = some r →
        ∃ x E' H', loopA (execA G call m a) n E H = some (x, E', H') ∧ ks.app x E' H' = some r from key m E H h
    clear h
    intro n
    induction n with
    | zero => intro E H h; cases h
    | succ n ih =>
      intro E H h
      obtain ⟨x, E1, H1, h1, h⟩ := fcode_ok hc m a _ E H h
      cases x with
      | normal =>
        obtain ⟨x, E', H', h2, h⟩ := ih E1 H1 h
        exact ⟨x, E', H', by simp only [loopA, h1, h2], h⟩
      | exit i => exact ⟨.exit i, E1, H1, by simp only [loopA, h1], h⟩
      | ret => exact ⟨.ret, E1, H1, by simp only [loopA, h1], h⟩
  | .scope a, ks, E, H, h => by
    obtain ⟨x, E', H', h2, h⟩ := fcode_ok hc m a ks E H h
    exact ⟨x, E', H', by simp only [execA, h2], h⟩
  | .rangeFunc .., ks, E, H, h => by cases h
  | .goto _, ks, E, H, h => by cases h
  | .refuse _, ks, E, H, h => by cases h

theorem fcall_ok (G : Glob) (m : Nat) : ∀ n, CfOk (fcall G m n) (callA G m n)
  | 0 => by intro f args H k r h; cases h
  | n + 1 => by
    intro f args H k r h
    have h : (match G.ov f with
      | some g => opt (fun (r : AV × Heap) => k r.1 r.2) (g args H)
      | none => match G.fn f with
        | none => none
        | some fn => match fn.body with
          | none => none
          | some c => fcode c G (fcall G m n) (callA G m n) m ⟨fend G fn k, fun _ _ _ => none, fend G fn k⟩ (enterA fn args) H) = some r := h
    split at h
    · rename_i g hg
      obtain ⟨⟨a, H'⟩, ha, h⟩ := opt_inv h
      exact ⟨a, H', by simp only [callA, hg, ha], h⟩
    · rename_i hg
      split at h
      · cases h
      · rename_i fn hf
        split at h
        · cases h
        · rename_i c hb
          obtain ⟨x, E1, H1, h1, h⟩ := fcode_ok (fcall_ok G m n) m c _ _ _ h
          have key : fend G fn k E1 H1 = some r → ∃ a H', (match resultsA G E1 H1 fn.results.toList with | some [a] => some (a, H1) | some l => some (.tuple l, H1) | none => none) = some (a, H') ∧ k a H' = some r := by
            intro h
            unfold fend at h
            split at h
            · rename_i a hl; rw [hl]; exact ⟨_, _, rfl, h⟩
            · rename_i l hne hl
              rw [hl]
              refine ⟨.tuple l, H1, ?_, h⟩
              match l, hne with
              | [], _ => rfl
              | [a], hne => exact (hne a rfl).elim
              | _ :: _ :: _, _ => rfl
            · cases h
          cases x with
          | normal =>
            obtain ⟨a, H', e, h⟩ := key h
            exact ⟨a, H', by simp only [callA, hg, hf, hb, h1]; exact e, h⟩
          | ret =>
            obtain ⟨a, H', e, h⟩ := key h
            exact ⟨a, H', by simp only [callA, hg, hf, hb, h1]; exact e, h⟩
          | exit i => cases h
end
end Go.Abs
