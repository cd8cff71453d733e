/- The abstract evaluator once more, for the kernel: continuations, dispatch to closed alternatives. -/
import Derived.Test.YtldclhmpgjcimaaGreatDoorTapA
namespace Go.Abs
open Go

abbrev R := Option (AV × Heap)
abbrev K1 := AV → Heap → R
abbrev KE := T AV → Heap → R
abbrev CallT := Nat → List AV → Heap → K1 → R
noncomputable def opt {α : Type} (f : α → R) (o : Option α) : R := Option.rec (motive := fun _ => R) none f o
noncomputable def onBool (a : AV) (f : Bool → R) : R := AV.rec (motive_1 := fun _ => (Bool → R) → R) (motive_2 := fun _ => Unit) (fun x0 f => f x0) (fun _ _ _ => none) (fun _ _ => none) (fun _ _ _ _ => none) (fun _ => none) (fun _ _ _ _ _ _ _ => none) (fun _ => none) (fun _ => none) (fun _ _ => none) (fun _ => none) (fun _ _ _ _ _ _ => none) (fun _ => none) (fun _ _ _ _ => none) (fun _ => none) (fun _ _ _ => none) (fun _ _ _ => none) () (fun _ _ _ _ => ()) a f
noncomputable def onInt (a : AV) (f : IntKind → Int → R) : R := AV.rec (motive_1 := fun _ => (IntKind → Int → R) → R) (motive_2 := fun _ => Unit) (fun _ _ => none) (fun x0 x1 f => f x0 x1) (fun _ _ => none) (fun _ _ _ _ => none) (fun _ => none) (fun _ _ _ _ _ _ _ => none) (fun _ => none) (fun _ => none) (fun _ _ => none) (fun _ => none) (fun _ _ _ _ _ _ => none) (fun _ => none) (fun _ _ _ _ => none) (fun _ => none) (fun _ _ _ => none) (fun _ _ _ => none) () (fun _ _ _ _ => ()) a f
noncomputable def onPtr (a : AV) (f : Nat → Nat → Nat → R) : R := AV.rec (motive_1 := fun _ => (Nat → Nat → Nat → R) → R) (motive_2 := fun _ => Unit) (fun _ _ => none) (fun _ _ _ => none) (fun _ _ => none) (fun x0 x1 x2 f => f x0 x1 x2) (fun _ => none) (fun _ _ _ _ _ _ _ => none) (fun _ => none) (fun _ => none) (fun _ _ => none) (fun _ => none) (fun _ _ _ _ _ _ => none) (fun _ => none) (fun _ _ _ _ => none) (fun _ => none) (fun _ _ _ => none) (fun _ _ _ => none) () (fun _ _ _ _ => ()) a f
noncomputable def onSlice (a : AV) (f : Nat → Nat → Nat → Nat → Nat → Option Nat → R) : R := AV.rec (motive_1 := fun _ => (Nat → Nat → Nat → Nat → Nat → Option Nat → R) → R) (motive_2 := fun _ => Unit) (fun _ _ => none) (fun _ _ _ => none) (fun _ _ => none) (fun _ _ _ _ => none) (fun _ => none) (fun x0 x1 x2 x3 x4 x5 f => f x0 x1 x2 x3 x4 x5) (fun _ => none) (fun _ => none) (fun _ _ => none) (fun _ => none) (fun _ _ _ _ _ _ => none) (fun _ => none) (fun _ _ _ _ => none) (fun _ => none) (fun _ _ _ => none) (fun _ _ _ => none) () (fun _ _ _ _ => ()) a f
noncomputable def onTuple (a : AV) (f : List AV → R) : R := AV.rec (motive_1 := fun _ => (List AV → R) → R) (motive_2 := fun _ => Unit) (fun _ _ => none) (fun _ _ _ => none) (fun _ _ => none) (fun _ _ _ _ => none) (fun _ => none) (fun _ _ _ _ _ _ _ => none) (fun _ => none) (fun _ => none) (fun _ _ => none) (fun _ => none) (fun _ _ _ _ _ _ => none) (fun _ => none) (fun _ _ _ _ => none) (fun _ => none) (fun _ _ _ => none) (fun x0 _ f => f x0) () (fun _ _ _ _ => ()) a f
noncomputable def onFunc (a : AV) (f : Nat → List AV → List AV → R) : R := AV.rec (motive_1 := fun _ => (Nat → List AV → List AV → R) → R) (motive_2 := fun _ => Unit) (fun _ _ => none) (fun _ _ _ => none) (fun _ _ => none) (fun _ _ _ _ => none) (fun _ => none) (fun _ _ _ _ _ _ _ => none) (fun _ => none) (fun _ => none) (fun _ _ => none) (fun _ => none) (fun x0 x1 x2 _ _ f => Fn.rec (motive := fun _ => R) (fun g => f g x1 x2) (fun _ => none) (fun _ _ => none) (fun _ _ _ _ => none) (fun _ => none) x0) (fun _ => none) (fun _ _ _ _ => none) (fun _ => none) (fun _ _ _ => none) (fun _ _ _ => none) () (fun _ _ _ _ => ()) a f
noncomputable def fopnd (x : Operand) : Glob → Env → Option AV := Operand.rec (motive := fun _ => Glob → Env → Option AV)
  (fun i _ E => E.t.get i) (fun v _ _ => absV v) (fun _ _ _ => none) (fun f _ _ => some (.func (.func f) [] [])) x
noncomputable def fopnds (l : List Operand) : Glob → Env → (List AV → R) → R := List.rec (motive := fun _ => Glob → Env → (List AV → R) → R)
  (fun _ _ k => k []) (fun x _ ih G E k => opt (fun a => ih G E (fun l => k (a :: l))) (fopnd x G E)) l
noncomputable def push (blk : Blk) (H : Heap) (k : Nat → Heap → R) : R := Bool.rec (motive := fun _ => R) none (k H.next (H.push blk)) H.free
/-- Where a new block goes. -/
abbrev Place := Blk → Heap → (Nat → Heap → R) → R
abbrev KD := Nat → AV → Heap → R
abbrev Alt := Oper → Glob → CallT → Place → Env → Heap → KD → R
noncomputable def noCall : Nat → List AV → Heap → Option (AV × Heap) := fun _ _ _ => none
noncomputable def aGen : Alt := fun o G _ pl E H k => match pureOp G E o with
  | some a => k 0 a H
  | none => match readOp G E H o with
    | some a => k 1 a H
    | none => match newOp G E o with
      | some (b, mk) => pl b H (fun n h => k 2 (mk n) h)
      | none => match actOp G E H o with
        | some (.val a h) => k 3 a h
        | _ => none
noncomputable def aMove (x : Operand) : Alt := fun _ G _ pl E H k => opt (fun v => k 0 v H) (fopnd x G E)

noncomputable def aPick (c a b : Operand) : Alt := fun _ G _ pl E H k => opt (fun c => onBool c (fun q => opt (fun v => k 0 v H) (fopnd (Bool.rec (motive := fun _ => Operand) b a q) G E))) (fopnd c G E)
/-- One cell. -/
noncomputable def onCells (x : Blk) (f : Nat → Nat → Nat → Bool → T (AV × Nat) → R) : R := Blk.rec (motive := fun _ => (Nat → Nat → Nat → Bool → T (AV × Nat) → R) → R) (fun e n cur shut t f => f e n cur shut t) (fun _ _ _ => none) (fun _ _ _ _ _ => none) x f
noncomputable def test (b : Bool) (x : R) : R := Bool.rec (motive := fun _ => R) none x b
noncomputable def load1 (H : Heap) (b v o : Nat) (k : AV → R) : R := opt (fun x => onCells x (fun _ _ _ _ t => opt (fun c => test (Nat.ble c.2 v) (k c.1)) (t.get o))) (H.t.get b)
/-- Is it a type of one cell that is no aggregate? -/
def plain1 (G : Glob) (t : Nat) : Bool := match agg G t, size G t with
  | some false, some 1 => true
  | _, _ => false
noncomputable def aLoad (t : Nat) (x : Operand) : Alt := fun _ G _ pl E H k => opt (fun p => onPtr p (fun b v off => Bool.rec (motive := fun _ => R) (opt (fun y => k 1 y H) (loadVarA G H t b v off)) (load1 H b v off (fun y => k 1 y H)) (plain1 G t))) (fopnd x G E)
noncomputable def store1 (H : Heap) (b v o : Nat) (a : AV) (k : Heap → R) : R := opt (fun x => onCells x (fun e n cur shut t => Bool.rec (motive := fun _ => R) (test (Nat.beq v cur) (opt (fun _ => test a.scalar (k (H.put b (.cells e n cur false (t.set fuel o (a, cur)))))) (t.get o))) none shut)) (H.t.get b)
noncomputable def aStore (t : Nat) (x y : Operand) : Alt := fun _ G _ pl E H k => opt (fun p => onPtr p (fun b v off => opt (fun a => Bool.rec (motive := fun _ => R) (opt (fun h => k 3 (.tuple []) h) (storeVarA G H t b v off a)) (store1 H b v off a (fun h => k 3 (.tuple []) h)) (plain1 G t)) (fopnd y G E))) (fopnd x G E)
noncomputable def fieldOff (G : Glob) (s f : Nat) : Option Nat := match und G s with
  | some (.struct fs) => match fs[f]? with
    | some fd => match size G fd.type with
      | some (_ + 1) => some fd.offset
      | _ => none
    | none => none
  | _ => none
noncomputable def aFieldAddr (s : Nat) (x : Operand) (f : Nat) : Alt := fun _ G _ pl E H k => opt (fun off => opt (fun p => onPtr p (fun b v o => k 0 (.ptr b v (Nat.add o off)) H)) (fopnd x G E)) (fieldOff G s f)
noncomputable def aNilCheck (x : Operand) : Alt := fun o G call pl E H k => opt (fun p => onPtr p (fun _ _ _ => k 0 p H)) (fopnd x G E)
noncomputable def sliceSz (G : Glob) (t : Nat) : Option Nat := match und G t with
  | some (.slice e) => size G e
  | _ => none
noncomputable def fidx (i : AV) (len : Nat) (k : Nat → R) : R := onInt i (fun _ n => Int.rec (motive := fun _ => R) (fun j => test (Nat.blt j len) (k j)) (fun _ => none) n)
noncomputable def aIndexAddr (t : Nat) (x ix : Operand) : Alt := fun o G call pl E H k => Option.rec (motive := fun _ => R) (aGen o G call pl E H k)
  (fun sz => opt (fun p => opt (fun i => onSlice p (fun b v o _ len _ => fidx i len (fun j => k 0 (.ptr b v (Nat.add o (Nat.mul j sz))) H))) (fopnd ix G E)) (fopnd x G E)) (sliceSz G t)
abbrev BAlt := Glob → Nat → Operand → Operand → AV → AV → KD → Heap → R
noncomputable def kindNo (k : IntKind) : Nat := IntKind.rec (motive := fun _ => Nat) 0 1 2 3 4 5 6 7 k
noncomputable def bGen (op : BinOp) : BAlt := fun G t x y a b k H => match guardA G op t x y a b with
  | true => opt (fun v => k 0 v H) (binOpA G op t a b)
  | false => none
noncomputable def isInt (a : AV) : Bool := AV.rec (motive_1 := fun _ => Bool) (motive_2 := fun _ => Unit) (fun _ => false) (fun _ _ => true) (fun _ => false) (fun _ _ _ => false) false (fun _ _ _ _ _ _ => false) false false (fun _ => false) false (fun _ _ _ _ _ => false) false (fun _ _ _ => false) false (fun _ _ => false) (fun _ _ => false) () (fun _ _ _ _ => ()) a
noncomputable def bInt (op : BinOp) (f : IntKind → Int → Int → AV) : BAlt := fun G t x y a b k H => Bool.rec (motive := fun _ => R) (bGen op G t x y a b k H)
  (onInt a (fun q m => onInt b (fun q' n => test (Nat.beq (kindNo q) (kindNo q')) (k 0 (f q m n) H)))) (isInt a)
noncomputable def bins (op : BinOp) : BAlt := BinOp.rec (motive := fun _ => BAlt) (bInt .add (fun k x y => .int k (wrapF k (Int.add x y)))) (bInt .sub (fun k x y => .int k (wrapF k (Int.sub x y)))) (bGen .mul) (bGen .quo) (bGen .rem) (bGen .and) (bGen .or) (bGen .xor) (bGen .shl) (bGen .shr) (bGen .andNot) (bInt .eql (fun _ x y => .bool (natEq x y))) (bInt .neq (fun _ x y => .bool (!natEq x y))) (bInt .lss (fun _ x y => .bool (natLt x y))) (bInt .leq (fun _ x y => .bool (!natLt y x))) (bInt .gtr (fun _ x y => .bool (natLt y x))) (bInt .geq (fun _ x y => .bool (!natLt x y))) op
noncomputable def aBin (op : BinOp) (t : Nat) (x y : Operand) : Alt := fun _ G _ pl E H k => opt (fun a => opt (fun b => bins op G t x y a b k H) (fopnd y G E)) (fopnd x G E)
noncomputable def aConvert (src dst : Nat) (x : Operand) : Alt := fun o G call pl E H k => match und G src, und G dst with
  | some (.int _), some (.int kk) => opt (fun a => match a with | .int _ n => k 0 (.int kk (wrapF kk n)) H | _ => none) (fopnd x G E)
  | _, _ => aGen o G call pl E H k
noncomputable def aAlloc (t : Nat) : Alt := fun _ G _ pl E H k => opt (fun z => if z.cells.all AV.scalar then pl (newCells t z.cells) H (fun b h => k 2 (.ptr b 0 0) h) else none) (zeroV G t)
noncomputable def aBox (t : Nat) (x : Operand) : Alt := fun _ G _ pl E H k => opt (fun z => if z.cells.all AV.scalar then pl (newCells t z.cells) H (fun b h => k 2 (.ptr b 0 0) h) else none) (fopnd x G E)
noncomputable def nth (l : List AV) : Nat → (AV → R) → R := List.rec (motive := fun _ => Nat → (AV → R) → R) (fun _ _ => none) (fun a _ ih i k => Nat.rec (motive := fun _ => R) (k a) (fun j _ => ih j k) i) l
noncomputable def aExtract (x : Operand) (i : Nat) : Alt := fun _ G _ pl E H k => opt (fun p => onTuple p (fun l => nth l i (fun v => k 0 v H))) (fopnd x G E)
noncomputable def aBuiltin (b : Builtin) (args : List Operand) (ats : Array Nat) : Alt := fun o G call pl E H k => match b with
  | .len => fopnds args G E (fun l => match l with
    | [x] => match ats[0]? with
      | some t => match lenA G t x with
        | some a => k 0 a H
        | none => aGen o G call pl E H k
      | none => none
    | _ => none)
  | .append => fopnds args G E (fun l => match l with
    | [s, x] => match ats[0]?, ats[1]? with
      | some t, some xt => match appendA G H t xt s x with
        | some (a, h) => k 3 a h
        | none => none
      | _, _ => none
    | _ => none)
  | _ => aGen o G call pl E H k
noncomputable def aValue (f : Operand) (args : List Operand) : Alt := fun _ G call pl E H k => opt (fun p => onFunc p (fun g first captured => fopnds args G E (fun l => call g (first ++ l ++ captured) H (fun a h => k 3 a h)))) (fopnd f G E)
noncomputable def aCall (c : Call) : Alt := fun o => Callee.rec (motive := fun _ => Alt) (fun f => aValue f c.args.toList) (fun _ _ => aGen) (fun b => aBuiltin b c.args.toList c.argTypes) c.callee o
noncomputable def fop (o : Oper) : Glob → CallT → Place → Env → Heap → KD → R := Op.rec (motive := fun _ => Alt)
  (move := aMove) (assign := aMove) (pick := aPick) (alloc := aAlloc) (box := aBox) (build := fun _ _ => aGen) (buildSlice := fun _ _ _ => aGen) (insert := fun _ _ _ _ => aGen)
  (load := aLoad) (store := aStore) (ready := fun _ => aGen) (waits := fun _ => aGen) (nilCheck := aNilCheck) (binOp := fun op t x y _ => aBin op t x y) (unOp := fun _ _ _ => aGen) (convert := aConvert)
  (sliceToArrayPointer := fun _ _ => aGen) (makeInterface := fun _ _ => aGen) (makeFunc := fun _ _ _ => aGen) (makeMap := fun _ _ => aGen) (makeChan := fun _ _ => aGen) (makeSlice := fun _ _ _ => aGen) (slice := fun _ _ _ _ _ => aGen)
  (fieldAddr := aFieldAddr) (field := fun _ _ _ => aGen) (indexAddr := aIndexAddr) (index := fun _ _ _ => aGen) (lookup := fun _ _ _ _ => aGen) (mapUpdate := fun _ _ _ _ => aGen) (mapEntry := fun _ _ _ => aGen) (entryStore := fun _ _ _ _ => aGen)
  (range := fun _ _ => aGen) (next := fun _ _ => aGen) (entry := fun _ => aGen) (typeAssert := fun _ _ _ _ => aGen) (extract := aExtract) (call := aCall) (go := fun _ => aGen) (defer := fun _ => aGen) (panic := fun _ => aGen)
  (send := fun _ _ => aGen) (recv := fun _ _ _ => aGen) (select := fun _ _ => aGen) o.op o
/-- The slot is written, if it is one. -/
noncomputable def fput (d : Option Nat) (x : AV) (E : Env) (k : Env → R) : R := Option.rec (motive := fun _ => R) (k E)
  (fun i => Bool.rec (motive := fun _ => R) none (k ⟨E.n, E.t.set fuel i x⟩) (Nat.blt i E.n)) d
noncomputable def fops (ops : Array Oper) (G : Glob) (call : CallT) (k : Env → Heap → R) (l : List Oper) : Env → Heap → R := List.rec (motive := fun _ => Env → Heap → R) k
  (fun o _ ih E H => Option.rec (motive := fun _ => R) (fop o G call push E H (fun _ a H' => fput o.dst a E (fun E' => ih E' H')))
    (fun _ => match wantedA ops E o with
      | none => none
      | some true => fop o G call push E H (fun _ a H' => fput o.dst a E (fun E' => ih E' H'))
      | some false => fput o.dst (.tuple []) E (fun E' => ih E' H)) o.guard) l
/-- A drawn region: its log, the last first. -/
noncomputable def flog (ops : Array Oper) (G : Glob) (call : CallT) (k : List Entry → Env → Heap → R) (l : List Oper) : Nat → List Entry → Env → Heap → R := List.rec (motive := fun _ => Nat → List Entry → Env → Heap → R) (fun _ acc E H => k acc E H)
  (fun o _ ih n acc E H => Option.rec (motive := fun _ => R) (fop o G call (fun blk h k => k n (h.put n blk)) E H (fun kd a H' => fput o.dst a E (fun E' => ih (Nat.succ n) (⟨o, E, H, a, kd⟩ :: acc) E' H')))
    (fun _ => match wantedA ops E o with
      | none => none
      | some true => fop o G call (fun blk h k => k n (h.put n blk)) E H (fun kd a H' => fput o.dst a E (fun E' => ih (Nat.succ n) (⟨o, E, H, a, kd⟩ :: acc) E' H'))
      | some false => fput o.dst (.tuple []) E (fun E' => ih (Nat.succ n) (⟨o, E, H, .tuple [], 4⟩ :: acc) E' H)) o.guard) l
noncomputable def masks (ops : Array Oper) : List Nat := befA [] ops.toList
noncomputable def fdraw (ops : Array Oper) (G : Glob) (call : CallT) (k : Env → Heap → R) (E : Env) (H : Heap) : R :=
  test (Nat.ble (Nat.add H.next ops.size) H.top) (test (ordA ops (masks ops)) (test (freeA H.t (Nat.sub H.top ops.size) ops.size)
    (flog ops G call (fun acc E' H' => (fun l => test (actPairs (masks ops) (actsOf 0 l)) (test (readsA G (masks ops) (actsOf 0 l) l H' 0 l) (k E' H'))) acc.reverse) ops.toList (Nat.sub H.top ops.size) [] E ⟨H.next, Nat.sub H.top ops.size, H.t⟩)))
structure Ks where
  n : Env → Heap → R
  e : Nat → Env → Heap → R
  r : Env → Heap → R
abbrev CAlt := Glob → CallT → (Nat → List AV → Heap → Option (AV × Heap)) → Nat → Ks → Env → Heap → R
noncomputable def cLoop (ih : CAlt) : CAlt := fun G call c m ks => Nat.rec (motive := fun _ => Env → Heap → R) (fun _ _ => none) (fun _ go => ih G call c m ⟨go, ks.e, ks.r⟩) m
noncomputable def cRegion (ops : Array Oper) (d : Bool) : CAlt := fun G call c m ks E H => Bool.rec (motive := fun _ => R) (fops ops G call ks.n ops.toList E H) (fdraw ops G call ks.n E H) d
noncomputable def cCond (x : Operand) (a b : CAlt) : CAlt := fun G call c m ks E H => opt (fun v => match v with
  | .bool true => a G call c m ks E H
  | .bool false => b G call c m ks E H
  | _ => none) (fopnd x G E)
noncomputable def fcode (x : Code) : CAlt := Code.rec (motive := fun _ => CAlt)
  (skip := fun _ _ _ _ ks E H => ks.n E H) (region := fun _ ops d => cRegion ops d) (seq := fun _ _ a b G call c m ks => a G call c m ⟨b G call c m ks, ks.e, ks.r⟩)
  (cond := fun x _ _ a b => cCond x a b) (block := fun i _ a G call c m ks => a G call c m ⟨ks.n, fun j E H => if Nat.beq j i then ks.n E H else ks.e j E H, ks.r⟩)
  (loop := fun _ a => cLoop a) (rangeFunc := fun _ _ _ _ _ _ _ _ _ _ _ _ _ => none) (exit := fun i _ _ _ _ ks E H => ks.e i E H) (scope := fun _ a => a)
  (label := fun _ _ _ _ _ ks E H => ks.n E H) (goto := fun _ _ _ _ _ _ _ _ => none) (ret := fun _ _ _ _ ks E H => ks.r E H) (refuse := fun _ _ _ _ _ _ _ _ => none) x
noncomputable def fend (G : Glob) (fn : Func) (k : K1) (E : Env) (H : Heap) : R := match resultsA G E H fn.results.toList with
  | some [a] => k a H
  | some l => k (.tuple l) H
  | none => none
noncomputable def fcall (G : Glob) (m : Nat) (n : Nat) : CallT := Nat.rec (motive := fun _ => CallT) (fun _ _ _ _ => none)
  (fun n ih f args H k => match G.ov f with
    | some g => opt (fun (r : AV × Heap) => k r.1 r.2) (g args H)
    | none => match G.fn f with
      | none => none
      | some fn => match fn.body with
        | none => none
        | some c => fcode c G ih (callA G m n) m ⟨fend G fn k, fun _ _ _ => none, fend G fn k⟩ (enterA fn args) H) n
end Go.Abs
