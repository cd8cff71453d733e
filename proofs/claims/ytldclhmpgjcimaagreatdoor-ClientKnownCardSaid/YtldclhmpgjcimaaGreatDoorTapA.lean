/- A deterministic evaluator over the model's code, on abstract values and an abstract heap: the definitions. -/
import Derived.LoopN
import Derived.Scope
namespace Go.Abs
open Go
noncomputable section

/-- A partial table of numbers: a binary trie. -/
inductive T (α : Type) where
  | nil
  | node (l : T α) (v : Option α) (r : T α)
/-- Where a number lies in a table. -/
inductive Path where
  | e
  | l (p : Path)
  | r (p : Path)
  | z
def toP (f : Nat) : Nat → Path :=
  Nat.rec (motive := fun _ => Nat → Path) (fun _ => .z) (fun _ ih i => Nat.rec (motive := fun _ => Path) .e (fun n _ => Nat.rec (motive := fun _ => Path) (.l (ih (Nat.div n 2))) (fun _ _ => .r (ih (Nat.div n 2))) (Nat.mod n 2)) i) f
section
variable {α : Type}
def getP (p : Path) : T α → Option α := Path.rec (motive := fun _ => T α → Option α)
  (fun t => T.rec (motive := fun _ => Option α) none (fun _ v _ _ _ => v) t)
  (fun _ ih t => T.rec (motive := fun _ => Option α) none (fun l _ _ _ _ => ih l) t)
  (fun _ ih t => T.rec (motive := fun _ => Option α) none (fun _ _ r _ _ => ih r) t) (fun _ => none) p
def setP (p : Path) : α → T α → T α := Path.rec (motive := fun _ => α → T α → T α)
  (fun x t => T.rec (motive := fun _ => T α) (.node .nil (some x) .nil) (fun l _ r _ _ => .node l (some x) r) t)
  (fun _ ih x t => T.rec (motive := fun _ => T α) (.node (ih x .nil) none .nil) (fun l v r _ _ => .node (ih x l) v r) t)
  (fun _ ih x t => T.rec (motive := fun _ => T α) (.node .nil none (ih x .nil)) (fun l v r _ _ => .node l v (ih x r)) t) (fun _ t => t) p
def T.get (t : T α) (i : Nat) : Option α := getP (toP 64 i) t
def T.set (_ : Nat) (t : T α) (i : Nat) (x : α) : T α := setP (toP 64 i) x t
end

/-- Abstract values. A place is a block, a version of it, an offset. A slice whose capacity is not known bears 'none', and how many elements it has skipped. -/
inductive AV where
  | bool (b : Bool)
  | int (k : IntKind) (n : Int)
  | str (s : List Nat)
  | ptr (b v o : Nat)
  | nilPtr
  | slice (b v o e len : Nat) (cap : Option Nat)
  | nilSlice
  | vague
  | map (b : Nat)
  | nilMap
  | func (fn : Fn) (first captured : List AV)
  | nilFunc
  | iface (t : Nat) (x : AV)
  | nilIface
  | agg (l : List AV)
  | tuple (l : List AV)
  deriving Inhabited

def AV.scalar : AV → Bool
  | .agg _ => false
  | .tuple _ => false
  | _ => true
def AV.cells : AV → List AV
  | .agg l => l
  | v => [v]

/-- Abstract blocks. A cell bears the version that wrote it last. 'shut': it may not be written. -/
inductive Blk where
  | cells (elem n cur : Nat) (shut : Bool) (t : T (AV × Nat))
  | map (es : List (AV × AV × Nat)) (clock : Nat)
  | mapIter (m : Option Nat) (since : Nat) (seen : List Nat) (stepped : Nat)

/-- New blocks take the numbers from 'next' on, below 'top'; what lies from 'top' on is kept for regions that draw their order. -/
structure Heap where
  next : Nat
  top : Nat
  t : T Blk

def fuel : Nat := 64
def Heap.put (h : Heap) (b : Nat) (x : Blk) : Heap := ⟨h.next, h.top, h.t.set fuel b x⟩
def Heap.push (h : Heap) (x : Blk) : Heap := ⟨h.next + 1, h.top, h.t.set fuel h.next x⟩
def Heap.free (h : Heap) : Bool := Nat.blt h.next h.top

/-- What stands in slots. -/
structure Env where
  n : Nat
  t : T AV
def Env.get (e : Env) (i : Nat) : Option AV := e.t.get i
def Env.put (e : Env) (d : Option Nat) (x : AV) : Option Env :=
  match d with
  | none => some e
  | some i => if Nat.blt i e.n then some ⟨e.n, e.t.set fuel i x⟩ else none

structure Glob where
  ty : Nat → Option TypeInfo
  fn : Nat → Option Func
  nfix : Nat
  stood : Nat → Bool
  ov : Nat → Option (List AV → Heap → Option (AV × Heap))
  low : Nat
  fixd : Nat → Option Value

/-! numbers -/
def natLt : Int → Int → Bool
  | .ofNat a, .ofNat b => Nat.blt a b
  | .ofNat _, .negSucc _ => false
  | .negSucc _, .ofNat _ => true
  | .negSucc a, .negSucc b => Nat.blt b a
def natEq : Int → Int → Bool
  | .ofNat a, .ofNat b => Nat.beq a b
  | .negSucc a, .negSucc b => Nat.beq a b
  | _, _ => false
/-- All whole numbers of a kind from 0 up to this one, exclusive, stay as they are. -/
def lim : IntKind → Nat
  | .i8 => 128 | .i16 => 32768 | .i32 => 2147483648 | .i64 => 9223372036854775808
  | .u8 => 256 | .u16 => 65536 | .u32 => 4294967296 | .u64 => 18446744073709551616
def signed : IntKind → Bool
  | .i8 | .i16 | .i32 | .i64 => true
  | _ => false
def wrapF (k : IntKind) : Int → Int
  | .ofNat m => if Nat.blt m (lim k) then .ofNat m else if signed k then k.wrap (.ofNat m) else .ofNat (m % lim k)
  | .negSucc m => if signed k && Nat.blt m (lim k) then .negSucc m else k.wrap (.negSucc m)
def bitsF (op : BinOp) (k : IntKind) : Int → Int → Option Int
  | .ofNat a, .ofNat b =>
    if Nat.blt a (lim k) && Nat.blt b (lim k) then
      match op with
      | .and => some (.ofNat (Nat.land a b))
      | .or => some (.ofNat (Nat.lor a b))
      | .xor => some (.ofNat (Nat.xor a b))
      | _ => none
    else none
  | _, _ => none
def strEq : List Nat → List Nat → Bool
  | [], [] => true
  | a :: l, b :: r => Nat.beq a b && strEq l r
  | _, _ => false
def strLt : List Nat → List Nat → Bool
  | _, [] => false
  | [], _ :: _ => true
  | a :: l, b :: r => Nat.blt a b || (Nat.beq a b && strLt l r)

def intOp (op : BinOp) (k : IntKind) (x y : Int) : Option AV :=
  match op with
  | .add => some (.int k (wrapF k (x + y)))
  | .sub => some (.int k (wrapF k (x - y)))
  | .mul => some (.int k (wrapF k (x * y)))
  | .quo => if natEq y 0 then none else some (.int k (wrapF k (x.tdiv y)))
  | .rem => if natEq y 0 then none else some (.int k (x.tmod y))
  | .eql => some (.bool (natEq x y))
  | .neq => some (.bool (!natEq x y))
  | .lss => some (.bool (natLt x y))
  | .leq => some (.bool (!natLt y x))
  | .gtr => some (.bool (natLt y x))
  | .geq => some (.bool (!natLt x y))
  | .and | .or | .xor => (bitsF op k x y).map (.int k)
  | _ => none
def shiftOp (op : BinOp) (k : IntKind) (x y : Int) : Option AV :=
  match y with
  | .negSucc _ => none
  | .ofNat n =>
    match x with
    | .negSucc _ => none
    | .ofNat a =>
      match op with
      | .shl => if Nat.blt n 64 && Nat.ble n k.bits then some (.int k (wrapF k (.ofNat (a * 2 ^ n)))) else none
      | .shr => if Nat.ble n k.bits then some (.int k (.ofNat (a / 2 ^ n))) else none
      | _ => none
def strOp (op : BinOp) (x y : List Nat) : Option AV :=
  match op with
  | .add => if Nat.blt (x.length + y.length) 9223372036854775808 then some (.str (x ++ y)) else none
  | .eql => some (.bool (strEq x y))
  | .neq => some (.bool (!strEq x y))
  | .lss => some (.bool (strLt x y))
  | .leq => some (.bool (strLt x y || strEq x y))
  | .gtr => some (.bool (!(strLt x y || strEq x y)))
  | .geq => some (.bool (!strLt x y))
  | _ => none

section
variable (G : Glob)

def und (t : Nat) : Option TypeDesc :=
  match G.ty t with
  | none => none
  | some i => match i.desc with
    | .named _ u => (G.ty u).map (·.desc)
    | d => some d
def size (t : Nat) : Option Nat := (G.ty t).map (·.size)
def isAggD : TypeDesc → Bool
  | .struct _ => true
  | .array _ _ => true
  | _ => false
def agg (t : Nat) : Option Bool := (und G t).map isAggD

/-- A constant of the program, or one cell of a zero value. -/
def absCell : Value → Option AV
  | .bool b => some (.bool b)
  | .int k n => some (.int k n)
  | .string s => some (.str (s.data.toList.map UInt8.toNat))
  | .pointer none => some .nilPtr
  | .slice none 0 0 => some .nilSlice
  | .map none => some .nilMap
  | .nilFunc => some .nilFunc
  | .nilIface => some .nilIface
  | _ => none
def absAll : List Value → Option (List AV)
  | [] => some []
  | v :: r => match absCell v, absAll r with
    | some a, some l => some (a :: l)
    | _, _ => none
def absV : Value → Option AV
  | .agg cs => (absAll cs.toList).map .agg
  | .tuple vs => (absAll vs.toList).map .tuple
  | .iface t v => (absCell v).map (.iface t)
  | v => absCell v
def zeroV (t : Nat) : Option AV :=
  match G.ty t with
  | none => none
  | some i => match i.zero with
    | none => none
    | some z => absV z

variable (E : Env) (H : Heap)

def opnd : Operand → Option AV
  | .tmp t => E.get t
  | .const v => absV v
  | .global g => if Nat.blt g G.nfix then some (.ptr g 0 0) else none
  | .func f => some (.func (.func f) [] [])
def opnds : List Operand → Option (List AV)
  | [] => some []
  | x :: r => match opnd G E x, opnds r with
    | some a, some l => some (a :: l)
    | _, _ => none

/-! cells -/
def cellsGet (t : T (AV × Nat)) (v o n : Nat) : Option (List AV) := Nat.rec (motive := fun _ => Nat → Option (List AV)) (fun _ => some [])
  (fun _ ih o => Option.rec (motive := fun _ => Option (List AV)) none (fun c => Bool.rec (motive := fun _ => Option (List AV)) none (Option.rec (motive := fun _ => Option (List AV)) none (fun l => some (c.1 :: l)) (ih (Nat.succ o))) (Nat.ble c.2 v)) (t.get o)) n o
theorem cellsGet_zero (t : T (AV × Nat)) (v o : Nat) : cellsGet t v o 0 = some [] := rfl
theorem cellsGet_succ (t : T (AV × Nat)) (v o n : Nat) : cellsGet t v o (n + 1) = match t.get o with
    | none => none
    | some (a, w) => if Nat.ble w v then (match cellsGet t v (o + 1) n with | none => none | some l => some (a :: l)) else none := by
  show Option.rec (motive := fun _ => Option (List AV)) none (fun c => Bool.rec (motive := fun _ => Option (List AV)) none (Option.rec (motive := fun _ => Option (List AV)) none (fun l => some (c.1 :: l)) (cellsGet t v (o + 1) n)) (Nat.ble c.2 v)) (t.get o) = _
  cases t.get o with
  | none => rfl
  | some c =>
    obtain ⟨a, w⟩ := c
    cases hb : Nat.ble w v with
    | false => simp only [hb]; rfl
    | true =>
      simp only [hb]
      cases cellsGet t v (o + 1) n <;> rfl
def cellsSet (tag : Nat) : T (AV × Nat) → Nat → List AV → Option (T (AV × Nat))
  | t, _, [] => some t
  | t, o, a :: r => match t.get o with
    | none => none
    | some _ => if a.scalar then cellsSet tag (t.set fuel o (a, tag)) (o + 1) r else none
def cellsNew (tag : Nat) (t : T (AV × Nat)) (o : Nat) (l : List AV) : T (AV × Nat) := List.rec (motive := fun _ => Nat → T (AV × Nat) → T (AV × Nat)) (fun _ t => t) (fun a _ ih o t => ih (Nat.succ o) (t.set fuel o (a, tag))) l o t
theorem cellsNew_nil (tag : Nat) (t : T (AV × Nat)) (o : Nat) : cellsNew tag t o [] = t := rfl
theorem cellsNew_cons (tag : Nat) (t : T (AV × Nat)) (o : Nat) (a : AV) (r : List AV) : cellsNew tag t o (a :: r) = cellsNew tag (t.set fuel o (a, tag)) (o + 1) r := rfl
/-- The first n cells alone, their tags kept. -/
def cellsCut (t : T (AV × Nat)) : Nat → T (AV × Nat)
  | 0 => .nil
  | n + 1 => match t.get n with
    | none => cellsCut t n
    | some x => (cellsCut t n).set fuel n x
def newCells (elem : Nat) (l : List AV) : Blk := .cells elem l.length 0 false (cellsNew 0 .nil 0 l)
def loadRow (b v o n : Nat) : Option (List AV) :=
  match H.t.get b with
  | some (.cells _ _ _ _ t) => cellsGet t v o n
  | _ => none
def storeRow (b v o : Nat) (l : List AV) : Option Heap :=
  match H.t.get b with
  | some (.cells e n cur false t) => if Nat.beq v cur then (cellsSet cur t o l).map fun t' => H.put b (.cells e n cur false t') else none
  | _ => none
def loadVarA (t : Nat) (b v o : Nat) : Option AV :=
  match agg G t, size G t with
  | some true, some n => (loadRow H b v o n).map .agg
  | some false, some _ => match loadRow H b v o 1 with
    | some [a] => some a
    | _ => none
  | _, _ => none
def storeVarA (t : Nat) (b v o : Nat) (x : AV) : Option Heap :=
  match size G t with
  | some n => if Nat.beq x.cells.length n then storeRow H b v o x.cells else none
  | none => none
def partA (t : Nat) (cs : List AV) (off : Nat) : Option AV :=
  match agg G t, size G t with
  | some true, some n => if Nat.ble (off + n) cs.length then some (.agg ((cs.drop off).take n)) else none
  | some false, some _ => cs[off]?
  | _, _ => none

def fillAt : (cells : List AV) → (off : Nat) → (part : List AV) → Option (List AV)
  | cells, _, [] => some cells
  | [], _, _ :: _ => none
  | _ :: cs, 0, p :: ps => (fillAt cs 0 ps).map (p :: ·)
  | c :: cs, off + 1, ps => (fillAt cs off ps).map (c :: ·)
def fillA (place : Nat → Option (Nat × Nat)) : List AV → List (Nat × AV) → Option (List AV)
  | cells, [] => some cells
  | cells, (i, v) :: rest =>
    match place i with
    | none => none
    | some (off, sz) =>
      if Nat.beq v.cells.length sz && Nat.ble (off + sz) cells.length then
        match fillAt cells off v.cells with
        | none => none
        | some cs => fillA place cs rest
      else none
def partsA : List (Nat × Operand) → Option (List (Nat × AV))
  | [] => some []
  | (i, x) :: r => match opnd G E x, partsA r with
    | some a, some l => some ((i, a) :: l)
    | _, _ => none
def fieldPlaces : List Field → Option (List (Nat × Nat))
  | [] => some []
  | f :: r => match size G f.type, fieldPlaces r with
    | some n, some l => some ((f.offset, n) :: l)
    | _, _ => none

/-! equality -/
def noIface : Nat → Nat → Bool
  | 0, _ => false
  | d + 1, t => match und G t with
    | some (.interface _) => false
    | some (.struct fs) => fs.toList.all fun f => noIface d f.type
    | some (.array _ e) => noIface d e
    | some _ => true
    | none => false
mutual
def eqA : Nat → Nat → AV → AV → Option Bool
  | 0, _, _, _ => none
  | d + 1, t, x, y =>
    match und G t, x, y with
    | some .bool, .bool a, .bool b => some (a == b)
    | some (.int _), .int k a, .int k' b => if k = k' then some (natEq a b) else none
    | some .string, .str a, .str b => some (strEq a b)
    | some (.pointer _), .nilPtr, .nilPtr => some true
    | some (.pointer _), .nilPtr, .ptr _ _ _ => some false
    | some (.pointer _), .ptr _ _ _, .nilPtr => some false
    | some (.interface _), .nilIface, .nilIface => some true
    | some (.interface _), .nilIface, .iface _ _ => some false
    | some (.interface _), .iface _ _, .nilIface => some false
    | some (.interface _), .iface tx vx, .iface ty vy =>
      if Nat.beq tx ty then
        match G.ty tx with
        | some i => if i.comparable then eqA d tx vx vy else none
        | none => none
      else some false
    | some (.struct fs), .agg xs, .agg ys => if G.stood t then eqFields d fs.toList xs ys else none
    | some (.array len e), .agg xs, .agg ys => match size G e with
      | some n => eqElems d e n xs ys 0 len
      | none => none
    | some (.slice _), .nilSlice, .nilSlice => some true
    | some (.slice _), .nilSlice, .slice .. => some false
    | some (.slice _), .slice .., .nilSlice => some false
    | some (.slice _), .vague, .nilSlice => some false
    | some (.slice _), .nilSlice, .vague => some false
    | some (.map _ _), .nilMap, .nilMap => some true
    | some (.map _ _), .nilMap, .map _ => some false
    | some (.map _ _), .map _, .nilMap => some false
    | some (.func _ _ _), .nilFunc, .nilFunc => some true
    | some (.func _ _ _), .nilFunc, .func .. => some false
    | some (.func _ _ _), .func .., .nilFunc => some false
    | _, _, _ => none
def eqFields : Nat → List Field → List AV → List AV → Option Bool
  | 0, _, _, _ => none
  | _ + 1, [], _, _ => some true
  | d + 1, f :: r, xs, ys =>
    if f.name == "_" then eqFields d r xs ys else
    match partA G f.type xs f.offset, partA G f.type ys f.offset with
    | some a, some b => match eqA d f.type a b with
      | some true => eqFields d r xs ys
      | q => q
    | _, _ => none
def eqElems : Nat → Nat → Nat → List AV → List AV → Nat → Nat → Option Bool
  | 0, _, _, _, _, _, _ => none
  | _ + 1, _, _, _, _, _, 0 => some true
  | d + 1, e, n, xs, ys, i, m + 1 =>
    match partA G e xs (i * n), partA G e ys (i * n) with
    | some a, some b => match eqA d e a b with
      | some true => eqElems d e n xs ys (i + 1) m
      | q => q
    | _, _ => none
end
def eqFuel : Nat := 400

/-- May the guard ahead of '==' let these by? -/
def eqGuardA (t : Nat) (x y : Operand) (a b : AV) : Bool :=
  match a, b with
  | .nilIface, .nilIface => (x matches .const _) || (y matches .const _)
  | .agg _, .agg _ => noIface G 8 t
  | _, _ => true

def guardA (op : BinOp) (t : Nat) (x y : Operand) (a b : AV) : Bool :=
  match op with
  | .eql => eqGuardA G t x y a b
  | .neq => eqGuardA G t x y a b
  | _ => true
def binOpA (op : BinOp) (t : Nat) (a b : AV) : Option AV :=
  match a, b with
  | .int k x, .int k' y =>
    match op with
    | .shl | .shr => shiftOp op k x y
    | _ => if k = k' then intOp op k x y else none
  | .str x, .str y => strOp op x y
  | _, _ =>
    match op with
    | .eql => (eqA G eqFuel t a b).map .bool
    | .neq => (eqA G eqFuel t a b).map fun r => .bool (!r)
    | _ => none

/-! operations that touch no memory -/
def idx (x : AV) (len : Nat) : Option Nat :=
  match x with
  | .int _ (.ofNat i) => if Nat.blt i len then some i else none
  | _ => none
def bound (x : Option AV) (dflt most : Nat) : Option Nat :=
  match x with
  | none => some dflt
  | some (.int _ (.ofNat i)) => if Nat.ble i most then some i else none
  | _ => none
def optOpnd : Option Operand → Option (Option AV)
  | none => some none
  | some x => (opnd G E x).map some

/-- The three bounds of a slice expression over len elements, c of room. -/
def bnds (c len : Nat) (lo hi mx : Option AV) : Option (Nat × Nat × Nat) :=
  match hi, mx with
  | none, some _ => none
  | _, _ => match bound mx c c with
    | none => none
    | some m => match bound hi len m with
      | none => none
      | some h => match bound lo 0 h with
        | none => none
        | some l => some (l, h, m)
def cutAt (b v o e sz : Nat) (l h m : Nat) : AV :=
  if Nat.beq m l then .slice b v o e (h - l) (some (m - l)) else .slice b v (o + l * sz) e (h - l) (some (m - l))
/-- A slice's part: of a slice in block b from offset o on; 'e' elements of the row lie ahead; its elements take sz cells. -/
def subSlice (b v o e sz len : Nat) (cap : Option Nat) (lo hi mx : Option AV) : Option AV :=
  match cap, mx with
  | some c, mx => match bnds c len lo hi mx with
    | some (l, h, m) => some (cutAt b v o e sz l h m)
    | none => none
  | none, some m' => match bnds len len lo hi (some m') with
    | some (l, h, m) => some (cutAt b v o e sz l h m)
    | none => none
  | none, none => match bnds len len lo hi none with
    | some (l, h, _) =>
      if Nat.beq l 0 then some (.slice b v o e h none)
      else if Nat.beq l len then some .vague
      else some (.slice b v (o + l * sz) (e + l) (h - l) none)
    | none => none

def sliceA (t : Nat) (x : AV) (lo hi mx : Option AV) : Option AV :=
  match und G t, x with
  | some (.array n e), .ptr b v o =>
    match size G e, bnds n n lo hi mx with
    | some sz, some (l, h, m) => some (cutAt b v o 0 sz l h m)
    | _, _ => none
  | some .string, .str s =>
    match mx, bnds s.length s.length lo hi none with
    | none, some (l, h, _) => some (.str ((s.take h).drop l))
    | _, _ => none
  | some (.slice e), .slice b v o e' len cap =>
    match size G e with
    | none => none
    | some sz => subSlice b v o e' sz len cap lo hi mx
  | some (.slice e), .nilSlice =>
    match size G e, bnds 0 0 lo hi mx with
    | some _, some _ => some .nilSlice
    | _, _ => none
  | some (.slice e), .vague =>
    match size G e, mx, bnds 0 0 lo hi none with
    | some _, none, some _ => some .vague
    | _, _, _ => none
  | _, _ => none

def lenA (t : Nat) (x : AV) : Option AV :=
  match und G t, x with
  | some .string, .str s => some (.int .i64 (.ofNat s.length))
  | some (.array n _), _ => some (.int .i64 (.ofNat n))
  | some (.pointer a), _ => match und G a with
    | some (.array n _) => some (.int .i64 (.ofNat n))
    | _ => none
  | some (.slice _), .slice _ _ _ _ n _ => some (.int .i64 (.ofNat n))
  | some (.slice _), .nilSlice => some (.int .i64 (.ofNat 0))
  | some (.slice _), .vague => some (.int .i64 (.ofNat 0))
  | some (.map _ _), .nilMap => some (.int .i64 (.ofNat 0))
  | _, _ => none
def capA (t : Nat) (x : AV) : Option AV :=
  match und G t, x with
  | some (.slice _), .slice _ _ _ _ _ (some c) => some (.int .i64 (.ofNat c))
  | some (.slice _), .nilSlice => some (.int .i64 (.ofNat 0))
  | _, _ => none
def min2A : AV → AV → Option AV
  | .int k x, .int _ y => some (.int k (if natLt y x then y else x))
  | _, _ => none
def max2A : AV → AV → Option AV
  | .int k x, .int _ y => some (.int k (if natLt x y then y else x))
  | _, _ => none
def foldA (f : AV → AV → Option AV) : AV → List AV → Option AV
  | a, [] => some a
  | a, b :: r => match f a b with
    | none => none
    | some c => foldA f c r

def pureOp (o : Oper) : Option AV :=
  match o.op with
  | .move x | .assign x => opnd G E x
  | .pick c a b => match opnd G E c with
    | some (.bool true) => opnd G E a
    | some (.bool false) => opnd G E b
    | _ => none
  | .nilCheck x => match opnd G E x with
    | some (.ptr b v o) => some (.ptr b v o)
    | some (.iface t v) => some (.iface t v)
    | some (.func (.func f) first captured) => some (.func (.func f) first captured)
    | _ => none
  | .build t parts =>
    match zeroV G t, und G t, partsA G E parts.toList with
    | some (.agg z), some (.struct fs), some ps => match fieldPlaces G fs.toList with
      | some pl => (fillA (pl[·]?) z ps).map .agg
      | none => none
    | some (.agg z), some (.array _ e), some ps => match size G e with
      | some sz => (fillA (fun i => some (i * sz, sz)) z ps).map .agg
      | none => none
    | _, _, _ => none
  | .binOp op t x y _ => match opnd G E x, opnd G E y with
    | some a, some b => if guardA G op t x y a b then binOpA G op t a b else none
    | _, _ => none
  | .unOp op _ x => match op, opnd G E x with
    | .not, some (.bool b) => some (.bool (!b))
    | .neg, some (.int k n) => some (.int k (wrapF k (0 - n)))
    | .xor, some (.int k n) => if signed k then none else (bitsF .xor k (.ofNat (lim k - 1)) n).map (.int k)
    | _, _ => none
  | .convert src dst x => match und G src, und G dst, opnd G E x with
    | some (.int _), some (.int k), some (.int _ n) => some (.int k (wrapF k n))
    | some .string, some .string, some (.str s) => some (.str s)
    | _, _, _ => none
  | .makeInterface t x => match und G t, opnd G E x with
    | some (.interface _), _ => none
    | some _, some a => some (.iface t a)
    | _, _ => none
  | .makeFunc fn first captured => match opnds G E first.toList, opnds G E captured.toList with
    | some f, some c => some (.func fn f c)
    | _, _ => none
  | .slice t x lo hi mx => match opnd G E x, optOpnd G E lo, optOpnd G E hi, optOpnd G E mx with
    | some a, some l, some h, some m => sliceA G t a l h m
    | _, _, _, _ => none
  | .fieldAddr s x f => match und G s, opnd G E x with
    | some (.struct fs), some (.ptr b v o) => match fs[f]? with
      | some fd => match size G fd.type with
        | some (_ + 1) => some (.ptr b v (o + fd.offset))
        | _ => none
      | none => none
    | _, _ => none
  | .field t x f => match und G t, opnd G E x with
    | some (.struct fs), some (.agg cs) => match fs[f]? with
      | some fd => partA G fd.type cs fd.offset
      | none => none
    | _, _ => none
  | .indexAddr t x ix => match und G t, opnd G E x, opnd G E ix with
    | some (.array len e), some (.ptr b v o), some i => match idx i len, size G e with
      | some j, some sz => some (.ptr b v (o + j * sz))
      | _, _ => none
    | some (.slice e), some (.slice b v o _ len _), some i => match idx i len, size G e with
      | some j, some sz => some (.ptr b v (o + j * sz))
      | _, _ => none
    | _, _, _ => none
  | .index t x ix => match und G t, opnd G E x, opnd G E ix with
    | some (.array len e), some (.agg cs), some i => match idx i len, size G e with
      | some j, some sz => partA G e cs (j * sz)
      | _, _ => none
    | some .string, some (.str s), some (.int _ (.ofNat i)) => (s[i]?).map fun c => .int .u8 (.ofNat c)
    | _, _, _ => none
  | .extract x i => match opnd G E x with
    | some (.tuple l) => l[i]?
    | _ => none
  | .call { callee := .builtin b, args, argTypes } =>
    match b, opnds G E args.toList with
    | .len, some [x] => match argTypes[0]? with
      | some t => lenA G t x
      | none => none
    | .cap, some [x] => match argTypes[0]? with
      | some t => capA G t x
      | none => none
    | .min, some (a :: r) => foldA min2A a r
    | .max, some (a :: r) => foldA max2A a r
    | _, _ => none
  | _ => none

/-! operations that read memory -/
def findA (k : Nat) (key : AV) : List (AV × AV × Nat) → Nat → Option (Option (Nat × AV))
  | [], _ => some none
  | (x, v, _) :: r, i => match eqA G eqFuel k key x with
    | some true => some (some (i, v))
    | some false => findA k key r (i + 1)
    | none => none
/-- Keys that need no check of their own: numbers, texts, bools, arrays of numbers. -/
def plainKey (k : Nat) (key : AV) : Bool :=
  match und G k, key with
  | some (.int kk), .int k' _ => kk = k'
  | some .string, .str _ => true
  | some .bool, .bool _ => true
  | some (.array len e), .agg cs => (match und G e, size G e with | some (.int _), some 1 => true | _, _ => false) && Nat.beq cs.length len
  | _, _ => false
def lookupA (t : Nat) (m key : AV) (ok : Bool) : Option AV :=
  match und G t with
  | some (.map k e) =>
    if plainKey G k key then
      let es := match m with
        | .nilMap => some []
        | .map b => match H.t.get b with
          | some (.map es _) => some es
          | _ => none
        | _ => none
      match es with
      | none => none
      | some es => match findA G k key es 0, zeroV G e with
        | some (some (_, v)), _ => some (if ok then .tuple [v, .bool true] else v)
        | some none, some z => some (if ok then .tuple [z, .bool false] else z)
        | _, _ => none
    else none
  | _ => none
def bytesOf : List AV → Option (List Nat)
  | [] => some []
  | .int .u8 (.ofNat n) :: r => if Nat.blt n 256 then (bytesOf r).map (n :: ·) else none
  | _ => none
def readOp (o : Oper) : Option AV :=
  match o.op with
  | .load t x => match opnd G E x with
    | some (.ptr b v off) => loadVarA G H t b v off
    | _ => none
  | .lookup t x ix ok => match opnd G E x, opnd G E ix with
    | some m, some k => lookupA G H t m k ok
    | _, _ => none
  | .convert src dst x => match und G src, und G dst, opnd G E x with
    | some (.slice e), some .string, some a => match und G e with
      | some (.int .u8) => match a with
        | .nilSlice => some (.str [])
        | .vague => some (.str [])
        | .slice b v off _ len _ => match loadRow H b v off len with
          | some l => (bytesOf l).map .str
          | none => none
        | _ => none
      | _ => none
    | _, _, _ => none
  | .call { callee := .builtin .len, args, argTypes } =>
    match opnds G E args.toList, argTypes[0]? with
    | some [.map b], some t => match und G t, H.t.get b with
      | some (.map _ _), some (.map es _) => some (.int .i64 (.ofNat es.length))
      | _, _ => none
    | _, _ => none
  | _ => none

/-! operations that make a block and touch no other -/
def rep (z : List AV) : Nat → List AV
  | 0 => []
  | n + 1 => z ++ rep z n
/-- The new block, and what is told of it, by its number. -/
def newOp (o : Oper) : Option (Blk × (Nat → AV)) :=
  match o.op with
  | .alloc t => match zeroV G t with
    | some z => if z.cells.all AV.scalar then some (newCells t z.cells, fun b => .ptr b 0 0) else none
    | none => none
  | .box t x => match opnd G E x with
    | some a => if a.cells.all AV.scalar then some (newCells t a.cells, fun b => .ptr b 0 0) else none
    | none => none
  | .buildSlice t len parts =>
    match und G t with
    | some (.slice e) => match size G e, zeroV G e, partsA G E parts.toList with
      | some sz, some z, some ps =>
        if Nat.blt (len * sz) 16777216 && Nat.beq z.cells.length sz then
          match fillA (fun i => some (i * sz, sz)) (rep z.cells len) ps with
          | some cs => if cs.all AV.scalar then some (newCells e cs, fun b => .slice b 0 0 0 len (some len)) else none
          | none => none
        else none
      | _, _, _ => none
    | _ => none
  | .makeMap _ none => some (.map [] 0, fun b => .map b)
  | .makeMap t (some x) => match und G t, opnd G E x with
    | some (.map _ _), some (.int _ _) => some (.map [] 0, fun b => .map b)
    | _, _ => none
  | .makeSlice t l c => match und G t with
    | some (.slice e) => match G.ty e, zeroV G e, opnd G E l, opnd G E c with
      | some i, some z, some (.int _ (.ofNat n)), some (.int _ (.ofNat m)) =>
        if Nat.ble n m && Nat.blt (m * i.bytes) 1073741824 && Nat.blt m 1073741824 && Nat.beq z.cells.length i.size && z.cells.all AV.scalar then
          some (newCells e (rep z.cells m), fun b => .slice b 0 0 0 n (some m))
        else none
      | _, _, _, _ => none
    | _ => none
  | .convert src dst x => match und G src, und G dst, opnd G E x with
    | some .string, some (.slice e), some (.str s) => match und G e with
      | some (.int .u8) => match size G e with
        | some 1 => some (newCells e (s.map fun c => .int .u8 (.ofNat c)), fun b => .slice b 0 0 0 s.length none)
        | _ => none
      | _ => none
    | _, _, _ => none
  | _ => none

/-! operations that act -/
inductive Act where
  | val (x : AV) (H : Heap)
  | enter (f : Nat) (args : List AV)

/-- The cells that are appended, and how many elements they are. -/
def sourceA (sz : Nat) (x : AV) : Option (Nat × List AV) :=
  match x with
  | .nilSlice => some (0, [])
  | .vague => some (0, [])
  | .slice b v o _ n _ => (loadRow H b v o (n * sz)).map fun l => (n, l)
  | .str s => if Nat.beq sz 1 then some (s.length, s.map fun c => .int .u8 (.ofNat c)) else none
  | _ => none
/-- A new row of a slice's cells and some more. -/
def regrow (e : Nat) (old new : List AV) (need : Nat) : AV × Heap :=
  (.slice H.next 0 0 0 need none, H.push (newCells e (old ++ new)))
def appendA (t xt : Nat) (s x : AV) : Option (AV × Heap) :=
  match und G t with
  | some (.slice e) =>
    match G.ty e, zeroV G e, und G xt with
    | some i, some z, some xd =>
      if xd matches .int _ then none else
      if !(Nat.beq z.cells.length i.size && Nat.blt 0 i.size && Nat.blt i.bytes 65536) then none else
      match sourceA H i.size x with
      | none => none
      | some (n, new) =>
        match s with
        | .nilSlice => if Nat.beq n 0 then some (.nilSlice, H) else if Nat.blt n 1073741824 && H.free then some (regrow H e [] new n) else none
        | .vague => if Nat.beq n 0 then some (.vague, H) else none
        | .slice b v o el len cap =>
          if !Nat.blt (len + n) 1073741824 then none else
          match cap with
          | some c =>
            if Nat.ble (len + n) c then (storeRow H b v (o + len * i.size) new).map fun h => (.slice b v o el (len + n) (some c), h)
            else match loadRow H b v o (len * i.size) with
              | some old => if H.free then some (regrow H e old new (len + n)) else none
              | none => none
          | none =>
            if Nat.beq n 0 then some (.slice b v o el len none, H) else
            match H.t.get b with
            | some (.cells e' m cur false tt) =>
              if Nat.beq v cur && Nat.beq o 0 && Nat.beq el 0 && Nat.ble (len * i.size) m && Nat.beq e e' && new.all AV.scalar then
                let tt := if Nat.beq (len * i.size) m then tt else cellsCut tt (len * i.size)
                some (.slice b (cur + 1) 0 0 (len + n) none,
                  H.put b (.cells e' ((len + n) * i.size) (cur + 1) false (cellsNew (cur + 1) tt (len * i.size) new)))
              else none
            | _ => none
        | _ => none
    | _, _, _ => none
  | _ => none

def sameCellA : AV → AV → Bool
  | .int k a, .int k' b => k = k' && natEq a b
  | .str a, .str b => strEq a b
  | .bool a, .bool b => a == b
  | _, _ => false
def sameAllA : List AV → List AV → Bool
  | [], [] => true
  | a :: l, b :: r => sameCellA a b && sameAllA l r
  | _, _ => false
/-- Keys of the same bits. -/
def sameA : AV → AV → Bool
  | .agg l, .agg r => sameAllA l r
  | a, b => sameCellA a b
def sameAt (es : List (AV × AV × Nat)) (i : Nat) (key : AV) : Bool :=
  match es[i]? with
  | some (x, _, _) => sameA x key
  | none => false
def mapPut (k : Nat) (m key : AV) (f : Option AV → AV) : Option Heap :=
  if plainKey G k key then
    match m with
    | .map b => match H.t.get b with
      | some (.map es clock) => match findA G k key es 0 with
        | some (some (i, v)) => if sameAt es i key then some (H.put b (.map (es.modify i fun (_, _, s) => (key, f (some v), s)) clock)) else none
        | some none => some (H.put b (.map (es ++ [(key, f none, clock)]) (clock + 1)))
        | none => none
      | _ => none
    | _ => none
  else none

/-! iteration over a map: in so far as there is no choice -/
def rangeA (m : AV) : Option Act :=
  match m with
  | .map b => match H.t.get b with
    | some (.map _ clock) => if H.free then some (.val (.ptr H.next 0 0) (H.push (.mapIter (some b) clock [] clock))) else none
    | _ => none
  | .nilMap => if H.free then some (.val (.ptr H.next 0 0) (H.push (.mapIter none 0 [] 0))) else none
  | _ => none
def leftA (seen : List Nat) (es : List (AV × AV × Nat)) : List (AV × AV × Nat) := es.filter fun e => !seen.any (fun s => Nat.beq s e.2.2)
def nextA (p : AV) : Option Act :=
  match p with
  | .ptr b _ o => if Nat.beq o 0 then (match H.t.get b with
    | some (.mapIter none _ _ _) => some (.val (.tuple [.bool false]) H)
    | some (.mapIter (some m) since seen last) => match H.t.get m with
      | some (.map es clock) =>
        if !seen.isEmpty && !es.isEmpty && es.all (fun e => Nat.ble last e.2.2) then none else
        match leftA seen es with
        | [] => some (.val (.tuple [.bool false]) H)
        | [(k, v, s)] => if Nat.blt s since then some (.val (.tuple [.bool true, k, v]) (H.put b (.mapIter (some m) since (seen ++ [s]) clock))) else none
        | _ => none
      | _ => none
    | _ => none) else none
  | _ => none
def bornAt (n : Nat) : List (AV × AV × Nat) → Option (AV × AV)
  | [] => none
  | (k, v, s) :: r => if Nat.beq s n then some (k, v) else bornAt n r
def entryA (p : AV) : Option Act :=
  match p with
  | .ptr b _ o => if Nat.beq o 0 then (match H.t.get b with
    | some (.mapIter (some m) _ seen stepped) => match seen.getLast?, H.t.get m with
      | some n, some (.map es clock) => if Nat.beq clock stepped then (match bornAt n es with | some (k, v) => some (.val (.tuple [k, v]) H) | none => none) else none
      | _, _ => none
    | _ => none) else none
  | _ => none

def actOp (o : Oper) : Option Act :=
  match o.op with
  | .range t x => match und G t, opnd G E x with
    | some (.map _ _), some m => rangeA H m
    | _, _ => none
  | .next it false => match opnd G E it with
    | some p => nextA H p
    | none => none
  | .entry it => match opnd G E it with
    | some p => entryA H p
    | none => none
  | .store t x y => match opnd G E x, opnd G E y with
    | some (.ptr b v off), some a => (storeVarA G H t b v off a).map fun h => .val (.tuple []) h
    | _, _ => none
  | .mapUpdate t m k x | .insert t m k x => match und G t, opnd G E m, opnd G E k, opnd G E x with
    | some (.map kt _), some a, some key, some v => (mapPut G H kt a key fun _ => v).map fun h => .val (.tuple []) h
    | _, _, _, _ => none
  | .mapEntry t m k => match und G t, opnd G E m, opnd G E k with
    | some (.map kt e), some (.map b), some key => match zeroV G e with
      | some z =>
        if plainKey G kt key then
          match H.t.get b with
          | some (.map es clock) => match findA G kt key es 0 with
            | some (some (i, v)) => match es[i]? with
              | some (x, _, born) => if !sameA x key then none else some (.val (.tuple [v, .int .i64 (.ofNat born)]) (H.put b (.map (es.modify i fun (_, v, s) => (key, v, s)) clock)))
              | none => none
            | some none => some (.val (.tuple [z, .int .i64 (.ofNat clock)]) (H.put b (.map (es ++ [(key, z, clock)]) (clock + 1))))
            | none => none
          | _ => none
        else none
      | none => none
    | _, _, _ => none
  | .entryStore _ m s x => match opnd G E m, opnd G E s, opnd G E x with
    | some (.map b), some (.int _ (.ofNat born)), some v => match H.t.get b with
      | some (.map es clock) => match es.findIdx? fun e => Nat.beq e.2.2 born with
        | some i => some (.val (.tuple []) (H.put b (.map (es.modify i fun (k, _, s) => (k, v, s)) clock)))
        | none => none
      | _ => none
    | _, _, _ => none
  | .call { callee := .builtin b, args, argTypes } =>
    match b, opnds G E args.toList with
    | .append, some [s, x] => match argTypes[0]?, argTypes[1]? with
      | some t, some xt => (appendA G H t xt s x).map fun (a, h) => .val a h
      | _, _ => none
    | .copy, some [d, x] => match argTypes[0]? with
      | some t => match und G t with
        | some (.slice e) => match size G e with
          | some sz => match sourceA H sz x with
            | none => none
            | some (n, l) => match d with
              | .nilSlice => some (.val (.int .i64 (.ofNat 0)) H)
              | .vague => some (.val (.int .i64 (.ofNat 0)) H)
              | .slice b v o _ len _ =>
                let k := Nat.min n len
                (storeRow H b v o (l.take (k * sz))).map fun h => .val (.int .i64 (.ofNat k)) h
              | _ => none
          | none => none
        | _ => none
      | none => none
    | .delete, some [m, key] => match argTypes[0]? with
      | some t => match und G t, m with
        | some (.map kt _), .nilMap => if plainKey G kt key then some (.val (.tuple []) H) else none
        | some (.map kt _), .map b =>
          if plainKey G kt key then
            match H.t.get b with
            | some (.map es clock) => match findA G kt key es 0 with
              | some (some (i, _)) => some (.val (.tuple []) (H.put b (.map (es.eraseIdx i) clock)))
              | some none => some (.val (.tuple []) H)
              | none => none
            | _ => none
          else none
        | _, _ => none
      | none => none
    | _, _ => none
  | .call { callee := .value f, args, .. } => match opnd G E f, opnds G E args.toList with
    | some (.func (.func g) first captured), some l => some (.enter g (first ++ l ++ captured))
    | _, _ => none
  | _ => none

end

/-! code -/
inductive Ex where
  | normal
  | exit (id : Nat)
  | ret

section
variable (G : Glob) (call : Nat → List AV → Heap → Option (AV × Heap))

/-- One operation: the value for its slot, the heap behind it. -/
def opA (o : Oper) (E : Env) (H : Heap) : Option (AV × Heap) :=
  match pureOp G E o with
  | some a => some (a, H)
  | none => match readOp G E H o with
    | some a => some (a, H)
    | none => match newOp G E o with
      | some (b, mk) => if H.free then some (mk H.next, H.push b) else none
      | none => match actOp G E H o with
        | some (.val a h) => some (a, h)
        | some (.enter f args) => call f args H
        | none => none

def wantedA (ops : Array Oper) (E : Env) (o : Oper) : Option Bool :=
  match o.guard with
  | none => some true
  | some (j, want) => match (ops[j]?).bind (·.dst) with
    | none => none
    | some d => match E.get d with
      | some (.bool b) => some (b == want)
      | some (.tuple []) => some false
      | _ => none

/-- In the order of the text. An operation that is not wanted leaves its slot as it is not to be read: as an empty tuple. -/
def opsA (ops : Array Oper) : List Oper → Env → Heap → Option (Env × Heap)
  | [], E, H => some (E, H)
  | o :: r, E, H => match wantedA ops E o with
    | none => none
    | some true => match opA G call o E H with
      | none => none
      | some (a, H') => match E.put o.dst a with
        | none => none
        | some E' => opsA ops r E' H'
    | some false => match E.put o.dst (.tuple []) with
      | none => none
      | some E' => opsA ops r E' H

/-! regions that draw their order: run in the order of the text; then every order that the edges allow is looked at -/
mutual
def eqAV : AV → AV → Bool
  | .bool a, .bool b => a == b
  | .int k a, .int k' b => k = k' && natEq a b
  | .str a, .str b => strEq a b
  | .ptr b v o, .ptr b' v' o' => Nat.beq b b' && Nat.beq v v' && Nat.beq o o'
  | .nilPtr, .nilPtr => true
  | .slice b v o e l (some c), .slice b' v' o' e' l' (some c') => Nat.beq b b' && Nat.beq v v' && Nat.beq o o' && Nat.beq e e' && Nat.beq l l' && Nat.beq c c'
  | .slice b v o e l none, .slice b' v' o' e' l' none => Nat.beq b b' && Nat.beq v v' && Nat.beq o o' && Nat.beq e e' && Nat.beq l l'
  | .nilSlice, .nilSlice => true
  | .map b, .map b' => Nat.beq b b'
  | .nilMap, .nilMap => true
  | .func (.func f) [] c, .func (.func f') [] c' => Nat.beq f f' && eqAVL c c'
  | .nilFunc, .nilFunc => true
  | .iface t x, .iface t' x' => Nat.beq t t' && eqAV x x'
  | .nilIface, .nilIface => true
  | .agg l, .agg l' => eqAVL l l'
  | .tuple l, .tuple l' => eqAVL l l'
  | _, _ => false
def eqAVL : List AV → List AV → Bool
  | [], [] => true
  | a :: l, b :: r => eqAV a b && eqAVL l r
  | _, _ => false
end

def tmpsOf : List Operand → List Nat
  | [] => []
  | .tmp t :: r => t :: tmpsOf r
  | _ :: r => tmpsOf r
def usesA (ops : Array Oper) (o : Oper) : List Nat :=
  (match o.guard with
    | some (j, _) => match (ops[j]?).bind (·.dst) with
      | some d => [d]
      | none => []
    | none => []) ++ tmpsOf o.op.operands.toList
/-- What stands in these slots alone. -/
def keepA (E : Env) : List Nat → T AV
  | [] => .nil
  | i :: r => match E.get i with
    | some x => (keepA E r).set fuel i x
    | none => keepA E r
def Env.only (E : Env) (l : List Nat) : Env := ⟨E.n, keepA E l⟩

/-- How an operation went: 0: no memory; 1: it read; 2: a new block; 3: it acted; 4: not wanted. -/
structure Entry where
  o : Oper
  E : Env
  H : Heap
  r : AV
  k : Nat
/-- One operation of such a region: a new block takes number n. -/
def opD (n : Nat) (o : Oper) (E : Env) (H : Heap) : Option (Nat × AV × Heap) :=
  match pureOp G E o with
  | some a => some (0, a, H)
  | none => match readOp G E H o with
    | some a => some (1, a, H)
    | none => match newOp G E o with
      | some (b, mk) => some (2, mk n, H.put n b)
      | none => match actOp G E H o with
        | some (.val a h) => some (3, a, h)
        | some (.enter f args) => match call f args H with
          | some (a, h) => some (3, a, h)
          | none => none
        | none => none
def logA (ops : Array Oper) : Nat → List Oper → Env → Heap → Option (List Entry × Env × Heap)
  | _, [], E, H => some ([], E, H)
  | n, o :: r, E, H =>
    match wantedA ops E o with
    | none => none
    | some true => match opD G call n o E H with
      | none => none
      | some (k, a, H') => match E.put o.dst a with
        | none => none
        | some E' => match logA ops (n + 1) r E' H' with
          | none => none
          | some (l, E2, H2) => some (⟨o, E, H, a, k⟩ :: l, E2, H2)
    | some false => match E.put o.dst (.tuple []) with
      | none => none
      | some E' => match logA ops (n + 1) r E' H with
        | none => none
        | some (l, E2, H2) => some (⟨o, E, H, .tuple [], 4⟩ :: l, E2, H2)

def edgeMask (acc : List Nat) : List Edge → Nat
  | [] => 0
  | e :: r => if Region.binds .any e then Nat.lor (2 ^ e.on) (Nat.lor ((acc[e.on]?).getD 0) (edgeMask acc r)) else edgeMask acc r
def befA : List Nat → List Oper → List Nat
  | acc, [] => acc
  | acc, o :: r => befA (acc ++ [edgeMask acc o.after.toList]) r
def backA : Nat → List Oper → Bool
  | _, [] => true
  | i, o :: r => o.after.toList.all (fun e => !Region.binds .any e || Nat.blt e.on i) && backA (i + 1) r
def meets (d : Option Nat) (l : List Nat) : Bool :=
  match d with
  | none => false
  | some t => l.any (Nat.beq t)
def clash (ops : Array Oper) (a b : Oper) : Bool :=
  meets a.dst (b.dst.toList ++ usesA ops b) || meets b.dst (usesA ops a)
/-- Is i ahead of j in every order? -/
def ahead (m : List Nat) (i j : Nat) : Bool := Nat.testBit ((m[j]?).getD 0) i
/-- Every two that may not be swapped are ordered; edges lead back. -/
def ordA (ops : Array Oper) (m : List Nat) : Bool :=
  backA 0 ops.toList && (List.range ops.size).all fun j => (List.range j).all fun i =>
    match ops[i]?, ops[j]? with
    | some x, some y => !clash ops x y || ahead m i j
    | _, _ => false
/-- Which ones acted. -/
def actsOf : Nat → List Entry → List Nat
  | _, [] => []
  | i, x :: r => if Nat.beq x.k 3 then i :: actsOf (i + 1) r else actsOf (i + 1) r
def actPairs (m : List Nat) : List Nat → Bool
  | [] => true
  | i :: r => r.all (fun j => ahead m i j) && actPairs m r
/-- May the one at i run when all acting ones ahead of p have, and those from p on have not? -/
def mayA (m : List Nat) (acts : List Nat) (n i p : Nat) : Bool :=
  (Nat.beq p n || !ahead m p i) && acts.all fun s => !Nat.blt s p || !ahead m i s
/-- What is read is the same wherever among the acting ones it may be read. -/
def readA (m acts : List Nat) (l : List Entry) (H : Heap) (i : Nat) (x : Entry) : Bool :=
  (l.length :: acts).all fun p =>
    !mayA m acts l.length i p || (match readOp G x.E (((l[p]?).map (·.H)).getD H) x.o with | some r => eqAV r x.r | none => false)
def readsA (m acts : List Nat) (l : List Entry) (H : Heap) : Nat → List Entry → Bool
  | _, [] => true
  | i, x :: r => if Nat.beq x.k 1 then readA G m acts l H i x && readsA m acts l H (i + 1) r else readsA m acts l H (i + 1) r
/-- Are these numbers free? -/
def freeA (t : T Blk) (b n : Nat) : Bool := (List.range n).all fun k => (t.get (b + k)).isNone
def drawA (ops : Array Oper) (E : Env) (H : Heap) : Option (Env × Heap) :=
  if Nat.ble (H.next + ops.size) H.top && ordA ops (befA [] ops.toList) && freeA H.t (H.top - ops.size) ops.size then
    match logA G call ops (H.top - ops.size) ops.toList E ⟨H.next, H.top - ops.size, H.t⟩ with
    | none => none
    | some (l, E', H') =>
      if actPairs (befA [] ops.toList) (actsOf 0 l) && readsA G (befA [] ops.toList) (actsOf 0 l) l H' 0 l then some (E', H') else none
  else none

def loopA (body : Env → Heap → Option (Ex × Env × Heap)) : Nat → Env → Heap → Option (Ex × Env × Heap)
  | 0, _, _ => none
  | n + 1, E, H => match body E H with
    | some (.normal, E', H') => loopA body n E' H'
    | r => r

def execA (n : Nat) : Code → Env → Heap → Option (Ex × Env × Heap)
  | .skip, E, H => some (.normal, E, H)
  | .label _, E, H => some (.normal, E, H)
  | .ret, E, H => some (.ret, E, H)
  | .exit i, E, H => some (.exit i, E, H)
  | .region _ ops false, E, H => match opsA G call ops ops.toList E H with
    | some (E', H') => some (.normal, E', H')
    | none => none
  | .region _ ops true, E, H => match drawA G call ops E H with
    | some (E', H') => some (.normal, E', H')
    | none => none
  | .seq a b, E, H => match execA n a E H with
    | some (.normal, E', H') => execA n b E' H'
    | r => r
  | .cond c a b, E, H => match opnd G E c with
    | some (.bool true) => execA n a E H
    | some (.bool false) => execA n b E H
    | _ => none
  | .block i b, E, H => match execA n b E H with
    | some (.exit j, E', H') => if Nat.beq j i then some (.normal, E', H') else some (.exit j, E', H')
    | r => r
  | .loop b, E, H => loopA (execA n b) n E H
  | .scope b, E, H => execA n b E H
  | _, _, _ => none

def enterA (fn : Func) (args : List AV) : Env :=
  ⟨max args.length fn.ntmps, (args.foldl (fun (p : Nat × T AV) a => (p.1 + 1, p.2.set fuel p.1 a)) (0, .nil)).2⟩
def resultA (E : Env) (H : Heap) : ResultVar → Option AV
  | .tmp t => E.get t
  | .cell a t => match E.get a with
    | some (.ptr b v o) => loadVarA G H t b v o
    | _ => none
def resultsA (E : Env) (H : Heap) : List ResultVar → Option (List AV)
  | [] => some []
  | r :: l => match resultA G E H r, resultsA E H l with
    | some a, some x => some (a :: x)
    | _, _ => none
end

def callA (G : Glob) (m : Nat) : Nat → Nat → List AV → Heap → Option (AV × Heap)
  | 0, _, _, _ => none
  | n + 1, f, args, H => match G.ov f with
    | some g => g args H
    | none => match G.fn f with
      | none => none
      | some fn => match fn.body with
        | none => none
        | some c => match execA G (callA G m n) m c (enterA fn args) H with
          | some (.normal, E, H') | some (.ret, E, H') => match resultsA G E H' fn.results.toList with
            | some [a] => some (a, H')
            | some l => some (.tuple l, H')
            | none => none
          | _ => none

end
end Go.Abs
