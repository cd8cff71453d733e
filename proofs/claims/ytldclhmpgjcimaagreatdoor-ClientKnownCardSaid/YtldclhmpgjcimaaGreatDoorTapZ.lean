/- What stands in for some functions in the evaluator: checksums, the order of hashes, the place of a byte in a text, errors.As. -/
import Derived.Test.YtldclhmpgjcimaaGreatDoorTapG
namespace Go.Proofs
open Go Go.Abs
noncomputable section
def kBit (c : Nat) : Nat := Nat.xor (Nat.div c 2) (Nat.mul 3988292384 (Nat.mod c 2))
def kBits : Nat → Nat → Nat
  | 0, c => c
  | n + 1, c => kBits n (kBit c)
def crcFold : List Nat → Nat → Nat
  | [], c => c
  | x :: r, c => crcFold r (kBits 8 (Nat.xor c x))
def bytesIn (H : Heap) : AV → Option (List Nat)
  | .slice b v o _ n _ => if Nat.blt n 9223372036854775808 then (match loadRow H b v o n with
    | some l => bytesOf l
    | none => none) else none
  | _ => none
def ovSum (l : List AV) (H : Heap) : Option (AV × Heap) := match l with
  | [x] => match bytesIn H x with
    | some l => some (.int .u32 (.ofNat (Nat.xor (crcFold l 4294967295) 4294967295)), H)
    | none => none
  | _ => none
def lessL : List Nat → List Nat → Bool
  | a :: l, b :: r => match Nat.beq a b with
    | true => lessL l r
    | false => Nat.blt a b
  | _, _ => false
def ovLess (l : List AV) (H : Heap) : Option (AV × Heap) := match l with
  | [.agg x, .agg y] => match bytesOf x, bytesOf y with
    | some a, some b => if Nat.beq a.length 32 && Nat.beq b.length 32 then some (.bool (lessL a b), H) else none
    | _, _ => none
  | _ => none
def indexOf (c : Nat) : List Nat → Nat → Int
  | [], _ => .negSucc 0
  | x :: r, i => if Nat.beq x c then .ofNat i else indexOf c r (i + 1)
def ovIndex (l : List AV) (H : Heap) : Option (AV × Heap) := match l with
  | [.str s, .int .u8 (.ofNat c)] => if Nat.blt c 256 then some (.int .i64 (indexOf c s 0), H) else none
  | _ => none
/-- A number or an address, stored as the one cell of a variable. -/
def put1 (H : Heap) (b v o : Nat) (x : AV) : Option (AV × Heap) := (storeRow H b v o [x]).map fun h => (.bool true, h)
/-- 48: api.Errno · 146: *oops.Place · 145, 147: pointers to variables of these. -/
def ovAs (l : List AV) (H : Heap) : Option (AV × Heap) := match l with
  | [.nilIface, _] => some (.bool false, H)
  | [.iface s x, .iface t (.ptr b v o)] =>
    if Nat.beq s 48 then (match x with
      | .int .i64 n => if Nat.beq t 145 then put1 H b v o (.int .i64 n) else if Nat.beq t 147 then some (.bool false, H) else none
      | _ => none)
    else if Nat.beq s 146 then (match x with
      | .ptr pb pv po => if Nat.beq t 145 then (match loadRow H pb pv (po + 1) 1 with
          | some [.iface s' (.int .i64 n)] => if Nat.beq s' 48 then put1 H b v o (.int .i64 n) else none
          | _ => none)
        else if Nat.beq t 147 then put1 H b v o (.ptr pb pv po) else none
      | _ => none)
    else none
  | _ => none
def Tryz.ov0 (f : Nat) : Option (List AV → Heap → Option (AV × Heap)) := match f with
  | 195 => some ovSum
  | 143 => some ovSum
  | 225 => some ovLess
  | 258 => some ovIndex
  | 59 => some ovAs
  | _ => none
/-- Struct types that stand in for no other. -/
def Tryz.stoodNo : List Nat := [154, 156, 159, 7, 8, 25, 26, 28, 29, 30, 31, 63, 64, 65, 66, 70, 71, 76, 77, 78, 79, 91, 92, 96, 97, 113, 114, 117, 118, 122, 123, 127, 128, 131, 132]
def Tryz.stands (l : List Nat) (t : Nat) : Bool := l.any (Nat.beq t)
def Tryz.glob0 : Glob where
  ty := Tryz.tyTree.get
  fn := Tryz.fnTree.get
  nfix := 0
  stood := Tryz.stands Tryz.stoodNo
  ov := Tryz.ov0
  low := 1
  fixd := fun R => match R with | 0 => some (.iface 327 (.agg #[.pointer (some ⟨7, 43, none⟩)])) | _ => none
end
end Go.Proofs
