/-
  The machine's primitive functions, as the program's language has them.
-/
import Derived.Test.YtokpfnfmoakojaaPmCheck
namespace Go.Pm
open Go

def bitsOf (k : IntKind) (f : (n : Nat) → BitVec n → BitVec n → BitVec n) (x y : Int) : Int := k.wrap (f k.bits (BitVec.ofInt k.bits x) (BitVec.ofInt k.bits y)).toNat
def stdAr (op : BinOp) (k : IntKind) (x y : Int) : Int :=
  match op with
  | .add => k.wrap (x + y)
  | .sub => k.wrap (x - y)
  | .mul => k.wrap (x * y)
  | .and => bitsOf k (fun _ a b => a &&& b) x y
  | .or => bitsOf k (fun _ a b => a ||| b) x y
  | .xor => bitsOf k (fun _ a b => a ^^^ b) x y
  | .andNot => bitsOf k (fun _ a b => a &&& ~~~b) x y
  | _ => 0
def stdDv (op : BinOp) (k : IntKind) (x y : Int) : Option Int :=
  if y = 0 then none else match op with
    | .quo => some (k.wrap (x.tdiv y))
    | .rem => some (x.tmod y)
    | _ => none
def stdCmp (op : BinOp) (x y : Int) : Bool :=
  match op with
  | .eql => x == y
  | .neq => x != y
  | .lss => x < y
  | .leq => x ≤ y
  | .gtr => x > y
  | .geq => x ≥ y
  | _ => false
def stdShf (op : BinOp) (k : IntKind) (x y : Int) : Option Int :=
  if y < 0 then none else match op with
    | .shl => some (k.wrap (x * 2 ^ (min y.toNat k.bits)))
    | .shr => some (x.fdiv (2 ^ (min y.toNat k.bits)))
    | _ => none
def stdScat (a b : List UInt8) : Option (List UInt8) := if a.length + b.length ≤ 9223372036854775807 then some (a ++ b) else none
def stdScmp (op : BinOp) (x y : List UInt8) : Bool :=
  match op with
  | .eql => x == y
  | .neq => !(x == y)
  | .lss => Op.bytesLess x y
  | .leq => Op.bytesLess x y || x == y
  | .gtr => !(Op.bytesLess x y || x == y)
  | .geq => !(Op.bytesLess x y)
  | _ => false
def stdSidx (l : List UInt8) (i : Int) : Option Int := if 0 ≤ i then match l[i.toNat]? with | some b => some (b.toNat : Int) | none => none else none
def bounds (n : Nat) (lo hi : Option Int) : Option (Nat × Nat) :=
  let h : Int := match hi with | some h => h | none => (n : Int)
  let l : Int := match lo with | some l => l | none => 0
  if 0 ≤ h ∧ h ≤ n ∧ 0 ≤ l ∧ l ≤ h then some (l.toNat, h.toNat) else none
def stdSub {α : Type} (l : List α) (lo hi : Option Int) : Option (List α) :=
  match bounds l.length lo hi with
  | some (a, b) => some ((l.take b).drop a)
  | none => none
def stdGet (l : List PV) (i : Int) : Option PV := if 0 ≤ i then l[i.toNat]? else none
def stdApp (a b : List PV) : Option (List PV) := if a.length + b.length ≤ 2147483648 then some (a ++ b) else none
def stdBts : List PV → Option (List UInt8)
  | [] => some []
  | .int .u8 n :: r => match stdBts r with
    | some l => some (UInt8.ofNat n.toNat :: l)
    | none => none
  | _ :: _ => none
def stdRep (n m : Int) (v : PV) : Option (List PV) := if n = m ∧ 0 ≤ n ∧ n ≤ 2147483648 then some (List.replicate n.toNat v) else none
def stdF : Alg
  | .ar => stdAr
  | .dv => stdDv
  | .cmp => stdCmp
  | .shf => stdShf
  | .scat => stdScat
  | .scmp => stdScmp
  | .slen => fun s => (s.length : Int)
  | .sidx => stdSidx
  | .ssub => stdSub
  | .get => stdGet
  | .lsub => stdSub
  | .app => stdApp
  | .set => fun l i v => l.set i.toNat v
  | .llen => fun l => (l.length : Int)
  | .bnot => fun b => !b
  | .beq => fun a b => a == b
  | .band => fun a b => a && b
  | .conv => fun k n => k.wrap n
  | .bts => stdBts
  | .stb => fun s => s.map fun b => .int .u8 b.toNat
  | .rep => stdRep
  | .imax => fun a b => if b > a then b else a
  | .imin => fun a b => if b < a then b else a
end Go.Pm
