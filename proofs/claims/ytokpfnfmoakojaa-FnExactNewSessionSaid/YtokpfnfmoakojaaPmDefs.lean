/-
  The pure machine: a small machine over values (a slice is a list, a struct a flat list of leaves, a local block a variable of the frame).
-/
import Derived.Calls
import Derived.Below
import Derived.KernelRfl
namespace Go.Pm
open Go

/-- A value without memory. -/
inductive PV where
  | int (k : IntKind) (n : Int)
  | bool (b : Bool)
  | str (s : List UInt8)
  | slice (l : List PV)
  | agg (l : List PV)
  deriving Inhabited

/-- The names of the machine's primitive functions on data; each may be left closed while a run is carried out on letters. -/
inductive Sig where
  | ar | dv | cmp | shf | scat | scmp | slen | sidx | ssub | get | lsub | app | set | llen | bnot | beq | band | conv | bts | stb | rep | imax | imin
  deriving DecidableEq

def Sig.ty : Sig → Type
  | .ar => BinOp → IntKind → Int → Int → Int
  | .dv => BinOp → IntKind → Int → Int → Option Int
  | .cmp => BinOp → Int → Int → Bool
  | .shf => BinOp → IntKind → Int → Int → Option Int
  | .scat => List UInt8 → List UInt8 → Option (List UInt8)
  | .scmp => BinOp → List UInt8 → List UInt8 → Bool
  | .slen => List UInt8 → Int
  | .sidx => List UInt8 → Int → Option Int
  | .ssub => List UInt8 → Option Int → Option Int → Option (List UInt8)
  | .get => List PV → Int → Option PV
  | .lsub => List PV → Option Int → Option Int → Option (List PV)
  | .app => List PV → List PV → Option (List PV)
  | .set => List PV → Int → PV → List PV
  | .llen => List PV → Int
  | .bnot => Bool → Bool
  | .beq => Bool → Bool → Bool
  | .band => Bool → Bool → Bool
  | .conv => IntKind → Int → Int
  | .bts => List PV → Option (List UInt8)
  | .stb => List UInt8 → List PV
  | .rep => Int → Int → PV → Option (List PV)
  | .imax => Int → Int → Int
  | .imin => Int → Int → Int

abbrev Alg := (s : Sig) → s.ty

/-- The kinds of a flat value's leaves. -/
inductive LK where
  | int (k : IntKind)
  | bool
  | str
  | slice (elem : TypeId)
  deriving DecidableEq, Inhabited

def LK.zero : LK → PV
  | .int k => .int k 0
  | .bool => .bool false
  | .str => .str []
  | .slice _ => .slice []

/-- What the machine knows of a type: is it a struct; its leaves; where its fields begin; the bytes. -/
structure TyI where
  agg : Bool
  leaves : List LK
  fields : List Nat
  sizes : List Nat
  deriving Inhabited, DecidableEq

inductive TyK where
  | val (i : TyI)
  | ptr (elem : TypeId)
  | other
  deriving Inhabited, DecidableEq

/-- Where a value's leaves lie, told by a function's text: in a slot, in a variable; from 'off' on. -/
inductive Place where
  | slot (s off : Nat)
  | var (k off : Nat)
  deriving DecidableEq, Inhabited

/-- What is told of a function for the machine's own use (nothing of it is trusted): the slots that live beyond their region; of an address through which an element is written, and of a value that is handed to what writes its elements, where the value lies that is written; the parameters whose elements are written, and where they lie; of slots that are looked at in regions whose order is drawn, the variable that they lead to. -/
structure Hint where
  keep : List Nat
  places : List (Nat × Place)
  muts : List (Nat × Place)
  ptrs : List (Nat × Nat)
  deriving Inhabited

def isSl : LK → Bool
  | .slice _ => true
  | _ => false
def anySl : List LK → Bool
  | [] => false
  | k :: r => match isSl k with | true => true | false => anySl r


def lk {α : Type} (k : Nat) : List (Nat × α) → Option α
  | [] => none
  | (j, a) :: r => match Nat.beq j k with | true => some a | false => lk k r
/-- The list is kept in the keys' order. -/
def up {α : Type} (k : Nat) (a : α) : List (Nat × α) → List (Nat × α)
  | [] => [(k, a)]
  | (j, b) :: r => match Nat.beq j k with
    | true => (k, a) :: r
    | false => match Nat.blt k j with
      | true => (k, a) :: (j, b) :: r
      | false => (j, b) :: up k a r
def dl {α : Type} (k : Nat) : List (Nat × α) → List (Nat × α)
  | [] => []
  | (j, b) :: r => match Nat.beq j k with | true => dl k r | false => (j, b) :: dl k r
def memN (k : Nat) : List Nat → Bool
  | [] => false
  | j :: r => match Nat.beq j k with | true => true | false => memN k r
def keepIn {α : Type} (ks : List Nat) : List (Nat × α) → List (Nat × α)
  | [] => []
  | (j, b) :: r => match memN j ks with | true => (j, b) :: keepIn ks r | false => keepIn ks r
def keysOf {α : Type} : List (Nat × α) → List Nat
  | [] => []
  | (j, _) :: r => j :: keysOf r

inductive Ent where
  | val (v : PV)
  | tup (vs : List PV)
  | avar (k off : Nat)
  | aelem (i : Int) (cells : List PV) (off : Nat)
  | velem (i : Int) (off : Nat) (v : PV)
  | glob (g : Nat)

structure St where
  env : List (Nat × Ent)
  vars : List (Nat × List PV)

/-- What is handed to a call: a value, or a pointer's block. -/
inductive Arg where
  | val (v : PV)
  | ptr (cells : List PV)

inductive RV where
  | val (v : PV)
  | ptr (cells : List PV)

structure Res where
  rs : List RV
  outs : List (Nat × List PV)

/-- What is told of the program: its types; hints; the package's variables; functions that are given by what they come to. -/
structure Env where
  types : Nat → TyK
  hints : Nat → Hint
  globs : Nat → Option (List PV)
  ext : Nat → Option (List Arg → Option Res)

inductive Out where
  | normal (st : St)
  | exit (id : Nat) (st : St)
  | ret (r : Res)

def cellsOf : PV → List PV
  | .agg l => l
  | v => [v]

mutual
def constPV : Value → Option PV
  | .int k n => some (.int k n)
  | .bool b => some (.bool b)
  | .string s => some (.str s.data.toList)
  | .slice none 0 0 => some (.slice [])
  | .agg cs => match constPVs cs.toList with
    | some l => some (.agg l)
    | none => none
  | _ => none
def constPVs : List Value → Option (List PV)
  | [] => some []
  | v :: r => match constPV v with
    | none => none
    | some p => match constPVs r with
      | none => none
      | some ps => some (p :: ps)
end

def evE (env : List (Nat × Ent)) : Operand → Option Ent
  | .tmp t => lk t env
  | .const v => match constPV v with
    | some p => some (.val p)
    | none => none
  | .global g => some (.glob g)
  | .func _ => none
def evV (env : List (Nat × Ent)) (x : Operand) : Option PV :=
  match evE env x with
  | some (.val v) => some v
  | some (.velem _ _ v) => some v
  | _ => none

def tyOf (G : Env) (t : TypeId) : Option TyI :=
  match G.types t with
  | .val i => some i
  | _ => none

/-- 'n' cells from 'off' on. -/
def cut {α : Type} (cells : List α) (off n : Nat) : Option (List α) :=
  match off, n, cells with
  | 0, 0, _ => some []
  | 0, n + 1, c :: r => match cut r 0 n with
    | some l => some (c :: l)
    | none => none
  | off + 1, n, _ :: r => cut r off n
  | _, _, [] => none
/-- The cells with others laid over them from 'off' on. -/
def over {α : Type} (cells : List α) (off : Nat) (xs : List α) : Option (List α) :=
  match off, xs, cells with
  | 0, [], r => some r
  | 0, x :: xs, _ :: r => match over r 0 xs with
    | some l => some (x :: l)
    | none => none
  | off + 1, xs, c :: r => match over r off xs with
    | some l => some (c :: l)
    | none => none
  | _, _, [] => none
def whole (i : TyI) (cells : List PV) (off : Nat) : Option PV :=
  match i.agg with
  | true => match cut cells off i.leaves.length with
    | some l => some (.agg l)
    | none => none
  | false => match cut cells off 1 with
    | some [v] => some v
    | _ => none
def likeCells (e : PV) (cells : List PV) : PV :=
  match e, cells with
  | .agg _, cs => .agg cs
  | _, [c] => c
  | e, _ => e

/-- The state with other leaves at a place. -/
def putAt (st : St) (p : Place) (cells : List PV) : Option St :=
  match p with
  | .slot s off => match lk s st.env with
    | some (.val v) => match over (cellsOf v) off cells with
      | some cs => some { st with env := up s (.val (likeCells v cs)) st.env }
      | none => none
    | _ => none
  | .var k off => match lk k st.vars with
    | some cs0 => match over cs0 off cells with
      | some cs => some { st with vars := up k cs st.vars }
      | none => none
    | none => none
/-- 'n' leaves at a place. -/
def leavesAt (st : St) (p : Place) (n : Nat) : Option (List PV) :=
  match p with
  | .slot s off => match lk s st.env with
    | some (.val v) => cut (cellsOf v) off n
    | _ => none
  | .var k off => match lk k st.vars with
    | some cs => cut cs off n
    | none => none
/-- The slice at a place, with other leaves in its element 'i' from 'off' on. -/
def setIn (F : Alg) (st : St) (p : Place) (i : Int) (off : Nat) (cells : List PV) : Option St :=
  match leavesAt st p 1 with
  | some [.slice l] => match F .get l i with
    | some e => match over (cellsOf e) off cells with
      | some cs => putAt st p [.slice (F .set l i (likeCells e cs))]
      | none => none
    | none => none
  | _ => none

def loadFrom (G : Env) (vars : List (Nat × List PV)) (i : TyI) : Ent → Option PV
  | .avar k off => match lk k vars with
    | some cells => whole i cells off
    | none => none
  | .aelem _ cells off => whole i cells off
  | .glob g => match G.globs g with
    | some cells => whole i cells 0
    | none => none
  | _ => none

def isShift : BinOp → Bool
  | .shl | .shr => true
  | _ => false
def isCmp : BinOp → Bool
  | .eql | .neq | .lss | .leq | .gtr | .geq => true
  | _ => false
def isDiv : BinOp → Bool
  | .quo | .rem => true
  | _ => false
def sameKind : IntKind → IntKind → Bool
  | .i8, .i8 | .i16, .i16 | .i32, .i32 | .i64, .i64 | .u8, .u8 | .u16, .u16 | .u32, .u32 | .u64, .u64 => true
  | _, _ => false
def binII (F : Alg) (op : BinOp) (k k' : IntKind) (a b : Int) : Option PV :=
  match isShift op with
  | true => match F .shf op k a b with
    | some n => some (.int k n)
    | none => none
  | false => match sameKind k k' with
    | false => none
    | true => match isCmp op with
      | true => some (.bool (F .cmp op a b))
      | false => match isDiv op with
        | true => match F .dv op k a b with
          | some n => some (.int k n)
          | none => none
        | false => some (.int k (F .ar op k a b))
def binSS (F : Alg) (op : BinOp) (a b : List UInt8) : Option PV :=
  match op with
  | .add => match F .scat a b with
    | some s => some (.str s)
    | none => none
  | _ => match isCmp op with
    | true => some (.bool (F .scmp op a b))
    | false => none
def binBB (F : Alg) (op : BinOp) (a b : Bool) : Option PV :=
  match op with
  | .eql => some (.bool (F .beq a b))
  | .neq => some (.bool (F .bnot (F .beq a b)))
  | _ => none
def bin (F : Alg) (op : BinOp) (x y : PV) : Option PV :=
  match x, y with
  | .int k a, .int k' b => binII F op k k' a b
  | .str a, .str b => binSS F op a b
  | .bool a, .bool b => binBB F op a b
  | _, _ => none
/-- '==' of two lists of leaves. -/
def eqLeaves (F : Alg) : List PV → List PV → Option Bool
  | [], [] => some true
  | x :: xs, y :: ys => match bin F .eql x y with
    | some (.bool b) => match eqLeaves F xs ys with
      | some c => some (F .band b c)
      | none => none
    | _ => none
  | _, _ => none
def binAA (F : Alg) (op : BinOp) (a b : List PV) : Option PV :=
  match eqLeaves F a b with
  | some c => match op with
    | .eql => some (.bool c)
    | .neq => some (.bool (F .bnot c))
    | _ => none
  | none => none
def binA (F : Alg) (op : BinOp) (x y : PV) : Option PV :=
  match x, y with
  | .agg a, .agg b => binAA F op a b
  | x, y => bin F op x y

def fillParts (fields : List Nat) (env : List (Nat × Ent)) (cells : List PV) : List (Nat × Operand) → Option (List PV)
  | [] => some cells
  | (j, x) :: r => match evV env x with
    | some v => match fields[j]? with
      | some off => match over cells off (cellsOf v) with
        | some cs => fillParts fields env cs r
        | none => none
      | none => none
    | none => none
def fillElems (env : List (Nat × Ent)) (elems : List PV) : List (Nat × Operand) → Option (List PV)
  | [] => some elems
  | (j, x) :: r => match evV env x with
    | some v => match over elems j [v] with
      | some es => fillElems env es r
      | none => none
    | none => none
def zeroOf (i : TyI) : PV :=
  match i.agg, i.leaves with
  | true, ks => .agg (ks.map LK.zero)
  | false, [k] => k.zero
  | false, _ => .agg []
def sliceElem : TyI → Option TypeId
  | ⟨false, [.slice e], _, _⟩ => some e
  | _ => none
def elemTy (G : Env) (t : TypeId) : Option TyI :=
  match tyOf G t with
  | some i => match sliceElem i with
    | some e => tyOf G e
    | none => none
  | none => none
def copies (v : PV) : Nat → List PV
  | 0 => []
  | n + 1 => v :: copies v n

def optI (env : List (Nat × Ent)) : Option Operand → Option (Option Int)
  | none => some none
  | some x => match evV env x with
    | some (.int _ n) => some (some n)
    | _ => none

def argsOf (st : St) : List Operand → Option (List Arg)
  | [] => some []
  | x :: r => match evE st.env x with
    | some (.val v) => match argsOf st r with
      | some l => some (.val v :: l)
      | none => none
    | some (.velem _ _ v) => match argsOf st r with
      | some l => some (.val v :: l)
      | none => none
    | some (.avar k off) => match off with
      | 0 => match lk k st.vars, argsOf st r with
        | some cells, some l => some (.ptr cells :: l)
        | _, _ => none
      | _ + 1 => none
    | _ => none
def vals : List RV → Option (List PV)
  | [] => some []
  | .val v :: r => match vals r with
    | some l => some (v :: l)
    | none => none
  | .ptr _ :: _ => none

/-- What an operation does to the state. -/
inductive Eff where
  | put (e : Ent)
  | new (cells : List PV)
  | outs (l : List (Nat × List PV)) (r : Eff)
  | elem (p : Place) (i : Int) (off : Nat) (v : PV)
  | at (p : Place) (cells : List PV) (r : Eff)
  | elemAt (p : Place) (i : Int) (off : Nat) (cells : List PV) (r : Eff)
  | none

def putV (v : Option PV) : Option Eff :=
  match v with
  | some v => some (.put (.val v))
  | none => none

def pMove (e : Option Ent) : Option Eff :=
  match e with
  | some (.val v) => some (.put (.val v))
  | some (.velem _ _ v) => some (.put (.val v))
  | some (.avar k off) => some (.put (.avar k off))
  | some (.tup vs) => some (.put (.tup vs))
  | _ => none
def pPick (c a b : Option PV) : Option Eff :=
  match c with
  | some (.bool c) => match c with
    | true => putV a
    | false => putV b
  | _ => none
/-- A loaded part of an element is still known as that part, if it holds slices. -/
def pElem (sl : Bool) (j : Int) (off : Nat) (v : Option PV) : Option Eff :=
  match v with
  | some v => match sl with
    | true => some (.put (.velem j off v))
    | false => some (.put (.val v))
  | none => none
def pLoad (G : Env) (vars : List (Nat × List PV)) (i : Option TyI) (e : Option Ent) : Option Eff :=
  match i, e with
  | some i, some (.aelem j cells off) => pElem (anySl i.leaves) j off (whole i cells off)
  | some i, some e => putV (loadFrom G vars i e)
  | _, _ => none
def pStore (H : Hint) (vars : List (Nat × List PV)) (x : Operand) (e : Option Ent) (v : Option PV) : Option Eff :=
  match e, v with
  | some (.avar k off), some v => match lk k vars with
    | some cells => match over cells off (cellsOf v) with
      | some cs => some (.outs [(k, cs)] .none)
      | none => none
    | none => none
  | some (.aelem i _ off), some v => match x with
    | .tmp a => match lk a H.places with
      | some p => some (.elem p i off v)
      | none => none
    | _ => none
  | _, _ => none
def pAddr (e : Option Ent) : Option Eff :=
  match e with
  | some (.avar k off) => some (.put (.avar k off))
  | some (.aelem i c off) => some (.put (.aelem i c off))
  | _ => none
def pField (i : Option TyI) (f : Nat) (e : Option Ent) : Option Eff :=
  match i with
  | some i => match i.fields[f]? with
    | some d => match e with
      | some (.avar k off) => some (.put (.avar k (off + d)))
      | some (.aelem j c off) => some (.put (.aelem j c (off + d)))
      | _ => none
    | none => none
  | none => none
def pBin (F : Alg) (op : BinOp) (a b : Option PV) : Option Eff :=
  match a, b with
  | some a, some b => putV (binA F op a b)
  | _, _ => none
def pUn (F : Alg) (op : UnOp) (a : Option PV) : Option Eff :=
  match op with
  | .not => match a with
    | some (.bool b) => putV (some (.bool (F .bnot b)))
    | _ => none
  | .neg => match a with
    | some (.int k n) => putV (some (.int k (F .ar .sub k 0 n)))
    | _ => none
  | _ => none
def convTo (F : Alg) (k : LK) (v : PV) : Option PV :=
  match k with
  | .int k => match v with
    | .int _ n => some (.int k (F .conv k n))
    | _ => none
  | .str => match v with
    | .str s => some (.str s)
    | .slice l => match F .bts l with
      | some s => some (.str s)
      | none => none
    | _ => none
  | .slice _ => match v with
    | .str s => some (.slice (F .stb s))
    | _ => none
  | .bool => none
def pConv (F : Alg) (i : Option TyI) (a : Option PV) : Option Eff :=
  match i with
  | some ⟨false, [k], _, _⟩ => match a with
    | some v => putV (convTo F k v)
    | none => none
  | _ => none
def pMake (F : Alg) (i : Option TyI) (a b : Option PV) : Option Eff :=
  match i, a, b with
  | some i, some (.int _ n), some (.int _ m) => match F .rep n m (zeroOf i) with
    | some l => putV (some (.slice l))
    | none => none
  | _, _, _ => none
def pSlice (F : Alg) (a : Option PV) (lo hi : Option (Option Int)) : Option Eff :=
  match a, lo, hi with
  | some (.str s), some l, some h => match F .ssub s l h with
    | some r => putV (some (.str r))
    | none => none
  | some (.slice s), some l, some h => match F .lsub s l h with
    | some r => putV (some (.slice r))
    | none => none
  | _, _, _ => none
def pFld (i j : Option TyI) (f : Nat) (a : Option PV) : Option Eff :=
  match i, j, a with
  | some i, some j, some (.agg cs) => match i.fields[f]? with
    | some d => putV (whole j cs d)
    | none => none
  | _, _, _ => none
def pIdxA (F : Alg) (a b : Option PV) : Option Eff :=
  match a, b with
  | some (.slice l), some (.int _ n) => match F .get l n with
    | some e => some (.put (.aelem n (cellsOf e) 0))
    | none => none
  | _, _ => none
def pIdx (F : Alg) (a b : Option PV) : Option Eff :=
  match a, b with
  | some (.str s), some (.int _ n) => match F .sidx s n with
    | some b => putV (some (.int .u8 b))
    | none => none
  | _, _ => none
def pExtract (j : Nat) (e : Option Ent) : Option Eff :=
  match e with
  | some (.tup vs) => match cut vs j 1 with
    | some [v] => putV (some v)
    | _ => none
  | _ => none
def pLen (F : Alg) (a : Option PV) : Option Eff :=
  match a with
  | some (.str s) => putV (some (.int .i64 (F .slen s)))
  | some (.slice l) => putV (some (.int .i64 (F .llen l)))
  | _ => none
def pApp (F : Alg) (a b : Option PV) : Option Eff :=
  match a, b with
  | some (.slice a), some (.slice b) => match F .app a b with
    | some l => putV (some (.slice l))
    | none => none
  | some (.slice a), some (.str b) => match F .app a (F .stb b) with
    | some l => putV (some (.slice l))
    | none => none
  | _, _ => none
def pMM (f : Int → Int → Int) (a b : Option PV) : Option Eff :=
  match a, b with
  | some (.int k a), some (.int _ b) => putV (some (.int k (f a b)))
  | _, _ => none
def pBuiltin (F : Alg) (b : Builtin) (env : List (Nat × Ent)) (args : List Operand) : Option Eff :=
  match b, args with
  | .len, [x] => pLen F (evV env x)
  | .append, [x, y] => pApp F (evV env x) (evV env y)
  | .max, [x, y] => pMM (F .imax) (evV env x) (evV env y)
  | .min, [x, y] => pMM (F .imin) (evV env x) (evV env y)
  | _, _ => none
def resEff (rs : List RV) : Option Eff :=
  match rs with
  | [.val v] => some (.put (.val v))
  | [.ptr cells] => some (.new cells)
  | rs => match vals rs with
    | some vs => some (.put (.tup vs))
    | none => none
/-- What was written through an argument, and what follows it. -/
def outEff (H : Hint) (env : List (Nat × Ent)) (args : List Operand) (outs : List (Nat × List PV)) (e : Eff) : Option Eff :=
  match outs with
  | [] => some e
  | [(j, cells)] => match args[j]? with
    | some (.tmp x) => match lk x env with
      | some (.avar k off) => match off with
        | 0 => some (.outs [(k, cells)] e)
        | _ + 1 => none
      | some (.val _) => match lk x H.places with
        | some p => some (.at p cells e)
        | none => none
      | some (.velem i off _) => match lk x H.places with
        | some p => some (.elemAt p i off cells e)
        | none => none
      | _ => none
    | _ => none
  | _ => none
def pCall (H : Hint) (C : FuncId → List Arg → Option Res) (st : St) (f : FuncId) (args : List Operand) : Option Eff :=
  match argsOf st args with
  | some as => match C f as with
    | some r => match resEff r.rs with
      | some e => outEff H st.env args r.outs e
      | none => none
    | none => none
  | none => none

/-- What one operation does; 'C': what calls come to. -/
def pact (F : Alg) (G : Env) (H : Hint) (C : FuncId → List Arg → Option Res) (o : Oper) (st : St) : Option Eff :=
  match o.op with
  | .move x => pMove (evE st.env x)
  | .assign x => pMove (evE st.env x)
  | .pick c a b => pPick (evV st.env c) (evV st.env a) (evV st.env b)
  | .alloc t => match tyOf G t with
    | some i => some (.new (i.leaves.map LK.zero))
    | none => none
  | .box _ x => match evV st.env x with
    | some v => some (.new (cellsOf v))
    | none => none
  | .build t parts => match tyOf G t with
    | some i => match fillParts i.fields st.env (i.leaves.map LK.zero) parts.toList with
      | some cs => putV (some (.agg cs))
      | none => none
    | none => none
  | .buildSlice t n parts => match elemTy G t with
    | some i => match fillElems st.env (copies (zeroOf i) n) parts.toList with
      | some es => putV (some (.slice es))
      | none => none
    | none => none
  | .load t a => pLoad G st.vars (tyOf G t) (evE st.env a)
  | .store _ a x => pStore H st.vars a (evE st.env a) (evV st.env x)
  | .nilCheck x => pAddr (evE st.env x)
  | .binOp op _ x y _ => pBin F op (evV st.env x) (evV st.env y)
  | .unOp op _ x => pUn F op (evV st.env x)
  | .convert _ t x => pConv F (tyOf G t) (evV st.env x)
  | .makeSlice t l c => pMake F (elemTy G t) (evV st.env l) (evV st.env c)
  | .slice _ x lo hi mx => match mx with
    | none => pSlice F (evV st.env x) (optI st.env lo) (optI st.env hi)
    | some _ => none
  | .fieldAddr t x f => pField (tyOf G t) f (evE st.env x)
  | .field t x f => pFld (tyOf G t) (tyOf G o.type) f (evV st.env x)
  | .indexAddr _ x ix => pIdxA F (evV st.env x) (evV st.env ix)
  | .index _ x ix => pIdx F (evV st.env x) (evV st.env ix)
  | .extract x j => pExtract j (evE st.env x)
  | .call c => match c.callee with
    | .builtin b => pBuiltin F b st.env c.args.toList
    | .value (.func f) => pCall H C st f c.args.toList
    | _ => none
  | _ => none

def dlAll {α : Type} : List Nat → List (Nat × α) → List (Nat × α)
  | [], l => l
  | k :: ks, l => dlAll ks (dl k l)
def upAll (l : List (Nat × List PV)) (vars : List (Nat × List PV)) : List (Nat × List PV) :=
  match l with
  | [] => vars
  | (k, c) :: r => upAll r (up k c vars)
def papply (F : Alg) (H : Hint) (d : Option Nat) (st : St) : Eff → Option St
  | .none => some st
  | .put e => match d with
    | some t => some { st with env := up t e st.env }
    | none => some st
  | .new cells => match d with
    | some t => some ⟨up t (.avar t 0) st.env, up t cells st.vars⟩
    | none => some st
  | .outs l r => papply F H d { st with vars := upAll l st.vars } r
  | .elem p i off v => setIn F st p i off (cellsOf v)
  | .at p cells r => match putAt st p cells with
    | some st' => papply F H d st' r
    | none => none
  | .elemAt p i off cells r => match setIn F st p i off cells with
    | some st' => papply F H d st' r
    | none => none

def pstep (F : Alg) (G : Env) (H : Hint) (C : FuncId → List Arg → Option Res) (o : Oper) (st : St) : Option St :=
  match pact F G H C o st with
  | some e => papply F H o.dst st e
  | none => none

/-- Is the operation wanted? -/
def guardOf (ops : List Oper) (st : St) : Option (Nat × Bool) → Option Bool
  | none => some true
  | some (j, want) => match ops[j]? with
    | some o => match o.dst with
      | some d => match lk d st.env with
        | some (.val (.bool b)) => match b with
          | true => some want
          | false => some (match want with | true => false | false => true)
        | _ => none
      | none => none
    | none => none
def undefd (d : Option Nat) (st : St) : St :=
  match d with
  | some t => { st with env := dl t st.env }
  | none => st
def gstep (F : Alg) (G : Env) (H : Hint) (C : FuncId → List Arg → Option Res) (ops : List Oper) (o : Oper) (st : St) : Option St :=
  match guardOf ops st o.guard with
  | some b => match b with
    | true => pstep F G H C o st
    | false => some (undefd o.dst st)
  | none => none

def evOps (F : Alg) (G : Env) (H : Hint) (C : FuncId → List Arg → Option Res) (ops : List Oper) : List Oper → St → Option St
  | [], st => some st
  | o :: r, st => match gstep F G H C ops o st with
    | some st' => evOps F G H C ops r st'
    | none => none

/-! Regions whose order is drawn: the machine runs them in the text's order, and looks whether each operation reads and writes no more than is told. -/
def tmpsOf : List Operand → List Nat
  | [] => []
  | .tmp t :: r => t :: tmpsOf r
  | _ :: r => tmpsOf r
def guardSlot (ops : List Oper) (o : Oper) : List Nat :=
  match o.guard with
  | some (j, _) => match ops[j]? with
    | some g => match g.dst with | some d => [d] | none => []
    | none => []
  | none => []
/-- What an operation reads and writes: slots, variables; 'all': whatever it may be. -/
structure RW where
  all : Bool
  rs : List Nat
  ws : List Nat
  rv : List Nat
  wv : List Nat
def ptrsOf (ptrs : List (Nat × Nat)) : List Nat → List Nat
  | [] => []
  | t :: r => match lk t ptrs with
    | some k => k :: ptrsOf ptrs r
    | none => ptrsOf ptrs r
def anyPlace (places : List (Nat × Place)) : List Nat → Bool
  | [] => false
  | t :: r => match lk t places with
    | some _ => true
    | none => anyPlace places r
def dstL (o : Oper) : List Nat := match o.dst with | some d => [d] | none => []
def rwOf (H : Hint) (ops : List Oper) (o : Oper) : RW :=
  let ts := tmpsOf o.op.operands.toList
  let rs := guardSlot ops o ++ ts
  let rv := ptrsOf H.ptrs ts
  match o.op with
  | .store _ a _ => match a with
    | .tmp t => match lk t H.ptrs with
      | some k => ⟨false, rs, dstL o, rv, [k]⟩
      | none => ⟨true, [], [], [], []⟩
    | _ => ⟨true, [], [], [], []⟩
  | .alloc _ => ⟨false, rs, dstL o, rv, dstL o⟩
  | .box _ _ => ⟨false, rs, dstL o, rv, dstL o⟩
  | .call _ => match anyPlace H.places ts with
    | true => ⟨true, [], [], [], []⟩
    | false => ⟨false, rs, dstL o, rv, dstL o⟩
  | _ => ⟨false, rs, dstL o, rv, []⟩
def effIn.subN : List Nat → List Nat → Bool
  | [], _ => true
  | k :: r, wv => match memN k wv with | true => effIn.subN r wv | false => false
/-- Does an effect write no variables but these? -/
def effIn (d : Option Nat) (wv : List Nat) : Eff → Bool
  | .put _ => true
  | .none => true
  | .new _ => match d with | some t => memN t wv | none => true
  | .outs l r => match effIn.subN (keysOf l) wv with | true => effIn d wv r | false => false
  | _ => false
/-- Do these slots lead to no variables but those that are told? -/
def ptrsOk (ptrs : List (Nat × Nat)) (env : List (Nat × Ent)) : List Nat → Bool
  | [] => true
  | t :: r => match lk t env with
    | some (.avar k _) => match lk t ptrs with
      | some k' => match Nat.beq k k' with | true => ptrsOk ptrs env r | false => false
      | none => false
    | _ => ptrsOk ptrs env r
def gstepD (F : Alg) (G : Env) (H : Hint) (C : FuncId → List Arg → Option Res) (ops : List Oper) (o : Oper) (st : St) : Option St :=
  let rw := rwOf H ops o
  match rw.all with
  | true => gstep F G H C ops o st
  | false => match ptrsOk H.ptrs st.env (tmpsOf o.op.operands.toList) with
    | false => none
    | true => match guardOf ops st o.guard with
      | some b => match b with
        | true => match pact F G H C o st with
          | some e => match effIn o.dst rw.wv e with
            | true => papply F H o.dst st e
            | false => none
          | none => none
        | false => some (undefd o.dst st)
      | none => none
def evOpsD (F : Alg) (G : Env) (H : Hint) (C : FuncId → List Arg → Option Res) (ops : List Oper) : List Oper → St → Option St
  | [], st => some st
  | o :: r, st => match gstepD F G H C ops o st with
    | some st' => evOpsD F G H C ops r st'
    | none => none

def placeAll (st : St) : Place → Option (List PV)
  | .slot s _ => match lk s st.env with
    | some (.val v) => some (cellsOf v)
    | _ => none
  | .var k _ => lk k st.vars
def resOf (G : Env) (st : St) : List ResultVar → Option (List RV)
  | [] => some []
  | .tmp t :: r => match lk t st.env with
    | some (.val v) => match resOf G st r with
      | some l => some (.val v :: l)
      | none => none
    | some (.avar k off) => match off with
      | 0 => match lk k st.vars, resOf G st r with
        | some cells, some l => some (.ptr cells :: l)
        | _, _ => none
      | _ + 1 => none
    | _ => none
  | .cell a t :: r => match lk a st.env, tyOf G t with
    | some e, some i => match loadFrom G st.vars i e, resOf G st r with
      | some v, some l => some (.val v :: l)
      | _, _ => none
    | _, _ => none
/-- What the blocks that came in hold at the end. -/
def outsOf (st : St) : List (Nat × Place) → Option (List (Nat × List PV))
  | [] => some []
  | (j, p) :: r => match placeAll st p, outsOf st r with
    | some cells, some l => some ((j, cells) :: l)
    | _, _ => none
def finish (G : Env) (H : Hint) (fn : Func) (st : St) : Option Res :=
  match resOf G st fn.results.toList, outsOf st H.muts with
  | some rs, some outs => some ⟨rs, outs⟩
  | _, _ => none

def Out.inBlock (id : Nat) : Out → Out
  | .exit j st => match Nat.beq j id with | true => .normal st | false => .exit j st
  | o => o
def nLoops : Code → Nat
  | .seq a b => nLoops a + nLoops b
  | .cond _ a b => nLoops a + nLoops b
  | .block _ c => nLoops c
  | .loop c => nLoops c + 1
  | .scope c => nLoops c
  | _ => 0
/-- The body of the loop number 'i', in the text's order. -/
def loopAt : Code → Nat → Option Code
  | .seq a b, i => match Nat.blt i (nLoops a) with | true => loopAt a i | false => loopAt b (i - nLoops a)
  | .cond _ a b, i => match Nat.blt i (nLoops a) with | true => loopAt a i | false => loopAt b (i - nLoops a)
  | .block _ c, i => loopAt c i
  | .loop c, i => match i with | 0 => some c | j + 1 => loopAt c j
  | .scope c, i => loopAt c i
  | _, _ => none

/-- A piece of code; 'fin': what a return hands back; 'L i': what the loop number i comes to; 'k': the number of the piece's first loop. -/
def den (F : Alg) (G : Env) (H : Hint) (C : FuncId → List Arg → Option Res) (fin : St → Option Res) (L : Nat → St → Option Out) : Nat → Code → St → Option Out
  | _, .skip, st => some (.normal st)
  | _, .region _ ops draw, st => match (match draw with | true => evOpsD F G H C ops.toList ops.toList st | false => evOps F G H C ops.toList ops.toList st) with
    | some st' => some (.normal { st' with env := keepIn H.keep st'.env })
    | none => none
  | k, .seq a b, st => match den F G H C fin L k a st with
    | some (.normal st') => den F G H C fin L (k + nLoops a) b st'
    | r => r
  | k, .cond c a b, st => match c with
    | .tmp t => match lk t st.env with
      | some (.val (.bool c)) => match c with
        | true => den F G H C fin L k a { st with env := dl t st.env }
        | false => den F G H C fin L (k + nLoops a) b { st with env := dl t st.env }
      | _ => none
    | _ => none
  | k, .block id c, st => match den F G H C fin L k c st with
    | some o => some (o.inBlock id)
    | none => none
  | k, .loop _, st => L k st
  | _, .exit id, st => some (.exit id st)
  | k, .scope c, st => den F G H C fin L k c st
  | _, .label _, st => some (.normal st)
  | _, .ret, st => match fin st with
    | some r => some (.ret r)
    | none => none
  | _, _, _ => none

def entryEnv : Nat → List Arg → List (Nat × Ent)
  | _, [] => []
  | j, .val v :: r => (j, .val v) :: entryEnv (j + 1) r
  | j, .ptr _ :: r => (j, .avar j 0) :: entryEnv (j + 1) r
def entryVars : Nat → List Arg → List (Nat × List PV)
  | _, [] => []
  | j, .val _ :: r => entryVars (j + 1) r
  | j, .ptr c :: r => (j, c) :: entryVars (j + 1) r
def bodyOf (F : Alg) (G : Env) (H : Hint) (C : FuncId → List Arg → Option Res) (L : Nat → St → Option Out) (fn : Func) (args : List Arg) : Option Res :=
  match fn.body with
  | none => none
  | some c => match den F G H C (finish G H fn) L 0 c ⟨entryEnv 0 args, entryVars 0 args⟩ with
    | some (.normal st) => finish G H fn st
    | some (.ret r) => some r
    | _ => none
def callK (k : St → Option Out) (env : List (Nat × Ent)) (vars : List (Nat × List PV)) : Option Out := k ⟨env, vars⟩
def again (st : St) (k : St → Option Out) : Out → Option Out
  | .normal st' => callK k (keepIn (keysOf st.env) st'.env) (keepIn (keysOf st.vars) st'.vars)
  | o => some o
/-- One round of the loop number i, and what follows it. -/
def roundOf (F : Alg) (G : Env) (H : Hint) (C : FuncId → List Arg → Option Res) (L : Nat → St → Option Out) (fn : Func) (i : Nat) (st : St) : Option Out :=
  match fn.body with
  | none => none
  | some b => match loopAt b i with
    | none => none
    | some c => match den F G H C (finish G H fn) L (i + 1) c st with
      | none => none
      | some o => again st (L i) o
/-- The loops with fuel. -/
def loopN (F : Alg) (G : Env) (H : Hint) (C : FuncId → List Arg → Option Res) (fn : Func) : Nat → Nat → St → Option Out
  | 0, _, _ => none
  | n + 1, i, st => roundOf F G H C (loopN F G H C fn n) fn i st
def run (F : Alg) (P : Program) (G : Env) : Nat → FuncId → List Arg → Option Res
  | 0, _, _ => none
  | n + 1, f, args => match G.ext f with
    | some g => g args
    | none => match P.funcs[f]? with
      | none => none
      | some fn => bodyOf F G (G.hints f) (run F P G n) (loopN F G (G.hints f) (run F P G n) fn n) fn args
end Go.Pm
