/-
  The checker: it follows a function's text with what is known of the memory alone (groups of blocks, rows that may be appended to), no values.
-/
import Derived.Test.YtokpfnfmoakojaaPmRel
namespace Go.Pm
open Go

/-- A parameter: is it a pointer to a block; are its slices' elements written; its leaves. -/
structure PSig where
  ptr : Bool
  wr : Bool
  agg : Bool
  ks : List LK
  deriving DecidableEq, Inhabited
/-- A function, as a caller knows it: its parameters; its results, with the names of the groups (0: blocks that came in); does it read the package's variables. -/
structure GSig where
  params : List PSig
  res : List (Bool × List LK × List LI)
  glob : Bool
  deriving DecidableEq, Inhabited

/-- What the checker knows of the program: the types; the functions' signatures; the leaves of the package's variables. -/
structure CEnv where
  types : Nat → TyK
  sigs : Nat → Option GSig
  gks : Nat → Option (List LK)

def eqLK (a b : LK) : Bool :=
  match a, b with
  | .int k, .int k' => sameKind k k'
  | .bool, .bool => true
  | .str, .str => true
  | .slice e, .slice e' => Nat.beq e e'
  | _, _ => false
def eqLKs : List LK → List LK → Bool
  | [], [] => true
  | a :: r, b :: s => match eqLK a b with | true => eqLKs r s | false => false
  | _, _ => false
def eqB (a b : Bool) : Bool := match a with | true => b | false => !b

def tyC (K : CEnv) (t : TypeId) : Option TyI :=
  match K.types t with
  | .val i => some i
  | _ => none
/-- The name of an operation's new groups: by its slot. -/
def freshOf (d : Option Nat) : Nat := match d with | some d => Nat.succ (Nat.mul 64 (Nat.succ d)) | none => 1

def scal : LI := ⟨0, 0, false, true, 0⟩
/-- Leaves that rest on nothing: a nil slice may be appended to. -/
def nilLIs : Nat → List LK → List LI
  | _, [] => []
  | n, k :: r => (match isSl k with | true => ⟨n, n + 1, true, true, 0⟩ | false => scal) :: nilLIs (n + 2) r

/-- A constant of one cell. -/
def constLK (ex : List LK) : Value → Option LK
  | .int k _ => some (.int k)
  | .bool _ => some .bool
  | .string _ => some .str
  | .slice none 0 0 => match ex with
    | [.slice e] => some (.slice e)
    | _ => none
  | _ => none
def constLKs : List LK → List Value → Bool
  | [], [] => true
  | k :: ks, v :: vs => match constLK [k] v with
    | some k' => match eqLK k k' with
      | true => constLKs ks vs
      | false => false
    | none => false
  | _, _ => false

def constAgg : Value → Option (Array Value)
  | .agg cs => some cs
  | _ => none
/-- What is known of an operand that is a value; 'ex': the leaves that are expected of it. -/
def sVal (σ : SG) (n : Nat) (ex : List LK) : Operand → Option (Bool × List LK × List LI)
  | .tmp t => match lk t σ.slots with
    | some (.val agg ks ls) => some (agg, ks, ls)
    | some (.velem agg ks li _ _) => some (agg, ks, List.replicate ks.length ⟨li.dt, li.dt, false, li.lin, 0⟩)
    | _ => none
  | .const v => match constAgg v with
    | some cs => match constLKs ex cs.toList with
      | true => some (true, ex, nilLIs n ex)
      | false => none
    | none => match constLK ex v with
      | some k => some (false, [k], nilLIs n [k])
      | none => none
  | _ => none
def sKind (σ : SG) (x : Operand) : Option LK :=
  match sVal σ 1 [] x with
  | some (false, [k], _) => some k
  | _ => none

def liFree (T : List Nat) (x : LI) : Bool := match memN x.tag T with | true => false | false => match memN x.dt T with | true => false | false => true
def allFree (T : List Nat) : List LI → Bool
  | [] => true
  | x :: r => match liFree T x with | true => allFree T r | false => false
def partsFree (T : List Nat) : List (Bool × List LK × List LI) → Bool
  | [] => true
  | x :: r => match allFree T x.2.2 with | true => partsFree T r | false => false
def siFree (T : List Nat) : SI → Bool
  | .val _ _ ls => allFree T ls
  | .tup l => partsFree T l
  | .aelem _ li _ => liFree T li
  | .velem _ _ li _ _ => liFree T li
  | _ => true
def badS (T : List Nat) : List (Nat × SI) → List Nat
  | [] => []
  | (j, s) :: r => match siFree T s with | true => badS T r | false => j :: badS T r
def badV (T : List Nat) : List (Nat × (List LK × List LI)) → List Nat
  | [] => []
  | (j, s) :: r => match allFree T s.2 with | true => badV T r | false => j :: badV T r
/-- Whatever reads in the groups T is forgotten. -/
def dropT (T : List Nat) (σ : SG) : SG := ⟨dlAll (badS T σ.slots) σ.slots, dlAll (badV T σ.vars) σ.vars⟩
def splitFree (T : List Nat) (ls : List LI) (off n : Nat) : Bool :=
  match allFree T (ls.take off), allFree T (ls.drop (off + n)) with
  | true, true => Nat.ble (off + n) ls.length
  | _, _ => false
/-- The leaves at a place are told anew; whatever else reads in the groups T is forgotten. -/
def cMutL (σ : SG) (p : Place) (nls : List LI) (T : List Nat) : Option SG :=
  match memN 0 T with
  | true => none
  | false => match p with
    | .slot s off => match lk s σ.slots with
      | some (.val agg ks ls) => match splitFree T ls off nls.length, over ls off nls with
        | true, some l => let τ := dropT T σ; some { τ with slots := up s (.val agg ks l) τ.slots }
        | _, _ => none
      | _ => none
    | .var k off => match lk k σ.vars with
      | some (ks, ls) => match splitFree T ls off nls.length, over ls off nls with
        | true, some l => let τ := dropT T σ; some { τ with vars := up k (ks, l) τ.vars }
        | _, _ => none
      | none => none
def lisAt (σ : SG) (p : Place) (n : Nat) : Option (List LI) :=
  match p with
  | .slot s off => match lk s σ.slots with
    | some (.val _ _ ls) => cut ls off n
    | _ => none
  | .var k off => match lk k σ.vars with
    | some (_, ls) => cut ls off n
    | none => none
def cMut (σ : SG) (p : Place) (n : Nat) (T : List Nat) : Option SG :=
  match lisAt σ p n with
  | some l => cMutL σ p l T
  | none => none

/-- The leaf at a place. -/
def leafAt (σ : SG) (p : Place) : Option (LK × LI) :=
  match p with
  | .slot s off => match lk s σ.slots with
    | some (.val _ ks ls) => match ks[off]?, ls[off]? with
      | some k, some l => some (k, l)
      | _, _ => none
    | _ => none
  | .var k off => match lk k σ.vars with
    | some (ks, ls) => match ks[off]?, ls[off]? with
      | some k, some l => some (k, l)
      | _, _ => none
    | none => none

inductive CE where
  | put (ρ : List Ren) (s : SI)
  | new (ks : List LK) (ls : List LI)
  | var (k : Nat) (ls : List LI)
  | mutL (ρ : Ren) (p : Place) (nls : List LI) (T : List Nat)
  | mutPut (p : Place) (n : Nat) (T : List Nat) (s : SI)

def putS (k : LK) : Option CE := some (.put [] (.val false [k] [scal]))
def mustS (k : Option LK) : Option CE :=
  match k with
  | some k => match isSl k with
    | true => none
    | false => putS k
  | none => none

/-- The groups of the slices among some leaves. -/
def tagsOf : List LK → List LI → List Nat
  | k :: ks, x :: ls => match isSl k with
    | true => x.tag :: x.dt :: tagsOf ks ls
    | false => tagsOf ks ls
  | _, _ => []
/-- Does the reading of each slice among these leaves meet each block once? -/
def linSl : List LK → List LI → Bool
  | k :: ks, x :: ls => match isSl k with
    | true => match x.lin with | true => linSl ks ls | false => false
    | false => linSl ks ls
  | _, _ => true
def anyIn (l m : List Nat) : Bool :=
  match l with
  | [] => false
  | x :: r => match memN x m with | true => true | false => anyIn r m
/-- Do slices among these leaves, and those of 'seen', lie apart? -/
def apartIn (seen : List Nat) : List LK → List LI → Bool
  | k :: ks, x :: ls => match isSl k with
    | true => match memN x.tag seen, memN x.dt seen with
      | false, false => apartIn (x.tag :: x.dt :: seen) ks ls
      | _, _ => false
    | false => apartIn seen ks ls
  | _, _ => true
def minN (a b : Nat) : Nat := match Nat.ble a b with | true => a | false => b
def minOf : Nat → List Nat → Nat
  | a, [] => a
  | a, b :: r => minOf (minN a b) r
/-- The name of groups that are joined: the least; 0 if it is among them. -/
def joinOf (n : Nat) (A : List Nat) : Nat :=
  match A with
  | [] => n
  | a :: r => minOf a r

def cMove (σ : SG) (n : Nat) (ex : List LK) (x : Operand) : Option CE :=
  match x with
  | .tmp t => match lk t σ.slots with
    | some (.val agg ks ls) => some (.put [] (.val agg ks ls))
    | some (.velem agg ks li _ _) => some (.put [] (.val agg ks (List.replicate ks.length ⟨li.dt, li.dt, false, li.lin, 0⟩)))
    | some (.tup l) => some (.put [] (.tup l))
    | some (.avar k off) => some (.put [] (.avar k off))
    | _ => none
  | x => match sVal σ n ex x with
    | some (agg, ks, ls) => some (.put [] (.val agg ks ls))
    | none => none
def exOf (i : Option TyI) : List LK := match i with | some i => i.leaves | none => []
def exOne (i : Option TyI) : List LK :=
  match i with
  | some i => match i.agg with
    | false => i.leaves
    | true => []
  | none => []

def cLoad (σ : SG) (i : Option TyI) (a : Operand) : Option CE :=
  match i, a with
  | some i, .tmp t => match lk t σ.slots with
    | some (.avar k off) => match lk k σ.vars with
      | some (ks, ls) => match cut ks off i.leaves.length, cut ls off i.leaves.length with
        | some ks', some ls' => match eqLKs ks' i.leaves with
          | true => some (.put [] (.val i.agg i.leaves ls'))
          | false => none
        | _, _ => none
      | none => none
    | some (.aelem ks li off) => match cut ks off i.leaves.length with
      | some ks' => match eqLKs ks' i.leaves with
        | true => match anySl i.leaves with
          | true => some (.put [] (.velem i.agg i.leaves li ks.length off))
          | false => some (.put [] (.val i.agg i.leaves (List.replicate i.leaves.length ⟨li.dt, li.dt, false, li.lin, 0⟩)))
        | false => none
      | none => none
    | _ => none
  | _, _ => none
def storeLin (l0 : LI) (ks : List LK) (ls : List LI) : Bool :=
  match l0.lin, linSl ks ls, apartIn [l0.dt] ks ls with
  | true, true, true => true
  | _, _, _ => false
def soleRow (l0 : LI) : Bool :=
  match l0.lin with
  | true => true
  | false => !(Nat.beq l0.tag l0.dt)
/-- A value is written into an element of a row that is read at one place alone. -/
def cStoreE (K : CEnv) (H : Hint) (σ : SG) (n : Nat) (i : Option TyI) (a x : Operand) : Option CE :=
  match i, a with
  | some i, .tmp t => match lk t σ.slots, lk t H.places with
    | some (.aelem ks li off), some p => match sVal σ n i.leaves x, cut ks off i.leaves.length, leafAt σ p with
      | some (agg, ks', ls'), some ks'', some (.slice e, l0) => match eqLKs ks' i.leaves, eqB agg i.agg, eqLKs ks'' i.leaves, tyC K e with
        | true, true, true, some ie => match eqLKs ks ie.leaves, Nat.beq l0.id li.id, Nat.beq l0.id 0 with
          | true, true, false => match anySl i.leaves with
            | false => match soleRow l0 with
              | true => some (.mutL ⟨[], 0, true⟩ p [l0] [l0.tag])
              | false => none
            | true => match memN l0.tag (l0.dt :: tagsOf ks' ls'), Nat.ble 65 l0.id with
              | true, _ => none
              | false, false => none
              | false, true => some (.mutL ⟨l0.dt :: tagsOf ks' ls', joinOf 0 (l0.dt :: tagsOf ks' ls'), true⟩ p [⟨l0.tag, joinOf 0 (l0.dt :: tagsOf ks' ls'), l0.own, storeLin l0 ks' ls', l0.id⟩] [l0.tag])
          | _, _, _ => none
        | _, _, _, _ => none
      | _, _, _ => none
    | _, _ => none
  | _, _ => none
def cStore (σ : SG) (n : Nat) (i : Option TyI) (a x : Operand) : Option CE :=
  match i, a with
  | some i, .tmp t => match lk t σ.slots with
    | some (.avar k off) => match lk k σ.vars, sVal σ n i.leaves x with
      | some (ks, ls), some (agg, ks', ls') => match cut ks off i.leaves.length, eqLKs ks' i.leaves, eqB agg i.agg with
        | some ks'', true, true => match eqLKs ks'' i.leaves, over ls off ls' with
          | true, some l => some (.var k l)
          | _, _ => none
        | _, _, _ => none
      | _, _ => none
    | _ => none
  | _, _ => none
def cAddr (σ : SG) (d : Nat) (x : Operand) : Option CE :=
  match x with
  | .tmp t => match lk t σ.slots with
    | some (.avar k off) => some (.put [] (.avar k (off + d)))
    | some (.aelem ks li off) => some (.put [] (.aelem ks li (off + d)))
    | _ => none
  | _ => none
def binK (op : BinOp) (a b : Option LK) : Option LK :=
  match a, b with
  | some (.int k), some (.int _) => match isCmp op with | true => some .bool | false => some (.int k)
  | some .str, some .str => match isCmp op with | true => some .bool | false => some .str
  | some .bool, some .bool => some .bool
  | _, _ => none
def cBin (σ : SG) (op : BinOp) (ex : List LK) (x y : Operand) : Option CE :=
  match sVal σ 1 ex x, sVal σ 1 ex y with
  | some (false, [k], _), some (false, [k'], _) => match k, ex with
    | .bool, [.bool] => mustS (binK op (some k) (some k'))
    | .bool, _ => none
    | _, _ => mustS (binK op (some k) (some k'))
  | _, _ => none
def cUn (σ : SG) (op : UnOp) (x : Operand) : Option CE :=
  match op, sKind σ x with
  | .not, some .bool => putS .bool
  | .neg, some (.int k) => putS (.int k)
  | _, _ => none
def cPart (σ : SG) (n : Nat) (leaves : List LK) (off size : Nat) (x : Operand) : Option (List LI) :=
  match cut leaves off size with
  | some ks' => match sVal σ n ks' x with
    | some (_, ks, ls) => match eqLKs ks ks' with | true => some ls | false => none
    | none => none
  | none => none
def cParts (σ : SG) (n : Nat) (i : TyI) (ls : List LI) : List (Nat × Operand) → Option (List LI)
  | [] => some ls
  | (j, x) :: r => match i.fields[j]?, i.sizes[j]? with
    | some off, some size => match cPart σ n i.leaves off size x with
      | some ls' => match over ls off ls' with
        | some l => cParts σ n i l r
        | none => none
      | none => none
    | _, _ => none
def cElems (σ : SG) (n : Nat) (i : TyI) : List (Nat × Operand) → Option (List LI)
  | [] => some []
  | (_, x) :: r => match sVal σ n i.leaves x, cElems σ n i r with
    | some (agg, ks, ls), some l => match eqB agg i.agg, eqLKs ks i.leaves with
      | true, true => some (ls ++ l)
      | _, _ => none
    | _, _ => none
def repK (ks : List LK) : Nat → List LK
  | 0 => []
  | n + 1 => ks ++ repK ks n
/-- A new row whose elements' leaves are known by 'ls'; 'm': how many elements are told. -/
def cRow (n : Nat) (E : TypeId) (i : TyI) (m : Nat) (ls : List LI) : CE :=
  let ks := repK i.leaves m
  let A := tagsOf ks ls
  let t := joinOf (n + 1) A
  let lin := match anySl i.leaves with
    | false => true
    | true => match Nat.ble m 1 with
      | true => match linSl ks ls with
        | true => apartIn [] ks ls
        | false => false
      | false => false
  .put [⟨A, t, true⟩] (.val false [.slice E] [⟨n, t, true, lin, 0⟩])
def cApp (σ : SG) (n : Nat) (types : Nat → TyK) (ex : List LK) (x y : Operand) : Option CE :=
  match ex, sVal σ n ex x with
  | [.slice e0], some (false, [.slice e], [lx]) => match types e, lx.own, Nat.beq e0 e with
    | .val i, true, true => match sVal σ (n + 2) ex y with
      | some (false, [.slice e'], [ly]) => match Nat.beq e e' with
        | true => match anySl i.leaves with
          | false => some (.put [⟨[lx.tag], lx.tag, false⟩] (.val false [.slice e] [⟨lx.tag, lx.dt, true, true, 0⟩]))
          | true =>
            let A := [lx.dt, ly.dt]
            let m := joinOf 0 A
            match memN lx.tag A with
            | true => none
            | false => some (.put [⟨[lx.tag], lx.tag, false⟩, ⟨A, m, true⟩] (.val false [.slice e] [⟨lx.tag, m, true, lx.lin && ly.lin && !(Nat.beq lx.dt ly.dt) && !(memN 0 A), 0⟩]))
        | false => none
      | _ => none
    | _, _, _ => none
  | _, _ => none
/-- The arguments of a call: the groups of those that are not written. -/
def cArgsA (σ : SG) (n : Nat) : List PSig → List Operand → Option (List Nat)
  | [], [] => some []
  | p :: ps, x :: r => match p.ptr with
    | true => none
    | false => match p.wr with
      | true => cArgsA σ n ps r
      | false => match sVal σ n p.ks x, cArgsA σ n ps r with
        | some (agg', ks', ls), some A => match eqB agg' p.agg, eqLKs ks' p.ks with
          | true, true => some (tagsOf p.ks ls ++ A)
          | _, _ => none
        | _, _ => none
  | _, _ => none
/-- The argument that is written, and its number. -/
def wrOf : Nat → List PSig → List Operand → Option (Nat × PSig × Operand)
  | j, p :: ps, x :: r => match p.wr with | true => some (j, p, x) | false => wrOf (j + 1) ps r
  | _, _, _ => none
def wrIdx : Nat → List PSig → Option Nat
  | j, p :: ps => match p.wr with | true => some j | false => wrIdx (j + 1) ps
  | _, [] => none
def anyWr : List PSig → Bool
  | [] => false
  | p :: r => match p.wr with | true => true | false => anyWr r
def oneWr : List PSig → Bool
  | [] => true
  | p :: r => match p.wr with | true => !(anyWr r) | false => oneWr r
def sameIds : List LI → List LI → Bool
  | [], [] => true
  | x :: r, y :: s => match Nat.beq x.id y.id, Nat.beq x.id 0 with
    | true, false => sameIds r s
    | _, _ => false
  | _, _ => false
def noneIn (A B : List Nat) : Bool :=
  match A with
  | [] => true
  | a :: r => match memN a B with | true => false | false => noneIn r B
def ksAt (σ : SG) (p : Place) (n : Nat) : List LK :=
  match p with
  | .slot s off => match lk s σ.slots with
    | some (.val _ ks _) => (ks.drop off).take n
    | _ => []
  | .var k off => match lk k σ.vars with
    | some (ks, _) => (ks.drop off).take n
    | none => []
/-- Does a result share blocks with what came in? -/
def foreign : List LK → List LI → Bool
  | k :: ks, x :: ls => match isSl k with
    | true => match Nat.beq x.tag 0, Nat.beq x.dt 0 with
      | false, false => foreign ks ls
      | _, _ => true
    | false => foreign ks ls
  | _, _ => false
def anyForeign : List (Bool × List LK × List LI) → Bool
  | [] => false
  | x :: r => match foreign x.2.1 x.2.2 with | true => true | false => anyForeign r
/-- The result's groups by the caller's names: the callee's own groups are new. -/
def nameT (n m : Nat) (t : Nat) : Nat := match t with | 0 => m | t + 1 => n + 1 + t
def nameLI (n m : Nat) (x : LI) : LI := ⟨nameT n m x.tag, nameT n m x.dt, x.own, x.lin, 0⟩
def nameLIs (n m : Nat) : List LK → List LI → List LI
  | k :: ks, x :: ls => (match isSl k with | true => nameLI n m x | false => scal) :: nameLIs n m ks ls
  | _, _ => []
def namePart (n m : Nat) (x : Bool × List LK × List LI) : Bool × List LK × List LI := (x.1, x.2.1, nameLIs n m x.2.1 x.2.2)
/-- What a call's results are known to be. -/
def resSI (n m : Nat) (res : List (Bool × List LK × List LI)) : SI :=
  match res with
  | [x] => .val x.1 x.2.1 (nameLIs n m x.2.1 x.2.2)
  | l => .tup (l.map (namePart n m))
def noSlRes : List (Bool × List LK × List LI) → Bool
  | [] => true
  | x :: r => match anySl x.2.1 with | true => false | false => noSlRes r
def oneSl : List LK → Bool
  | [.slice _] => true
  | _ => false
def cSlice (K : CEnv) (σ : SG) (ex : List LK) (x : Operand) : Option CE :=
  match ex, sVal σ 1 [] x with
  | [.str], some (false, [.str], _) => putS .str
  | [.slice e'], some (false, [.slice e], [li]) => match Nat.beq e e', tyC K e with
    | true, some _ => some (.put [] (.val false [.slice e] [⟨li.tag, li.dt, false, li.lin, 0⟩]))
    | _, _ => none
  | _, _ => none
/-- The argument that is written: the place of what it leads to, and its groups. -/
def cWr (K : CEnv) (H : Hint) (σ : SG) (A : List Nat) (p : PSig) (x : Operand) : Option (Place × Nat × List Nat) :=
  match x with
  | .tmp t => match lk t H.places, lk t σ.slots with
    | some pl, some (.val agg ks ls) => match eqB agg p.agg, eqLKs ks p.ks, lisAt σ pl ks.length, eqLKs (ksAt σ pl ks.length) ks with
      | true, true, some ls0, true => match sameIds ls ls0, linSl ks ls, apartIn [] ks ls, noneIn (tagsOf ks ls) (0 :: A) with
        | true, true, true, true => some (pl, ks.length, tagsOf ks ls)
        | _, _, _, _ => none
      | _, _, _, _ => none
    | some pl, some (.velem agg ks li size off) => match eqB agg p.agg, eqLKs ks p.ks, leafAt σ pl, oneSl ks with
      | true, true, some (.slice E, l0), true => match tyC K E with
        | some ie => match Nat.beq l0.id li.id, Nat.beq l0.id 0, l0.lin, noneIn [li.dt] (0 :: A) with
          | true, false, true, true => match Nat.beq size ie.leaves.length, cut ie.leaves off 1 with
            | true, some ks' => match eqLKs ks' ks with
              | true => some (pl, 1, [li.dt])
              | false => none
            | _, _ => none
          | _, _, _, _ => none
        | none => none
      | _, _, _, _ => none
    | _, _ => none
  | _ => none
def cCall (K : CEnv) (H : Hint) (glob : Bool) (σ : SG) (n : Nat) (f : FuncId) (args : List Operand) : Option CE :=
  match K.sigs f with
  | some sg => match cArgsA σ n sg.params args, (match sg.glob with | true => glob | false => true) with
    | some A, true => match anyWr sg.params with
      | false => match anyForeign sg.res with
        | true => match sg.glob with
          | true => some (.put [⟨0 :: A, 0, false⟩] (resSI n 0 sg.res))
          | false => some (.put [⟨A, joinOf n A, false⟩] (resSI n (joinOf n A) sg.res))
        | false => some (.put [] (resSI n n sg.res))
      | true => match wrOf 0 sg.params args, noSlRes sg.res, oneWr sg.params && !sg.glob with
        | some (_, p, x), true, true => match cWr K H σ A p x with
          | some (pl, k, T) => some (.mutPut pl k T (resSI n n sg.res))
          | none => none
        | _, _, _ => none
    | _, _ => none
  | none => none
def isInt (k : Option LK) : Bool := match k with | some (.int _) => true | _ => false
def optInt (σ : SG) (x : Option Operand) : Bool := match x with | some x => isInt (sKind σ x) | none => true

def cPick (σ : SG) (c x y : Operand) : Option CE :=
  match sKind σ c, sKind σ x, sKind σ y with
  | some .bool, some k, some k' => match eqLK k k' with
    | true => mustS (some k)
    | false => none
  | _, _, _ => none
def cAlloc (n : Nat) (i : Option TyI) : Option CE :=
  match i with
  | some i => some (.new i.leaves (nilLIs n i.leaves))
  | none => none
def cBox (σ : SG) (n : Nat) (i : Option TyI) (x : Operand) : Option CE :=
  match i with
  | some i => match sVal σ n i.leaves x with
    | some (agg, ks, ls) => match eqB agg i.agg, eqLKs ks i.leaves with
      | true, true => some (.new i.leaves ls)
      | _, _ => none
    | none => none
  | none => none
def cBuild (σ : SG) (n : Nat) (i : Option TyI) (parts : List (Nat × Operand)) : Option CE :=
  match i with
  | some i => match i.agg, cParts σ n i (nilLIs n i.leaves) parts with
    | true, some ls => some (.put [] (.val true i.leaves ls))
    | _, _ => none
  | none => none
def cElemTy (K : CEnv) (t : TypeId) : Option (TypeId × TyI) :=
  match tyC K t with
  | some j => match sliceElem j with
    | some e => match tyC K e with
      | some i => some (e, i)
      | none => none
    | none => none
  | none => none
def cBuildSl (σ : SG) (n : Nat) (ei : Option (TypeId × TyI)) (len : Nat) (parts : List (Nat × Operand)) : Option CE :=
  match ei with
  | some (e, i) => match cElems σ (n + 2) i parts, Nat.ble (len * i.leaves.length) 16777216 with
    | some ls, true => some (cRow n e i parts.length ls)
    | _, _ => none
  | none => none
def cConv (σ : SG) (i j : Option TyI) (x : Operand) : Option CE :=
  match i, j, sKind σ x with
  | some _, some ⟨false, [.int k], _, _⟩, some (.int _) => putS (.int k)
  | _, _, _ => none
def cMake (σ : SG) (n : Nat) (ei : Option (TypeId × TyI)) (l c : Operand) : Option CE :=
  match ei, isInt (sKind σ l), isInt (sKind σ c) with
  | some (e, _), true, true => some (.put [⟨[], n + 1, true⟩] (.val false [.slice e] [⟨n, n + 1, true, true, 0⟩]))
  | _, _, _ => none
def isBytes : TyI → Bool
  | ⟨false, [.int .u8], _, _⟩ => true
  | _ => false
/-- A string of bytes. -/
def cBts (K : CEnv) (σ : SG) (i j : Option TyI) (x : Operand) : Option CE :=
  match i, j, sVal σ 1 [] x with
  | some ⟨false, [.slice e], _, _⟩, some ⟨false, [.str], _, _⟩, some (false, [.slice e'], _) => match Nat.beq e e', tyC K e with
    | true, some ie => match isBytes ie with
      | true => putS .str
      | false => none
    | _, _ => none
  | _, _, _ => none
def cSl (K : CEnv) (σ : SG) (ex : List LK) (x : Operand) (lo hi mx : Option Operand) : Option CE :=
  match mx, optInt σ lo, optInt σ hi with
  | none, true, true => cSlice K σ ex x
  | _, _, _ => none
def cField (σ : SG) (i : Option TyI) (x : Operand) (f : Nat) : Option CE :=
  match i with
  | some i => match i.agg, i.fields[f]? with
    | true, some d => cAddr σ d x
    | _, _ => none
  | none => none
def cIdxA (σ : SG) (ei : Option (TypeId × TyI)) (x ix : Operand) : Option CE :=
  match ei, isInt (sKind σ ix), sVal σ 1 [] x with
  | some (e, i), true, some (false, [.slice e'], [li]) => match Nat.beq e e' with
    | true => some (.put [] (.aelem i.leaves li 0))
    | false => none
  | _, _, _ => none
def cIdx (σ : SG) (ex : List LK) (x ix : Operand) : Option CE :=
  match ex, sKind σ x, isInt (sKind σ ix) with
  | [.str], some .str, true => putS (.int .u8)
  | _, _, _ => none
def cExtract (σ : SG) (x : Operand) (j : Nat) : Option CE :=
  match x with
  | .tmp t => match lk t σ.slots with
    | some (.tup l) => match l[j]? with
      | some (agg, ks, ls) => some (.put [] (.val agg ks ls))
      | none => none
    | _ => none
  | _ => none
def cLen (σ : SG) (n : Nat) (ex : List LK) (x : Operand) : Option CE :=
  match ex, sVal σ n [] x with
  | [.str], some (false, [.str], _) => putS (.int .i64)
  | [.slice _], some (false, [.slice _], _) => putS (.int .i64)
  | _, _ => none
def cMM (σ : SG) (x y : Operand) : Option CE :=
  match sKind σ x, sKind σ y with
  | some (.int k), some (.int k') => match sameKind k k' with
    | true => putS (.int k)
    | false => none
  | _, _ => none
def cBuiltin (K : CEnv) (σ : SG) (n : Nat) (b : Builtin) (args : List Operand) (ts : List TypeId) : Option CE :=
  match b, args, ts with
  | .len, [x], [t] => cLen σ n (exOne (tyC K t)) x
  | .append, [x, y], [t, t'] => match Nat.beq t t' with
    | true => cApp σ n K.types (exOne (tyC K t)) x y
    | false => none
  | .max, [x, y], _ => cMM σ x y
  | .min, [x, y], _ => cMM σ x y
  | _, _, _ => none

/-- What one operation does to what is known. -/
def cact (K : CEnv) (H : Hint) (glob : Bool) (o : Oper) (σ : SG) : Option CE :=
  let n := freshOf o.dst
  match o.op with
  | .move x => cMove σ n (exOf (tyC K o.type)) x
  | .assign x => cMove σ n (exOf (tyC K o.type)) x
  | .pick c a b => cPick σ c a b
  | .alloc t => cAlloc n (tyC K t)
  | .box t x => cBox σ n (tyC K t) x
  | .build t parts => cBuild σ n (tyC K t) parts.toList
  | .buildSlice t len parts => cBuildSl σ n (cElemTy K t) len parts.toList
  | .load t a => cLoad σ (tyC K t) a
  | .store t a x => match o.dst with
    | none => match cStore σ n (tyC K t) a x with
      | some e => some e
      | none => cStoreE K H σ n (tyC K t) a x
    | some _ => none
  | .nilCheck x => cAddr σ 0 x
  | .binOp op t x y _ => cBin σ op (exOne (tyC K t)) x y
  | .unOp op _ x => cUn σ op x
  | .convert s t x => match cConv σ (tyC K s) (tyC K t) x with
    | some e => some e
    | none => cBts K σ (tyC K s) (tyC K t) x
  | .makeSlice t l c => cMake σ n (cElemTy K t) l c
  | .slice t x lo hi mx => cSl K σ (exOne (tyC K t)) x lo hi mx
  | .fieldAddr t x f => cField σ (tyC K t) x f
  | .indexAddr t x ix => cIdxA σ (cElemTy K t) x ix
  | .index t x ix => cIdx σ (exOne (tyC K t)) x ix
  | .extract x j => cExtract σ x j
  | .call c => match c.callee with
    | .builtin b => cBuiltin K σ n b c.args.toList c.argTypes.toList
    | .value (.func f) => cCall K H glob σ n f c.args.toList
    | _ => none
  | _ => none

def inN (n m x : Nat) : Bool := match Nat.ble n x with | true => Nat.blt x m | false => false
/-- The names from n up to m are forgotten. -/
def clrL (n m : Nat) (x : LI) : LI := match inN n m x.id with | true => ⟨x.tag, x.dt, x.own, x.lin, 0⟩ | false => x
def clrP (n m : Nat) (x : Bool × List LK × List LI) : Bool × List LK × List LI := (x.1, x.2.1, x.2.2.map (clrL n m))
def clrSI (n m : Nat) : SI → SI
  | .val a k l => .val a k (l.map (clrL n m))
  | .tup l => .tup (l.map (clrP n m))
  | .avar k o => .avar k o
  | .aelem k l o => .aelem k (clrL n m l) o
  | .velem a k l z o => .velem a k (clrL n m l) z o
  | .glob g => .glob g
def clrSG (n m : Nat) (σ : SG) : SG := ⟨mapV (clrSI n m) σ.slots, mapV (fun x => (x.1, x.2.map (clrL n m))) σ.vars⟩
def numLI : Nat → List LI → List LI
  | _, [] => []
  | n, x :: r => ⟨x.tag, x.dt, x.own, x.lin, n⟩ :: numLI (n + 1) r
/-- The slot's leaves get names from n on. -/
def nameSlot (n : Nat) (d : Nat) (σ : SG) : SG :=
  match lk d σ.slots with
  | some (.val a k l) => let τ := clrSG n (n + l.length) σ; { τ with slots := up d (.val a k (numLI n l)) τ.slots }
  | _ => σ
def rens (σ : SG) : List Ren → SG
  | [] => σ
  | ρ :: r => rens (ρ.sg σ) r
def putSlot (N : Nat) (d : Option Nat) (s : SI) (σ : SG) : Option SG :=
  match d with
  | some t => match Nat.blt t N with
    | true => some { σ with slots := up t s σ.slots }
    | false => none
  | none => some σ
def capply (N : Nat) (d : Option Nat) (σ : SG) : CE → Option SG
  | .put ρ s => match d with
    | some t => match Nat.blt t N with
      | true => some (let σ' := rens σ ρ; { σ' with slots := up t s σ'.slots })
      | false => none
    | none => some (rens σ ρ)
  | .new ks ls => match d with
    | some t => match Nat.blt t N with
      | true => some ⟨up t (.avar t 0) (noVar t σ.slots), up t (ks, ls) σ.vars⟩
      | false => none
    | none => none
  | .var k ls => match lk k σ.vars with
    | some (ks, _) => some { σ with vars := up k (ks, ls) σ.vars }
    | none => none
  | .mutL ρ p nls T => match d with
    | none => cMutL (ρ.sg σ) p nls T
    | some _ => none
  | .mutPut p n T s => match cMut σ p n T with
    | some σ1 => putSlot N d s σ1
    | none => none
/-- Do the leaves that an operation makes get names? -/
def named : Op → Bool
  | .makeSlice .. => true
  | .buildSlice .. => true
  | .call _ => true
  | _ => false
def cName (o : Oper) (σ : SG) : SG :=
  match named o.op, o.dst with
  | true, some d => nameSlot (freshOf (some d)) d σ
  | _, _ => σ
def cstep (K : CEnv) (H : Hint) (glob : Bool) (N : Nat) (o : Oper) (σ : SG) : Option SG :=
  match cact K H glob o σ with
  | some e => capply N o.dst σ e
  | none => none
end Go.Pm
