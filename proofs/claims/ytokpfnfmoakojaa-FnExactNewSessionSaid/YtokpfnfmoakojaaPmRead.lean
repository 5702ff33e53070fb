/-
  How a value of the program's memory reads as a value without memory; what such a reading rests on.
-/
import Derived.Test.YtokpfnfmoakojaaPmDefs
import Derived.Deep.MidRow
import Derived.Laws.AppendOwn
namespace Go.Pm
open Go

def TyI.ok (i : TyI) : Prop := 0 < i.leaves.length ∧ (i.agg = false → i.leaves.length = 1)
def ElOk (i : TyI) (p : PV) : Prop :=
  match i.agg with
  | true => ∃ l, p = .agg l ∧ l.length = i.leaves.length
  | false => ∀ l, p ≠ .agg l

mutual
/-- 'Rd Ty w k v p os': in the world w the cell's value v reads as p; 'os': the blocks that the reading goes through, each with the end of what is read there. -/
inductive Rd (Ty : Nat → TyK) (w : World) : LK → Value → PV → List (Nat × Nat) → Prop
  | int (k : IntKind) (n : Int) : Rd Ty w (.int k) (.int k n) (.int k n) []
  | bool (b : Bool) : Rd Ty w .bool (.bool b) (.bool b) []
  | str (s : ByteArray) : Rd Ty w .str (.string s) (.str s.data.toList) []
  | nil (E : TypeId) : Rd Ty w (.slice E) (.slice none 0 0) (.slice []) []
  | slice {E : TypeId} {i : TyI} {b o len cap : Nat} {ps : List PV} {vs : List Value} {oss : List (List (Nat × Nat))}
      (hE : Ty E = .val i) (hi : i.ok) (hl : ps.length = len) (hc : len ≤ cap) (hp : ∀ p ∈ ps, ElOk i p)
      (hr : w.rangeAt b o vs) (hv : RdL Ty w (List.replicate len i.leaves).flatten vs (ps.flatMap cellsOf) oss) :
      Rd Ty w (.slice E) (.slice (some ⟨b, o, none⟩) len cap) (.slice ps) ((b, o + len * i.leaves.length) :: oss.flatten)
inductive RdL (Ty : Nat → TyK) (w : World) : List LK → List Value → List PV → List (List (Nat × Nat)) → Prop
  | nil : RdL Ty w [] [] [] []
  | cons {k : LK} {v : Value} {p : PV} {os : List (Nat × Nat)} {ks : List LK} {vs : List Value} {ps : List PV} {oss : List (List (Nat × Nat))}
      (h : Rd Ty w k v p os) (r : RdL Ty w ks vs ps oss) : RdL Ty w (k :: ks) (v :: vs) (p :: ps) (os :: oss)
end

variable {Ty : Nat → TyK} {w w' : World}

/-- What is read below the ends 'os' is in w' as it was in w. -/
def SameOn (w w' : World) (os : List (Nat × Nat)) : Prop := ∀ q ∈ os, ∀ j, j < q.2 → w'.cell? ⟨q.1, j, none⟩ = w.cell? ⟨q.1, j, none⟩

theorem SameOn.nil : SameOn w w' [] := fun _ h => by cases h
theorem SameOn.left {a b : List (Nat × Nat)} (h : SameOn w w' (a ++ b)) : SameOn w w' a := fun q hq => h q (List.mem_append_left _ hq)
theorem SameOn.right {a b : List (Nat × Nat)} (h : SameOn w w' (a ++ b)) : SameOn w w' b := fun q hq => h q (List.mem_append_right _ hq)

theorem RdL.len {ks : List LK} {vs : List Value} {ps : List PV} {oss : List (List (Nat × Nat))} (h : RdL Ty w ks vs ps oss) :
    vs.length = ks.length ∧ ps.length = ks.length ∧ oss.length = ks.length :=
  match h with
  | .nil => ⟨rfl, rfl, rfl⟩
  | .cons _ r => by have := r.len; simp; omega

theorem flat_len (n : Nat) (l : List LK) : (List.replicate n l).flatten.length = n * l.length := by
  induction n with
  | zero => simp
  | succ n ih => rw [List.replicate_succ, List.flatten_cons, List.length_append, ih, Nat.succ_mul]; omega

mutual
theorem Rd.frame {k : LK} {v : Value} {p : PV} {os : List (Nat × Nat)} (h : Rd Ty w k v p os) (hs : SameOn w w' os) : Rd Ty w' k v p os :=
  match h with
  | .int k n => .int k n
  | .bool b => .bool b
  | .str s => .str s
  | .nil E => .nil E
  | .slice (i := i) (b := b) (o := o) (len := len) (vs := vs) hE hi hl hc hp hr hv => by
    refine .slice hE hi hl hc hp ?_ (hv.frame fun q hq => hs q (List.mem_cons_of_mem _ hq))
    intro j v hj
    have hlt : j < vs.length := (List.getElem?_eq_some_iff.1 hj).1
    rw [hv.len.1, flat_len] at hlt
    rw [hs (b, o + len * i.leaves.length) List.mem_cons_self (o + j) (by simp; omega)]
    exact hr j v hj
theorem RdL.frame {ks : List LK} {vs : List Value} {ps : List PV} {oss : List (List (Nat × Nat))} (h : RdL Ty w ks vs ps oss) (hs : SameOn w w' oss.flatten) : RdL Ty w' ks vs ps oss :=
  match h with
  | .nil => .nil
  | .cons a r => by
    rw [List.flatten_cons] at hs
    exact .cons (a.frame hs.left) (r.frame hs.right)
end

theorem RdL.append {k1 k2 : List LK} {v1 v2 : List Value} {p1 p2 : List PV} {o1 o2 : List (List (Nat × Nat))} (h1 : RdL Ty w k1 v1 p1 o1) (h2 : RdL Ty w k2 v2 p2 o2) :
    RdL Ty w (k1 ++ k2) (v1 ++ v2) (p1 ++ p2) (o1 ++ o2) :=
  match h1 with
  | .nil => h2
  | .cons a r => .cons a (r.append h2)

/-- A reading of many leaves parts where its kinds part. -/
theorem RdL.split : ∀ {k1 k2 : List LK} {vs : List Value} {ps : List PV} {oss : List (List (Nat × Nat))}, RdL Ty w (k1 ++ k2) vs ps oss →
    RdL Ty w k1 (vs.take k1.length) (ps.take k1.length) (oss.take k1.length) ∧ RdL Ty w k2 (vs.drop k1.length) (ps.drop k1.length) (oss.drop k1.length)
  | [], _, _, _, _, h => by simpa using ⟨RdL.nil, h⟩
  | k :: k1, k2, _, _, _, .cons a r => by
    have := r.split
    exact ⟨by simpa using RdL.cons a this.1, by simpa using this.2⟩

theorem RdL.get {ks : List LK} {vs : List Value} {ps : List PV} {oss : List (List (Nat × Nat))} (h : RdL Ty w ks vs ps oss) (j : Nat) (hj : j < ks.length) :
    ∃ k v p os, ks[j]? = some k ∧ vs[j]? = some v ∧ ps[j]? = some p ∧ oss[j]? = some os ∧ Rd Ty w k v p os :=
  match h, j with
  | .cons a _, 0 => ⟨_, _, _, _, rfl, rfl, rfl, rfl, a⟩
  | .cons _ r, j + 1 => by simpa using r.get j (by simpa using hj)

/-- The value of one cell. -/
theorem Rd.oneCell {k : LK} {v : Value} {p : PV} {os : List (Nat × Nat)} (h : Rd Ty w k v p os) : v.oneCell' = true := by
  cases h <;> rfl
theorem Rd.notAgg {k : LK} {v : Value} {p : PV} {os : List (Nat × Nat)} (h : Rd Ty w k v p os) : ∀ l, p ≠ .agg l := by
  cases h <;> intro l <;> simp
theorem RdL.oneCell {ks : List LK} {vs : List Value} {ps : List PV} {oss : List (List (Nat × Nat))} (h : RdL Ty w ks vs ps oss) : ∀ v ∈ vs, v.oneCell' = true :=
  match h with
  | .nil => fun _ h => by cases h
  | .cons a r => fun v hv => by
    rcases List.mem_cons.1 hv with rfl | hv
    · exact a.oneCell
    · exact r.oneCell v hv

/-- A whole value (a struct's cells in a row, or one cell). -/
def RdV (Ty : Nat → TyK) (w : World) (agg : Bool) (ks : List LK) (v : Value) (p : PV) (vs : List Value) (oss : List (List (Nat × Nat))) : Prop :=
  RdL Ty w ks vs (cellsOf p) oss ∧
  match agg with
  | true => v = .agg vs.toArray ∧ ∃ l, p = .agg l
  | false => vs = [v] ∧ ∀ l, p ≠ .agg l

theorem RdV.cells {agg : Bool} {ks : List LK} {v : Value} {p : PV} {vs : List Value} {oss : List (List (Nat × Nat))} (h : RdV Ty w agg ks v p vs oss) : v.cells.toList = vs := by
  obtain ⟨hl, h⟩ := h
  cases agg with
  | true => obtain ⟨rfl, _⟩ := h; rfl
  | false =>
    obtain ⟨rfl, hp⟩ := h
    have := hl.oneCell v (by simp)
    cases v <;> simp_all [Value.cells, Value.oneCell']
theorem RdV.frame {agg : Bool} {ks : List LK} {v : Value} {p : PV} {vs : List Value} {oss : List (List (Nat × Nat))} (h : RdV Ty w agg ks v p vs oss) (hs : SameOn w w' oss.flatten) : RdV Ty w' agg ks v p vs oss :=
  ⟨h.1.frame hs, h.2⟩
theorem cellsOf_ne {p : PV} (h : ∀ l, p ≠ .agg l) : cellsOf p = [p] := by cases p <;> simp_all [cellsOf]
theorem RdV.one {k : LK} {v : Value} {p : PV} {os : List (Nat × Nat)} (h : Rd Ty w k v p os) : RdV Ty w false [k] v p [v] [os] :=
  ⟨by rw [cellsOf_ne h.notAgg]; exact .cons h .nil, rfl, h.notAgg⟩
theorem RdV.agg {ks : List LK} {vs : List Value} {ps : List PV} {oss : List (List (Nat × Nat))} (h : RdL Ty w ks vs ps oss) : RdV Ty w true ks (.agg vs.toArray) (.agg ps) vs oss :=
  ⟨h, rfl, _, rfl⟩
theorem RdV.isOne {k : LK} {v : Value} {p : PV} {vs : List Value} {oss : List (List (Nat × Nat))} (h : RdV Ty w false [k] v p vs oss) : ∃ os, vs = [v] ∧ oss = [os] ∧ Rd Ty w k v p os := by
  obtain ⟨hl, rfl, hp⟩ := h
  rw [cellsOf_ne hp] at hl
  cases hl with
  | cons a r => cases r; exact ⟨_, rfl, rfl, a⟩
end Go.Pm
