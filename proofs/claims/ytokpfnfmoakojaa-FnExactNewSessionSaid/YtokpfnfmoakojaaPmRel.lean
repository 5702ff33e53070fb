/-
  The relation between the pure machine's state and the program's frame and memory; the laws by which a step keeps it.
-/
import Derived.Test.YtokpfnfmoakojaaPmRead
namespace Go.Pm
open Go

/-- What is known of a leaf: the group of blocks in which its row lies (0: blocks that others may hold, too), and the group of what lies deeper; may its row be appended to in place; does its reading meet each block once; the name under which its cell's value is remembered (0: none). -/
structure LI where
  tag : Nat
  dt : Nat
  own : Bool
  lin : Bool
  id : Nat
  deriving DecidableEq, Inhabited

/-- What is known of a slot. -/
inductive SI where
  | val (agg : Bool) (ks : List LK) (ls : List LI)
  | tup (parts : List (Bool × List LK × List LI))
  | avar (k off : Nat)
  | aelem (ks : List LK) (li : LI) (off : Nat)
  | velem (agg : Bool) (ks : List LK) (li : LI) (size off : Nat)
  | glob (g : Nat)
  deriving DecidableEq, Inhabited

structure SG where
  slots : List (Nat × SI)
  vars : List (Nat × (List LK × List LI))
  deriving DecidableEq, Inhabited

/-- A leaf: what is known of it, its cell's value, what its reading rests on. -/
structure Lf where
  li : LI
  v : Value
  os : List (Nat × Nat)

/-- What a leaf's reading rests on, each with its group. -/
def Lf.tq (x : Lf) : List (Nat × Nat × Nat) :=
  match x.os with
  | [] => []
  | q :: r => (x.li.tag, q) :: r.map (x.li.dt, ·)
/-- The row that a value leads to, and its end. -/
def Lf.head (x : Lf) : Option (Nat × Nat) :=
  match x.v with
  | .slice (some _) _ _ => x.os.head?
  | _ => none

inductive TupOk (Ty : Nat → TyK) (w : World) : List (Bool × List LK × List LI) → List Value → List PV → List Lf → Prop
  | nil : TupOk Ty w [] [] [] []
  | cons {agg : Bool} {ks : List LK} {ls : List LI} {v : Value} {p : PV} {lfs : List Lf} {parts : List (Bool × List LK × List LI)} {vs : List Value} {ps : List PV} {rest : List Lf}
      (h : RdV Ty w agg ks v p (lfs.map (·.v)) (lfs.map (·.os))) (hl : lfs.map (·.li) = ls) (r : TupOk Ty w parts vs ps rest) : TupOk Ty w ((agg, ks, ls) :: parts) (v :: vs) (p :: ps) (lfs ++ rest)

/-- The place of the element 'i' in a row that is read. -/
structure ElemAt (row : Lf) (li : LI) (size b o : Nat) (i : Int) : Prop where
  v : ∃ o0 len cap, row.v = .slice (some ⟨b, o0, none⟩) len cap ∧ 0 ≤ i ∧ i.toNat < len ∧ o = o0 + i.toNat * size
  os : ∃ e r, row.os = (b, e) :: r ∧ o + size ≤ e
  li : row.li = ⟨li.tag, li.dt, false, li.lin, li.id⟩

/-- What a slot's value has to do with what the machine holds there. -/
inductive EntOk (Ty : Nat → TyK) (β : Nat → Nat) (w : World) : Value → Ent → SI → List Lf → Prop
  | val {agg : Bool} {ks : List LK} {ls : List LI} {v : Value} {p : PV} {lfs : List Lf} (h : RdV Ty w agg ks v p (lfs.map (·.v)) (lfs.map (·.os))) (hl : lfs.map (·.li) = ls) :
      EntOk Ty β w v (.val p) (.val agg ks ls) lfs
  | tup {parts : List (Bool × List LK × List LI)} {vs : Array Value} {ps : List PV} {lfs : List Lf} (h : TupOk Ty w parts vs.toList ps lfs) : EntOk Ty β w (.tuple vs) (.tup ps) (.tup parts) lfs
  | avar {k off : Nat} : EntOk Ty β w (.pointer (some ⟨β k, off, none⟩)) (.avar k off) (.avar k off) []
  | aelem {ks : List LK} {li : LI} {off : Nat} {b o : Nat} {i : Int} {cells : List PV} {lfs : List Lf} {row : Lf} (hrow : ElemAt row li ks.length b o i) (hr : w.rangeAt b o (lfs.map (·.v))) (h : RdL Ty w ks (lfs.map (·.v)) cells (lfs.map (·.os)))
      (hl : ∀ x ∈ lfs, x.li = ⟨li.dt, li.dt, false, li.lin, 0⟩) :
      EntOk Ty β w (.pointer (some ⟨b, o + off, none⟩)) (.aelem i cells off) (.aelem ks li off) (row :: lfs)
  | velem {agg : Bool} {ks : List LK} {li : LI} {size off : Nat} {b o : Nat} {i : Int} {v : Value} {p : PV} {lfs : List Lf} {row : Lf} (hrow : ElemAt row li size b o i) (hoff : off + ks.length ≤ size) (hr : w.rangeAt b (o + off) (lfs.map (·.v)))
      (h : RdV Ty w agg ks v p (lfs.map (·.v)) (lfs.map (·.os))) (hl : ∀ x ∈ lfs, x.li = ⟨li.dt, li.dt, false, li.lin, 0⟩) :
      EntOk Ty β w v (.velem i off p) (.velem agg ks li size off) (row :: lfs)
  | glob {g : Nat} : EntOk Ty β w (.pointer (some ⟨g, 0, none⟩)) (.glob g) (.glob g) []

/-- A variable's block. -/
def VarOk (Ty : Nat → TyK) (w : World) (b : Nat) (cells : List PV) (s : List LK × List LI) (lfs : List Lf) : Prop :=
  ∃ el cur, w.heap[b]? = some (.cells cur el (0, 0)) ∧ cur.toList = lfs.map (·.v) ∧ RdL Ty w s.1 (lfs.map (·.v)) cells (lfs.map (·.os)) ∧ lfs.map (·.li) = s.2

/-- A row that may be appended to in place. -/
def OwnRow (w : World) (v : Value) (os : List (Nat × Nat)) : Prop :=
  v = .slice none 0 0 ∨ ∃ g n cap cur el, v = .slice (some ⟨g, 0, none⟩) n cap ∧ w.heap[g]? = some (.cells cur el (0, 0)) ∧ n ≤ cap ∧ cap ≤ maxLen ∧ (n = 0 → cap = 0) ∧ ∃ s r, os = (g, n * s) :: r ∧ cur.size = cap * s

/-- The witnesses of the relation: the groups of blocks; the variables' blocks; the leaves of each slot and variable; the cells that are remembered by name. -/
structure Wit where
  S : Nat → Nat → Prop
  β : Nat → Nat
  LF : Nat → List Lf
  LV : Nat → List Lf
  G : Nat → Value × List (Nat × Nat)

/-- What is fixed for the time of a call: the types; the world as the call began; the blocks of others that it may write; the blocks of others that it only reads; the cells that were remembered as it began (by the names below 65); the number of slots; the variables of the package that are read. -/
structure Fix where
  Ty : Nat → TyK
  W0 : World
  X : Nat → Prop
  S0 : Nat → Prop
  G0 : Nat → Value × List (Nat × Nat)
  N : Nat
  globs : Nat → Option (List PV)
  gks : Nat → List LK

def Live (u : Wit) (st : St) (σ : SG) (x : Lf) : Prop :=
  (∃ d e s, lk d st.env = some e ∧ lk d σ.slots = some s ∧ x ∈ u.LF d) ∨ (∃ k c s, lk k st.vars = some c ∧ lk k σ.vars = some s ∧ x ∈ u.LV k)

structure LeafOk (f : Fix) (u : Wit) (w : World) (x : Lf) : Prop where
  tag : ∀ p ∈ x.tq, u.S p.1 p.2.1
  lin : x.li.lin = true → (x.os.map (·.1)).Nodup
  own : x.li.own = true → x.li.tag ≠ 0 ∧ OwnRow w x.v x.os
  row : x.li.own = true → ∀ ad n c, x.v = .slice (some ad) n c → ∃ e r, x.os = (ad.block, e) :: r
  name : x.li.id ≠ 0 → u.G x.li.id = (x.v, x.os)

structure Rel (f : Fix) (u : Wit) (st : St) (σ : SG) (a : Act) (w : World) : Prop where
  slot : ∀ d e s, lk d st.env = some e → lk d σ.slots = some s → d < f.N ∧ EntOk f.Ty u.β w (a.tmps.getD d undef) e s (u.LF d)
  var : ∀ k c s, lk k st.vars = some c → lk k σ.vars = some s → VarOk f.Ty w (u.β k) c s (u.LV k)
  leaf : ∀ x, Live u st σ x → LeafOk f u w x
  pair : ∀ x y, Live u st σ x → Live u st σ y → x.li.own = true → ∀ p ∈ y.tq, p.1 = x.li.tag → ∀ h, x.head = some h → p.2.1 = h.1 → p.2.2 ≤ h.2
  apart : ∀ t t' b, t ≠ t' → u.S t b → ¬ u.S t' b
  inW : ∀ t b, u.S t b → b < w.heap.size
  mine : ∀ t b, t ≠ 0 → u.S t b → f.W0.heap.size ≤ b ∨ f.X b
  mem : ∀ t b, (t ≠ 0 ∨ f.W0.heap.size ≤ b) → u.S t b → ∃ cur el, w.heap[b]? = some (.cells cur el (0, 0))
  names : ∀ i, i < 65 → u.G i = f.G0 i
  old : ∀ b, u.S 0 b → f.S0 b ∨ f.W0.heap.size ≤ b ∨ f.X b
  xmem : ∀ b, f.X b → ∃ cur el cur0 el0, w.heap[b]? = some (.cells cur el (0, 0)) ∧ f.W0.heap[b]? = some (.cells cur0 el0 (0, 0)) ∧ cur.size = cur0.size
  varIn : ∀ k c s, lk k st.vars = some c → lk k σ.vars = some s → f.W0.heap.size ≤ u.β k ∨ f.X (u.β k)
  varNot : ∀ k c s t, lk k st.vars = some c → lk k σ.vars = some s → ¬ u.S t (u.β k)
  varInj : ∀ k k' c c' s s', lk k st.vars = some c → lk k σ.vars = some s → lk k' st.vars = some c' → lk k' σ.vars = some s' → u.β k = u.β k' → k = k'
  frame : ∀ b, b < f.W0.heap.size → ¬ f.X b → w.heap[b]? = f.W0.heap[b]?
  size : f.W0.heap.size ≤ w.heap.size
  os : w.os = f.W0.os
  tape : w.tape = f.W0.tape
  output : w.output = f.W0.output
  defers : a.defers = []
  tmps : a.tmps.size = f.N
  globs : ∀ g cs, f.globs g = some cs → ∃ vs oss, w.rangeAt g 0 vs ∧ RdL f.Ty w (f.gks g) vs cs oss ∧ u.S 0 g ∧ ∀ q ∈ oss.flatten, u.S 0 q.1

/-! ### Lists with keys -/
section
variable {α : Type}
theorem beq_eq {a b : Nat} : Nat.beq a b = true ↔ a = b := ⟨Nat.eq_of_beq_eq_true, fun h => by subst h; exact Nat.beq_refl a⟩
theorem beq_ne {a b : Nat} : Nat.beq a b = false ↔ a ≠ b := by
  constructor
  · intro h e; subst e; simp [Nat.beq_refl] at h
  · intro h; cases hb : Nat.beq a b with
    | false => rfl
    | true => exact absurd (beq_eq.1 hb) h
theorem lk_up_same (k : Nat) (a : α) : ∀ l : List (Nat × α), lk k (up k a l) = some a
  | [] => by simp [up, lk, Nat.beq_refl]
  | (j, b) :: r => by
    unfold up
    cases hb : Nat.beq j k with
    | true => simp [lk, Nat.beq_refl]
    | false =>
      cases Nat.blt k j with
      | true => simp [lk, Nat.beq_refl]
      | false => simp [lk, hb, lk_up_same k a r]
theorem lk_up_other {k k' : Nat} (a : α) (h : k' ≠ k) : ∀ l : List (Nat × α), lk k' (up k a l) = lk k' l
  | [] => by simp [up, lk, beq_ne.2 (Ne.symm h)]
  | (j, b) :: r => by
    unfold up
    cases hb : Nat.beq j k with
    | true => have := beq_eq.1 hb; subst this; simp [lk, beq_ne.2 (Ne.symm h)]
    | false =>
      cases Nat.blt k j with
      | true => simp [lk, beq_ne.2 (Ne.symm h)]
      | false => simp only [lk]; rw [lk_up_other a h r]
theorem lk_up {k k' : Nat} (a : α) (l : List (Nat × α)) : lk k' (up k a l) = if k' = k then some a else lk k' l := by
  by_cases h : k' = k
  · subst h; simp [lk_up_same]
  · simp [h, lk_up_other a h]
theorem lk_dl {k k' : Nat} : ∀ l : List (Nat × α), lk k' (dl k l) = if k' = k then none else lk k' l
  | [] => by simp [dl, lk]
  | (j, b) :: r => by
    unfold dl
    cases hb : Nat.beq j k with
    | true =>
      have := beq_eq.1 hb; subst this
      rw [lk_dl r]
      by_cases h : k' = j
      · simp [h]
      · simp [h, lk, beq_ne.2 (Ne.symm h)]
    | false =>
      have hne := beq_ne.1 hb
      simp only [lk]
      rw [lk_dl r]
      by_cases h : k' = k
      · subst h; simp [hb]
      · simp [h]
theorem lk_keepIn {k : Nat} (ks : List Nat) : ∀ l : List (Nat × α), lk k (keepIn ks l) = if memN k ks = true then lk k l else none
  | [] => by simp [keepIn, lk]
  | (j, b) :: r => by
    unfold keepIn
    cases hm : memN j ks with
    | true =>
      simp only [lk]
      rw [lk_keepIn ks r]
      cases hb : Nat.beq j k with
      | true => have := beq_eq.1 hb; subst this; simp [hm]
      | false => simp
    | false =>
      simp only [lk]
      rw [lk_keepIn ks r]
      cases hb : Nat.beq j k with
      | true => have := beq_eq.1 hb; subst this; simp [hm]
      | false => simp
end
/-! ### Less is known -/
/-- The state holds no more, and the checker knows no more; the witnesses stay. -/
theorem Rel.less {f : Fix} {u : Wit} {st st' : St} {σ σ' : SG} {a : Act} {w : World} (h : Rel f u st σ a w)
    (he : ∀ d e s, lk d st'.env = some e → lk d σ'.slots = some s → lk d st.env = some e ∧ lk d σ.slots = some s) (hv : ∀ k c s, lk k st'.vars = some c → lk k σ'.vars = some s → lk k st.vars = some c ∧ lk k σ.vars = some s) : Rel f u st' σ' a w := by
  have hlive : ∀ x, Live u st' σ' x → Live u st σ x := fun x hx => by
    rcases hx with ⟨d, e, s, h1, h2, h3⟩ | ⟨k, c, s, h1, h2, h3⟩
    · exact .inl ⟨d, e, s, (he d e s h1 h2).1, (he d e s h1 h2).2, h3⟩
    · exact .inr ⟨k, c, s, (hv k c s h1 h2).1, (hv k c s h1 h2).2, h3⟩
  exact { h with
    slot := fun d e s h1 h2 => h.slot d e s (he d e s h1 h2).1 (he d e s h1 h2).2
    var := fun k c s h1 h2 => h.var k c s (hv k c s h1 h2).1 (hv k c s h1 h2).2
    leaf := fun x hx => h.leaf x (hlive x hx)
    pair := fun x y hx hy => h.pair x y (hlive x hx) (hlive y hy)
    varIn := fun k c s h1 h2 => h.varIn k c s (hv k c s h1 h2).1 (hv k c s h1 h2).2
    varNot := fun k c s t h1 h2 => h.varNot k c s t (hv k c s h1 h2).1 (hv k c s h1 h2).2
    varInj := fun k k' c c' s s' h1 h2 h3 h4 => h.varInj k k' c c' s s' (hv k c s h1 h2).1 (hv k c s h1 h2).2 (hv k' c' s' h3 h4).1 (hv k' c' s' h3 h4).2 }

/-! ### A slot is written -/
/-- Something that is read in the group t rests on block q.1, up to q.2 or further. -/
def Rests (u : Wit) (st : St) (σ : SG) (t : Nat) (q : Nat × Nat) : Prop := ∃ x, Live u st σ x ∧ ∃ p ∈ x.tq, p.1 = t ∧ p.2.1 = q.1 ∧ q.2 ≤ p.2.2
/-- A leaf that comes out of what is there. -/
structure Deriv (u : Wit) (st : St) (σ : SG) (y : Lf) : Prop where
  rests : ∀ p ∈ y.tq, Rests u st σ p.1 p.2
  own : y.li.own = true → (y.li.tag ≠ 0 ∧ y.v = .slice none 0 0) ∨ ∃ x, Live u st σ x ∧ x.li.own = true ∧ x.li.tag = y.li.tag ∧ x.v = y.v ∧ x.os = y.os
  name : y.li.id ≠ 0 → ∃ x, Live u st σ x ∧ x.li.id = y.li.id ∧ x.v = y.v ∧ x.os = y.os

def Wit.setF (u : Wit) (d : Nat) (l : List Lf) : Wit := { u with LF := fun d' => if d' = d then l else u.LF d' }

theorem Deriv.of_live {u : Wit} {st : St} {σ : SG} {x : Lf} (h : Live u st σ x) : Deriv u st σ x :=
  ⟨fun p hp => ⟨x, h, p, hp, rfl, rfl, Nat.le_refl _⟩, fun ho => .inr ⟨x, h, ho, rfl, rfl, rfl⟩, fun _ => ⟨x, h, rfl, rfl, rfl⟩⟩
theorem Rests.inS {f : Fix} {u : Wit} {st : St} {σ : SG} {w : World} {t : Nat} {q : Nat × Nat} (h : Rests u st σ t q) (hl : ∀ x, Live u st σ x → LeafOk f u w x) : u.S t q.1 := by
  obtain ⟨x, hx, p, hp, rfl, h2, _⟩ := h
  rw [← h2]
  exact (hl x hx).tag p hp
theorem Deriv.leafOk {f : Fix} {u : Wit} {st : St} {σ : SG} {w : World} {y : Lf} (h : Deriv u st σ y) (hl : ∀ x, Live u st σ x → LeafOk f u w x) (hn : y.li.lin = true → (y.os.map (·.1)).Nodup) : LeafOk f u w y := by
  refine ⟨fun p hp => (h.rests p hp).inS hl, hn, fun ho => ?_, fun ho ad n c hv => ?_, fun hi => ?_⟩
  · rcases h.own ho with ⟨h1, h2⟩ | ⟨x, hx, g1, g2, g3, g4⟩
    · exact ⟨h1, .inl h2⟩
    · have := (hl x hx).own g1
      rw [g2, g3, g4] at this
      exact this
  · rcases h.own ho with ⟨_, h2⟩ | ⟨x, hx, g1, _, g3, g4⟩
    · rw [h2] at hv; cases hv
    · rw [← g4]
      exact (hl x hx).row g1 ad n c (by rw [g3]; exact hv)
  · obtain ⟨x, hx, g1, g2, g3⟩ := h.name hi
    rw [← g1, ← g2, ← g3]
    exact (hl x hx).name (by rw [g1]; exact hi)

theorem Act.put_size (a : Act) (d : Nat) (v : Value) : (a.put (some d) v).tmps.size = a.tmps.size := by
  simp [Act.put]
theorem Act.put_same (a : Act) (d : Nat) (v : Value) (h : d < a.tmps.size) : (a.put (some d) v).tmps.getD d undef = v := by
  simp [Act.put, h]
theorem Act.put_other (a : Act) (d d' : Nat) (v : Value) (h : d' ≠ d) : (a.put (some d) v).tmps.getD d' undef = a.tmps.getD d' undef := by
  simp [Act.put, Ne.symm h]

theorem Live.setF {u : Wit} {st : St} {σ : SG} {d : Nat} {e : Ent} {s : SI} {l : List Lf} {x : Lf} (h : Live (u.setF d l) { st with env := up d e st.env } { σ with slots := up d s σ.slots } x) : x ∈ l ∨ Live u st σ x := by
  rcases h with ⟨d', e', s', h1, h3, h2⟩ | ⟨k, c, s', h1, h3, h2⟩
  · simp only [Wit.setF] at h2
    by_cases hd : d' = d
    · subst hd; simp at h2; exact .inl h2
    · simp [hd] at h2
      rw [lk_up_other e hd] at h1
      rw [lk_up_other s hd] at h3
      exact .inr (.inl ⟨d', e', s', h1, h3, h2⟩)
  · exact .inr (.inr ⟨k, c, s', h1, h3, h2⟩)

theorem Rel.putG {f : Fix} {u : Wit} {st : St} {σ : SG} {a : Act} {w : World} (h : Rel f u st σ a w) {d : Nat} (hd : d < f.N) {v : Value} {e : Ent} {s : SI} {lfs : List Lf}
    (he : EntOk f.Ty u.β w v e s lfs) (hleaf : ∀ y ∈ lfs, LeafOk f u w y)
    (hpair : ∀ x y, (x ∈ lfs ∨ Live u st σ x) → (y ∈ lfs ∨ Live u st σ y) → x.li.own = true → ∀ p ∈ y.tq, p.1 = x.li.tag → ∀ h, x.head = some h → p.2.1 = h.1 → p.2.2 ≤ h.2) :
    Rel f (u.setF d lfs) { st with env := up d e st.env } { σ with slots := up d s σ.slots } (a.put (some d) v) w := by
  have hdt : d < a.tmps.size := by rw [h.tmps]; exact hd
  exact { h with
    slot := fun d' e' s' hd' hs' => by
      by_cases hdd : d' = d
      · subst hdd
        rw [lk_up_same] at hd' hs'
        cases hd'
        cases hs'
        refine ⟨hd, ?_⟩
        rw [Act.put_same _ _ _ hdt]
        simpa [Wit.setF] using he
      · rw [lk_up_other e hdd] at hd'
        rw [lk_up_other s hdd] at hs'
        obtain ⟨h1, h3⟩ := h.slot d' e' s' hd' hs'
        refine ⟨h1, ?_⟩
        rw [Act.put_other _ _ _ _ hdd]
        simpa [Wit.setF, hdd] using h3
    var := fun k c s hk hs => h.var k c s hk hs
    leaf := fun x hx => by
      have : LeafOk f u w x := hx.setF.elim (hleaf x) (h.leaf x)
      exact ⟨this.tag, this.lin, this.own, this.row, this.name⟩
    pair := fun x y hx hy => hpair x y hx.setF hy.setF
    tmps := by rw [Act.put_size]; exact h.tmps
    defers := h.defers }

theorem Rel.put {f : Fix} {u : Wit} {st : St} {σ : SG} {a : Act} {w : World} (h : Rel f u st σ a w) {d : Nat} (hd : d < f.N) {v : Value} {e : Ent} {s : SI} {lfs : List Lf}
    (he : EntOk f.Ty u.β w v e s lfs) (hD : ∀ y ∈ lfs, Deriv u st σ y) (hn : ∀ y ∈ lfs, y.li.lin = true → (y.os.map (·.1)).Nodup) :
    Rel f (u.setF d lfs) { st with env := up d e st.env } { σ with slots := up d s σ.slots } (a.put (some d) v) w := by
  have org : ∀ y, y ∈ lfs ∨ Live u st σ y → Deriv u st σ y := fun y hy => hy.elim (hD y) Deriv.of_live
  refine h.putG hd he (fun y hy => (hD y hy).leafOk h.leaf (hn y hy)) fun x y hx hy ho p hp ht hh he1 he2 => ?_
  obtain ⟨y0, hy0, p0, hp0, e1, e2, e3⟩ := (org y hy).rests p hp
  rcases (org x hx).own ho with ⟨_, g2⟩ | ⟨x0, hx0, g1, g2, g3, g4⟩
  · simp [Lf.head, g2] at he1
  · have hhead : x0.head = some hh := by
      unfold Lf.head at he1 ⊢
      rw [g3, g4]; exact he1
    have := h.pair x0 y0 hx0 hy0 g1 p0 hp0 (by rw [e1, ht, g2]) hh hhead (by rw [e2, he2])
    omega

/-- A value without blocks. -/
theorem Deriv.free {u : Wit} {st : St} {σ : SG} {y : Lf} (h : y.os = []) (ho : y.li.own = false) (hi : y.li.id = 0) : Deriv u st σ y :=
  ⟨fun p hp => by simp [Lf.tq, h] at hp, fun e => absurd (ho ▸ e) (by simp), fun e => absurd hi e⟩
theorem Deriv.nilRow {u : Wit} {st : St} {σ : SG} {y : Lf} (h : y.os = []) (hv : y.v = .slice none 0 0) (ht : y.li.tag ≠ 0) (hi : y.li.id = 0) : Deriv u st σ y :=
  ⟨fun p hp => by simp [Lf.tq, h] at hp, fun _ => .inl ⟨ht, hv⟩, fun e => absurd hi e⟩

theorem tq_mem {x : Lf} {q : Nat × Nat} (h : q ∈ x.os) : ∃ t, (t, q) ∈ x.tq := by
  unfold Lf.tq
  cases hx : x.os with
  | nil => rw [hx] at h; cases h
  | cons a r =>
    rw [hx] at h
    rcases List.mem_cons.1 h with rfl | h
    · exact ⟨_, List.mem_cons_self⟩
    · exact ⟨_, List.mem_cons_of_mem _ (List.mem_map.2 ⟨q, h, rfl⟩)⟩

/-! ### The memory grows -/
theorem cell_of_block {w w' : World} {b j : Nat} (h : w'.heap[b]? = w.heap[b]?) : w'.cell? ⟨b, j, none⟩ = w.cell? ⟨b, j, none⟩ := by simp [World.cell?, h]

structure Grows (w w' : World) : Prop where
  block : ∀ b, b < w.heap.size → w'.heap[b]? = w.heap[b]?
  size : w.heap.size ≤ w'.heap.size
  os : w'.os = w.os
  tape : w'.tape = w.tape
  output : w'.output = w.output

theorem Grows.refl (w : World) : Grows w w := ⟨fun _ _ => rfl, Nat.le_refl _, rfl, rfl, rfl⟩
theorem Grows.alloc (w : World) (o : Obj) : Grows w (w.alloc o) := ⟨fun b hb => heap_alloc_old w o b hb, by simp, rfl, rfl, rfl⟩
theorem Grows.drew (w : World) : Grows w w.drew := ⟨fun _ _ => rfl, Nat.le_refl _, rfl, rfl, rfl⟩
theorem Grows.trans {a b c : World} (h : Grows a b) (k : Grows b c) : Grows a c :=
  ⟨fun i hi => (k.block i (Nat.lt_of_lt_of_le hi h.size)).trans (h.block i hi), Nat.le_trans h.size k.size, k.os.trans h.os, k.tape.trans h.tape, k.output.trans h.output⟩
theorem Grows.sameOn {w w' : World} (h : Grows w w') {os : List (Nat × Nat)} (hb : ∀ q ∈ os, q.1 < w.heap.size) : SameOn w w' os := fun q hq _ _ => cell_of_block (h.block q.1 (hb q hq))
theorem Grows.rangeAt {w w' : World} (h : Grows w w') {b o : Nat} {vs : List Value} (hr : w.rangeAt b o vs) : w'.rangeAt b o vs := fun _ _ hj => by
  have := hr _ _ hj
  rw [cell_of_block (h.block b (World.block_lt_of_cell? w _ this))]
  exact this
theorem OwnRow.grows {w w' : World} (h : Grows w w') {v : Value} {os : List (Nat × Nat)} (ho : OwnRow w v os) : OwnRow w' v os := by
  rcases ho with rfl | ⟨g, n, cap, cur, el, rfl, h1, h2⟩
  · exact .inl rfl
  · exact .inr ⟨g, n, cap, cur, el, rfl, (h.block g (Array.getElem?_eq_some_iff.1 h1).1).trans h1, h2⟩

/-- What a slot's entry and a variable rest on stays, where what their leaves rest on stays. -/
theorem TupOk.frame {Ty : Nat → TyK} {w w' : World} : ∀ {parts : List (Bool × List LK × List LI)} {vs : List Value} {ps : List PV} {lfs : List Lf}, TupOk Ty w parts vs ps lfs → (∀ x ∈ lfs, SameOn w w' x.os) → TupOk Ty w' parts vs ps lfs
  | _, _, _, _, .nil, _ => .nil
  | _, _, _, _, .cons h hl r, hs => .cons (h.frame (fun q hq => by
      obtain ⟨l, hl1, hl2⟩ := List.mem_flatten.1 hq
      obtain ⟨x, hx, rfl⟩ := List.mem_map.1 hl1
      exact hs x (List.mem_append_left _ hx) q hl2)) hl (r.frame fun x hx => hs x (List.mem_append_right _ hx))
theorem EntOk.frame {Ty : Nat → TyK} {β : Nat → Nat} {w w' : World} {v : Value} {e : Ent} {s : SI} {lfs : List Lf} (h : EntOk Ty β w v e s lfs) (hs : ∀ x ∈ lfs, SameOn w w' x.os) : EntOk Ty β w' v e s lfs := by
  have key : ∀ l : List Lf, (∀ x ∈ l, SameOn w w' x.os) → SameOn w w' (l.map (·.os)).flatten := fun l hl q hq => by
    obtain ⟨m, h1, h2⟩ := List.mem_flatten.1 hq
    obtain ⟨x, hx, rfl⟩ := List.mem_map.1 h1
    exact hl x hx q h2
  cases h with
  | val h hl => exact .val (h.frame (key _ hs)) hl
  | tup h => exact .tup (h.frame hs)
  | avar => exact .avar
  | @aelem ks li off b o i cells lfs row hrow hr h hl =>
    refine .aelem hrow (fun _ _ hj => ?_) (h.frame (key _ fun x hx => hs x (List.mem_cons_of_mem _ hx))) hl
    have hlt := (List.getElem?_eq_some_iff.1 hj).1
    rw [h.len.1] at hlt
    obtain ⟨e, r, h1, h2⟩ := hrow.os
    rw [hs _ List.mem_cons_self (b, e) (by simp [h1]) _ (by simp; omega)]
    exact hr _ _ hj
  | @velem agg ks li size off b o i v p lfs row hrow hoff hr h hl =>
    refine .velem hrow hoff (fun _ _ hj => ?_) (h.frame (key _ fun x hx => hs x (List.mem_cons_of_mem _ hx))) hl
    have hlt := (List.getElem?_eq_some_iff.1 hj).1
    rw [h.1.len.1] at hlt
    obtain ⟨e, r, h1, h2⟩ := hrow.os
    rw [hs _ List.mem_cons_self (b, e) (by simp [h1]) _ (by simp; omega)]
    exact hr _ _ hj
  | glob => exact .glob

theorem Rel.grows {f : Fix} {u : Wit} {st : St} {σ : SG} {a : Act} {w w' : World} (h : Rel f u st σ a w) (g : Grows w w') : Rel f u st σ a w' := by
  have hs : ∀ x, Live u st σ x → SameOn w w' x.os := fun x hx => g.sameOn fun q hq => by
    obtain ⟨t, ht⟩ := tq_mem hq
    exact h.inW _ _ ((h.leaf x hx).tag _ ht)
  exact { h with
    slot := fun d e s hd hsd => by
      obtain ⟨h1, h3⟩ := h.slot d e s hd hsd
      exact ⟨h1, h3.frame fun x hx => hs x (.inl ⟨d, e, s, hd, hsd, hx⟩)⟩
    var := fun k c s hk hsk => by
      obtain ⟨el, cur, h3, h4, h5, h6⟩ := h.var k c s hk hsk
      refine ⟨el, cur, (g.block _ (Array.getElem?_eq_some_iff.1 h3).1).trans h3, h4, h5.frame fun q hq => ?_, h6⟩
      obtain ⟨m, hm1, hm2⟩ := List.mem_flatten.1 hq
      obtain ⟨x, hx, rfl⟩ := List.mem_map.1 hm1
      exact hs x (.inr ⟨k, c, s, hk, hsk, hx⟩) q hm2
    leaf := fun x hx => ⟨(h.leaf x hx).tag, (h.leaf x hx).lin, fun ho => ⟨((h.leaf x hx).own ho).1, ((h.leaf x hx).own ho).2.grows g⟩, (h.leaf x hx).row, (h.leaf x hx).name⟩
    inW := fun t b ht => Nat.lt_of_lt_of_le (h.inW t b ht) g.size
    mem := fun t b hne ht => by
      obtain ⟨cur, el, hc⟩ := h.mem t b hne ht
      exact ⟨cur, el, (g.block b (h.inW t b ht)).trans hc⟩
    xmem := fun b hb => by
      obtain ⟨cur, el, c0, e0, hc, h2⟩ := h.xmem b hb
      exact ⟨cur, el, c0, e0, (g.block b (Array.getElem?_eq_some_iff.1 hc).1).trans hc, h2⟩
    frame := fun b hb hx => (g.block b (Nat.lt_of_lt_of_le hb h.size)).trans (h.frame b hb hx)
    size := Nat.le_trans h.size g.size
    os := g.os.trans h.os
    tape := g.tape.trans h.tape
    output := g.output.trans h.output
    globs := fun gl cs hg => by
      obtain ⟨vs, oss, h1, h2, h4, h3⟩ := h.globs gl cs hg
      exact ⟨vs, oss, g.rangeAt h1, h2.frame (g.sameOn fun q hq => h.inW _ _ (h3 q hq)), h4, h3⟩ }

/-! ### Groups are joined; rows are no longer appended to -/
structure Ren where
  A : List Nat
  m : Nat
  keep : Bool

def Ren.tag (ρ : Ren) (t : Nat) : Nat := match memN t ρ.A with | true => ρ.m | false => t
def Ren.li (ρ : Ren) (x : LI) : LI := ⟨ρ.tag x.tag, ρ.tag x.dt, x.own && (!(memN x.tag ρ.A) || ρ.keep && !(Nat.beq ρ.m 0)), x.lin, x.id⟩
def Ren.part (ρ : Ren) (x : Bool × List LK × List LI) : Bool × List LK × List LI := (x.1, x.2.1, x.2.2.map ρ.li)
def Ren.si (ρ : Ren) : SI → SI
  | .val agg ks ls => .val agg ks (ls.map ρ.li)
  | .tup l => .tup (l.map ρ.part)
  | .avar k off => .avar k off
  | .aelem ks li off => .aelem ks (ρ.li li) off
  | .velem agg ks li size off => .velem agg ks (ρ.li li) size off
  | .glob g => .glob g
def mapV {α β : Type} (f : α → β) : List (Nat × α) → List (Nat × β)
  | [] => []
  | (j, a) :: r => (j, f a) :: mapV f r
def Ren.sg (ρ : Ren) (σ : SG) : SG := ⟨mapV ρ.si σ.slots, mapV (fun x => (x.1, x.2.map ρ.li)) σ.vars⟩
def Ren.lf (ρ : Ren) (x : Lf) : Lf := { x with li := ρ.li x.li }
def Ren.wit (ρ : Ren) (u : Wit) : Wit := ⟨fun t b => ∃ t0, ρ.tag t0 = t ∧ u.S t0 b, u.β, fun d => (u.LF d).map ρ.lf, fun k => (u.LV k).map ρ.lf, u.G⟩

theorem lk_mapV {α β : Type} (f : α → β) (k : Nat) : ∀ l : List (Nat × α), lk k (mapV f l) = (lk k l).map f
  | [] => rfl
  | (j, a) :: r => by
    simp only [mapV, lk]
    cases Nat.beq j k with
    | true => rfl
    | false => exact lk_mapV f k r
theorem Ren.map_v (ρ : Ren) (l : List Lf) : (l.map ρ.lf).map (·.v) = l.map (·.v) := by simp [Ren.lf, Function.comp_def]
theorem Ren.map_os (ρ : Ren) (l : List Lf) : (l.map ρ.lf).map (·.os) = l.map (·.os) := by simp [Ren.lf, Function.comp_def]
theorem Ren.map_li (ρ : Ren) (l : List Lf) : (l.map ρ.lf).map (·.li) = (l.map (·.li)).map ρ.li := by simp [Ren.lf, Function.comp_def]
theorem Ren.tupOk {Ty : Nat → TyK} {w : World} (ρ : Ren) : ∀ {parts : List (Bool × List LK × List LI)} {vs : List Value} {ps : List PV} {lfs : List Lf}, TupOk Ty w parts vs ps lfs → TupOk Ty w (parts.map ρ.part) vs ps (lfs.map ρ.lf)
  | _, _, _, _, .nil => .nil
  | _, _, _, _, .cons h hl r => by
    rw [List.map_append, List.map_cons]
    exact .cons (by rw [ρ.map_v, ρ.map_os]; exact h) (by rw [ρ.map_li, hl]) (ρ.tupOk r)
theorem Ren.elemAt (ρ : Ren) {row : Lf} {li : LI} {size b o : Nat} {i : Int} (h : ElemAt row li size b o i) : ElemAt (ρ.lf row) (ρ.li li) size b o i :=
  ⟨h.v, h.os, by simp [Ren.lf, Ren.li, h.li]⟩
theorem Ren.entOk {Ty : Nat → TyK} {β : Nat → Nat} {w : World} (ρ : Ren) {v : Value} {e : Ent} {s : SI} {lfs : List Lf} (h : EntOk Ty β w v e s lfs) : EntOk Ty β w v e (ρ.si s) (lfs.map ρ.lf) := by
  cases h with
  | val h hl => exact .val (by rw [ρ.map_v, ρ.map_os]; exact h) (by rw [ρ.map_li, hl])
  | tup h => exact .tup (ρ.tupOk h)
  | avar => exact .avar
  | @aelem ks li off b o i cells lfs row hrow hr h hl =>
    exact EntOk.aelem (Ty := Ty) (β := β) (w := w) (li := ρ.li li) (off := off) (b := b) (o := o) (cells := cells) (lfs := lfs.map ρ.lf) (ks := ks) (row := ρ.lf row)
      (ρ.elemAt hrow) (by rw [ρ.map_v]; exact hr) (by rw [ρ.map_v, ρ.map_os]; exact h) (fun x hx => by
        obtain ⟨y, hy, rfl⟩ := List.mem_map.1 hx
        simp [Ren.lf, Ren.li, hl y hy])
  | @velem agg ks li size off b o i v p lfs row hrow hoff hr h hl =>
    exact EntOk.velem (Ty := Ty) (β := β) (w := w) (li := ρ.li li) (off := off) (b := b) (o := o) (lfs := lfs.map ρ.lf) (ks := ks) (row := ρ.lf row)
      (ρ.elemAt hrow) hoff (by rw [ρ.map_v]; exact hr) (by rw [ρ.map_v, ρ.map_os]; exact h) (fun x hx => by
        obtain ⟨y, hy, rfl⟩ := List.mem_map.1 hx
        simp [Ren.lf, Ren.li, hl y hy])
  | glob => exact .glob

theorem Ren.lkS (ρ : Ren) {σ : SG} {d : Nat} {s : SI} (h : lk d (ρ.sg σ).slots = some s) : ∃ s0, lk d σ.slots = some s0 ∧ s = ρ.si s0 := by
  simp only [Ren.sg, lk_mapV, Option.map_eq_some_iff] at h
  obtain ⟨s0, h, rfl⟩ := h
  exact ⟨s0, h, rfl⟩
theorem Ren.lkV (ρ : Ren) {σ : SG} {d : Nat} {s : List LK × List LI} (h : lk d (ρ.sg σ).vars = some s) : ∃ s0, lk d σ.vars = some s0 ∧ s = (s0.1, s0.2.map ρ.li) := by
  simp only [Ren.sg, lk_mapV, Option.map_eq_some_iff] at h
  obtain ⟨s0, h, rfl⟩ := h
  exact ⟨s0, h, rfl⟩
theorem Ren.live {ρ : Ren} {u : Wit} {st : St} {σ : SG} {x : Lf} (h : Live (ρ.wit u) st (ρ.sg σ) x) : ∃ y, Live u st σ y ∧ x = ρ.lf y := by
  rcases h with ⟨d, e, s, h1, h3, h2⟩ | ⟨k, c, s, h1, h3, h2⟩ <;> obtain ⟨y, hy, rfl⟩ := List.mem_map.1 h2
  · simp only [Ren.sg, lk_mapV, Option.map_eq_some_iff] at h3
    obtain ⟨s0, h3, _⟩ := h3
    exact ⟨y, .inl ⟨d, e, s0, h1, h3, hy⟩, rfl⟩
  · simp only [Ren.sg, lk_mapV, Option.map_eq_some_iff] at h3
    obtain ⟨s0, h3, _⟩ := h3
    exact ⟨y, .inr ⟨k, c, s0, h1, h3, hy⟩, rfl⟩
theorem head_mem {x : Lf} {h : Nat × Nat} (he : x.head = some h) : (x.li.tag, h) ∈ x.tq := by
  unfold Lf.head at he
  unfold Lf.tq
  split at he
  · cases hx : x.os with
    | nil => simp [hx] at he
    | cons a r => simp [hx] at he; simp [he]
  · cases he
theorem Ren.tq (ρ : Ren) (x : Lf) {p : Nat × Nat × Nat} (h : p ∈ (ρ.lf x).tq) : ∃ p0 ∈ x.tq, p = (ρ.tag p0.1, p0.2) := by
  unfold Lf.tq at h ⊢
  simp only [Ren.lf, Ren.li] at h
  cases hx : x.os with
  | nil => simp [hx] at h
  | cons a r =>
    simp only [hx, List.mem_cons, List.mem_map] at h ⊢
    rcases h with rfl | ⟨q, hq, rfl⟩
    · exact ⟨_, .inl rfl, rfl⟩
    · exact ⟨_, .inr ⟨q, hq, rfl⟩, rfl⟩

theorem Rel.ren {f : Fix} {u : Wit} {st : St} {σ : SG} {a : Act} {w : World} (h : Rel f u st σ a w) (ρ : Ren) (h0 : memN 0 ρ.A = true → ρ.m = 0) : Rel f (ρ.wit u) st (ρ.sg σ) a w := by
  have t0 : ρ.tag 0 = 0 := by
    unfold Ren.tag
    cases hm : memN 0 ρ.A with
    | true => exact h0 hm
    | false => rfl
  exact { h with
    slot := fun d e s hd hs => by
      obtain ⟨s0, hs0, rfl⟩ := ρ.lkS hs
      obtain ⟨h1, h3⟩ := h.slot d e s0 hd hs0
      exact ⟨h1, ρ.entOk h3⟩
    var := fun k c s hk hs => by
      obtain ⟨s0, hs0, rfl⟩ := ρ.lkV hs
      obtain ⟨el, cur, h3, h4, h5, h6⟩ := h.var k c s0 hk hs0
      exact ⟨el, cur, h3, by simp only [Ren.wit]; rw [ρ.map_v]; exact h4, by simp only [Ren.wit]; rw [ρ.map_v, ρ.map_os]; exact h5, by simp only [Ren.wit]; rw [ρ.map_li, h6]⟩
    varIn := fun k c s hk hs => by
      obtain ⟨s0, hs0, rfl⟩ := ρ.lkV hs
      exact h.varIn k c s0 hk hs0
    varInj := fun k k' c c' s s' hk hs hk' hs' => by
      obtain ⟨s0, hs0, rfl⟩ := ρ.lkV hs
      obtain ⟨s1, hs1, rfl⟩ := ρ.lkV hs'
      exact h.varInj k k' c c' s0 s1 hk hs0 hk' hs1
    leaf := fun x hx => by
      obtain ⟨y, hy, rfl⟩ := Ren.live hx
      have := h.leaf y hy
      refine ⟨fun q hq => ?_, this.lin, fun ho => ?_, fun ho => this.row (by simp only [Ren.lf, Ren.li, Bool.and_eq_true] at ho; exact ho.1), this.name⟩
      · obtain ⟨p0, hp0, rfl⟩ := ρ.tq y hq
        exact ⟨p0.1, rfl, this.tag p0 hp0⟩
      simp only [Ren.lf, Ren.li, Bool.and_eq_true] at ho
      obtain ⟨g1, g2⟩ := this.own ho.1
      refine ⟨?_, g2⟩
      simp only [Ren.lf, Ren.li, Ren.tag]
      cases hm : memN y.li.tag ρ.A with
      | true =>
        have hz := ho.2
        simp [hm] at hz
        intro e
        have := beq_ne.1 hz.2
        exact this e
      | false => exact g1
    pair := fun x y hx hy ho p hp ht hh he1 he2 => by
      obtain ⟨x0, hx0, rfl⟩ := Ren.live hx
      obtain ⟨y0, hy0, rfl⟩ := Ren.live hy
      obtain ⟨p0, hp0, rfl⟩ := ρ.tq y0 hp
      simp only [Ren.lf, Ren.li, Bool.and_eq_true] at ho
      by_cases e : p0.1 = x0.li.tag
      · exact h.pair x0 y0 hx0 hy0 ho.1 p0 hp0 e hh he1 he2
      · exfalso
        have g1 := (h.leaf y0 hy0).tag p0 hp0
        have g2 := (h.leaf x0 hx0).tag _ (head_mem he1)
        rw [he2] at g1
        exact h.apart _ _ _ e g1 g2
    apart := fun t t' b hne => by
      rintro ⟨a, rfl, ha⟩ ⟨c, rfl, hc⟩
      by_cases e : a = c
      · exact hne (by rw [e])
      · exact h.apart _ _ _ e ha hc
    inW := fun t b => by rintro ⟨t0, _, ht⟩; exact h.inW t0 b ht
    mine := fun t b hne => by
      rintro ⟨t1, rfl, ht⟩
      exact h.mine t1 b (fun e => hne (by rw [e, t0])) ht
    mem := fun t b hne => by
      rintro ⟨t1, rfl, ht⟩
      exact h.mem t1 b (hne.imp (fun g e => g (by rw [e, t0])) id) ht
    old := fun b => by
      rintro ⟨t1, h1, ht⟩
      by_cases e : t1 = 0
      · subst e; exact h.old b ht
      · exact .inr (h.mine t1 b e ht)
    varNot := fun k c s t hk hs => by
      obtain ⟨s0, hs0, rfl⟩ := ρ.lkV hs
      rintro ⟨t0, _, ht⟩
      exact h.varNot k c s0 t0 hk hs0 ht
    globs := fun g cs hg => by
      obtain ⟨vs, oss, h1, h2, h4, h3⟩ := h.globs g cs hg
      exact ⟨vs, oss, h1, h2, ⟨0, t0, h4⟩, fun q hq => ⟨0, t0, h3 q hq⟩⟩ }

/-! ### A group takes in new blocks -/
def Wit.addS (u : Wit) (t : Nat) (Z : Nat → Prop) : Wit := { u with S := fun t' b => u.S t' b ∨ (t' = t ∧ Z b) }

theorem Rel.addS {f : Fix} {u : Wit} {st : St} {σ : SG} {a : Act} {w : World} (h : Rel f u st σ a w) (t : Nat) (Z : Nat → Prop) (h1 : ∀ b, Z b → b < w.heap.size) (h2 : ∀ b, Z b → f.W0.heap.size ≤ b)
    (h3 : ∀ b, Z b → ∀ t, ¬ u.S t b) (h4 : ∀ b, Z b → ∀ k c s, lk k st.vars = some c → lk k σ.vars = some s → u.β k ≠ b)
    (h5 : ∀ b, Z b → ∃ cur el, w.heap[b]? = some (.cells cur el (0, 0))) : Rel f (u.addS t Z) st σ a w :=
  { h with
    leaf := fun x hx => ⟨fun q hq => .inl ((h.leaf x hx).tag q hq), (h.leaf x hx).lin, (h.leaf x hx).own, (h.leaf x hx).row, (h.leaf x hx).name⟩
    apart := fun t1 t2 b hne => by
      rintro (a | ⟨rfl, a⟩) (c | ⟨rfl, c⟩)
      · exact h.apart _ _ _ hne a c
      · exact h3 b c _ a
      · exact h3 b a _ c
      · exact hne rfl
    inW := fun t b => by
      rintro (a | ⟨_, a⟩)
      · exact h.inW _ _ a
      · exact h1 b a
    mine := fun t b hne => by
      rintro (a | ⟨_, a⟩)
      · exact h.mine _ _ hne a
      · exact .inl (h2 b a)
    mem := fun t b hne => by
      rintro (a | ⟨rfl, a⟩)
      · exact h.mem _ _ hne a
      · exact h5 b a
    old := fun b => by
      rintro (a | ⟨_, a⟩)
      · exact h.old b a
      · exact .inr (.inl (h2 b a))
    varNot := fun k c s t hk hs => by
      rintro (a | ⟨_, a⟩)
      · exact h.varNot k c s t hk hs a
      · exact h4 _ a k c s hk hs rfl
    globs := fun g cs hg => by
      obtain ⟨vs, oss, h1, h2, h4, h3⟩ := h.globs g cs hg
      exact ⟨vs, oss, h1, h2, .inl h4, fun q hq => .inl (h3 q hq)⟩ }

/-! ### A new row in a slot -/
theorem Rel.putRow {f : Fix} {u : Wit} {st : St} {σ : SG} {a : Act} {w : World} (h : Rel f u st σ a w) {d : Nat} (hd : d < f.N) {v : Value} {l : List PV} {E : TypeId} {li : LI} {g e : Nat} {oss : List (Nat × Nat)}
    (hr : Rd f.Ty w (.slice E) v (.slice l) ((g, e) :: oss)) (hg : u.S li.tag g) (hq : ∀ q ∈ oss, Rests u st σ li.dt q)
    (hown : ∀ x, Live u st σ x → x.li.own = true → x.li.tag = li.tag → ∀ hh, x.head = some hh → hh.1 ≠ g)
    (hend : ∀ z, Live u st σ z → ∀ p ∈ z.tq, p.1 = li.tag → p.2.1 = g → p.2.2 ≤ e)
    (hid : li.id = 0) (hlin : li.lin = true → (((g, e) :: oss).map (·.1)).Nodup) (ho : li.own = true → li.tag ≠ 0 ∧ OwnRow w v ((g, e) :: oss)) :
    Rel f (u.setF d [⟨li, v, (g, e) :: oss⟩]) { st with env := up d (.val (.slice l)) st.env } { σ with slots := up d (.val false [.slice E] [li]) σ.slots } (a.put (some d) v) w := by
  have hv : ∃ ad n c, v = .slice (some ad) n c := by cases hr; exact ⟨_, _, _, rfl⟩
  have hhead : (⟨li, v, (g, e) :: oss⟩ : Lf).head = some (g, e) := by obtain ⟨ad, n, c, rfl⟩ := hv; rfl
  have htq : ∀ p ∈ (⟨li, v, (g, e) :: oss⟩ : Lf).tq, p = (li.tag, (g, e)) ∨ (p.1 = li.dt ∧ Rests u st σ li.dt p.2) := fun p hp => by
    simp only [Lf.tq, List.mem_cons, List.mem_map] at hp
    rcases hp with rfl | ⟨q, hq', rfl⟩
    · exact .inl rfl
    · exact .inr ⟨rfl, hq q hq'⟩
  refine h.putG hd (.val (RdV.one hr) rfl) (fun y hy => ?_) fun x y hx hy hox p hp ht hh he1 he2 => ?_
  · obtain rfl : y = _ := List.mem_singleton.1 hy
    refine ⟨fun p hp => ?_, hlin, ho, fun _ ad n c hv' => ?_, fun hi => absurd hid hi⟩
    · rcases htq p hp with rfl | ⟨h1, h2⟩
      · exact hg
      · rw [h1]; exact h2.inS h.leaf
    · simp only at hv'
      rw [hv'] at hr
      cases hr
      exact ⟨_, _, rfl⟩
  · have hy' : p = (li.tag, (g, e)) ∨ Rests u st σ p.1 p.2 := by
      rcases hy with hy | hy
      · obtain rfl : y = _ := List.mem_singleton.1 hy
        rcases htq p hp with h1 | ⟨h1, h2⟩
        · exact .inl h1
        · exact .inr (by rw [h1]; exact h2)
      · exact .inr ⟨y, hy, p, hp, rfl, rfl, Nat.le_refl _⟩
    rcases hx with hx | hx
    · obtain rfl : x = _ := List.mem_singleton.1 hx
      rw [hhead] at he1
      obtain rfl : (g, e) = hh := Option.some.inj he1
      rcases hy' with rfl | ⟨y0, hy0, p0, hp0, e1, e2, e3⟩
      · exact Nat.le_refl _
      · have := hend y0 hy0 p0 hp0 (by rw [e1, ht]) (by rw [e2, he2])
        omega
    · rcases hy' with rfl | ⟨y0, hy0, p0, hp0, e1, e2, e3⟩
      · exact absurd he2.symm (hown x hx hox ht.symm hh he1)
      · have := h.pair x y0 hx hy0 hox p0 hp0 (by rw [e1, ht]) hh he1 (by rw [e2, he2])
        omega

/-! ### A new variable -/
theorem memN_cons (k j : Nat) (r : List Nat) : memN k (j :: r) = (Nat.beq j k || memN k r) := by
  simp only [memN]
  cases Nat.beq j k <;> rfl
theorem lk_dlAll {α : Type} {k : Nat} : ∀ (ks : List Nat) (l : List (Nat × α)), lk k (dlAll ks l) = if memN k ks = true then none else lk k l
  | [], l => by simp [dlAll, memN]
  | j :: ks, l => by
    unfold dlAll
    rw [lk_dlAll ks, lk_dl, memN_cons]
    cases hb : Nat.beq j k with
    | true => have := beq_eq.1 hb; subst this; simp
    | false => have := beq_ne.1 hb; simp [Ne.symm this]
/-- The slots that point to a variable. -/
def avarSlots (k : Nat) : List (Nat × SI) → List Nat
  | [] => []
  | (j, s) :: r => match s with
    | .avar k' _ => match Nat.beq k' k with
      | true => j :: avarSlots k r
      | false => avarSlots k r
    | _ => avarSlots k r
/-- Whoever points to the elder block of this name is dropped. -/
def noVar (k : Nat) (l : List (Nat × SI)) : List (Nat × SI) := dlAll (avarSlots k l) l
theorem avarSlots_mem {k d o : Nat} : ∀ l : List (Nat × SI), lk d l = some (.avar k o) → memN d (avarSlots k l) = true
  | [], h => by simp [lk] at h
  | (j, e) :: r, h => by
    simp only [lk] at h
    cases hb : Nat.beq j d with
    | true =>
      simp [hb] at h
      subst h
      have := beq_eq.1 hb
      simp [avarSlots, Nat.beq_refl, memN_cons, this]
    | false =>
      simp only [hb] at h
      have ih := avarSlots_mem r h
      have hm : ∀ b, memN d (j :: b) = memN d b := fun b => by simp [memN_cons, hb]
      cases e with
      | avar k' o' =>
        simp only [avarSlots]
        cases Nat.beq k' k with
        | true => simp only; rw [hm]; exact ih
        | false => exact ih
      | _ => exact ih
theorem lk_noVar {k d : Nat} {l : List (Nat × SI)} {e : SI} (h : lk d (noVar k l) = some e) : lk d l = some e ∧ ∀ o, e ≠ .avar k o := by
  unfold noVar at h
  rw [lk_dlAll] at h
  cases hm : memN d (avarSlots k l) with
  | true => simp [hm] at h
  | false =>
    simp [hm] at h
    refine ⟨h, fun o he => ?_⟩
    subst he
    rw [avarSlots_mem l h] at hm
    cases hm

def Wit.newVar (u : Wit) (d g : Nat) (l : List Lf) : Wit :=
  ⟨u.S, fun k => if k = d then g else u.β k, fun d' => if d' = d then [] else u.LF d', fun k => if k = d then l else u.LV k, u.G⟩

theorem Rel.newVar {f : Fix} {u : Wit} {st : St} {σ : SG} {a : Act} {w : World} (h : Rel f u st σ a w) {d : Nat} (hd : d < f.N) {g : Nat} {cells : List PV} {ks : List LK} {ls : List LI} {lfs : List Lf}
    (hv : VarOk f.Ty w g cells (ks, ls) lfs) (hD : ∀ y ∈ lfs, Deriv u st σ y) (hn : ∀ y ∈ lfs, y.li.lin = true → (y.os.map (·.1)).Nodup)
    (h1 : f.W0.heap.size ≤ g) (h2 : ∀ t, ¬ u.S t g) (h3 : ∀ k c s, lk k st.vars = some c → lk k σ.vars = some s → u.β k ≠ g) :
    Rel f (u.newVar d g lfs) ⟨up d (.avar d 0) st.env, up d cells st.vars⟩ ⟨up d (.avar d 0) (noVar d σ.slots), up d (ks, ls) σ.vars⟩ (a.put (some d) (.pointer (some ⟨g, 0, none⟩))) w := by
  have hdt : d < a.tmps.size := by rw [h.tmps]; exact hd
  have live : ∀ x, Live (u.newVar d g lfs) ⟨up d (.avar d 0) st.env, up d cells st.vars⟩ ⟨up d (.avar d 0) (noVar d σ.slots), up d (ks, ls) σ.vars⟩ x → x ∈ lfs ∨ Live u st σ x := fun x hx => by
    rcases hx with ⟨d', e', s', g1, g3, g2⟩ | ⟨k, c, s', g1, g3, g2⟩
    · simp only [Wit.newVar] at g2
      by_cases hdd : d' = d
      · simp [hdd] at g2
      · simp [hdd] at g2
        simp only at g1 g3
        rw [lk_up_other _ hdd] at g1 g3
        exact .inr (.inl ⟨d', e', s', g1, (lk_noVar g3).1, g2⟩)
    · simp only [Wit.newVar] at g2
      by_cases hk : k = d
      · simp [hk] at g2; exact .inl g2
      · simp [hk] at g2
        simp only at g1 g3
        rw [lk_up_other _ hk] at g1 g3
        exact .inr (.inr ⟨k, c, s', g1, g3, g2⟩)
  have org : ∀ y, y ∈ lfs ∨ Live u st σ y → Deriv u st σ y := fun y hy => hy.elim (hD y) Deriv.of_live
  exact { h with
    slot := fun d' e' s' hd' hs' => by
      simp only at hd' hs'
      by_cases hdd : d' = d
      · subst hdd
        rw [lk_up_same] at hd' hs'
        cases hd'
        cases hs'
        refine ⟨hd, ?_⟩
        rw [Act.put_same _ _ _ hdt]
        have := EntOk.avar (Ty := f.Ty) (β := (u.newVar d' g lfs).β) (w := w) (k := d') (off := 0)
        simpa [Wit.newVar] using this
      · rw [lk_up_other _ hdd] at hd' hs'
        obtain ⟨e1, e2⟩ := lk_noVar hs'
        obtain ⟨h1, h3⟩ := h.slot d' e' s' hd' e1
        refine ⟨h1, ?_⟩
        rw [Act.put_other _ _ _ _ hdd]
        have hF : (u.newVar d g lfs).LF d' = u.LF d' := by simp [Wit.newVar, hdd]
        rw [hF]
        generalize u.LF d' = ls at h3
        generalize a.tmps.getD d' undef = vv at h3
        cases h3 with
        | val h hl => exact .val h hl
        | tup h => exact .tup h
        | @avar k off =>
          have hk : k ≠ d := fun e => e2 off (by rw [e])
          have := EntOk.avar (Ty := f.Ty) (β := (u.newVar d g lfs).β) (w := w) (k := k) (off := off)
          simpa [Wit.newVar, hk] using this
        | aelem a b c d => exact .aelem a b c d
        | velem a b c d e => exact .velem a b c d e
        | glob => exact .glob
    var := fun k c s hk hs => by
      simp only at hk hs
      by_cases hkd : k = d
      · subst hkd
        rw [lk_up_same] at hk hs
        cases hk
        cases hs
        simpa [Wit.newVar] using hv
      · rw [lk_up_other _ hkd] at hk hs
        have g2 := h.var k c s hk hs
        simpa [Wit.newVar, hkd] using g2
    leaf := fun x hx => by
      have : LeafOk f u w x := (live x hx).elim (fun hx => (hD x hx).leafOk h.leaf (hn x hx)) (h.leaf x)
      exact ⟨this.tag, this.lin, this.own, this.row, this.name⟩
    pair := fun x y hx hy ho p hp ht hh he1 he2 => by
      obtain ⟨y0, hy0, p0, hp0, e1, e2, e3⟩ := (org y (live y hy)).rests p hp
      rcases (org x (live x hx)).own ho with ⟨_, g2⟩ | ⟨x0, hx0, g1, g2, g3, g4⟩
      · simp [Lf.head, g2] at he1
      · have hhead : x0.head = some hh := by
          unfold Lf.head at he1 ⊢
          rw [g3, g4]; exact he1
        have := h.pair x0 y0 hx0 hy0 g1 p0 hp0 (by rw [e1, ht, g2]) hh hhead (by rw [e2, he2])
        omega
    varIn := fun k c s hk hs => by
      simp only at hk hs
      by_cases hkd : k = d
      · subst hkd; simp [Wit.newVar]; exact .inl h1
      · rw [lk_up_other _ hkd] at hk hs; simpa [Wit.newVar, hkd] using h.varIn k c s hk hs
    varNot := fun k c s t hk hs => by
      simp only at hk hs
      by_cases hkd : k = d
      · subst hkd; simpa [Wit.newVar] using h2 t
      · rw [lk_up_other _ hkd] at hk hs; simpa [Wit.newVar, hkd] using h.varNot k c s t hk hs
    varInj := fun k k' c c' s s' hk hs hk' hs' he => by
      simp only at hk hk' hs hs'
      by_cases hkd : k = d <;> by_cases hkd' : k' = d
      · rw [hkd, hkd']
      · rw [lk_up_other _ hkd'] at hk' hs'
        simp [Wit.newVar, hkd, hkd'] at he
        exact absurd he.symm (h3 k' c' s' hk' hs')
      · rw [lk_up_other _ hkd] at hk hs
        simp [Wit.newVar, hkd, hkd'] at he
        exact absurd he (h3 k c s hk hs)
      · rw [lk_up_other _ hkd] at hk hs
        rw [lk_up_other _ hkd'] at hk' hs'
        simp [Wit.newVar, hkd, hkd'] at he
        exact h.varInj k k' c c' s s' hk hs hk' hs' he
    tmps := by rw [Act.put_size]; exact h.tmps
    defers := h.defers }

/-! ### A variable is written -/
def Wit.setV (u : Wit) (k : Nat) (l : List Lf) : Wit := { u with LV := fun k' => if k' = k then l else u.LV k' }

/-- The memory behind a write to the block of one variable. -/
structure WroteVar (w w' : World) (b : Nat) : Prop where
  block : ∀ i, i ≠ b → w'.heap[i]? = w.heap[i]?
  size : w'.heap.size = w.heap.size
  os : w'.os = w.os
  tape : w'.tape = w.tape
  output : w'.output = w.output

theorem Rel.setVar {f : Fix} {u : Wit} {st : St} {σ : SG} {a : Act} {w w' : World} (h : Rel f u st σ a w) {k : Nat} {c0 : List PV} (hk0 : lk k st.vars = some c0) {s0 : List LK × List LI} (hs0 : lk k σ.vars = some s0) (hw : WroteVar w w' (u.β k)) {cells : List PV} {ks : List LK} {ls : List LI} {lfs : List Lf}
    (hv : VarOk f.Ty w' (u.β k) cells (ks, ls) lfs) (hks : ks.length = s0.1.length) (hD : ∀ y ∈ lfs, Deriv u st σ y) (hn : ∀ y ∈ lfs, y.li.lin = true → (y.os.map (·.1)).Nodup) :
    Rel f (u.setV k lfs) { st with vars := up k cells st.vars } { σ with vars := up k (ks, ls) σ.vars } a w' := by
  have nb : ∀ t b, u.S t b → b ≠ u.β k := fun t b ht e => h.varNot k c0 s0 t hk0 hs0 (e ▸ ht)
  have hso : ∀ x, Live u st σ x → SameOn w w' x.os := fun x hx q hq j _ => by
    obtain ⟨t, ht⟩ := tq_mem hq
    exact cell_of_block (hw.block q.1 (nb _ _ ((h.leaf x hx).tag _ ht)))
  have hown : ∀ x, LeafOk f u w x → LeafOk f u w' x := fun x hx => ⟨hx.tag, hx.lin, fun ho => ⟨(hx.own ho).1, by
    rcases (hx.own ho).2 with h1 | ⟨g, n, cap, cur, el, h1, h2, h3⟩
    · exact .inl h1
    · refine .inr ⟨g, n, cap, cur, el, h1, ?_, h3⟩
      rw [hw.block g ?_]
      · exact h2
      · obtain ⟨e, r, he⟩ := hx.row ho _ _ _ h1
        exact nb x.li.tag g (hx.tag (x.li.tag, (g, e)) (by simp [Lf.tq, he]))⟩, hx.row, hx.name⟩
  have live : ∀ x, Live (u.setV k lfs) { st with vars := up k cells st.vars } { σ with vars := up k (ks, ls) σ.vars } x → x ∈ lfs ∨ Live u st σ x := fun x hx => by
    rcases hx with ⟨d', e', s', g1, g3, g2⟩ | ⟨k', c, s', g1, g3, g2⟩
    · exact .inr (.inl ⟨d', e', s', g1, g3, g2⟩)
    · simp only [Wit.setV] at g2
      by_cases hk : k' = k
      · simp [hk] at g2; exact .inl g2
      · simp [hk] at g2
        simp only at g1 g3
        rw [lk_up_other _ hk] at g1 g3
        exact .inr (.inr ⟨k', c, s', g1, g3, g2⟩)
  have org : ∀ y, y ∈ lfs ∨ Live u st σ y → Deriv u st σ y := fun y hy => hy.elim (hD y) Deriv.of_live
  exact { h with
    slot := fun d e s hd hs => by
      obtain ⟨h1, h3⟩ := h.slot d e s hd hs
      exact ⟨h1, h3.frame fun x hx => hso x (.inl ⟨d, e, s, hd, hs, hx⟩)⟩
    var := fun k' c s hk hs => by
      simp only at hk hs
      by_cases hkd : k' = k
      · subst hkd
        rw [lk_up_same] at hk hs
        cases hk
        cases hs
        simpa [Wit.setV] using hv
      · rw [lk_up_other _ hkd] at hk hs
        obtain ⟨el, cur, g2, g3, g4, g5⟩ := h.var k' c s hk hs
        refine ⟨el, cur, ?_, by simpa [Wit.setV, hkd] using g3, ?_, by simpa [Wit.setV, hkd] using g5⟩
        · simp only [Wit.setV]
          rw [hw.block _ (fun e => hkd (h.varInj k' k c c0 s s0 hk hs hk0 hs0 e))]
          exact g2
        · simp only [Wit.setV, if_neg hkd]
          refine g4.frame fun q hq => ?_
          obtain ⟨m, hm1, hm2⟩ := List.mem_flatten.1 hq
          obtain ⟨x, hx, rfl⟩ := List.mem_map.1 hm1
          exact hso x (.inr ⟨k', c, s, hk, hs, hx⟩) q hm2
    leaf := fun x hx => by
      have : LeafOk f u w' x := hown x ((live x hx).elim (fun hx => (hD x hx).leafOk h.leaf (hn x hx)) (h.leaf x))
      exact ⟨this.tag, this.lin, this.own, this.row, this.name⟩
    pair := fun x y hx hy ho p hp ht hh he1 he2 => by
      obtain ⟨y0, hy0, p0, hp0, e1, e2, e3⟩ := (org y (live y hy)).rests p hp
      rcases (org x (live x hx)).own ho with ⟨_, g2⟩ | ⟨x0, hx0, g1, g2, g3, g4⟩
      · simp [Lf.head, g2] at he1
      · have hhead : x0.head = some hh := by
          unfold Lf.head at he1 ⊢
          rw [g3, g4]; exact he1
        have := h.pair x0 y0 hx0 hy0 g1 p0 hp0 (by rw [e1, ht, g2]) hh hhead (by rw [e2, he2])
        omega
    inW := fun t b ht => by rw [hw.size]; exact h.inW t b ht
    mem := fun t b hne ht => by rw [hw.block b (nb t b ht)]; exact h.mem t b hne ht
    xmem := fun b hb => by
      by_cases e : b = u.β k
      · subst e
        obtain ⟨el, cur, g1, g2, g3, g4⟩ := hv
        obtain ⟨el', cur', k1, k2, k3, _⟩ := h.var k c0 s0 hk0 hs0
        obtain ⟨c1, e1, c2, e2, m1, m2, m3⟩ := h.xmem _ hb
        rw [k1] at m1
        cases m1
        refine ⟨cur, el, c2, e2, g1, m2, ?_⟩
        have l1 := g3.len.1
        have l2 := k3.len.1
        rw [← g2] at l1
        rw [← k2] at l2
        simp at l1 l2
        omega
      · rw [hw.block b e]; exact h.xmem b hb
    varIn := fun k' c s hk hs => by
      simp only at hk hs
      by_cases hkd : k' = k
      · subst hkd; exact h.varIn k' c0 s0 hk0 hs0
      · rw [lk_up_other _ hkd] at hk hs; exact h.varIn k' c s hk hs
    varNot := fun k' c s t hk hs => by
      simp only at hk hs
      by_cases hkd : k' = k
      · subst hkd; exact h.varNot k' c0 s0 t hk0 hs0
      · rw [lk_up_other _ hkd] at hk hs; exact h.varNot k' c s t hk hs
    varInj := fun k1 k2 c1 c2 s1 s2 hk1 hs1 hk2 hs2 he => by
      have key : ∀ k' c' s', lk k' (up k cells st.vars) = some c' → lk k' (up k (ks, ls) σ.vars) = some s' → ∃ c'' s'', lk k' st.vars = some c'' ∧ lk k' σ.vars = some s'' := fun k' c' s' hk hs => by
        by_cases hkd : k' = k
        · subst hkd; exact ⟨c0, s0, hk0, hs0⟩
        · rw [lk_up_other _ hkd] at hk hs; exact ⟨c', s', hk, hs⟩
      obtain ⟨d1, t1, e1, i1⟩ := key k1 c1 s1 hk1 hs1
      obtain ⟨d2, t2, e2, i2⟩ := key k2 c2 s2 hk2 hs2
      exact h.varInj k1 k2 d1 d2 t1 t2 e1 i1 e2 i2 he
    frame := fun b hb hx => by
      rw [hw.block b ?_]
      · exact h.frame b hb hx
      · intro e
        subst e
        rcases h.varIn k c0 s0 hk0 hs0 with h1 | h1
        · omega
        · exact hx h1
    size := by rw [hw.size]; exact h.size
    os := hw.os.trans h.os
    tape := hw.tape.trans h.tape
    output := hw.output.trans h.output
    globs := fun g cs hg => by
      obtain ⟨vs, oss, h1, h2, h4, h3⟩ := h.globs g cs hg
      refine ⟨vs, oss, fun j v hj => ?_, h2.frame fun q hq j _ => cell_of_block (hw.block q.1 (nb _ _ (h3 q hq))), h4, h3⟩
      rw [cell_of_block (hw.block g (nb _ _ h4))]
      exact h1 j v hj }

/-! ### A row is written behind its end -/
theorem memN_one (k j : Nat) : (memN k [j] = true) = (j = k) := by
  rw [memN_cons]
  simp [memN]
theorem Rel.rowTail {f : Fix} {u : Wit} {st : St} {σ : SG} {a : Act} {w w' : World} (h : Rel f u st σ a w) {x0 : Lf} (hx0 : Live u st σ x0) (ho0 : x0.li.own = true) {g e : Nat} (hh0 : x0.head = some (g, e))
    {cur cur' : Array Value} {el : TypeId} (h1 : w.heap[g]? = some (.cells cur el (0, 0))) (h2 : w'.heap[g]? = some (.cells cur' el (0, 0))) (hs : ∀ j, j < e → cur'[j]? = cur[j]?) (hcz : cur'.size = cur.size) (hw : WroteVar w w' g) :
    Rel f ((⟨[x0.li.tag], x0.li.tag, false⟩ : Ren).wit u) st ((⟨[x0.li.tag], x0.li.tag, false⟩ : Ren).sg σ) a w' := by
  obtain ⟨htag, _⟩ := (h.leaf x0 hx0).own ho0
  have hgS : u.S x0.li.tag g := (h.leaf x0 hx0).tag _ (head_mem hh0)
  have hone : ∀ t, u.S t g → t = x0.li.tag := fun t ht => by
    by_cases e : t = x0.li.tag
    · exact e
    · exact absurd hgS (h.apart _ _ _ e ht)
  have hcell : ∀ j, j < e → w'.cell? ⟨g, j, none⟩ = w.cell? ⟨g, j, none⟩ := fun j hj => by
    simp [World.cell?, h1, h2, hs j hj]
  have hso : ∀ x, Live u st σ x → SameOn w w' x.os := fun x hx q hq j hj => by
    obtain ⟨t, ht⟩ := tq_mem hq
    have hS := (h.leaf x hx).tag _ ht
    by_cases hq1 : q.1 = g
    · rw [hq1]
      have := h.pair x0 x hx0 hx ho0 _ ht (hone t (by rw [← hq1]; exact hS)) _ hh0 hq1
      exact hcell j (by simp at this; omega)
    · exact cell_of_block (hw.block q.1 hq1)
  have hfor : ∀ b, u.S 0 b → b ≠ g := fun b hb e => htag (hone 0 (e ▸ hb)).symm
  generalize hρ : (⟨[x0.li.tag], x0.li.tag, false⟩ : Ren) = ρ
  have hR := h.ren ρ (by subst hρ; intro e; rw [memN_one] at e; exact absurd e htag)
  have hso' : ∀ x, Live (ρ.wit u) st (ρ.sg σ) x → SameOn w w' x.os := fun x hx => by
    obtain ⟨y, hy, rfl⟩ := Ren.live hx
    exact hso y hy
  exact { hR with
    slot := fun d e s hd hs => by
      obtain ⟨g1, g3⟩ := hR.slot d e s hd hs
      exact ⟨g1, g3.frame fun x hx => hso' x (.inl ⟨d, e, s, hd, hs, hx⟩)⟩
    var := fun k c s hk hs => by
      obtain ⟨el', cu, g2, g3, g4, g5⟩ := hR.var k c s hk hs
      refine ⟨el', cu, ?_, g3, g4.frame fun q hq => ?_, g5⟩
      · rw [hw.block _ (fun e => hR.varNot k c s x0.li.tag hk hs ⟨x0.li.tag, by subst hρ; simp [Ren.tag, memN, Nat.beq_refl], by rw [e]; exact hgS⟩)]
        exact g2
      · obtain ⟨m, hm1, hm2⟩ := List.mem_flatten.1 hq
        obtain ⟨x, hx, rfl⟩ := List.mem_map.1 hm1
        exact hso' x (.inr ⟨k, c, s, hk, hs, hx⟩) q hm2
    leaf := fun x hx => by
      have g0 := hR.leaf x hx
      refine ⟨g0.tag, g0.lin, fun ho => ⟨(g0.own ho).1, ?_⟩, g0.row, g0.name⟩
      obtain ⟨y, hy, rfl⟩ := Ren.live hx
      rcases (g0.own ho).2 with g1 | ⟨g', n, cap, cu, el', g1, g2, g3⟩
      · exact .inl g1
      · refine .inr ⟨g', n, cap, cu, el', g1, ?_, g3⟩
        rw [hw.block g' ?_]
        · exact g2
        · intro e
          subst e
          have ho' : y.li.own = true ∧ memN y.li.tag ρ.A = false := by
            simp only [Ren.lf, Ren.li, Bool.and_eq_true] at ho
            refine ⟨ho.1, ?_⟩
            cases hm : memN y.li.tag ρ.A with
            | false => rfl
            | true => subst hρ; simp [hm] at ho
          obtain ⟨e', r, he⟩ := (h.leaf y hy).row ho'.1 _ _ _ g1
          have := hone _ ((h.leaf y hy).tag (y.li.tag, (g', e')) (by simp [Lf.tq, he]))
          have hmm := ho'.2
          subst hρ
          have e2 : x0.li.tag = y.li.tag := this.symm
          rw [(memN_one y.li.tag x0.li.tag).mpr e2] at hmm
          cases hmm
    inW := fun t b ht => by rw [hw.size]; exact hR.inW t b ht
    mem := fun t b hne ht => by
      by_cases e : b = g
      · subst e; exact ⟨_, _, h2⟩
      · rw [hw.block b e]; exact hR.mem t b hne ht
    xmem := fun b hb => by
      by_cases e : b = g
      · subst e
        obtain ⟨c1, e1, c2, e2, m1, m2, m3⟩ := h.xmem _ hb
        rw [h1] at m1
        cases m1
        exact ⟨_, _, c2, e2, h2, m2, by omega⟩
      · rw [hw.block b e]; exact h.xmem b hb
    frame := fun b hb hx => by
      rw [hw.block b ?_]
      · exact hR.frame b hb hx
      · intro e
        subst e
        rcases h.mine _ _ htag hgS with h1 | h1
        · omega
        · exact hx h1
    size := by rw [hw.size]; exact hR.size
    os := hw.os.trans h.os
    tape := hw.tape.trans h.tape
    output := hw.output.trans h.output
    globs := fun gl cs hg => by
      obtain ⟨vs, oss, g1, g2, g4, g3⟩ := h.globs gl cs hg
      obtain ⟨vs', oss', k1, k2, k4, k3⟩ := hR.globs gl cs hg
      have t0 : ρ.tag 0 = 0 := by
        subst hρ
        unfold Ren.tag
        cases hm : memN 0 [x0.li.tag] with
        | true => rw [memN_one] at hm; exact hm
        | false => rfl
      refine ⟨vs, oss, fun j v hj => ?_, g2.frame fun q hq j _ => cell_of_block (hw.block q.1 (hfor _ (g3 q hq))), ⟨0, t0, g4⟩, fun q hq => ⟨0, t0, g3 q hq⟩⟩
      rw [cell_of_block (hw.block gl (hfor _ g4))]
      exact g1 j v hj }
end Go.Pm
