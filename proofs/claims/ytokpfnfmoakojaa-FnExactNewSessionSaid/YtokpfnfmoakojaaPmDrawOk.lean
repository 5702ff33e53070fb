/-
  Regions whose order is drawn: whatever the order, the same comes out.
-/
import Derived.Test.YtokpfnfmoakojaaPmExpl
namespace Go.Pm
open Go

theorem evOpsD_trace {F : Alg} {G : Env} {H : Hint} {C : FuncId → List Arg → Option Res} {ops : List Oper} : ∀ {l : List Oper} {st st' : St}, evOpsD F G H C ops l st = some st' →
    ∃ sts : Nat → St, sts 0 = st ∧ sts l.length = st' ∧ ∀ j o, l[j]? = some o → gstepD F G H C ops o (sts j) = some (sts (j + 1))
  | [], st, st', h => by
    simp only [evOpsD, Option.some.injEq] at h
    subst h
    exact ⟨fun _ => st, rfl, rfl, fun j o h => by simp at h⟩
  | o :: r, st, st', h => by
    simp only [evOpsD] at h
    split at h
    · rename_i st1 h1
      obtain ⟨sts, e1, e2, e3⟩ := evOpsD_trace h
      refine ⟨fun j => match j with | 0 => st | j + 1 => sts j, rfl, e2, fun j o' hj => ?_⟩
      cases j with
      | zero =>
        simp at hj
        subst hj
        show gstepD F G H C ops o st = some (sts 0)
        rw [e1]
        exact h1
      | succ j => exact e3 j o' (by simpa using hj)
    · cases h

theorem count_set {p : Nat → Bool} {i : Nat} : ∀ {n : Nat}, i < n → p i = false → ((List.range n).countP fun j => p j || decide (i = j)) = (List.range n).countP p + 1
  | 0, h, _ => by omega
  | n + 1, h, hp => by
    rw [List.range_succ, List.countP_append, List.countP_append]
    simp only [List.countP_singleton]
    by_cases e : i = n
    · subst e
      have : (List.range i).countP (fun j => p j || decide (i = j)) = (List.range i).countP p := by
        apply List.countP_congr
        intro x hx
        have := List.mem_range.1 hx
        have h2 : ¬ i = x := by omega
        simp [h2]
      rw [this, hp]
      simp
    · rw [count_set (n := n) (by omega) hp]
      simp [e]
      omega

section
variable {B : Base} {G : Env} {K : CEnv} {f : Fix} {H : Hint} {C : FuncId → List Arg → Option Res} {glob : Bool}

def wrS (it : Item) (x : Nat) : Prop := it.rw.all = true ∨ x ∈ it.rw.ws
def wrV (it : Item) (k : Nat) : Prop := it.rw.all = true ∨ k ∈ it.rw.wv

/-- The state behind the operations of m is the text's, place by place. -/
structure Over (items : List Item) (sts : Nat → St) (n m : Nat) (st : St) : Prop where
  slot : ∀ x p, p ≤ n → (∀ j it, items[j]? = some it → wrS it x → (m.testBit j = true ↔ j < p)) → lk x st.env = lk x (sts p).env
  var : ∀ k p, p ≤ n → (∀ j it, items[j]? = some it → wrV it k → (m.testBit j = true ↔ j < p)) → lk k st.vars = lk k (sts p).vars

structure Setup (H : Hint) (G : Env) (C : FuncId → List Arg → Option Res) (L : List Oper) (items : List Item) (sts : Nat → St) : Prop where
  its : items = itemsOf H L 0 [] L
  ok : itemsOk items = true
  step : ∀ j o, L[j]? = some o → gstepD stdF G H C L o (sts j) = some (sts (j + 1))

theorem Setup.item {L : List Oper} {items : List Item} {sts : Nat → St} (h : Setup H G C L items sts) {j : Nat} {it : Item} (hj : items[j]? = some it) : it.i = j ∧ L[j]? = some it.o ∧ it.rw = rwOf H L it.o ∧ it.need = needM it.o.after.toList ∧ it.clos = closM ((items.map (·.clos)).take j) it.o.after.toList := by
  have h1 := itemsOf_get (H := H) (ops := L) (l := L) (i := 0) (cl := []) (j := j)
  rw [← h.its, hj] at h1
  cases hl : L[j]? with
  | none => rw [hl] at h1; simp at h1
  | some o =>
    rw [hl] at h1
    simp only [Option.map_some, Option.getD_some, Option.some.injEq] at h1
    have h2 := itemsOf_clos (H := H) (ops := L) (l := L) (i := 0) (cl := []) rfl (by rw [← h.its]; exact hj)
    rw [← h.its] at h2
    simp only [List.nil_append, Nat.zero_add] at h2
    have h3 := h2
    rw [h1] at h3
    refine ⟨by rw [h1]; simp, by rw [h1], by rw [h1], by rw [h1], h2⟩
theorem Setup.len {L : List Oper} {items : List Item} {sts : Nat → St} (h : Setup H G C L items sts) : items.length = L.length := by rw [h.its, itemsOf_len]

/-- Between writers nothing turns. -/
theorem Setup.const {L : List Oper} {items : List Item} {sts : Nat → St} (h : Setup H G C L items sts) {p : Nat} : ∀ {q : Nat}, p ≤ q → q ≤ L.length →
    (∀ x, (∀ j it, items[j]? = some it → p ≤ j → j < q → ¬ wrS it x) → lk x (sts p).env = lk x (sts q).env) ∧ (∀ k, (∀ j it, items[j]? = some it → p ≤ j → j < q → ¬ wrV it k) → lk k (sts p).vars = lk k (sts q).vars) := fun {q} hpq hq => by
  induction q with
  | zero => have : p = 0 := by omega
            subst this; exact ⟨fun _ _ => rfl, fun _ _ => rfl⟩
  | succ q ih =>
    by_cases e : p = q + 1
    · subst e; exact ⟨fun _ _ => rfl, fun _ _ => rfl⟩
    · obtain ⟨i1, i2⟩ := ih (by omega) (by omega)
      have hlt : q < items.length := by rw [h.len]; omega
      have hit : items[q]? = some items[q] := List.getElem?_eq_getElem hlt
      obtain ⟨g1, g2, g3, _⟩ := h.item hit
      have hst := h.step q _ g2
      refine ⟨fun x hx => ?_, fun k hk => ?_⟩
      · rw [i1 x fun j it hj h1 h2 => hx j it hj h1 (by omega)]
        have hn := hx q _ hit (by omega) (by omega)
        have ha : (rwOf H L items[q].o).all = false := by
          cases ha : (rwOf H L items[q].o).all with
          | false => rfl
          | true => exact absurd (.inl (by rw [g3]; exact ha)) hn
        exact ((text_same ha hst).1 x fun hm => hn (.inr (by rw [g3]; exact hm))).symm
      · rw [i2 k fun j it hj h1 h2 => hk j it hj h1 (by omega)]
        have hn := hk q _ hit (by omega) (by omega)
        have ha : (rwOf H L items[q].o).all = false := by
          cases ha : (rwOf H L items[q].o).all with
          | false => rfl
          | true => exact absurd (.inl (by rw [g3]; exact ha)) hn
        exact ((text_same ha hst).2 k fun hm => hn (.inr (by rw [g3]; exact hm))).symm

def Closed (items : List Item) (m : Nat) : Prop := ∀ j it, items[j]? = some it → m.testBit j = true → ∀ k, it.clos.testBit k = true → m.testBit k = true

theorem confL_false {a b : RW} (h : confL a b = false) : a.all = false ∧ b.all = false ∧ (∀ x ∈ a.ws, x ∉ b.rs ++ b.ws) ∧ (∀ x ∈ b.ws, x ∉ a.rs ++ a.ws) ∧ (∀ x ∈ a.wv, x ∉ b.rv ++ b.wv) ∧ (∀ x ∈ b.wv, x ∉ a.rv ++ a.wv) := by
  unfold confL at h
  split at h
  · rename_i h1 h2
    split at h
    · rename_i g1 g2 g3 g4
      exact ⟨h1, h2, anyIn_ok g1, anyIn_ok g2, anyIn_ok g3, anyIn_ok g4⟩
    · cases h
  · cases h

theorem Setup.closReady {L : List Oper} {items : List Item} {sts : Nat → St} (h : Setup H G C L items sts) {m i : Nat} {it : Item} (hi : items[i]? = some it) (hcl : Closed items m) (hn : ∀ e ∈ it.o.after.toList, Region.binds .any e = true → m.testBit e.on = true) : ∀ k, it.clos.testBit k = true → m.testBit k = true := fun k hk => by
  obtain ⟨g1, g2, g3, g4, g5⟩ := h.item hi
  rw [g5] at hk
  obtain ⟨e, he, hb, hor⟩ := closM_bit.1 hk
  have hon := hn e he hb
  rcases hor with rfl | hor
  · exact hon
  · rw [List.getD_eq_getElem?_getD, List.getElem?_take] at hor
    split at hor
    · rw [List.getElem?_map] at hor
      cases hq : items[e.on]? with
      | none => rw [hq] at hor; simp at hor
      | some b =>
        rw [hq] at hor
        simp only [Option.map_some, Option.getD_some] at hor
        exact hcl e.on b hq hon k hor
    · simp at hor

theorem Setup.next {L : List Oper} {items : List Item} {sts : Nat → St} (h : Setup H G C L items sts) {m i : Nat} {it : Item} {st : St} (hi : items[i]? = some it) (hov : Over items sts L.length m st) (hcl : Closed items m) (hbit : m.testBit i = false) (hn : ∀ e ∈ it.o.after.toList, Region.binds .any e = true → m.testBit e.on = true) :
    ∃ st1, gstep stdF G H C L it.o st = some st1 ∧ Over items sts L.length (Nat.lor m (Nat.pow 2 i)) st1 ∧ Closed items (Nat.lor m (Nat.pow 2 i)) := by
  obtain ⟨g1, g2, g3, g4, g5⟩ := h.item hi
  have hci := h.closReady hi hcl hn
  have hilt : i < L.length := by have := (List.getElem?_eq_some_iff.1 hi).1; rw [h.len] at this; exact this
  -- others that do something to a place that this one touches
  have before : ∀ j b, items[j]? = some b → j ≠ i → (confL b.rw it.rw = false → False) → (confL it.rw b.rw = false → False) → (m.testBit j = true ↔ j < i) := fun j b hj hne h1 h2 => by
    obtain ⟨k1, _⟩ := h.item hj
    rcases Nat.lt_or_gt_of_ne hne with hlt | hlt
    · rcases itemsOk_apart h.ok hlt hj hi with hc | hc
      · rw [k1] at hc
        exact ⟨fun _ => hlt, fun _ => hci j hc⟩
      · exact (h1 hc).elim
    · rcases itemsOk_apart h.ok hlt hi hj with hc | hc
      · rw [g1] at hc
        refine ⟨fun hm => ?_, fun hm => by omega⟩
        have := hcl j b hj hm i hc
        rw [this] at hbit
        cases hbit
      · exact (h2 hc).elim
  have selfBit : ∀ j, j = i → (m.testBit j = true ↔ j < i) := fun j e => by subst e; rw [hbit]; simp
  have atS : ∀ x, (it.rw.all = true ∨ x ∈ it.rw.rs ++ it.rw.ws) → lk x st.env = lk x (sts i).env := fun x hx => hov.slot x i (by omega) fun j b hj hw => by
    by_cases e : j = i
    · exact selfBit j e
    · refine before j b hj e (fun hc => ?_) (fun hc => ?_)
      · obtain ⟨c1, c2, c3, _⟩ := confL_false hc
        rcases hx with hx | hx
        · rw [c2] at hx; cases hx
        · rcases hw with hw | hw
          · rw [c1] at hw; cases hw
          · exact c3 x hw hx
      · obtain ⟨c1, c2, _, c4, _⟩ := confL_false hc
        rcases hx with hx | hx
        · rw [c1] at hx; cases hx
        · rcases hw with hw | hw
          · rw [c2] at hw; cases hw
          · exact c4 x hw hx
  have atV : ∀ k, (it.rw.all = true ∨ k ∈ it.rw.rv ++ it.rw.wv) → lk k st.vars = lk k (sts i).vars := fun x hx => hov.var x i (by omega) fun j b hj hw => by
    by_cases e : j = i
    · exact selfBit j e
    · refine before j b hj e (fun hc => ?_) (fun hc => ?_)
      · obtain ⟨c1, c2, _, _, c3, _⟩ := confL_false hc
        rcases hx with hx | hx
        · rw [c2] at hx; cases hx
        · rcases hw with hw | hw
          · rw [c1] at hw; cases hw
          · exact c3 x hw hx
      · obtain ⟨c1, c2, _, _, _, c4⟩ := confL_false hc
        rcases hx with hx | hx
        · rw [c1] at hx; cases hx
        · rcases hw with hw | hw
          · rw [c2] at hw; cases hw
          · exact c4 x hw hx
  have htext := h.step i _ g2
  -- the step; what it leaves
  obtain ⟨st1, hst1, wS, nS, wV, nV⟩ : ∃ st1, gstep stdF G H C L it.o st = some st1 ∧ (∀ x, wrS it x → lk x st1.env = lk x (sts (i + 1)).env) ∧ (∀ x, ¬ wrS it x → lk x st1.env = lk x st.env) ∧
      (∀ k, wrV it k → lk k st1.vars = lk k (sts (i + 1)).vars) ∧ (∀ k, ¬ wrV it k → lk k st1.vars = lk k st.vars) := by
    cases hall : it.rw.all with
    | true =>
      have heq : Eqv (sts i) st := ⟨fun x => (atS x (.inl hall)).symm, fun k => (atV k (.inl hall)).symm⟩
      obtain ⟨st1, h1, h2⟩ := gstep_eqv heq (gstepD_gstep htext)
      exact ⟨st1, h1, fun x _ => (h2.env x).symm, fun x hx => absurd (.inl hall) hx, fun k _ => (h2.vars k).symm, fun k hk => absurd (.inl hall) hk⟩
    | false =>
      have hall' : (rwOf H L it.o).all = false := by rw [← g3]; exact hall
      obtain ⟨st1, h1, h2⟩ := rw_told (t := st) hall' (fun x hx => (atS x (.inr (List.mem_append_left _ (by rw [g3]; exact hx)))).symm) (fun k hk => (atV k (.inr (List.mem_append_left _ (by rw [g3]; exact hk)))).symm) htext
      rw [← g3] at h2
      refine ⟨st1, h1, fun x hx => ?_, fun x hx => (h2.ns x fun hm => hx (.inr hm)).1, fun k hk => ?_, fun k hk => (h2.nv k fun hm => hk (.inr hm)).1⟩
      · rcases hx with hx | hx
        · rw [hall] at hx; cases hx
        · exact h2.ws x hx (atS x (.inr (List.mem_append_right _ hx)))
      · rcases hk with hk | hk
        · rw [hall] at hk; cases hk
        · exact h2.wv k hk (atV k (.inr (List.mem_append_right _ hk)))
  have hbits : ∀ j, (Nat.lor m (Nat.pow 2 i)).testBit j = (m.testBit j || decide (i = j)) := fun j => by rw [testBit_lor, testBit_pow]
  refine ⟨st1, hst1, ⟨fun x p hp hw => ?_, fun k p hp hw => ?_⟩, fun j b hj hm k hk => ?_⟩
  · by_cases hx : wrS it x
    · rw [wS x hx]
      have hip : i < p := (hw i it hi hx).1 (by rw [hbits]; simp)
      refine (h.const (p := i + 1) (q := p) (by omega) hp).1 x fun j b hj h1 h2 hwj => ?_
      have hm := (hw j b hj hwj).2 h2
      rw [hbits, Bool.or_eq_true] at hm
      rcases hm with hm | hm
      · have : m.testBit j = true ↔ j < i := before j b hj (by omega) (fun hc => by
            obtain ⟨c1, c2, c3, _⟩ := confL_false hc
            rcases hx with hx | hx
            · rw [c2] at hx; cases hx
            · rcases hwj with hwj | hwj
              · rw [c1] at hwj; cases hwj
              · exact c3 x hwj (List.mem_append_right _ hx)) (fun hc => by
            obtain ⟨c1, c2, _, c4, _⟩ := confL_false hc
            rcases hx with hx | hx
            · rw [c1] at hx; cases hx
            · rcases hwj with hwj | hwj
              · rw [c2] at hwj; cases hwj
              · exact c4 x hwj (List.mem_append_right _ hx))
        have := this.1 hm
        omega
      · have := of_decide_eq_true hm
        omega
    · rw [nS x hx]
      refine hov.slot x p hp fun j b hj hwj => ?_
      have := hw j b hj hwj
      rw [hbits] at this
      have hne : i ≠ j := fun e => by subst e; rw [hi] at hj; cases hj; exact hx hwj
      simpa [hne] using this
  · by_cases hx : wrV it k
    · rw [wV k hx]
      have hip : i < p := (hw i it hi hx).1 (by rw [hbits]; simp)
      refine (h.const (p := i + 1) (q := p) (by omega) hp).2 k fun j b hj h1 h2 hwj => ?_
      have hm := (hw j b hj hwj).2 h2
      rw [hbits, Bool.or_eq_true] at hm
      rcases hm with hm | hm
      · have : m.testBit j = true ↔ j < i := before j b hj (by omega) (fun hc => by
            obtain ⟨c1, c2, _, _, c3, _⟩ := confL_false hc
            rcases hx with hx | hx
            · rw [c2] at hx; cases hx
            · rcases hwj with hwj | hwj
              · rw [c1] at hwj; cases hwj
              · exact c3 k hwj (List.mem_append_right _ hx)) (fun hc => by
            obtain ⟨c1, c2, _, _, _, c4⟩ := confL_false hc
            rcases hx with hx | hx
            · rw [c1] at hx; cases hx
            · rcases hwj with hwj | hwj
              · rw [c2] at hwj; cases hwj
              · exact c4 k hwj (List.mem_append_right _ hx))
        have := this.1 hm
        omega
      · have := of_decide_eq_true hm
        omega
    · rw [nV k hx]
      refine hov.var k p hp fun j b hj hwj => ?_
      have := hw j b hj hwj
      rw [hbits] at this
      have hne : i ≠ j := fun e => by subst e; rw [hi] at hj; cases hj; exact hx hwj
      simpa [hne] using this
  · rw [hbits, Bool.or_eq_true] at hm ⊢
    rcases hm with hm | hm
    · exact .inl (hcl j b hj hm k hk)
    · have := of_decide_eq_true hm
      subst this
      rw [hi] at hj
      cases hj
      exact .inl (hci k hk)

theorem Over.eqv {items : List Item} {sts : Nat → St} {n m : Nat} {st : St} (h : Over items sts n m st) (hlen : items.length ≤ n) (hm : ∀ j, j < n → m.testBit j = true) : Eqv st (sts n) :=
  ⟨fun x => h.slot x n (Nat.le_refl _) fun j it hj _ => ⟨fun _ => by have := (List.getElem?_eq_some_iff.1 hj).1; omega, fun hlt => hm j hlt⟩, fun k => h.var k n (Nat.le_refl _) fun j it hj _ => ⟨fun _ => by have := (List.getElem?_eq_some_iff.1 hj).1; omega, fun hlt => hm j hlt⟩⟩
theorem Rel.eqv {f : Fix} {u : Wit} {st st' : St} {σ : SG} {a : Act} {w : World} (h : Rel f u st σ a w) (e : Eqv st st') : Rel f u st' σ a w :=
  h.less (fun d en s h1 h2 => ⟨by rw [e.env]; exact h1, h2⟩) (fun k c s h1 h2 => ⟨by rw [e.vars]; exact h1, h2⟩)

theorem ready_mem {ops : Array Oper} {listed : Array Bool} {i : Nat} : i ∈ Region.ready .any ops listed ↔ ∃ o, ops[i]? = some o ∧ listed.getD i true = false ∧ ∀ e ∈ o.after.toList, Region.binds .any e = true → listed.getD e.on false = true := by
  unfold Region.ready
  rw [List.mem_filter, List.mem_range]
  constructor
  · rintro ⟨h1, h2⟩
    have ho : ops[i]? = some ops[i] := Array.getElem?_eq_getElem h1
    simp only [ho, Option.map_some, Option.getD_some, Bool.and_eq_true, Bool.not_eq_true', Array.all_eq_true] at h2
    refine ⟨_, ho, h2.1, fun e he hb => ?_⟩
    obtain ⟨j, hj, rfl⟩ := List.mem_iff_getElem.1 he
    have := h2.2 j (by simpa using hj)
    simp only [Array.getElem_toList] at hb ⊢
    simpa [hb] using this
  · rintro ⟨o, ho, h1, h2⟩
    have hlt := (Array.getElem?_eq_some_iff.1 ho).1
    refine ⟨hlt, ?_⟩
    simp only [ho, Option.map_some, Option.getD_some, Bool.and_eq_true, Bool.not_eq_true', Array.all_eq_true]
    refine ⟨h1, fun j hj => ?_⟩
    cases hb : Region.binds .any o.after[j] with
    | false => simp
    | true =>
      have := h2 o.after[j] (by rw [← Array.getElem_toList]; exact List.getElem_mem _) hb
      simp [this]

theorem draw_any (hS : Setting B.P G K f) (hk : Known B K C f glob) {ops : Array Oper} {Q : Exit → Act → World → Prop} {items : List Item} {sts : Nat → St} (hs : Setup H G C ops.toList items sts) {mf : Nat} {τ : SG} (hn : ∀ u' a' w', Rel f u' (sts ops.toList.length) τ a' w' → Q .normal a' w') :
    ∀ {k : Nat} {L : List (Nat × SG)} {m : Nat} {σ : SG} {st : St} {u : Wit} {a : Act} {w : World} {listed : Array Bool}, (m, σ) ∈ L → explore (cgstep K H glob f.N ops.toList) items k L = some [(mf, τ)] → Rel f u st σ a w → Over items sts ops.toList.length m st → Closed items m →
      listed.size = ops.size → (∀ i, listed.getD i false = m.testBit i) → (List.range ops.size).countP m.testBit + k = ops.size → wpAny B.P .any ops Q k listed a w := fun {k} => by
  have hlen : items.length = ops.size := by rw [hs.len]; simp
  have getT : ∀ {listed : Array Bool} {i : Nat}, listed.size = ops.size → i < ops.size → listed.getD i true = listed.getD i false := fun {listed i} h1 h2 => by
    simp [Array.getD, h1, h2]
  have allSet : ∀ {m : Nat}, (List.range ops.size).countP m.testBit = ops.size → ∀ j, j < ops.size → m.testBit j = true := fun {m} h j hj => by
    have : (List.range ops.size).countP m.testBit = (List.range ops.size).length := by rw [h]; simp
    exact List.countP_eq_length.1 this j (List.mem_range.2 hj)
  induction k with
  | zero =>
    intro L m σ st u a w listed hm hex h hov hcl hsz hl hcnt
    simp only [explore, Option.some.injEq] at hex
    subst hex
    obtain ⟨rfl, rfl⟩ := Prod.mk.inj (List.mem_singleton.1 hm)
    have hall := allSet (m := m) (by omega)
    refine ⟨?_, hn u a w (h.eqv (hov.eqv (by rw [hlen]; simp) fun j hj => hall j (by simpa using hj)))⟩
    rw [List.eq_nil_iff_forall_not_mem]
    intro i hi
    obtain ⟨o, ho, h1, _⟩ := ready_mem.1 hi
    have hlt := (Array.getElem?_eq_some_iff.1 ho).1
    rw [getT hsz hlt, hl i, hall i hlt] at h1
    cases h1
  | succ k ih =>
    intro L m σ st u a w listed hm hex h hov hcl hsz hl hcnt
    simp only [explore] at hex
    split at hex
    · rename_i L' hL'
      have hstep := (exLevel_ok hL').2 m σ hm
      refine ⟨fun hr => ?_, fun i hi => ?_⟩
      · exfalso
        -- the first that is not listed is ready
        have hex' : ∀ i, i ≤ ops.size → ∀ j, j < i → m.testBit j = true := fun i => by
          induction i with
          | zero => intro _ j hj; omega
          | succ i ihi =>
            intro hi j hj
            by_cases e : j < i
            · exact ihi (by omega) j e
            · have : j = i := by omega
              subst this
              cases hb : m.testBit j with
              | true => rfl
              | false =>
                exfalso
                have hlt : j < items.length := by rw [hlen]; omega
                have hit : items[j]? = some items[j] := List.getElem?_eq_getElem hlt
                obtain ⟨g1, g2, g3, g4, g5⟩ := hs.item hit
                have hrd : j ∈ Region.ready .any ops listed := ready_mem.2 ⟨items[j].o, by simpa using g2, by rw [getT hsz (by omega), hl j, hb], fun e he hbe => by
                  rw [hl]
                  refine ihi (by omega) e.on ?_
                  have := lt_bit (itemsOk_need hs.ok items[j] (List.getElem_mem _)) (k := e.on) (by rw [g4]; exact needM_bit.2 ⟨e, he, hbe, rfl⟩)
                  rwa [g1] at this⟩
                rw [hr] at hrd
                cases hrd
        have : (List.range ops.size).countP m.testBit = ops.size := by
          have : (List.range ops.size).countP m.testBit = (List.range ops.size).length := List.countP_eq_length.2 fun j hj => hex' ops.size (Nat.le_refl _) j (List.mem_range.1 hj)
          simpa using this
        omega
      · obtain ⟨o, ho, h1, h2⟩ := ready_mem.1 hi
        have hlt := (Array.getElem?_eq_some_iff.1 ho).1
        rw [getT hsz hlt, hl i] at h1
        have hit : items[i]? = some items[i] := List.getElem?_eq_getElem (by rw [hlen]; exact hlt)
        obtain ⟨g1, g2, g3, g4, g5⟩ := hs.item hit
        have hoo : items[i].o = o := by
          have : ops.toList[i]? = some o := by simpa using ho
          rw [g2] at this
          exact Option.some.inj this
        have hneed : ∀ e ∈ items[i].o.after.toList, Region.binds .any e = true → m.testBit e.on = true := fun e he hb => by
          rw [hoo] at he
          rw [← hl]
          exact h2 e he hb
        obtain ⟨σ', k1, k2⟩ := hstep items[i] (List.getElem_mem _) (by rw [g1]; exact h1) (by
          apply Nat.eq_of_testBit_eq
          intro b
          have : (Nat.land m items[i].need).testBit b = (m.testBit b && items[i].need.testBit b) := Nat.testBit_and _ _ _
          rw [this]
          cases hb : items[i].need.testBit b with
          | false => simp
          | true =>
            rw [g4] at hb
            obtain ⟨e, he, hbe, rfl⟩ := needM_bit.1 hb
            simp [hneed e he hbe])
        obtain ⟨st1, s1, s2, s3⟩ := hs.next hit hov hcl h1 hneed
        rw [hoo] at s1 k1
        rw [g1] at k2
        have hg := gstep_ok (Q := Q) hS hk h s1 k1 (next := wpAny B.P .any ops Q k (listed.setIfInBounds i true)) (fun u' a' w' h' => ih k2 hex h' s2 s3 (by simp [hsz]) (fun j => by
          rw [testBit_lor, testBit_pow, ← hl j]
          by_cases e : i = j
          · subst e; simp [Array.getD, hsz, hlt]
          · simp only [Array.getD, Array.size_setIfInBounds, decide_eq_false e, Bool.or_false]
            split
            · rw [Array.getInternal_eq_getElem, Array.getInternal_eq_getElem, Array.getElem_setIfInBounds_ne _ e]
            · rfl) (by
          have := count_set (p := m.testBit) hlt h1
          have e2 : (fun j => (Nat.lor m (Nat.pow 2 i)).testBit j) = fun j => m.testBit j || decide (i = j) := by funext j; rw [testBit_lor, testBit_pow]
          have e3 : (List.range ops.size).countP (Nat.lor m (Nat.pow 2 i)).testBit = (List.range ops.size).countP (fun j => (Nat.lor m (Nat.pow 2 i)).testBit j) := rfl
          rw [e3, e2, this]
          omega))
        unfold wpOp
        rw [ho]
        simp only
        split
        · rename_i hw
          rw [if_pos hw] at hg
          exact .inl hg
        · rename_i hw
          rw [if_neg hw] at hg
          exact hg
    · cases hex

/-- A region whose order is drawn. -/
theorem draw_ok (hS : Setting B.P G K f) (hk : Known B K C f glob) {ops : Array Oper} (hfol : B.P.follows .mixedOrders = true) {id : Nat} {Q : Exit → Act → World → Prop} {u : Wit} {st st' : St} {σ τ : SG} {a : Act} {w : World} (h : Rel f u st σ a w) (hp : evOpsD stdF G H C ops.toList ops.toList st = some st')
    (hc : cDraw K H glob f.N ops.toList σ = some τ) (hn : ∀ u' a' w', Rel f u' st' τ a' w' → Q .normal a' w') : (Code.region id ops true).wp B.P Q a w := by
  obtain ⟨sts, e1, e2, e3⟩ := evOpsD_trace hp
  unfold cDraw at hc
  simp only at hc
  split at hc
  · rename_i hok
    split at hc
    · rename_i mf τ' hex
      cases hc
      refine wp_region_any hfol ?_
      have h' : Rel f u st σ a { w with drawn := w.drawn + 1 } := h.grows ⟨fun _ _ => rfl, Nat.le_refl _, rfl, rfl, rfl⟩
      have hs : Setup H G C ops.toList (itemsOf H ops.toList 0 [] ops.toList) sts := ⟨rfl, hok, e3⟩
      refine draw_any hS hk hs (τ := τ) (by rw [e2]; exact hn) (k := ops.size) (L := [(0, σ)]) (m := 0) (σ := σ) (st := st) (by simp) (by simpa using hex) h' ⟨fun x p hp hw => ?_, fun k p hp hw => ?_⟩ (fun j it _ hm => by simp at hm) (by simp) (fun i => by simp [Array.getD]) (by simp)
      · rw [← e1]
        exact (hs.const (p := 0) (q := p) (Nat.zero_le _) hp).1 x fun j it hj _ h2 hwj => by
          have := (hw j it hj hwj).2 h2
          simp at this
      · rw [← e1]
        exact (hs.const (p := 0) (q := p) (Nat.zero_le _) hp).2 k fun j it hj _ h2 hwj => by
          have := (hw j it hj hwj).2 h2
          simp at this
    · cases hc
  · cases hc
end
end Go.Pm
