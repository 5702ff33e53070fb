/-
  What an operation of the pure machine reads and writes.
-/
import Derived.Test.YtokpfnfmoakojaaPmRegion
namespace Go.Pm
open Go

/-- Two states that agree on some slots, and on the variables that these lead to. -/
structure Agree (X : List Nat) (st st' : St) : Prop where
  env : ∀ x ∈ X, lk x st.env = lk x st'.env
  vars : ∀ x ∈ X, ∀ k o, lk x st.env = some (.avar k o) → lk k st.vars = lk k st'.vars

theorem tmpsOf_mem {t : Nat} : ∀ {l : List Operand}, .tmp t ∈ l → t ∈ tmpsOf l
  | [], h => by cases h
  | x :: r, h => by
    rcases List.mem_cons.1 h with rfl | h
    · exact List.mem_cons_self
    · have := tmpsOf_mem h
      cases x <;> simp only [tmpsOf] <;> first | exact List.mem_cons_of_mem _ this | exact this

section
variable {F : Alg} {G : Env} {H : Hint} {C : FuncId → List Arg → Option Res} {X : List Nat} {st st' : St}

def In (X : List Nat) (x : Operand) : Prop := ∀ t, x = .tmp t → t ∈ X

theorem Agree.evE (h : Agree X st st') {x : Operand} (hx : In X x) : evE st.env x = Pm.evE st'.env x := by
  cases x with
  | tmp t => exact h.env t (hx t rfl)
  | _ => rfl
theorem Agree.evV (h : Agree X st st') {x : Operand} (hx : In X x) : evV st.env x = Pm.evV st'.env x := by
  unfold Pm.evV
  rw [h.evE hx]
theorem Agree.optI (h : Agree X st st') {x : Option Operand} (hx : ∀ y, x = some y → In X y) : optI st.env x = Pm.optI st'.env x := by
  cases x with
  | none => rfl
  | some y => simp only [Pm.optI]; rw [h.evV (hx y rfl)]
theorem evE_avar {x : Operand} {k o : Nat} {env : List (Nat × Ent)} (h : evE env x = some (.avar k o)) : ∃ t, x = .tmp t ∧ lk t env = some (.avar k o) := by
  cases x with
  | tmp t => exact ⟨t, rfl, h⟩
  | const v =>
    simp only [evE] at h
    split at h <;> cases h
  | global g => simp [evE] at h
  | func g => simp [evE] at h
theorem Agree.loadFrom (h : Agree X st st') {x : Operand} (hx : In X x) {i : TyI} {e : Ent} (he : Pm.evE st.env x = some e) : Pm.loadFrom G st.vars i e = Pm.loadFrom G st'.vars i e := by
  cases e with
  | avar k o =>
    obtain ⟨t, rfl, ht⟩ := evE_avar he
    simp only [Pm.loadFrom]
    rw [h.vars t (hx t rfl) k o ht]
  | _ => rfl
theorem Agree.fillParts (h : Agree X st st') : ∀ {fields : List Nat} {cells : List PV} {l : List (Nat × Operand)}, (∀ x ∈ l, In X x.2) → fillParts fields st.env cells l = Pm.fillParts fields st'.env cells l
  | _, _, [], _ => rfl
  | fields, cells, (j, x) :: r, hx => by
    simp only [Pm.fillParts]
    rw [h.evV (hx _ List.mem_cons_self)]
    cases Pm.evV st'.env x with
    | none => rfl
    | some v =>
      simp only
      cases fields[j]? with
      | none => rfl
      | some off =>
        simp only
        cases over cells off (cellsOf v) with
        | none => rfl
        | some cs => exact h.fillParts fun y hy => hx y (List.mem_cons_of_mem _ hy)
theorem Agree.fillElems (h : Agree X st st') : ∀ {elems : List PV} {l : List (Nat × Operand)}, (∀ x ∈ l, In X x.2) → fillElems st.env elems l = Pm.fillElems st'.env elems l
  | _, [], _ => rfl
  | elems, (j, x) :: r, hx => by
    simp only [Pm.fillElems]
    rw [h.evV (hx _ List.mem_cons_self)]
    cases Pm.evV st'.env x with
    | none => rfl
    | some v =>
      simp only
      cases over elems j [v] with
      | none => rfl
      | some cs => exact h.fillElems fun y hy => hx y (List.mem_cons_of_mem _ hy)
theorem Agree.argsOf (h : Agree X st st') : ∀ {l : List Operand}, (∀ x ∈ l, In X x) → argsOf st l = Pm.argsOf st' l
  | [], _ => rfl
  | x :: r, hx => by
    have ih := h.argsOf (l := r) fun y hy => hx y (List.mem_cons_of_mem _ hy)
    have hxx := hx x List.mem_cons_self
    simp only [Pm.argsOf]
    rw [← h.evE hxx, ih]
    cases he : Pm.evE st.env x with
    | none => rfl
    | some e =>
      cases e with
      | avar k off =>
        obtain ⟨t, rfl, ht⟩ := evE_avar he
        simp only
        rw [h.vars t (hxx t rfl) k off ht]
      | _ => rfl
theorem Agree.outEff (h : Agree X st st') {l : List Operand} (hx : ∀ x ∈ l, In X x) {outs : List (Nat × List PV)} {e : Eff} : outEff H st.env l outs e = Pm.outEff H st'.env l outs e := by
  cases outs with
  | nil => rfl
  | cons z outs =>
    cases outs with
    | cons _ _ => rfl
    | nil =>
      obtain ⟨j, cells⟩ := z
      simp only [Pm.outEff]
      cases hj : l[j]? with
      | none => rfl
      | some y =>
        cases y with
        | tmp t =>
          simp only
          rw [h.env t (hx _ (List.mem_of_getElem? hj) t rfl)]
        | _ => rfl

/-- What an operation does hangs on what it looks at. -/
theorem pact_congr {o : Oper} (h : Agree X st st') (hx : ∀ t ∈ tmpsOf o.op.operands.toList, t ∈ X) : pact F G H C o st = pact F G H C o st' := by
  have hin : ∀ y, y ∈ o.op.operands.toList → In X y := fun y hy t e => hx t (tmpsOf_mem (e ▸ hy))
  unfold pact
  cases ho : o.op <;> simp only <;> simp only [ho, Op.operands] at hin
  case move x => rw [h.evE (hin x (by simp))]
  case assign x => rw [h.evE (hin x (by simp))]
  case pick c x y => rw [h.evV (hin c (by simp)), h.evV (hin x (by simp)), h.evV (hin y (by simp))]
  case box t x => rw [h.evV (hin x (by simp))]
  case build t parts =>
    cases tyOf G t with
    | none => rfl
    | some i =>
      simp only
      rw [h.fillParts fun x hx' => hin x.2 (by simp; exact ⟨x.1, by simpa using hx'⟩)]
  case buildSlice t n parts =>
    cases elemTy G t with
    | none => rfl
    | some i =>
      simp only
      rw [h.fillElems fun x hx' => hin x.2 (by simp; exact ⟨x.1, by simpa using hx'⟩)]
  case load t x =>
    have hxx := hin x (by simp)
    unfold pLoad
    rw [← h.evE hxx]
    cases tyOf G t with
    | none => rfl
    | some i =>
      cases he : evE st.env x with
      | none => rfl
      | some e => cases e <;> simp only <;> rw [h.loadFrom (G := G) hxx he]
  case store t x y =>
    have hxx := hin x (by simp)
    have hyy := hin y (by simp)
    rw [← h.evV hyy]
    unfold pStore
    rw [← h.evE hxx]
    cases he : evE st.env x with
    | none => rfl
    | some e =>
      cases e with
      | avar k off =>
        obtain ⟨t', rfl, ht⟩ := evE_avar he
        cases evV st.env y with
        | none => rfl
        | some v =>
          simp only
          rw [h.vars t' (hxx t' rfl) k off ht]
      | _ => cases evV st.env y <;> rfl
  case nilCheck x => rw [h.evE (hin x (by simp))]
  case binOp op t x y t' => rw [h.evV (hin x (by simp)), h.evV (hin y (by simp))]
  case unOp op t x => rw [h.evV (hin x (by simp))]
  case convert s t x => rw [h.evV (hin x (by simp))]
  case makeSlice t x y => rw [h.evV (hin x (by simp)), h.evV (hin y (by simp))]
  case slice t x lo hi mx =>
    cases mx with
    | some m => rfl
    | none =>
      simp only
      rw [h.evV (hin x (by simp)), h.optI (x := lo) fun y hy => hin y (by subst hy; simp), h.optI (x := hi) fun y hy => hin y (by subst hy; simp)]
  case fieldAddr t x j => rw [h.evE (hin x (by simp))]
  case field t x j => rw [h.evV (hin x (by simp))]
  case indexAddr t x y => rw [h.evV (hin x (by simp)), h.evV (hin y (by simp))]
  case index t x y => rw [h.evV (hin x (by simp)), h.evV (hin y (by simp))]
  case extract x j => rw [h.evE (hin x (by simp))]
  case call c =>
    obtain ⟨callee, args, ts⟩ := c
    cases callee with
    | invoke r m => rfl
    | builtin b =>
      simp only [Call.operands] at hin
      have ha : ∀ y ∈ args.toList, In X y := fun y hy => hin y (by simp; simpa using hy)
      simp only
      generalize hl : args.toList = l at ha
      unfold pBuiltin
      split
      · rename_i x; rw [h.evV (ha x (by simp))]
      · rename_i x y; rw [h.evV (ha x (by simp)), h.evV (ha y (by simp))]
      · rename_i x y; rw [h.evV (ha x (by simp)), h.evV (ha y (by simp))]
      · rename_i x y; rw [h.evV (ha x (by simp)), h.evV (ha y (by simp))]
      · rename_i h1 h2 h3 h4
        cases b <;> first | rfl | skip
        all_goals (first | rfl | skip)
        all_goals
          cases l with
          | nil => rfl
          | cons x l =>
            cases l with
            | nil => first | rfl | exact absurd rfl (h1 x rfl)
            | cons y l =>
              cases l with
              | nil => first | rfl | exact absurd rfl (h2 x y rfl) | exact absurd rfl (h3 x y rfl) | exact absurd rfl (h4 x y rfl)
              | cons _ _ => rfl
    | value v =>
      cases v with
      | func g =>
        simp only [Call.operands] at hin
        have ha : ∀ y ∈ args.toList, In X y := fun y hy => hin y (by simp; exact .inr (by simpa using hy))
        simp only
        unfold pCall
        rw [h.argsOf ha]
        cases Pm.argsOf st' args.toList with
        | none => rfl
        | some as =>
          simp only
          cases C g as with
          | none => rfl
          | some r =>
            simp only
            cases resEff r.rs with
            | none => rfl
            | some e => exact h.outEff ha
      | _ => rfl
end

/-! ### What it leaves -/
def Eff.simple : Eff → Bool
  | .put _ => true
  | .new _ => true
  | .none => true
  | .outs _ r => r.simple
  | _ => false
def lastOf (k : Nat) : List (Nat × List PV) → Option (List PV)
  | [] => none
  | (j, c) :: r => match lastOf k r with
    | some c' => some c'
    | none => if j = k then some c else none
def effS (d : Option Nat) : Eff → Nat → Option Ent
  | .put e, x => if d = some x then some e else none
  | .new _, x => if d = some x then some (.avar x 0) else none
  | .outs _ r, x => effS d r x
  | _, _ => none
def effV (d : Option Nat) : Eff → Nat → Option (List PV)
  | .new c, k => if d = some k then some c else none
  | .outs l r, k => match effV d r k with | some c => some c | none => lastOf k l
  | _, _ => none
def orE {α : Type} (x y : Option α) : Option α := match x with | some a => some a | none => y

theorem lk_upAll (k : Nat) : ∀ (l vars : List (Nat × List PV)), lk k (upAll l vars) = orE (lastOf k l) (lk k vars)
  | [], _ => rfl
  | (j, c) :: r, vars => by
    simp only [upAll, lastOf]
    rw [lk_upAll k r]
    cases lastOf k r with
    | some c' => rfl
    | none =>
      simp only [orE]
      rw [lk_up]
      by_cases h : j = k
      · subst h; simp
      · simp [h, Ne.symm h]

/-- Two states that hold the same. -/
structure Eqv (st st' : St) : Prop where
  env : ∀ x, lk x st.env = lk x st'.env
  vars : ∀ k, lk k st.vars = lk k st'.vars
theorem Eqv.agree {st st' : St} (h : Eqv st st') (X : List Nat) : Agree X st st' := ⟨fun x _ => h.env x, fun _ _ k _ _ => h.vars k⟩
theorem Eqv.refl (st : St) : Eqv st st := ⟨fun _ => rfl, fun _ => rfl⟩
theorem Eqv.symm {st st' : St} (h : Eqv st st') : Eqv st' st := ⟨fun x => (h.env x).symm, fun x => (h.vars x).symm⟩

theorem papply_simple {F : Alg} {H : Hint} {d : Option Nat} : ∀ {e : Eff} {st st1 : St}, e.simple = true → papply F H d st e = some st1 →
    (∀ x, lk x st1.env = orE (effS d e x) (lk x st.env)) ∧ ∀ k, lk k st1.vars = orE (effV d e k) (lk k st.vars)
  | .put e, st, st1, _, h => by
    cases d with
    | none => simp only [papply, Option.some.injEq] at h; subst h; exact ⟨fun x => rfl, fun k => rfl⟩
    | some t =>
      simp only [papply, Option.some.injEq] at h
      subst h
      refine ⟨fun x => ?_, fun k => rfl⟩
      simp only [effS]
      rw [lk_up]
      by_cases hx : x = t
      · subst hx; simp [orE]
      · simp [hx, Ne.symm hx, orE]
  | .new c, st, st1, _, h => by
    cases d with
    | none => simp only [papply, Option.some.injEq] at h; subst h; exact ⟨fun x => rfl, fun k => rfl⟩
    | some t =>
      simp only [papply, Option.some.injEq] at h
      subst h
      refine ⟨fun x => ?_, fun k => ?_⟩
      · simp only [effS]
        rw [lk_up]
        by_cases hx : x = t
        · subst hx; simp [orE]
        · simp [hx, Ne.symm hx, orE]
      · simp only [effV]
        rw [lk_up]
        by_cases hx : k = t
        · subst hx; simp [orE]
        · simp [hx, Ne.symm hx, orE]
  | .none, st, st1, _, h => by simp only [papply, Option.some.injEq] at h; subst h; exact ⟨fun x => rfl, fun k => rfl⟩
  | .outs l r, st, st1, hs, h => by
    simp only [papply] at h
    obtain ⟨h1, h2⟩ := papply_simple (e := r) hs h
    refine ⟨h1, fun k => ?_⟩
    rw [h2 k]
    simp only [effV]
    cases effV d r k with
    | some c => rfl
    | none => simp only [orE]; rw [lk_upAll]; rfl
  | .elem .., _, _, hs, _ => by cases hs
  | .at .., _, _, hs, _ => by cases hs
  | .elemAt .., _, _, hs, _ => by cases hs
theorem papply_some {F : Alg} {H : Hint} {d : Option Nat} : ∀ {e : Eff} (st : St), e.simple = true → ∃ st1, papply F H d st e = some st1
  | .put e, st, _ => by cases d <;> exact ⟨_, rfl⟩
  | .new c, st, _ => by cases d <;> exact ⟨_, rfl⟩
  | .none, st, _ => ⟨_, rfl⟩
  | .outs l r, st, hs => by simp only [papply]; exact papply_some (e := r) _ hs
  | .elem .., _, hs => by cases hs
  | .at .., _, hs => by cases hs
  | .elemAt .., _, hs => by cases hs

theorem up_eqv {α : Type} {l l' : List (Nat × α)} (h : ∀ x, lk x l = lk x l') (k : Nat) (a : α) : ∀ x, lk x (up k a l) = lk x (up k a l') := fun x => by rw [lk_up, lk_up, h x]
theorem putAt_eqv {st st' st1 : St} (h : Eqv st st') {p : Place} {cells : List PV} (hp : putAt st p cells = some st1) : ∃ st1', putAt st' p cells = some st1' ∧ Eqv st1 st1' := by
  cases p with
  | slot s off =>
    unfold putAt at hp ⊢
    simp only at hp ⊢
    rw [← h.env s]
    cases hv : lk s st.env with
    | none => rw [hv] at hp; cases hp
    | some e =>
      rw [hv] at hp
      cases e <;> try (cases hp; done)
      rename_i v
      simp only at hp ⊢
      cases hcs : over (cellsOf v) off cells with
      | none => rw [hcs] at hp; cases hp
      | some cs =>
        rw [hcs] at hp
        cases hp
        exact ⟨_, rfl, up_eqv h.env _ _, h.vars⟩
  | var k off =>
    unfold putAt at hp ⊢
    simp only at hp ⊢
    rw [← h.vars k]
    cases hv : lk k st.vars with
    | none => rw [hv] at hp; cases hp
    | some v =>
      rw [hv] at hp
      simp only at hp ⊢
      cases hcs : over v off cells with
      | none => rw [hcs] at hp; cases hp
      | some cs =>
        rw [hcs] at hp
        cases hp
        exact ⟨_, rfl, h.env, up_eqv h.vars _ _⟩
theorem leavesAt_eqv {st st' : St} (h : Eqv st st') (p : Place) (n : Nat) : leavesAt st p n = leavesAt st' p n := by
  cases p <;> simp only [leavesAt] <;> first | rw [h.env] | rw [h.vars]
theorem setIn_eqv {F : Alg} {st st' st1 : St} (h : Eqv st st') {p : Place} {i : Int} {off : Nat} {cells : List PV} (hp : setIn F st p i off cells = some st1) : ∃ st1', setIn F st' p i off cells = some st1' ∧ Eqv st1 st1' := by
  unfold setIn at hp ⊢
  rw [← leavesAt_eqv h]
  split at hp
  · rename_i l hl
    split at hp
    · rename_i e he
      split at hp
      · rename_i cs hcs
        obtain ⟨s1, e1, e2⟩ := putAt_eqv h hp
        exact ⟨s1, e1, e2⟩
      · cases hp
    · cases hp
  · cases hp
theorem papply_eqv {F : Alg} {H : Hint} {d : Option Nat} : ∀ {e : Eff} {st st' st1 : St}, Eqv st st' → papply F H d st e = some st1 → ∃ st1', papply F H d st' e = some st1' ∧ Eqv st1 st1'
  | .put e, st, st', st1, h, hp => by
    cases d with
    | none => simp only [papply, Option.some.injEq] at hp ⊢; subst hp; exact ⟨_, rfl, h⟩
    | some t => simp only [papply, Option.some.injEq] at hp ⊢; subst hp; exact ⟨_, rfl, up_eqv h.env _ _, h.vars⟩
  | .new c, st, st', st1, h, hp => by
    cases d with
    | none => simp only [papply, Option.some.injEq] at hp ⊢; subst hp; exact ⟨_, rfl, h⟩
    | some t => simp only [papply, Option.some.injEq] at hp ⊢; subst hp; exact ⟨_, rfl, up_eqv h.env _ _, up_eqv h.vars _ _⟩
  | .none, st, st', st1, h, hp => by simp only [papply, Option.some.injEq] at hp ⊢; subst hp; exact ⟨_, rfl, h⟩
  | .outs l r, st, st', st1, h, hp => by
    simp only [papply] at hp ⊢
    exact papply_eqv (e := r) (st := { st with vars := upAll l st.vars }) (st' := { st' with vars := upAll l st'.vars }) ⟨h.env, fun k => by simp only [lk_upAll, h.vars k]⟩ hp
  | .elem p i off v, st, st', st1, h, hp => by
    simp only [papply] at hp ⊢
    exact setIn_eqv h hp
  | .at p cells r, st, st', st1, h, hp => by
    simp only [papply] at hp ⊢
    split at hp
    · rename_i s1 hs
      obtain ⟨s1', e1, e2⟩ := putAt_eqv h hs
      rw [e1]
      exact papply_eqv (e := r) e2 hp
    · cases hp
  | .elemAt p i off cells r, st, st', st1, h, hp => by
    simp only [papply] at hp ⊢
    split at hp
    · rename_i s1 hs
      obtain ⟨s1', e1, e2⟩ := setIn_eqv h hs
      rw [e1]
      exact papply_eqv (e := r) e2 hp
    · cases hp

section
variable {F : Alg} {G : Env} {H : Hint} {C : FuncId → List Arg → Option Res} {st st' st1 : St}

theorem guardOf_congr {ops : List Oper} {o : Oper} (h : ∀ x ∈ guardSlot ops o, lk x st.env = lk x st'.env) : guardOf ops st o.guard = guardOf ops st' o.guard := by
  unfold guardSlot at h
  cases hg : o.guard with
  | none => rfl
  | some jw =>
    obtain ⟨j, want⟩ := jw
    simp only [hg] at h
    simp only [guardOf]
    cases hj : ops[j]? with
    | none => rfl
    | some g =>
      simp only [hj] at h
      simp only
      cases hd : g.dst with
      | none => rfl
      | some d =>
        rw [hd] at h
        simp only
        rw [h d (by simp)]

/-- A guarded operation in an equal state. -/
theorem gstep_eqv {ops : List Oper} {o : Oper} (h : Eqv st st') (hp : gstep F G H C ops o st = some st1) : ∃ st1', gstep F G H C ops o st' = some st1' ∧ Eqv st1 st1' := by
  unfold gstep at hp ⊢
  rw [← guardOf_congr (o := o) (ops := ops) fun x _ => h.env x]
  split at hp
  · rename_i b hb
    cases b with
    | true =>
      simp only at hp ⊢
      unfold pstep at hp ⊢
      rw [← pact_congr (X := tmpsOf o.op.operands.toList) (h.agree _) fun t ht => ht]
      split at hp
      · rename_i e he
        exact papply_eqv h hp
      · cases hp
    | false =>
      simp only [Option.some.injEq] at hp ⊢
      subst hp
      refine ⟨_, rfl, ?_⟩
      unfold undefd
      cases o.dst with
      | none => exact h
      | some t => exact ⟨fun x => by simp only [lk_dl, h.env x], h.vars⟩
  · cases hp

/-- A guarded operation whose effect is simple, in a state that agrees where it looks. -/
theorem gstep_agree {ops : List Oper} {o : Oper} (hg : ∀ x ∈ guardSlot ops o, lk x st.env = lk x st'.env) (h : Agree (tmpsOf o.op.operands.toList) st st') (hp : gstep F G H C ops o st = some st1) (hs : ∀ e, pact F G H C o st = some e → e.simple = true) :
    ∃ st1', gstep F G H C ops o st' = some st1' ∧ ((∃ e, pact F G H C o st = some e ∧ (∀ x, lk x st1.env = orE (effS o.dst e x) (lk x st.env)) ∧ (∀ x, lk x st1'.env = orE (effS o.dst e x) (lk x st'.env)) ∧
      (∀ k, lk k st1.vars = orE (effV o.dst e k) (lk k st.vars)) ∧ (∀ k, lk k st1'.vars = orE (effV o.dst e k) (lk k st'.vars))) ∨ (st1 = undefd o.dst st ∧ st1' = undefd o.dst st')) := by
  unfold gstep at hp ⊢
  rw [← guardOf_congr (o := o) (ops := ops) hg]
  split at hp
  · rename_i b hb
    cases b with
    | true =>
      simp only at hp ⊢
      unfold pstep at hp ⊢
      have hc := pact_congr (F := F) (G := G) (H := H) (C := C) (X := tmpsOf o.op.operands.toList) h fun t ht => ht
      rw [← hc]
      split at hp
      · rename_i e he
        obtain ⟨st1', h1⟩ := papply_some (F := F) (H := H) (d := o.dst) st' (hs e he)
        obtain ⟨a1, a2⟩ := papply_simple (hs e he) hp
        obtain ⟨b1, b2⟩ := papply_simple (hs e he) h1
        exact ⟨st1', h1, .inl ⟨e, he, a1, b1, a2, b2⟩⟩
      · cases hp
    | false =>
      simp only [Option.some.injEq] at hp ⊢
      subst hp
      exact ⟨_, rfl, .inr ⟨rfl, rfl⟩⟩
  · cases hp
end
end Go.Pm
