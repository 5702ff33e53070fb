/-
  A call that writes nothing of what it is handed.
-/
import Derived.Test.YtokpfnfmoakojaaPmCall
namespace Go.Pm
open Go

def Wit.addF (u : Wit) (Z : Nat → Nat → Prop) : Wit := { u with S := fun t b => u.S t b ∨ Z t b }
/-- New blocks, of many groups. -/
theorem Rel.addF {f : Fix} {u : Wit} {st : St} {σ : SG} {a : Act} {w : World} (h : Rel f u st σ a w) (Z : Nat → Nat → Prop) (h1 : ∀ t b, Z t b → b < w.heap.size) (h2 : ∀ t b, Z t b → f.W0.heap.size ≤ b)
    (h3 : ∀ t b, Z t b → ∀ t', ¬ u.S t' b) (h4 : ∀ t b, Z t b → ∀ k c s, lk k st.vars = some c → lk k σ.vars = some s → u.β k ≠ b) (h5 : ∀ t b, Z t b → ∃ cur el, w.heap[b]? = some (.cells cur el (0, 0)))
    (h6 : ∀ t t' b, Z t b → Z t' b → t = t') : Rel f (u.addF Z) st σ a w :=
  { h with
    leaf := fun x hx => ⟨fun q hq => .inl ((h.leaf x hx).tag q hq), (h.leaf x hx).lin, (h.leaf x hx).own, (h.leaf x hx).row, (h.leaf x hx).name⟩
    apart := fun t1 t2 b hne => by
      rintro (a | a) (c | c)
      · exact h.apart _ _ _ hne a c
      · exact h3 _ b c _ a
      · exact h3 _ b a _ c
      · exact hne (h6 _ _ _ a c)
    inW := fun t b => by
      rintro (a | a)
      · exact h.inW _ _ a
      · exact h1 _ b a
    mine := fun t b hne => by
      rintro (a | a)
      · exact h.mine _ _ hne a
      · exact .inl (h2 _ b a)
    mem := fun t b hne => by
      rintro (a | a)
      · exact h.mem _ _ hne a
      · exact h5 _ b a
    old := fun b => by
      rintro (a | a)
      · exact h.old b a
      · exact .inr (.inl (h2 _ b a))
    varNot := fun k c s t hk hs => by
      rintro (a | a)
      · exact h.varNot k c s t hk hs a
      · exact h4 _ _ a k c s hk hs rfl
    globs := fun g cs hg => by
      obtain ⟨vs, oss, h1, h2, h4, h3⟩ := h.globs g cs hg
      exact ⟨vs, oss, h1, h2, .inl h4, fun q hq => .inl (h3 q hq)⟩ }

theorem nameT_pos {n m t : Nat} (h : t ≠ 0) : nameT n m t ≠ 0 := by
  cases t with
  | zero => exact absurd rfl h
  | succ t => simp [nameT]

/-- The leaves of a result under the caller's names. -/
theorem named_leaf {Ty : Nat → TyK} {w : World} {n m : Nat} : ∀ {ks : List LK} {ps : List PV} {lfs : List Lf}, RdL Ty w ks (lfs.map (·.v)) ps (lfs.map (·.os)) → ∀ x ∈ relab (nameLIs n m ks (lfs.map (·.li))) lfs,
    ∃ y ∈ lfs, x.v = y.v ∧ x.os = y.os ∧ ((x.li = nameLI n m y.li ∧ (∀ q ∈ y.tq, q.1 = 0 → foreign ks (lfs.map (·.li)) = true)) ∨ (x.li = scal ∧ y.os = []))
  | _, _, [], h, x, hx => by
    cases h
    simp [nameLIs, relab] at hx
  | _, _, y :: lfs, h, x, hx => by
    simp only [List.map_cons] at h
    cases h with
    | @cons k _ _ _ ks _ ps _ h r =>
      simp only [List.map_cons, nameLIs, relab] at hx
      rcases List.mem_cons.1 hx with rfl | hx
      · refine ⟨y, by simp, rfl, rfl, ?_⟩
        cases hk : isSl k with
        | false => exact .inr ⟨rfl, h.noSlice hk⟩
        | true =>
          refine .inl ⟨rfl, fun q hq h0 => ?_⟩
          simp only [List.map_cons, foreign, hk]
          have : q.1 = y.li.tag ∨ q.1 = y.li.dt := by
            unfold Lf.tq at hq
            cases hos : y.os with
            | nil => rw [hos] at hq; cases hq
            | cons a r =>
              rw [hos] at hq
              rcases List.mem_cons.1 hq with rfl | hq
              · exact .inl rfl
              · obtain ⟨z, _, rfl⟩ := List.mem_map.1 hq; exact .inr rfl
          cases h1 : Nat.beq y.li.tag 0 with
          | true => rfl
          | false => cases h2 : Nat.beq y.li.dt 0 with
            | true => rfl
            | false =>
              rcases this with e | e
              · exact absurd (e.symm.trans h0) (beq_ne.1 h1)
              · exact absurd (e.symm.trans h0) (beq_ne.1 h2)
      · obtain ⟨z, hz, e1, e2, e3⟩ := named_leaf r x hx
        refine ⟨z, List.mem_cons_of_mem _ hz, e1, e2, e3.imp (fun ⟨g1, g2⟩ => ⟨g1, fun q hq h0 => ?_⟩) id⟩
        have := g2 q hq h0
        simp only [List.map_cons, foreign]
        cases isSl k with
        | false => exact this
        | true =>
          cases Nat.beq y.li.tag 0 <;> cases Nat.beq y.li.dt 0 <;> first | rfl | exact this

theorem nameLIs_len {n m : Nat} : ∀ {ks : List LK} {ls : List LI}, ks.length = ls.length → (nameLIs n m ks ls).length = ls.length
  | [], [], _ => rfl
  | _ :: ks, _ :: ls, h => by simp [nameLIs, nameLIs_len (ks := ks) (ls := ls) (by simpa using h)]
  | [], _ :: _, h => by simp at h
  | _ :: _, [], h => by simp at h

theorem scal_leaf {Ty : Nat → TyK} {w : World} {n m : Nat} : ∀ {ks : List LK} {ps : List PV} {lfs : List Lf} {lis : List LI}, RdL Ty w ks (lfs.map (·.v)) ps (lfs.map (·.os)) → anySl ks = false → ∀ x ∈ relab (nameLIs n m ks lis) lfs, x.li = scal ∧ x.os = []
  | _, _, [], lis, h, _, x, hx => by
    cases h
    simp [nameLIs, relab] at hx
  | _, _, y :: lfs, [], h, _, x, hx => by
    simp only [List.map_cons] at h
    cases h
    simp [nameLIs, relab] at hx
  | _, _, y :: lfs, li :: lis, h, hs, x, hx => by
    simp only [List.map_cons] at h
    cases h with
    | @cons k _ _ _ ks _ ps _ h r =>
      simp only [anySl] at hs
      cases hk : isSl k with
      | true => rw [hk] at hs; cases hs
      | false =>
        rw [hk] at hs
        simp only [nameLIs, hk, relab] at hx
        rcases List.mem_cons.1 hx with rfl | hx
        · exact ⟨rfl, h.noSlice hk⟩
        · exact scal_leaf r hs x hx

/-- A leaf of a result, as the caller knows it. -/
structure NamedLf (res : List (Bool × List LK × List LI)) (n m : Nat) (x y : Lf) : Prop where
  v : x.v = y.v
  os : x.os = y.os
  li : (x.li = nameLI n m y.li ∧ (∀ q ∈ y.tq, q.1 = 0 → anyForeign res = true)) ∨ (x.li = scal ∧ y.os = [])

theorem foreign_any {res : List (Bool × List LK × List LI)} {x : Bool × List LK × List LI} (hx : x ∈ res) (h : foreign x.2.1 x.2.2 = true) : anyForeign res = true := by
  induction res with
  | nil => cases hx
  | cons y r ih =>
    simp only [anyForeign]
    rcases List.mem_cons.1 hx with rfl | hx
    · rw [h]
    · cases foreign y.2.1 y.2.2 with
      | true => rfl
      | false => exact ih hx

/-- The results as an entry of the caller's. -/
theorem res_entry {Ty : Nat → TyK} {β : Nat → Nat} {w : World} {n m : Nat} {res0 res : List (Bool × List LK × List LI)} (hsub : ∀ x ∈ res, x ∈ res0) {rvs : List Value} {rs : List RV} {ll : List (List Lf)} (h : ResOut Ty w res rvs rs ll) :
    ∃ nl : List Lf, ∃ vs, vals rs = some vs ∧ TupOk Ty w (res.map (namePart n m)) rvs vs nl ∧ (∀ x ∈ nl, ∃ y ∈ ll.flatten, NamedLf res0 n m x y) ∧ (noSlRes res = true → ∀ x ∈ nl, x.li = scal ∧ x.os = []) ∧
      (∀ agg ks ls, res = [(agg, ks, ls)] → ∃ v pv, rvs = [v] ∧ vs = [pv] ∧ EntOk Ty β w v (.val pv) (.val agg ks (nameLIs n m ks ls)) nl) := by
  induction h with
  | nil => exact ⟨[], [], rfl, .nil, (fun _ hx => by cases hx), (fun _ _ hx => by cases hx), (fun _ _ _ e => by cases e)⟩
  | @cons agg ks ls v pv lfs r vs rs ll h hl t ih =>
    obtain ⟨nl, vs', e1, e2, e3, e4, _⟩ := ih fun x hx => hsub x (List.mem_cons_of_mem _ hx)
    have hlen : (nameLIs n m ks ls).length = lfs.length := by
      rw [nameLIs_len (by rw [← hl]; have := h.1.len.1; simpa using this.symm), ← hl]; simp
    have hlf : ∀ x ∈ relab (nameLIs n m ks ls) lfs, ∃ y ∈ (lfs :: ll).flatten, NamedLf res0 n m x y := fun x hx => by
      rw [← hl] at hx
      obtain ⟨y, hy, g1, g2, g3⟩ := named_leaf h.1 x hx
      refine ⟨y, List.mem_flatten.2 ⟨lfs, by simp, hy⟩, g1, g2, g3.imp (fun ⟨k1, k2⟩ => ⟨k1, fun q hq h0 => ?_⟩) id⟩
      have := k2 q hq h0
      rw [hl] at this
      exact foreign_any (x := (agg, ks, ls)) (hsub _ (by simp)) this
    refine ⟨relab (nameLIs n m ks ls) lfs ++ nl, pv :: vs', by simp [vals, e1], ?_, fun x hx => ?_, fun hns x hx => ?_, fun agg' ks' ls' e => ?_⟩
    · rw [List.map_cons]
      exact .cons (by rw [relab_v hlen, relab_os hlen]; exact h) (relab_li hlen) e2
    · rcases List.mem_append.1 hx with hx | hx
      · exact hlf x hx
      · obtain ⟨y, hy, g⟩ := e3 x hx
        exact ⟨y, by rw [List.flatten_cons]; exact List.mem_append_right _ hy, g⟩
    · simp only [noSlRes] at hns
      split at hns
      · cases hns
      · rename_i hs0
        rcases List.mem_append.1 hx with hx | hx
        · exact scal_leaf h.1 hs0 x hx
        · exact e4 hns x hx
    · cases e
      cases t
      cases e2
      refine ⟨v, pv, rfl, rfl, ?_⟩
      rw [List.append_nil]
      exact .val (by rw [relab_v hlen, relab_os hlen]; exact h) (relab_li hlen)

section
variable {B : Base} {G : Env} {K : CEnv} {f : Fix} {H : Hint} {C : FuncId → List Arg → Option Res} {u : Wit} {st st' : St} {σ σ' : SG} {a : Act} {w : World} {o : Oper}

theorem exec_call {P : Program} {g : FuncId} {args : Array Operand} {ts : Array TypeId} (ho : o.op = .call ⟨.value (.func g), args, ts⟩) (he : Enters P g) : (execOp a.eval o).run P w = .ok (.enter g (args.map a.eval)) w := by
  have h1 : (Deferred.ofValue (a.eval (.func g)) (args.map a.eval)) = pure { target := .fn (.func g) #[], args := #[] ++ args.map a.eval } := rfl
  unfold execOp
  simp only [ho, Sem.run_bind, resolve, h1, Sem.run_pure, Result.andThen_ok, invoke]
  rw [he]
  simp

/-- What a call asks of its caller: the goal, out of what holds behind it. -/
theorem call_goal {P : Program} {g : FuncId} {args : Array Operand} {ts : Array TypeId} (ho : o.op = .call ⟨.value (.func g), args, ts⟩) (he : Enters P g) {R : Value → World → Prop}
    (hc : Calls P g (args.map a.eval) w fun e w' => ∃ v, e = .returned v ∧ R v w') (hr : ∀ v w', R v w' → ∃ u', Rel f u' st' σ' (a.put o.dst v) w') : Goal P f o a w st' σ' := by
  intro next Q hn
  unfold Oper.wp
  rw [exec_call ho he]
  refine Calls.mono hc fun e w' => ?_
  rintro ⟨v, rfl, hR⟩
  obtain ⟨u', hr'⟩ := hr v w' hR
  exact hn u' _ _ hr'

/-- The caller's state behind a call that wrote nothing: the results are put. -/
theorem put_results (h : Rel f u st σ a w) {f' : Fix} {u2 : Wit} {st2 : St} {σ2 : SG} {a2 : Act} {w' : World} (hf1 : f'.W0 = w) {S0 : Nat → Nat → Prop} (hX : f'.X = fun b => ∃ t, t ≠ 0 ∧ S0 t b) (hf3 : f'.S0 = S0 0) (h2 : Rel f' u2 st2 σ2 a2 w')
    {A : List Nat} (hS0 : ∀ t b, S0 t b → t = 0 ∧ ∃ x ∈ A, u.S x b) {n m : Nat} {res : List (Bool × List LK × List LI)} {rvs : List Value} {rs : List RV} {ll : List (List Lf)} (hres : ResOut f.Ty w' res rvs rs ll) (hll : ∀ l ∈ ll, ∀ x ∈ l, Live u2 st2 σ2 x)
    {ρ : List Ren} (hρ : (anyForeign res = false ∧ ρ = []) ∨ (anyForeign res = true ∧ ρ = [⟨A, m, false⟩] ∧ (memN 0 A = true → m = 0)))
    {d : Option Nat} {e : Eff} (he : resEff rs = some e) (hp : papply stdF H d st e = some st') (hc : capply f.N d σ (.put ρ (resSI n m res)) = some σ') : ∃ u', Rel f u' st' σ' (a.put d (retVal rvs)) w' := by
  have hgr : Grows w w' := ⟨fun b hb => by
      have := h2.frame b (by rw [hf1]; exact hb) (by rw [hX]; rintro ⟨t, ht, hs⟩; exact ht (hS0 t b hs).1)
      rw [hf1] at this; exact this, by have := h2.size; rw [hf1] at this; exact this, by have := h2.os; rw [hf1] at this; exact this, by have := h2.tape; rw [hf1] at this; exact this, by have := h2.output; rw [hf1] at this; exact this⟩
  -- the blocks of the results: old ones are of the group 0
  have hold : ∀ t b, u2.S t b → w.heap.size ≤ b ∨ (t = 0 ∧ b < w.heap.size ∧ ∃ x ∈ A, u.S x b) := fun t b ht => by
    by_cases h0 : t = 0
    · subst h0
      rcases h2.old b ht with g | g | g
      · rw [hf3] at g
        obtain ⟨_, x, hx, hs⟩ := hS0 0 b g
        exact .inr ⟨rfl, h.inW x b hs, x, hx, hs⟩
      · rw [hf1] at g; exact .inl g
      · rw [hX] at g; obtain ⟨t, ht, hs⟩ := g; exact absurd (hS0 t b hs).1 ht
    · rcases h2.mine t b h0 ht with g | g
      · rw [hf1] at g; exact .inl g
      · rw [hX] at g; obtain ⟨t, ht, hs⟩ := g; exact absurd (hS0 t b hs).1 ht
  obtain ⟨u1, h1, hlive1, hwas, hu1, hvar1⟩ : ∃ u1, Rel f u1 st (rens σ ρ) a w' ∧ (anyForeign res = true → ∀ x ∈ A, ∀ b, u.S x b → u1.S m b) ∧
      (∀ x, Live u1 st (rens σ ρ) x → (∀ p ∈ x.tq, p.2.1 < w.heap.size) ∧ (anyForeign res = true → x.li.own = true → ∀ hh, x.head = some hh → ∀ y ∈ A, ¬ u.S y hh.1)) ∧
      (∀ t b, u1.S t b → b < w.heap.size) ∧ (∀ k c s, lk k st.vars = some c → lk k (rens σ ρ).vars = some s → u1.β k < w.heap.size) := by
    have hg := h.grows hgr
    rcases hρ with ⟨e1, rfl⟩ | ⟨e1, rfl, e2⟩
    · refine ⟨u, hg, fun e => (by rw [e1] at e; cases e), fun x hx => ⟨fun p hp => h.inW _ _ ((h.leaf x hx).tag p hp), fun e => (by rw [e1] at e; cases e)⟩, h.inW, fun k c s h1 h2 => ?_⟩
      obtain ⟨el, cur, g, _⟩ := h.var k c s h1 h2
      exact (Array.getElem?_eq_some_iff.1 g).1
    · refine ⟨_, hg.ren ⟨A, m, false⟩ e2, fun _ x hx b hb => ⟨x, by simp only [Ren.tag, memN_iff.2 hx], hb⟩, fun x hx => ?_, fun t b => ?_, fun k c s h1 h2 => ?_⟩
      · obtain ⟨y, hy, rfl⟩ := Ren.live hx
        refine ⟨fun p hp => ?_, fun _ ho hh he1 z hz hs => ?_⟩
        · obtain ⟨p0, hp0, rfl⟩ := Ren.tq _ y hp
          exact h.inW _ _ ((h.leaf y hy).tag p0 hp0)
        · simp only [Ren.lf, Ren.li, Bool.and_eq_true, Bool.false_and, Bool.or_false] at ho
          have h3 := (h.leaf y hy).tag _ (head_mem (x := y) (h := hh) he1)
          have : y.li.tag = z := by
            by_cases e3 : y.li.tag = z
            · exact e3
            · exact absurd hs (h.apart _ _ _ e3 h3)
          have h4 := ho.2
          rw [this, memN_iff.2 hz] at h4
          cases h4
      · rintro ⟨t0, _, ht⟩
        exact h.inW t0 b ht
      · obtain ⟨s0, hs0, rfl⟩ := Ren.lkV _ h2
        obtain ⟨el, cur, g, _⟩ := h.var k c s0 h1 hs0
        exact (Array.getElem?_eq_some_iff.1 g).1
  have h3 := h1.addF (fun t b => ∃ t', u2.S t' b ∧ w.heap.size ≤ b ∧ t = nameT n m t') (fun t b ⟨t', g1, g2, _⟩ => h2.inW t' b g1) (fun t b ⟨t', g1, g2, _⟩ => Nat.le_trans h.size g2)
    (fun t b ⟨t', g1, g2, _⟩ t1 ht => absurd (hu1 t1 b ht) (by omega)) (fun t b ⟨t', g1, g2, _⟩ k c s k1 k2 e => absurd (hvar1 k c s k1 k2) (by omega))
    (fun t b ⟨t', g1, g2, _⟩ => h2.mem t' b (.inr (by rw [hf1]; exact g2)) g1)
    (fun t t' b ⟨t1, g1, _, g2⟩ ⟨t2, g3, _, g4⟩ => by
      have : t1 = t2 := by
        by_cases e : t1 = t2
        · exact e
        · exact absurd g3 (h2.apart _ _ _ e g1)
      rw [g2, g4, this])
  generalize hu3 : u1.addF (fun t b => ∃ t', u2.S t' b ∧ w.heap.size ≤ b ∧ t = nameT n m t') = u3 at h3
  have hlive3 : ∀ x, Live u3 st (rens σ ρ) x → Live u1 st (rens σ ρ) x := fun x hx => by subst hu3; exact hx
  obtain ⟨nl, vs, hvs, htup, hnl, _, hone⟩ := res_entry (β := u3.β) (n := n) (m := m) (res0 := res) (fun _ h => h) hres
  -- a new leaf: where its blocks lie
  have htq : ∀ x y, NamedLf res n m x y → ∀ p ∈ x.tq, ∃ p0 ∈ y.tq, p.2 = p0.2 ∧ p.1 = nameT n m p0.1 ∧ (p0.1 = 0 → anyForeign res = true) := fun x y hxy p hp => by
    rcases hxy.li with ⟨g1, g2⟩ | ⟨_, g2⟩
    · unfold Lf.tq at hp
      rw [hxy.os, g1] at hp
      cases hos : y.os with
      | nil => rw [hos] at hp; cases hp
      | cons q r =>
        rw [hos] at hp
        rcases List.mem_cons.1 hp with rfl | hp
        · have hm : (y.li.tag, q) ∈ y.tq := by unfold Lf.tq; rw [hos]; exact List.mem_cons_self
          exact ⟨_, hm, rfl, rfl, g2 _ hm⟩
        · obtain ⟨z, hz, rfl⟩ := List.mem_map.1 hp
          have hm : (y.li.dt, z) ∈ y.tq := by unfold Lf.tq; rw [hos]; exact List.mem_cons_of_mem _ (List.mem_map.2 ⟨z, hz, rfl⟩)
          exact ⟨_, hm, rfl, rfl, g2 _ hm⟩
    · unfold Lf.tq at hp
      rw [hxy.os, g2] at hp
      cases hp
  have hlv : ∀ y ∈ ll.flatten, Live u2 st2 σ2 y := fun y hy => by
    obtain ⟨l, h1, h2⟩ := List.mem_flatten.1 hy
    exact hll l h1 y h2
  have hS3 : ∀ x y, NamedLf res n m x y → Live u2 st2 σ2 y → ∀ p ∈ x.tq, u3.S p.1 p.2.1 := fun x y hxy hy p hp => by
    obtain ⟨p0, g1, g2, g3, g4⟩ := htq x y hxy p hp
    have hs := (h2.leaf y hy).tag p0 g1
    rw [g3, g2]
    subst hu3
    rcases hold _ _ hs with g | ⟨g5, _, z, hz, g7⟩
    · exact .inr ⟨_, hs, g, rfl⟩
    · refine .inl ?_
      rw [g5]
      exact hlive1 (g4 g5) z hz _ g7
  have hown : ∀ x y, NamedLf res n m x y → x.li.own = true → y.li.own = true ∧ x.li.tag = nameT n m y.li.tag := fun x y hxy ho => by
    rcases hxy.li with ⟨g1, _⟩ | ⟨g1, _⟩
    · rw [g1] at ho ⊢; exact ⟨ho, rfl⟩
    · rw [g1] at ho; cases ho
  have hleaf : ∀ x ∈ nl, LeafOk f u3 w' x := fun x hx => by
    obtain ⟨y, hy, hxy⟩ := hnl x hx
    have hyl := hlv y hy
    have hyk := h2.leaf y hyl
    refine ⟨hS3 x y hxy hyl, fun hl => ?_, fun ho => ?_, fun ho => by rw [hxy.v, hxy.os]; exact hyk.row (hown x y hxy ho).1, fun hi => ?_⟩
    · rw [hxy.os]
      rcases hxy.li with ⟨g1, _⟩ | ⟨g1, g2⟩
      · exact hyk.lin (by rw [g1] at hl; exact hl)
      · rw [g2]; simp
    · obtain ⟨k1, k2⟩ := hown x y hxy ho
      obtain ⟨k3, k4⟩ := hyk.own k1
      rw [k2, hxy.v, hxy.os]
      exact ⟨nameT_pos k3, k4⟩
    · exfalso
      rcases hxy.li with ⟨g1, _⟩ | ⟨g1, _⟩ <;> rw [g1] at hi <;> exact hi rfl
  have hhead : ∀ x y, NamedLf res n m x y → x.head = y.head := fun x y hxy => by unfold Lf.head; rw [hxy.v, hxy.os]
  have hpair : ∀ x y, (x ∈ nl ∨ Live u3 st (rens σ ρ) x) → (y ∈ nl ∨ Live u3 st (rens σ ρ) y) → x.li.own = true → ∀ p ∈ y.tq, p.1 = x.li.tag → ∀ hh, x.head = some hh → p.2.1 = hh.1 → p.2.2 ≤ hh.2 := fun x y hx hy ho p hp ht hh he1 he2 => by
    rcases hx with hx | hx
    · obtain ⟨x0, hx0, hxx⟩ := hnl x hx
      obtain ⟨k1, k2⟩ := hown x x0 hxx ho
      have hx0l := hlv x0 hx0
      have hh0 : x0.head = some hh := by rw [← hhead x x0 hxx]; exact he1
      have hsx := (h2.leaf x0 hx0l).tag _ (head_mem hh0)
      have htag := ((h2.leaf x0 hx0l).own k1).1
      have hbig : w.heap.size ≤ hh.1 := by
        rcases hold _ _ hsx with g | ⟨g, _⟩
        · exact g
        · exact absurd g htag
      rcases hy with hy | hy
      · obtain ⟨y0, hy0, hyy⟩ := hnl y hy
        obtain ⟨p0, g1, g2, g3, g4⟩ := htq y y0 hyy p hp
        have hy0l := hlv y0 hy0
        have hsy := (h2.leaf y0 hy0l).tag p0 g1
        rw [g2] at he2 ⊢
        have : p0.1 = x0.li.tag := by
          by_cases e : p0.1 = x0.li.tag
          · exact e
          · rw [he2] at hsy; exact absurd hsx (h2.apart _ _ _ e hsy)
        exact h2.pair x0 y0 hx0l hy0l k1 p0 g1 this hh hh0 he2
      · have := (hwas y (hlive3 y hy)).1 p hp
        omega
    · rcases hy with hy | hy
      · obtain ⟨y0, hy0, hyy⟩ := hnl y hy
        obtain ⟨p0, g1, g2, g3, g4⟩ := htq y y0 hyy p hp
        have hsy := (h2.leaf y0 (hlv y0 hy0)).tag p0 g1
        have hx1 := hlive3 x hx
        have hlt := (hwas x hx1).1 _ (head_mem he1)
        rw [g2] at he2
        rcases hold _ _ hsy with g | ⟨g, _, z, hz, g7⟩
        · simp only at hlt; omega
        · exfalso
          rw [he2] at g7
          exact (hwas x hx1).2 (g4 g) ho hh he1 z hz g7
      · exact h3.pair x y hx hy ho p hp ht hh he1 he2
  -- the slot
  cases d with
  | none =>
    have hst : st' = st := by
      unfold resEff at he
      split at he
      · cases he; simpa [papply] using hp.symm
      · rename_i cells; cases hres
      · split at he
        · cases he; simpa [papply] using hp.symm
        · cases he
    simp only [capply, Option.some.injEq] at hc
    subst hc; subst hst
    exact ⟨u3, h3⟩
  | some t =>
    simp only [capply] at hc
    split at hc
    · rename_i hb
      cases hc
      have fin : ∀ (en : Ent), e = .put en → EntOk f.Ty u3.β w' (retVal rvs) en (resSI n m res) nl → ∃ u', Rel f u' st' { rens σ ρ with slots := up t (resSI n m res) (rens σ ρ).slots } (a.put (some t) (retVal rvs)) w' := fun en hen hent => by
        subst hen
        simp only [papply, Option.some.injEq] at hp
        subst hp
        exact ⟨_, h3.putG (Nat.blt_eq.mp hb) hent hleaf hpair⟩
      cases hres with
      | nil =>
        simp only [resEff, vals, Option.some.injEq] at he
        subst he
        exact fin _ rfl (.tup (by simpa [vals] using (by cases hvs; exact htup)))
      | @cons agg ks ls v pv lfs r vs' rs' ll' hh hl tt =>
        cases tt with
        | nil =>
          simp only [resEff, Option.some.injEq] at he
          subst he
          obtain ⟨v', pv', e1, e2, e3⟩ := hone agg ks ls rfl
          cases e1
          simp only [vals, Option.some.injEq] at hvs
          rw [e2] at hvs
          cases hvs
          exact fin _ rfl e3
        | @cons agg2 ks2 ls2 v2 pv2 lfs2 r2 vs2 rs2 ll2 hh2 hl2 tt2 =>
          have he' : e = .put (.tup vs) := by
            unfold resEff at he
            simp only at he
            rw [hvs] at he
            simpa using he.symm
          exact fin _ he' (.tup (by simpa using htup))
    · cases hc

/-- A call that writes nothing. -/
theorem callA_ok (h : Rel f u st σ a w) (hT : f.Ty = B.Ty) {g : FuncId} {args : Array Operand} {ts : Array TypeId} (ho : o.op = .call ⟨.value (.func g), args, ts⟩) (he : Enters B.P g) {sg : GSig} (hw : anyWr sg.params = false)
    {A : List Nat} {n : Nat} (hn : n ≠ 0) (hA : cArgsA σ n sg.params args.toList = some A) (hgl : sg.glob = true → f.globs = B.globs ∧ f.gks = B.gks) {as : List Arg} (has : argsOf st args.toList = some as) {r : Res} (hs : CallSpec B sg g as r)
    {e ef : Eff} (hre : resEff r.rs = some e) (hout : outEff H st.env args.toList r.outs e = some ef) (hp : papply stdF H o.dst st ef = some st') {m : Nat} {ρ : List Ren}
    (hρ : (anyForeign sg.res = false ∧ ρ = []) ∨ (anyForeign sg.res = true ∧ ρ = [⟨(match sg.glob with | true => 0 :: A | false => A), m, false⟩] ∧ (memN 0 (match sg.glob with | true => 0 :: A | false => A) = true → m = 0)))
    (hc : capply f.N o.dst σ (.put ρ (resSI n m sg.res)) = some σ') : Goal B.P f o a w st' σ' := by
  generalize hA' : (match sg.glob with | true => 0 :: A | false => A) = A' at hρ
  have hsub : ∀ t ∈ A, t ∈ A' := fun t ht => by
    subst hA'
    cases sg.glob with
    | true => exact List.mem_cons_of_mem _ ht
    | false => exact ht
  obtain ⟨lfss, hin⟩ := args_A (S0 := fun t b => t = 0 ∧ ∃ x ∈ A', u.S x b) h hn hA hw has fun t ht b hb => ⟨rfl, t, hsub t ht, hb⟩
  rw [hT] at hin
  have hcall := hs w (fun t b => t = 0 ∧ ∃ x ∈ A', u.S x b) _ lfss hin (fun t t' b hne h1 h2 => hne (h1.1.trans h2.1.symm)) (fun t b ⟨_, x, _, hx⟩ => h.inW x b hx) (fun t b hne h1 => absurd h1.1 hne)
    (fun hg => by
      obtain ⟨g1, g2⟩ := hgl hg
      refine ⟨fun gl cs hcs => ?_⟩
      obtain ⟨vs, oss, k1, k2, k3, k4⟩ := h.globs gl cs (by rw [g1]; exact hcs)
      rw [hT, g2] at k2
      have h0 : (0 : Nat) ∈ A' := by subst hA'; rw [hg]; exact List.mem_cons_self
      exact ⟨vs, oss, k1, k2, ⟨rfl, 0, h0, k3⟩, fun q hq => ⟨rfl, 0, h0, k4 q hq⟩⟩)
  have hargs : (args.toList.map a.eval).toArray = args.map a.eval := by rw [← Array.toList_inj]; simp
  rw [hargs] at hcall
  refine call_goal ho he (R := fun v w' => ∃ rvs, v = retVal rvs ∧ ∃ (f' : Fix) (u2 : Wit) (st2 : St) (σ2 : SG) (a2 : Act) (ll : List (List Lf)),
      f'.W0 = w ∧ (f'.X = fun b => ∃ t, t ≠ 0 ∧ (t = 0 ∧ ∃ x ∈ A', u.S x b)) ∧ (f'.S0 = fun b => (0 : Nat) = 0 ∧ ∃ x ∈ A', u.S x b) ∧ Rel f' u2 st2 σ2 a2 w' ∧ ResOut B.Ty w' sg.res rvs r.rs ll ∧ (∀ l ∈ ll, ∀ x ∈ l, Live u2 st2 σ2 x) ∧ OutsOk B.Ty w' 0 sg.params lfss r.outs) ?_ ?_
  · refine Calls.mono hcall fun e w' => ?_
    rintro ⟨rvs, rfl, h⟩
    exact ⟨_, rfl, rvs, rfl, h⟩
  · rintro v w' ⟨rvs, rfl, f', u2, st2, σ2, a2, ll, e1, e2, e3, e4, e5, e6, e7⟩
    have hno : ∀ {j : Nat} {ps : List PSig} {ll : List (List Lf)} {outs : List (Nat × List PV)}, OutsOk B.Ty w' j ps ll outs → anyWr ps = false → outs = [] := fun h => by
      induction h with
      | nil => intro _; rfl
      | skip hw _ ih => intro h; simp only [anyWr, hw] at h; exact ih h
      | wr hw _ _ => intro h; simp [anyWr, hw] at h
    rw [hno e7 hw] at hout
    simp only [outEff, Option.some.injEq] at hout
    subst hout
    exact put_results h e1 (S0 := fun t b => t = 0 ∧ ∃ x ∈ A', u.S x b) e2 e3 e4 (fun t b h => h) (by rw [hT]; exact e5) e6 hρ hre hp hc
end
end Go.Pm
