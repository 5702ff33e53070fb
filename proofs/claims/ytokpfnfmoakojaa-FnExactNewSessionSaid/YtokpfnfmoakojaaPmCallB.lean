/-
  A call that writes the elements of one argument.
-/
import Derived.Test.YtokpfnfmoakojaaPmCallA
namespace Go.Pm
open Go

section
variable {B : Base} {G : Env} {K : CEnv} {f : Fix} {H : Hint} {C : FuncId → List Arg → Option Res} {u : Wit} {st st' : St} {σ σ' : SG} {a : Act} {w : World} {o : Oper}

/-- The groups that the function finds: 0: what the arguments rest on that are not written; the others: the leaves of the one that is. -/
def S0of (u : Wit) (A : List Nat) (nl : List Lf) (t b : Nat) : Prop := (t = 0 ∧ ∃ z ∈ A, u.S z b) ∨ (t ≠ 0 ∧ ∃ x ∈ nl, x.li.tag = t ∧ ∃ q ∈ x.os, q.1 = b)

/-- The argument that is written. -/
structure WrArg (f : Fix) (u : Wit) (st : St) (a : Act) (w : World) (A T : List Nat) (p : PSig) (x : Operand) (pv : PV) (nl : List Lf) : Prop where
  ev : evV st.env x = some pv
  rd : RdV f.Ty w p.agg p.ks (a.eval x) pv (nl.map (·.v)) (nl.map (·.os))
  li : nl.map (·.li) = wrLIs 1 p.ks
  lin : ∀ y ∈ nl, (y.os.map (·.1)).Nodup
  two : ∀ y ∈ nl, y.os ≠ [] → y.li.tag = y.li.dt ∧ y.li.tag ≠ 0
  disj : ∀ y ∈ nl, ∀ z ∈ nl, y.li.tag ≠ z.li.tag → ∀ q ∈ y.os, ∀ q' ∈ z.os, q.1 ≠ q'.1
  inT : ∀ y ∈ nl, ∀ q ∈ y.os, ∃ t ∈ T, u.S t q.1
  tOk : ∀ t ∈ T, t ≠ 0 ∧ t ∉ A

theorem WrArg.argIn {A T : List Nat} {p : PSig} {x : Operand} {pv : PV} {nl : List Lf} (h : WrArg f u st a w A T p x pv nl) (hw : p.wr = true) : ArgIn f.Ty w (S0of u A nl) p (a.eval x) pv nl := by
  refine ⟨h.rd, by rw [h.li]; simp [entryLIs, hw], fun y hy q hq => ?_, fun y hy _ => h.lin y hy⟩
  have hos : y.os ≠ [] := fun e => by unfold Lf.tq at hq; rw [e] at hq; cases hq
  obtain ⟨g1, g2⟩ := h.two y hy hos
  unfold Lf.tq at hq
  cases ho : y.os with
  | nil => exact absurd ho hos
  | cons q0 r =>
    rw [ho] at hq
    rcases List.mem_cons.1 hq with rfl | hq
    · exact .inr ⟨g2, y, hy, rfl, q0, by rw [ho]; simp, rfl⟩
    · obtain ⟨z, hz, rfl⟩ := List.mem_map.1 hq
      exact .inr ⟨by rw [← g1]; exact g2, y, hy, g1, z, by rw [ho]; exact List.mem_cons_of_mem _ hz, rfl⟩

theorem WrArg.S0 {A T : List Nat} {p : PSig} {x : Operand} {pv : PV} {nl : List Lf} (hr : Rel f u st σ a w) (h : WrArg f u st a w A T p x pv nl) :
    (∀ t t' b, t ≠ t' → S0of u A nl t b → ¬ S0of u A nl t' b) ∧ (∀ t b, S0of u A nl t b → b < w.heap.size) ∧ (∀ t b, t ≠ 0 → S0of u A nl t b → ∃ cur el, w.heap[b]? = some (.cells cur el (0, 0))) ∧
      (∀ t b, t ≠ 0 → S0of u A nl t b → ∃ t' ∈ T, u.S t' b) := by
  have hT : ∀ t b, t ≠ 0 → S0of u A nl t b → ∃ t' ∈ T, u.S t' b := fun t b hne hs => by
    rcases hs with ⟨h0, _⟩ | ⟨_, y, hy, _, q, hq, rfl⟩
    · exact absurd h0 hne
    · exact h.inT y hy q hq
  have hno : ∀ t b, t ≠ 0 → S0of u A nl t b → ∀ z ∈ A, ¬ u.S z b := fun t b hne hs z hz hzb => by
    obtain ⟨t', ht', hs'⟩ := hT t b hne hs
    have : t' = z := by
      by_cases e : t' = z
      · exact e
      · exact absurd hzb (hr.apart _ _ _ e hs')
    exact (h.tOk t' ht').2 (this ▸ hz)
  refine ⟨fun t t' b hne h1 h2 => ?_, fun t b hs => ?_, fun t b hne hs => ?_, hT⟩
  · by_cases h0 : t = 0
    · by_cases h0' : t' = 0
      · exact hne (h0.trans h0'.symm)
      · rcases h1 with ⟨_, z, hz, hzb⟩ | ⟨g, _⟩
        · exact hno t' b h0' h2 z hz hzb
        · exact g h0
    · by_cases h0' : t' = 0
      · rcases h2 with ⟨_, z, hz, hzb⟩ | ⟨g, _⟩
        · exact hno t b h0 h1 z hz hzb
        · exact g h0'
      · rcases h1 with ⟨g, _⟩ | ⟨_, y, hy, e1, q, hq, rfl⟩
        · exact h0 g
        · rcases h2 with ⟨g, _⟩ | ⟨_, z, hz, e2, q', hq', e3⟩
          · exact h0' g
          · exact h.disj y hy z hz (by rw [e1, e2]; exact hne) q hq q' hq' e3.symm
  · by_cases h0 : t = 0
    · rcases hs with ⟨_, z, _, hzb⟩ | ⟨g, _⟩
      · exact hr.inW z b hzb
      · exact absurd h0 g
    · obtain ⟨t', _, hs'⟩ := hT t b h0 hs
      exact hr.inW t' b hs'
  · obtain ⟨t', ht', hs'⟩ := hT t b hne hs
    exact hr.mem t' b (.inl (h.tOk t' ht').1) hs'

/-- What the memory is behind the call, for the caller. -/
theorem WrArg.wrote {A T : List Nat} {p : PSig} {x : Operand} {pv : PV} {nl : List Lf} (hr : Rel f u st σ a w) (h : WrArg f u st a w A T p x pv nl) {f' : Fix} {u2 : Wit} {st2 : St} {σ2 : SG} {a2 : Act} {w' : World} (hf1 : f'.W0 = w)
    (hX : f'.X = fun b => ∃ t, t ≠ 0 ∧ S0of u A nl t b) (h2 : Rel f' u2 st2 σ2 a2 w') : WroteIn u T w w' := by
  obtain ⟨_, s2, s3, s4⟩ := h.S0 hr
  refine ⟨fun b hb hnT => ?_, fun t ht b hs cur el hc => ?_, ?_, ?_, ?_, ?_⟩
  · have := h2.frame b (by rw [hf1]; exact hb) (by
      rw [hX]
      rintro ⟨t, hne, hs⟩
      obtain ⟨t', ht', hs'⟩ := s4 t b hne hs
      exact hnT t' ht' hs')
    rw [hf1] at this
    exact this
  · by_cases hx : f'.X b
    · obtain ⟨c1, e1, c2, e2, m1, m2, m3⟩ := h2.xmem b hx
      rw [hf1, hc] at m2
      cases m2
      exact ⟨c1, e1, m1, m3⟩
    · have := h2.frame b (by rw [hf1]; exact hr.inW t b hs) hx
      rw [hf1, hc] at this
      exact ⟨cur, el, this, rfl⟩
  · have := h2.size; rw [hf1] at this; exact this
  · have := h2.os; rw [hf1] at this; exact this
  · have := h2.tape; rw [hf1] at this; exact this
  · have := h2.output; rw [hf1] at this; exact this

/-- The arguments, one of them written. -/
theorem argsOf_cons {x : Operand} {xs : List Operand} {as : List Arg} {pv : PV} (ha : argsOf st (x :: xs) = some as) (hv : evV st.env x = some pv) : ∃ r, argsOf st xs = some r ∧ as = .val pv :: r := by
  simp only [argsOf] at ha
  unfold evV at hv
  cases he : evE st.env x with
  | none => simp [he] at ha
  | some en =>
    rw [he] at ha hv
    cases en with
    | val v =>
      simp only [Option.some.injEq] at ha hv
      subst hv
      cases hr : argsOf st xs with
      | none => simp [hr] at ha
      | some r => simp [hr] at ha; exact ⟨r, rfl, ha.symm⟩
    | velem i off v =>
      simp only [Option.some.injEq] at ha hv
      subst hv
      cases hr : argsOf st xs with
      | none => simp [hr] at ha
      | some r => simp [hr] at ha; exact ⟨r, rfl, ha.symm⟩
    | _ => simp at hv

theorem args_B (h : Rel f u st σ a w) {n : Nat} (hn : n ≠ 0) {S0 : Nat → Nat → Prop} : ∀ {ps : List PSig} {xs : List Operand} {A : List Nat} {as : List Arg} {j j' : Nat} {p : PSig} {x : Operand} {pv : PV} {nl : List Lf}, cArgsA σ n ps xs = some A → oneWr ps = true → wrOf j ps xs = some (j', p, x) → argsOf st xs = some as →
    (∀ t ∈ A, ∀ b, u.S t b → S0 0 b) → evV st.env x = some pv → (p.wr = true → ArgIn f.Ty w S0 p (a.eval x) pv nl) →
    ∃ lfss, ArgsIn f.Ty w S0 ps (xs.map a.eval) as lfss ∧ j ≤ j' ∧ xs[j' - j]? = some x ∧ ∀ {Ty : Nat → TyK} {w' : World} {outs : List (Nat × List PV)}, OutsOk Ty w' j ps lfss outs → ∃ cells, outs = [(j', cells)] ∧ RdL Ty w' p.ks (nl.map (·.v)) cells (nl.map (·.os))
  | [], _, _, _, _, _, _, _, _, _, _, _, hw, _, _, _, _ => by simp [wrOf] at hw
  | _ :: _, [], _, _, _, _, _, _, _, _, _, _, hw, _, _, _, _ => by simp [wrOf] at hw
  | p0 :: ps, x0 :: xs, A, as, j, j', p, x, pv, nl, hc, ho, hw, ha, hS, hev, hin => by
    have hc0 := hc
    simp only [cArgsA] at hc
    split at hc
    · cases hc
    · rename_i hptr
      simp only [wrOf] at hw
      simp only [oneWr] at ho
      cases hwr : p0.wr with
      | true =>
        rw [hwr] at hc hw ho
        simp only [Option.some.injEq, Prod.mk.injEq] at hc hw ho
        obtain ⟨rfl, rfl, rfl⟩ := hw
        have hnw : anyWr ps = false := by cases h0 : anyWr ps <;> simp_all
        obtain ⟨r, hr, rfl⟩ := argsOf_cons ha hev
        obtain ⟨lfss, hl⟩ := args_A h hn hc hnw hr hS
        refine ⟨nl :: lfss, .cons hptr (hin hwr) hl, Nat.le_refl _, by simp, fun hout => ?_⟩
        cases hout with
        | skip hw' _ => rw [hwr] at hw'; cases hw'
        | wr _ hrd _ => exact ⟨_, rfl, hrd⟩
      | false =>
        rw [hwr] at hc hw ho
        simp only at hc hw ho
        split at hc
        · rename_i agg ks ls A' h1 h2
          split at hc
          · rename_i q1 q2
            cases hc
            -- the head by the law for one argument, the rest by this one
            have hone : cArgsA σ n [p0] [x0] = some (tagsOf p0.ks ls ++ []) := by simp [cArgsA, hptr, hwr, h1, q1, q2]
            have hev0 : ∃ pv0 r, evV st.env x0 = some pv0 ∧ argsOf st xs = some r ∧ as = .val pv0 :: r := by
              simp only [argsOf] at ha
              unfold evV
              cases he : evE st.env x0 with
              | none => simp [he] at ha
              | some en =>
                rw [he] at ha
                cases en with
                | val v =>
                  simp only at ha ⊢
                  cases hr : argsOf st xs with
                  | none => simp [hr] at ha
                  | some r => simp [hr] at ha; exact ⟨v, r, rfl, rfl, ha.symm⟩
                | velem i off v =>
                  simp only at ha ⊢
                  cases hr : argsOf st xs with
                  | none => simp [hr] at ha
                  | some r => simp [hr] at ha; exact ⟨v, r, rfl, rfl, ha.symm⟩
                | avar k off =>
                  exfalso
                  cases x0 with
                  | tmp t =>
                    simp only [sVal] at h1
                    simp only [evE] at he
                    split at h1
                    · rename_i hs
                      obtain ⟨g1, _⟩ := h.entry he hs
                      obtain ⟨p', e1, _⟩ := g1.isVal
                      cases e1
                    · rename_i hs
                      obtain ⟨g1, _⟩ := h.entry he hs
                      obtain ⟨_, _, _, _, _, _, e1, _⟩ := g1.isVelem
                      cases e1
                    · cases h1
                  | const v =>
                    simp only [evE] at he
                    split at he <;> cases he
                  | global g => simp [sVal] at h1
                  | func g => simp [sVal] at h1
                | _ => simp at ha
            obtain ⟨pv0, r, k1, k2, rfl⟩ := hev0
            have ha1 : argsOf st [x0] = some [.val pv0] := by
              simp only [argsOf]
              unfold evV at k1
              cases he : evE st.env x0 with
              | none => simp [he] at k1
              | some en => rw [he] at k1; cases en <;> simp_all
            obtain ⟨l1, hl1⟩ := args_A (S0 := S0) h hn hone (by simp [anyWr, hwr]) ha1 fun t ht b hb => hS t (by simp at ht; exact List.mem_append_left _ ht) b hb
            obtain ⟨lfss, hl, hle, hx, hout⟩ := args_B h hn h2 ho hw k2 (fun t ht b hb => hS t (List.mem_append_right _ ht) b hb) hev hin
            cases hl1 with
            | cons hp hA hr =>
              cases hr
              rename_i lfs0
              refine ⟨lfs0 :: lfss, .cons hp hA hl, by omega, by rw [show j' - j = (j' - (j + 1)) + 1 by omega]; simpa using hx, fun ho' => ?_⟩
              cases ho' with
              | skip _ h' => exact hout h'
              | wr hw' _ _ => rw [hwr] at hw'; cases hw'
          · cases hc
        · cases hc

/-- Results without slices are put. -/
theorem put_scalars {f : Fix} {u : Wit} {st st' : St} {σ : SG} {a : Act} {w' : World} (h : Rel f u st σ a w') {n : Nat} {res : List (Bool × List LK × List LI)} {rvs : List Value} {rs : List RV} {ll : List (List Lf)} (hres : ResOut f.Ty w' res rvs rs ll) (hns : noSlRes res = true)
    {d : Option Nat} {e : Eff} (he : resEff rs = some e) (hp : papply stdF H d st e = some st') {σ' : SG} (hc : putSlot f.N d (resSI n n res) σ = some σ') :
    ∃ u', Rel f u' st' σ' (a.put d (retVal rvs)) w' := by
  obtain ⟨nl, vs, hvs, htup, _, hsc, hone⟩ := res_entry (β := u.β) (n := n) (m := n) (res0 := res) (fun _ h => h) hres
  have hfree := hsc hns
  cases d with
  | none =>
    have hst : st' = st := by
      unfold resEff at he
      split at he
      · cases he; simpa [papply] using hp.symm
      · rename_i cells; cases hres
      · split at he
        · cases he; simpa [papply] using hp.symm
        · cases he
    simp only [putSlot, Option.some.injEq] at hc
    subst hc; subst hst
    exact ⟨u, h⟩
  | some t =>
    simp only [putSlot] at hc
    split at hc
    · rename_i hb
      cases hc
      have fin : ∀ (en : Ent), e = .put en → EntOk f.Ty u.β w' (retVal rvs) en (resSI n n res) nl → ∃ u', Rel f u' st' { σ with slots := up t (resSI n n res) σ.slots } (a.put (some t) (retVal rvs)) w' := fun en hen hent => by
        subst hen
        simp only [papply, Option.some.injEq] at hp
        subst hp
        exact ⟨_, h.put (Nat.blt_eq.mp hb) hent (fun y hy => by obtain ⟨g1, g2⟩ := hfree y hy; exact .free g2 (by rw [g1]; rfl) (by rw [g1]; rfl)) (fun y hy _ => by rw [(hfree y hy).2]; simp)⟩
      cases hres with
      | nil =>
        simp only [resEff, vals, Option.some.injEq] at he
        subst he
        exact fin _ rfl (.tup (by simpa [vals] using (by cases hvs; exact htup)))
      | @cons agg ks ls v pv lfs r vs' rs' ll' hh hl tt =>
        cases tt with
        | nil =>
          simp only [resEff, Option.some.injEq] at he
          subst he
          obtain ⟨v', pv', e1, e2, e3⟩ := hone agg ks ls rfl
          cases e1
          simp only [vals, Option.some.injEq] at hvs
          rw [e2] at hvs
          cases hvs
          exact fin _ rfl e3
        | @cons agg2 ks2 ls2 v2 pv2 lfs2 r2 vs2 rs2 ll2 hh2 hl2 tt2 =>
          have he' : e = .put (.tup vs) := by
            unfold resEff at he
            simp only at he
            rw [hvs] at he
            simpa using he.symm
          exact fin _ he' (.tup (by simpa using htup))
    · cases hc
end
end Go.Pm
