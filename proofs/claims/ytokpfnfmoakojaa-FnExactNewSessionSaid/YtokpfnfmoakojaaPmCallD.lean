/-
  Calls, whichever.
-/
import Derived.Test.YtokpfnfmoakojaaPmCallC
namespace Go.Pm
open Go

section
variable {B : Base} {G : Env} {K : CEnv} {f : Fix} {H : Hint} {C : FuncId → List Arg → Option Res} {u : Wit} {st st' st1 : St} {σ σ' σ1 : SG} {a : Act} {w : World} {o : Oper}

theorem wrOf_wr : ∀ {j : Nat} {ps : List PSig} {xs : List Operand} {j' : Nat} {p : PSig} {x : Operand}, wrOf j ps xs = some (j', p, x) → p.wr = true
  | _, [], _, _, _, _, h => by simp [wrOf] at h
  | _, _ :: _, [], _, _, _, h => by simp [wrOf] at h
  | j, p0 :: ps, x0 :: xs, j', p, x, h => by
    simp only [wrOf] at h
    split at h
    · rename_i hw; cases h; exact hw
    · exact wrOf_wr h

theorem wrOf_get : ∀ {j : Nat} {ps : List PSig} {xs : List Operand} {j' : Nat} {p : PSig} {x : Operand}, wrOf j ps xs = some (j', p, x) → j ≤ j' ∧ xs[j' - j]? = some x ∧ wrIdx j ps = some j'
  | _, [], _, _, _, _, h => by simp [wrOf] at h
  | _, _ :: _, [], _, _, _, h => by simp [wrOf] at h
  | j, p0 :: ps, x0 :: xs, j', p, x, h => by
    simp only [wrOf] at h
    split at h
    · rename_i hw
      cases h
      exact ⟨Nat.le_refl _, by simp, by simp [wrIdx, hw]⟩
    · rename_i hw
      obtain ⟨h1, h2, h3⟩ := wrOf_get h
      exact ⟨by omega, by rw [show j' - j = (j' - (j + 1)) + 1 by omega]; simpa using h2, by simp [wrIdx, hw, h3]⟩

/-- The call, once it is known of the argument that is written how it lies and what becomes of it. -/
theorem callB_core (h : Rel f u st σ a w) (hT : f.Ty = B.Ty) {g : FuncId} {args : Array Operand} {ts : Array TypeId} (ho : o.op = .call ⟨.value (.func g), args, ts⟩) (he : Enters B.P g) {sg : GSig} {j : Nat} {p : PSig} {x : Operand} (hwr : wrOf 0 sg.params args.toList = some (j, p, x)) (h1w : oneWr sg.params = true) (hgl : sg.glob = false) (hns : noSlRes sg.res = true)
    {A : List Nat} {n : Nat} (hn : n ≠ 0) (hA : cArgsA σ n sg.params args.toList = some A) {as : List Arg} (has : argsOf st args.toList = some as) {r : Res} (hs : CallSpec B sg g as r) {e : Eff} (hre : resEff r.rs = some e)
    {T : List Nat} {pv : PV} {nl : List Lf} (hW : WrArg f u st a w A T p x pv nl)
    (hafter : ∀ (f' : Fix) (w' : World) (cells : List PV), f'.W0 = w → (f'.X = fun b => ∃ t, t ≠ 0 ∧ S0of u A nl t b) → (∃ u2 st2 σ2 a2, Rel f' u2 st2 σ2 a2 w') → WroteIn u T w w' → r.outs = [(j, cells)] → args.toList[j]? = some x → RdL f.Ty w' p.ks (nl.map (·.v)) cells (nl.map (·.os)) →
      ∃ (u' : Wit) (st1 : St) (σ1 : SG), Rel f u' st1 σ1 a w' ∧ papply stdF H o.dst st1 e = some st' ∧ putSlot f.N o.dst (resSI n n sg.res) σ1 = some σ') : Goal B.P f o a w st' σ' := by
  obtain ⟨s1, s2, s3, s4⟩ := hW.S0 h
  obtain ⟨lfss, hin, _, hx, hout⟩ := args_B (S0 := S0of u A nl) h hn hA h1w hwr has (fun t ht b hb => .inl ⟨rfl, t, ht, hb⟩) hW.ev fun hw => hW.argIn hw
  rw [hT] at hin
  have hcall := hs w _ _ lfss hin s1 s2 s3 (fun hg => by rw [hgl] at hg; cases hg)
  have hargs : (args.toList.map a.eval).toArray = args.map a.eval := by rw [← Array.toList_inj]; simp
  rw [hargs] at hcall
  refine call_goal ho he (R := fun v w' => ∃ rvs, v = retVal rvs ∧ ∃ (f' : Fix) (u2 : Wit) (st2 : St) (σ2 : SG) (a2 : Act) (ll : List (List Lf)),
      f'.W0 = w ∧ (f'.X = fun b => ∃ t, t ≠ 0 ∧ S0of u A nl t b) ∧ (f'.S0 = S0of u A nl 0) ∧ Rel f' u2 st2 σ2 a2 w' ∧ ResOut B.Ty w' sg.res rvs r.rs ll ∧ (∀ l ∈ ll, ∀ x ∈ l, Live u2 st2 σ2 x) ∧ OutsOk B.Ty w' 0 sg.params lfss r.outs) ?_ ?_
  · refine Calls.mono hcall fun e w' => ?_
    rintro ⟨rvs, rfl, h⟩
    exact ⟨_, rfl, rvs, rfl, h⟩
  · rintro v w' ⟨rvs, rfl, f', u2, st2, σ2, a2, ll, e1, e2, e3, e4, e5, e6, e7⟩
    obtain ⟨cells, k1, k2⟩ := hout e7
    rw [Nat.sub_zero] at hx
    obtain ⟨u', st1, σ1, q1, q2, q3⟩ := hafter f' w' cells e1 e2 ⟨u2, st2, σ2, a2, e4⟩ (hW.wrote h e1 e2 e4) k1 hx (by rw [hT]; exact k2)
    exact put_scalars q1 (by rw [hT]; exact e5) hns hre q2 q3

theorem callB_ok (hS : Setting B.P G K f) (h : Rel f u st σ a w) (hT : f.Ty = B.Ty) {g : FuncId} {args : Array Operand} {ts : Array TypeId} (ho : o.op = .call ⟨.value (.func g), args, ts⟩) (he : Enters B.P g) {sg : GSig} {j : Nat} {p : PSig} {x : Operand} (hwr : wrOf 0 sg.params args.toList = some (j, p, x)) (h1w : oneWr sg.params = true) (hgl : sg.glob = false) (hns : noSlRes sg.res = true)
    {A : List Nat} {n : Nat} (hn : n ≠ 0) (hA : cArgsA σ n sg.params args.toList = some A) {as : List Arg} (has : argsOf st args.toList = some as) {r : Res} (hs : CallSpec B sg g as r) (hsh : Shape sg r) {e ef : Eff} (hre : resEff r.rs = some e) (hout : outEff H st.env args.toList r.outs e = some ef) (hp : papply stdF H o.dst st ef = some st')
    {pl : Place} {k : Nat} {T : List Nat} (hW : cWr K H σ A p x = some (pl, k, T)) (hc : capply f.N o.dst σ (.mutPut pl k T (resSI n n sg.res)) = some σ') : Goal B.P f o a w st' σ' := by
  obtain ⟨_, hget, hidx⟩ := wrOf_get hwr
  rw [Nat.sub_zero] at hget
  unfold Shape at hsh
  rw [hidx] at hsh
  obtain ⟨cells0, hr0⟩ := hsh
  rw [hr0] at hout
  simp only [capply] at hc
  split at hc
  · rename_i σ1 hmut
    unfold cWr at hW
    split at hW
    · rename_i t
      simp only [outEff, hget] at hout
      split at hW
      · rename_i pl' agg ks ls hpl hsl
        split at hW
        · rename_i ls0 q1 q2 q3 q4
          split at hW
          · rename_i q5 q6 q7 q8
            cases hW
            have ha := eqB_eq q1
            have hk := eqLKs_eq q2
            cases hen : lk t st.env with
            | none => rw [hen] at hout; cases hout
            | some en =>
            obtain ⟨g1, _⟩ := h.entry hen hsl
            obtain ⟨pv, e1, _⟩ := g1.isVal
            subst e1
            have hev : evV st.env (.tmp t) = some pv := by simp [evV, evE, hen]
            simp only [hen, hpl, Option.some.injEq] at hout
            subst hout
            obtain ⟨lfs, nl, w1, w2, w3, w4, w5, w6⟩ := wr_val h hsl ha hk q6 q7 q8 hev
            refine callB_core (H := H) h hT ho he hwr h1w hgl hns hn hA has hs hre w6 fun f' w' cells e1 e2 _ hwt k1 hx k2 => ?_
            rw [hr0] at k1
            cases k1
            simp only [papply] at hp
            split at hp
            · rename_i st1 hput
              subst w2
              obtain ⟨u', hr'⟩ := wr_val_after h hsl w1 q3 (eqLKs_eq q4) q5 hwt (by rw [← w4, ← w5, hk]; exact k2) hmut hput
              exact ⟨u', st1, σ1, hr', hp, hc⟩
            · cases hp
          · cases hW
        · cases hW
      · rename_i pl' agg ks li size off hpl hsl
        split at hW
        · rename_i E l0 q1 q2 q3 q4
          split at hW
          · rename_i ie hE
            split at hW
            · rename_i q5 q6 q7 q8
              split at hW
              · rename_i ks' q9 q10
                split at hW
                · rename_i q11
                  cases hW
                  have hk11 := eqLKs_eq q11
                  subst hk11
                  cases hen : lk t st.env with
                  | none => rw [hen] at hout; cases hout
                  | some en =>
                  obtain ⟨g1, _⟩ := h.entry hen hsl
                  obtain ⟨_, _, i, pv, _, _, e1, _⟩ := g1.isVelem
                  subst e1
                  have hev : evV st.env (.tmp t) = some pv := by simp [evV, evE, hen]
                  simp only [hen, hpl, Option.some.injEq] at hout
                  subst hout
                  simp only [papply] at hp
                  split at hp
                  · rename_i st1 hset
                    obtain ⟨k, x1, nl1, xl, b, o1, cap, l, e0, vs, oss, r1, r2, r3⟩ := wr_part hS h hsl (eqB_eq q1) (eqLKs_eq q2) q4 q3 hE (beq_eq.1 q5) (beq_ne.1 q6) q7 q8 (beq_eq.1 q9) q10 hev (i := i) (off' := off) (fun j o v he => by rw [hen] at he; cases he; exact ⟨rfl, rfl⟩) hset
                    refine callB_core (H := H) h hT ho he hwr h1w hgl hns hn hA has hs hre r3.wr fun f' w' cells e1 e2 hrel hwt k1 hx k2 => ?_
                    rw [hr0] at k1
                    cases k1
                    obtain ⟨u2, st2, σ2, a2, h2⟩ := hrel
                    have hlv : ∃ l', leavesAt st pl 1 = some [.slice l'] := by
                      simp only [setIn] at hset
                      split at hset
                      · rename_i l' hl'; exact ⟨l', hl'⟩
                      · cases hset
                    obtain ⟨l', hl'⟩ := hlv
                    obtain ⟨xx, m1, _, _, m4, _⟩ := leafAt_ok h q3 hl'
                    rw [r3.mid] at m1
                    cases m1
                    have hll : l' = l := by
                      have hrow := Rd.slice (Ty := f.Ty) (w := w) (cap := cap) (len := l.length) (b := b) (o := o1) (ps := l) r3.ty r3.ok rfl r3.cap r3.el r3.ra r3.rd
                      rw [← r3.v] at hrow
                      have := (Rd.func m4 hrow).1
                      cases this
                      rfl
                    subst hll
                    obtain ⟨u', hr'⟩ := wr_part_after h r3 hl' hwt (fun c hcl hcx => by
                      have := h2.frame c (by rw [e1]; exact hcl) (by
                        rw [e2]
                        rintro ⟨t', hne, hs'⟩
                        rcases hs' with ⟨h0, _⟩ | ⟨_, y, hy, _, q, hq, hqc⟩
                        · exact hne h0
                        · obtain rfl := List.mem_singleton.1 hy
                          rw [r3.nl.2] at hq
                          exact hcx q hq hqc)
                      rw [e1] at this
                      exact this) (by
                      have := k2
                      rw [← eqLKs_eq q2, r1] at this
                      simpa [r3.nl.1, r3.nl.2] using this) hmut hset
                    exact ⟨u', st1, σ1, hr', hp, hc⟩
                  · cases hp
                · cases hW
              · cases hW
            · cases hW
          · cases hW
        · cases hW
      · cases hW
    · cases hW
  · cases hc

/-- What is known of the functions that are called. -/
structure Known (B : Base) (K : CEnv) (C : FuncId → List Arg → Option Res) (f : Fix) (glob : Bool) : Prop where
  ty : f.Ty = B.Ty
  enters : ∀ g sg, K.sigs g = some sg → Enters B.P g
  spec : ∀ g sg as r, K.sigs g = some sg → C g as = some r → CallSpec B sg g as r ∧ Shape sg r
  globs : glob = true → f.globs = B.globs ∧ f.gks = B.gks

theorem call_ok (hS : Setting B.P G K f) {glob : Bool} (hk : Known B K C f glob) (h : Rel f u st σ a w) {g : FuncId} {args : Array Operand} {ts : Array TypeId} (ho : o.op = .call ⟨.value (.func g), args, ts⟩) (hp : pstep stdF G H C o st = some st') (hc : cstep K H glob f.N o σ = some σ') : Goal B.P f o a w st' σ' := by
  obtain ⟨ef, hp, hp'⟩ := pstep_parts hp
  obtain ⟨ce, hc, hc'⟩ := cstep_parts hc
  have hn := freshOf_ne o.dst
  unfold cact at hc
  unfold pact at hp
  simp only [ho] at hc hp
  unfold pCall at hp
  split at hp
  · rename_i as has
    split at hp
    · rename_i r hr
      split at hp
      · rename_i e hre
        unfold cCall at hc
        split at hc
        · rename_i sg hsg
          obtain ⟨hs, hsh⟩ := hk.spec g sg as r hsg hr
          have he := hk.enters g sg hsg
          split at hc
          · rename_i A hA hgl
            have hgl' : sg.glob = true → f.globs = B.globs ∧ f.gks = B.gks := fun hg => hk.globs (by rw [hg] at hgl; exact hgl)
            split at hc
            · rename_i hnw
              split at hc
              · rename_i hfo
                split at hc
                · rename_i hg
                  cases hc
                  exact callA_ok h hk.ty ho he hnw hn hA hgl' has hs hre hp hp' (.inr ⟨hfo, by rw [hg], fun _ => rfl⟩) hc'
                · rename_i hg
                  cases hc
                  exact callA_ok h hk.ty ho he hnw hn hA hgl' has hs hre hp hp' (.inr ⟨hfo, by rw [hg], fun hm => by rw [hg] at hm; exact joinOf_zero _ (memN_iff.1 hm)⟩) hc'
              · rename_i hfo
                cases hc
                exact callA_ok h hk.ty ho he hnw hn hA hgl' has hs hre hp hp' (.inl ⟨hfo, rfl⟩) hc'
            · split at hc
              · rename_i j p x hwr hns h1
                split at hc
                · rename_i pl k T hW
                  cases hc
                  simp only [Bool.and_eq_true, Bool.not_eq_true'] at h1
                  exact callB_ok hS h hk.ty ho he hwr h1.1 h1.2 hns hn hA has hs hsh hre hp hp' hW hc'
                · cases hc
              · cases hc
          · cases hc
        · cases hc
      · cases hp
    · cases hp
  · cases hp
end
end Go.Pm
