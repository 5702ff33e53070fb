/-
  The operations that read: elements, parts, lengths, loads.
-/
import Derived.Test.YtokpfnfmoakojaaPmOp2
import Derived.Test.YtokpfnfmoakojaaPmElem
namespace Go.Pm
open Go
section
variable {P : Program} {G : Env} {K : CEnv} {f : Fix} {H : Hint} {C : FuncId → List Arg → Option Res} {glob : Bool} {u : Wit} {st st' : St} {σ σ' : SG} {a : Act} {w : World} {o : Oper}

theorem cElemTy_eq (hS : Setting P G K f) {t : TypeId} {e : TypeId} {i : TyI} (h : cElemTy K t = some (e, i)) : P.underlying t = some (.slice e) ∧ f.Ty e = .val i ∧ elemTy G t = some i := by
  unfold cElemTy at h
  split at h
  · rename_i j hj
    have hty := tyC_eq hS hj
    split at h
    · rename_i e' he
      split at h
      · rename_i i' hi
        cases h
        have hfe := tyC_eq hS hi
        have hsl := he
        unfold sliceElem at he
        split at he
        · rename_i e2 fl sz
          cases he
          obtain ⟨k, h1, h2⟩ := hS.tab.one t _ hty rfl
          simp only [List.cons.injEq, and_true] at h1
          subst h1
          refine ⟨h2, hfe, ?_⟩
          unfold elemTy tyOf
          rw [hS.gty, hty]
          simp [hsl, hfe]
        · cases he
      · cases h
    · cases h
  · cases h

theorem size_run (hS : Setting P G K f) {e : TypeId} {i : TyI} (h : f.Ty e = .val i) (w : World) : (sizeOf e).run P w = .ok i.leaves.length w := by
  obtain ⟨_, inf, z, h1, h2, _⟩ := hS.tab.ty e i h
  simp [sizeOf, typeInfo, h1, h2]

theorem isInt_ok {k : Option LK} (h : isInt k = true) : ∃ k', k = some (.int k') := by
  unfold isInt at h
  split at h
  · exact ⟨_, rfl⟩
  · cases h

theorem idxA_ok (hS : Setting P G K f) (h : Rel f u st σ a w) {t : TypeId} {x ix : Operand} {e : Eff} {ce : CE} (ho : o.op = .indexAddr t x ix) (hp : pIdxA stdF (evV st.env x) (evV st.env ix) = some e) (hp' : papply stdF H o.dst st e = some st')
    (hc : cIdxA σ (cElemTy K t) x ix = some ce) (hc' : capply f.N o.dst σ ce = some σ') : Goal P f o a w st' σ' := by
  unfold cIdxA at hc
  split at hc
  · rename_i E i E' li h1 h2 hs
    obtain ⟨hu, hE, _⟩ := cElemTy_eq hS h1
    obtain ⟨k, hk⟩ := isInt_ok h2
    · (split at hc)
      · rename_i he
        have := beq_eq.1 he
        subst this
        cases hc
        unfold pIdxA at hp
        split at hp
        · rename_i l k' n hx hn
          split at hp
          · rename_i el hget
            cases hp
            obtain ⟨_, g⟩ := h.kind hk hn
            obtain ⟨n', e1, e2⟩ := g.asInt
            cases e2
            · obtain ⟨lfs, q⟩ := h.val Nat.one_ne_zero hs hx
              have rdv := q.rd
              have hli := q.li
              obtain ⟨os, hv1, ho1, rd⟩ := rdv.isOne
              simp only [stdF, stdGet] at hget
              split at hget
              · rename_i h0
                rcases rd.sliceInv with ⟨_, rfl, _⟩ | ⟨i', b, of, cap, vs, oss, hv, hos, hTy, hi, hcap, hel, hr, hrd⟩
                · simp at hget
                · rw [hE] at hTy
                  cases hTy
                  have hlt := (List.getElem?_eq_some_iff.1 hget).1
                  have hlf : ∃ x0, lfs = [x0] ∧ x0.os = os ∧ x0.li = li ∧ x0.v = a.eval x := by
                    cases hq : lfs with
                    | nil => rw [hq] at ho1; simp at ho1
                    | cons x0 r =>
                      rw [hq] at ho1 hli hv1
                      simp only [List.map_cons, List.cons.injEq, List.map_eq_nil_iff] at ho1 hli hv1
                      obtain ⟨o1, o2⟩ := ho1
                      subst o2
                      exact ⟨x0, rfl, o1, hli.1, hv1.1⟩
                  obtain ⟨x0, hF, hxo, hxl, hxv⟩ := hlf
                  have hder : Deriv u st σ x0 := q.der x0 (by rw [hF]; simp)
                  have hln : x0.li.lin = true → (x0.os.map (·.1)).Nodup := q.lin x0 (by rw [hF]; simp)
                  have htq : ∀ q ∈ oss.flatten, (li.dt, q) ∈ x0.tq := fun q hq => by
                    unfold Lf.tq
                    rw [hxo, hos, hxl]
                    exact List.mem_cons_of_mem _ (List.mem_map.2 ⟨q, hq, rfl⟩)
                  have hhd : (li.tag, (b, of + l.length * i.leaves.length)) ∈ x0.tq := by
                    unfold Lf.tq
                    rw [hxo, hos, hxl]
                    exact List.mem_cons_self
                  have hlin : li.lin = true → (((b, of + l.length * i.leaves.length) :: oss.flatten).map (·.1)).Nodup := fun hl => by
                    have := hln (by rw [hxl]; exact hl)
                    rw [hxo, hos] at this
                    exact this
                  have rde := hrd.elem hi hel hget
                  have hsz := rde.len
                  generalize hvs : (vs.drop (n.toNat * i.leaves.length)).take i.leaves.length = vs' at rde hsz
                  generalize hoss : (oss.drop (n.toNat * i.leaves.length)).take i.leaves.length = oss' at rde hsz
                  have hsub : ∀ q ∈ oss'.flatten, q ∈ oss.flatten := fun q hq => by rw [← hoss] at hq; exact mem_flatten_take_drop hq
                  have el1 : (List.replicate i.leaves.length (⟨li.dt, li.dt, false, li.lin, 0⟩ : LI)).length = vs'.length := by simp; omega
                  have el2 : oss'.length = vs'.length := by omega
                  have hra : w.rangeAt b (of + n.toNat * i.leaves.length) vs' := by rw [← hvs]; exact rangeAt_take (rangeAt_drop hr _) _
                  have hmem : ∀ y ∈ mkLf (List.replicate i.leaves.length (⟨li.dt, li.dt, false, li.lin, 0⟩ : LI)) vs' oss', y.li = ⟨li.dt, li.dt, false, li.lin, 0⟩ ∧ y.os ∈ oss' := fun y hy => by
                    obtain ⟨j, m1, _, m3⟩ := mkLf_mem hy
                    rw [List.getElem?_replicate] at m1
                    split at m1
                    · exact ⟨(Option.some.inj m1).symm, List.mem_of_getElem? m3⟩
                    · cases m1
                  have hbound : of + n.toNat * i.leaves.length + i.leaves.length ≤ of + l.length * i.leaves.length := by
                    have := Nat.mul_le_mul_right i.leaves.length (show n.toNat + 1 ≤ l.length by omega)
                    rw [Nat.succ_mul] at this
                    omega
                  obtain ⟨u', hr'⟩ := put_step (v := .pointer (some ⟨b, of + n.toNat * i.leaves.length + 0, none⟩)) (e := .aelem n (cellsOf el) 0) (s := .aelem i.leaves li 0)
                    (lfs := ⟨⟨li.tag, li.dt, false, li.lin, li.id⟩, x0.v, x0.os⟩ :: mkLf (List.replicate i.leaves.length ⟨li.dt, li.dt, false, li.lin, 0⟩) vs' oss') rfl h hp' hc'
                    (.aelem ⟨⟨of, l.length, cap, by rw [hxv]; exact hv, h0, hlt, rfl⟩, ⟨_, _, by rw [hxo, hos], hbound⟩, rfl⟩ (by rw [mkLf_v el1 el2]; exact hra) (by rw [mkLf_v el1 el2, mkLf_os el1 el2]; exact rde) (fun y hy => (hmem y hy).1))
                    (fun y hy => by
                      rcases List.mem_cons.1 hy with rfl | hy
                      · refine ⟨fun p hp => hder.rests p ?_, fun e => (by cases e), fun e => hxl ▸ hder.name (hxl ▸ e)⟩
                        unfold Lf.tq at hp ⊢
                        rw [hxl]
                        exact hp
                      · obtain ⟨m1, m2⟩ := hmem y hy
                        refine ⟨fun p hp => ?_, fun e => (by rw [m1] at e; cases e), fun e => absurd (by rw [m1]) e⟩
                        have hq : p.1 = li.dt ∧ p.2 ∈ y.os := by
                          unfold Lf.tq at hp
                          cases hyo : y.os with
                          | nil => rw [hyo] at hp; cases hp
                          | cons q r =>
                            rw [hyo, m1] at hp
                            rcases List.mem_cons.1 hp with rfl | hp
                            · exact ⟨rfl, by simp⟩
                            · obtain ⟨q', hq', rfl⟩ := List.mem_map.1 hp
                              exact ⟨rfl, by simp [hq']⟩
                        have := hder.rests _ (htq p.2 (hsub _ (List.mem_flatten.2 ⟨_, m2, hq.2⟩)))
                        rw [hq.1]
                        exact this)
                    (fun y hy hl => by
                      rcases List.mem_cons.1 hy with rfl | hy
                      · exact hln (by rw [hxl]; exact hl)
                      · obtain ⟨m1, m2⟩ := hmem y hy
                        rw [m1] at hl
                        have := hlin hl
                        rw [List.map_cons, List.nodup_cons] at this
                        have h3 := sub_nodup (l := oss) (a := n.toNat * i.leaves.length) (n := i.leaves.length) (f := fun q : Nat × Nat => q.1) this.2
                        rw [hoss] at h3
                        exact one_nodup m2 h3)
                  refine .value (w' := w) ?_ hr'
                  unfold execOp
                  simp only [ho, e1, hv, Instr.indexAt, asIntOf, Sem.run_bind, Sem.run_pure, Result.andThen_ok, run_underlying hu]
                  have hlt' : 0 ≤ n ∧ n < (l.length : Int) := ⟨h0, by omega⟩
                  simp only [if_pos hlt', Sem.run_bind, size_run hS hE, Result.andThen_ok, Sem.run_pure, Addr.add_mid, Nat.add_zero]
              · cases hget
          · cases hp
        · cases hp
      · cases hc
  · cases hc

theorem idx_ok (hS : Setting P G K f) (h : Rel f u st σ a w) {t : TypeId} {x ix : Operand} {e : Eff} {ce : CE} (ho : o.op = .index t x ix) (hp : pIdx stdF (evV st.env x) (evV st.env ix) = some e) (hp' : papply stdF H o.dst st e = some st')
    (hc : cIdx σ (exOne (tyC K t)) x ix = some ce) (hc' : capply f.N o.dst σ ce = some σ') : Goal P f o a w st' σ' := by
  unfold cIdx at hc
  split at hc
  · rename_i h1 h2 h3
    obtain ⟨k, hk⟩ := isInt_ok h3
    have hu := exOne_eq hS h1
    simp only [putS, Option.some.injEq] at hc
    subst hc
    unfold pIdx at hp
    split at hp
    · rename_i s k' n hx hn
      split at hp
      · rename_i b hb
        simp only [putV, Option.some.injEq] at hp
        subst hp
        obtain ⟨_, g1⟩ := h.kind h2 hx
        obtain ⟨_, g2⟩ := h.kind hk hn
        obtain ⟨s', e1, e2⟩ := g1.asStr
        obtain ⟨n', e3, e4⟩ := g2.asInt
        cases e2
        cases e4
        obtain ⟨u', hr⟩ := scal_put h hp' hc' (.int .u8 b)
        refine .value ?_ hr
        simp only [stdF, stdSidx] at hb
        split at hb
        · rename_i h0
          split at hb
          · rename_i c hcc
            cases hb
            unfold execOp
            simp only [ho, e1, e3, Instr.index, asIntOf, Sem.run_bind, Sem.run_pure, Result.andThen_ok, run_underlying hu, LK.desc]
            have : s'[n.toNat]? = some c := by
              have h1 : s'.data[n.toNat]? = some c := by simpa using hcc
              obtain ⟨h2, h3⟩ := Array.getElem?_eq_some_iff.1 h1
              have h4 : n.toNat < s'.size := h2
              rw [getElem?_pos s' n.toNat h4]
              exact congrArg some h3
            simp [if_pos h0, this]
          · cases hb
        · cases hb
      · cases hp
    · cases hp
  · cases hc

theorem len_ok (hS : Setting P G K f) (h : Rel f u st σ a w) {t : TypeId} {x : Operand} {args : Array Operand} {ts : Array TypeId} {e : Eff} {ce : CE} (ho : o.op = .call ⟨.builtin .len, args, ts⟩) (hargs : args.toList = [x]) (hts : ts.toList = [t])
    (hp : pLen stdF (evV st.env x) = some e) (hp' : papply stdF H o.dst st e = some st') {n : Nat} (hn : n ≠ 0) (hc : cLen σ n (exOne (tyC K t)) x = some ce) (hc' : capply f.N o.dst σ ce = some σ') : Goal P f o a w st' σ' := by
  have ha : args = #[x] := by rw [← Array.toList_inj]; simpa using hargs
  have ht : ts = #[t] := by rw [← Array.toList_inj]; simpa using hts
  subst ha; subst ht
  have hrun : ∀ v, (Builtin.len_ #[t] o.type #[a.eval x]).run P w = .ok v w → (execOp a.eval o).run P w = .ok (.value v) w := fun v hv => by
    unfold execOp
    simp [ho, resolve, invoke, builtin, hv]
  unfold cLen at hc
  split at hc
  · rename_i ls h1 h2
    have hu := exOne_eq hS h1
    simp only [putS, Option.some.injEq] at hc
    subst hc
    cases hx : evV st.env x with
    | none => simp [hx, pLen] at hp
    | some p =>
      obtain ⟨lfs, g⟩ := h.val hn h2 hx
      obtain ⟨os, _, _, rd⟩ := g.rd.isOne
      obtain ⟨s, e1, rfl⟩ := rd.asStr
      simp only [hx, pLen, putV, Option.some.injEq] at hp
      subst hp
      obtain ⟨u', hr⟩ := scal_put h hp' hc' (.int .i64 (stdF .slen s.data.toList))
      refine .value (hrun _ ?_) hr
      have : (s.data.toList.length : Int) = (s.size : Int) := by simp
      rw [e1]
      simp [Builtin.len_, run_underlying hu, LK.desc, stdF, goInt]
  · rename_i E ls _ h1 h2
    have hu := exOne_eq hS h1
    simp only [putS, Option.some.injEq] at hc
    subst hc
    cases hx : evV st.env x with
    | none => simp [hx, pLen] at hp
    | some p =>
      obtain ⟨lfs, g⟩ := h.val hn h2 hx
      obtain ⟨os, _, _, rd⟩ := g.rd.isOne
      generalize hvx : a.eval x = vx at rd hrun
      have hl : ∃ l b c, p = .slice l ∧ vx = .slice b l.length c := by
        cases rd with
        | nil => exact ⟨[], none, 0, rfl, rfl⟩
        | slice _ _ hl => exact ⟨_, _, _, rfl, by rw [hl]⟩
      obtain ⟨l, b, c, rfl, rfl⟩ := hl
      simp only [hx, pLen, putV, Option.some.injEq] at hp
      subst hp
      obtain ⟨u', hr⟩ := scal_put h hp' hc' (.int .i64 (stdF .llen l))
      refine .value (hrun _ ?_) hr
      simp [Builtin.len_, run_underlying hu, LK.desc, stdF, goInt]
  · cases hc

theorem mm_ok (h : Rel f u st σ a w) {x y : Operand} {args : Array Operand} {ts : Array TypeId} {b : Builtin} {e : Eff} {ce : CE} (ho : o.op = .call ⟨.builtin b, args, ts⟩) (hargs : args.toList = [x, y]) (hb : b = .max ∨ b = .min)
    (hp : pMM (if b = .max then stdF .imax else stdF .imin) (evV st.env x) (evV st.env y) = some e) (hp' : papply stdF H o.dst st e = some st') (hc : cMM σ x y = some ce) (hc' : capply f.N o.dst σ ce = some σ') : Goal P f o a w st' σ' := by
  have ha : args = #[x, y] := by rw [← Array.toList_inj]; simpa using hargs
  subst ha
  unfold cMM at hc
  split at hc
  · rename_i k k' h1 h2
    split at hc
    · rename_i hk
      have := sameKind_eq hk
      subst this
      simp only [putS, Option.some.injEq] at hc
      subst hc
      unfold pMM at hp
      split at hp
      · rename_i k1 n k2 m hx hy
        simp only [putV, Option.some.injEq] at hp
        subst hp
        obtain ⟨_, g1⟩ := h.kind h1 hx
        obtain ⟨_, g2⟩ := h.kind h2 hy
        obtain ⟨n', e1, e2⟩ := g1.asInt
        obtain ⟨m', e3, e4⟩ := g2.asInt
        cases e2
        cases e4
        obtain ⟨u', hr⟩ := scal_put h hp' hc' (.int k _)
        refine .value ?_ hr
        unfold execOp
        rcases hb with rfl | rfl
        · simp [ho, resolve, invoke, builtin, Builtin.max_, Builtin.max2, e1, e3, stdF]
        · simp [ho, resolve, invoke, builtin, Builtin.min_, Builtin.min2, e1, e3, stdF]
      · cases hp
    · cases hc
  · cases hc
end
end Go.Pm
