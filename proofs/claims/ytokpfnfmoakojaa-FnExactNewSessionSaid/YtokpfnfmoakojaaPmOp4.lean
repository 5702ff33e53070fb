/-
  The operations that read: parts of a tuple, loads, parts of a slice.
-/
import Derived.Test.YtokpfnfmoakojaaPmOp3
import Derived.Lib.Strings
namespace Go.Pm
open Go
section
variable {P : Program} {G : Env} {K : CEnv} {f : Fix} {H : Hint} {C : FuncId → List Arg → Option Res} {glob : Bool} {u : Wit} {st st' : St} {σ σ' : SG} {a : Act} {w : World} {o : Oper}

theorem extract_ok (h : Rel f u st σ a w) {x : Operand} {j : Nat} {e : Eff} {ce : CE} (ho : o.op = .extract x j) (hp : pExtract j (evE st.env x) = some e) (hp' : papply stdF H o.dst st e = some st')
    (hc : cExtract σ x j = some ce) (hc' : capply f.N o.dst σ ce = some σ') : Goal P f o a w st' σ' := by
  unfold cExtract at hc
  split at hc
  · rename_i t
    split at hc
    · rename_i l hs
      split at hc
      · rename_i agg ks ls hl
        cases hc
        unfold pExtract at hp
        split at hp
        · rename_i vs hx
          simp only [evE] at hx
          obtain ⟨h1, h2⟩ := h.entry hx hs
          obtain ⟨ps, cs, hps, hv, ht⟩ := h1.isTup
          cases hps
          split at hp
          · rename_i p hcut
            simp only [putV, Option.some.injEq] at hp
            subst hp
            obtain ⟨v, p', lfs, g1, g2, g3, g4, g5⟩ := ht.get hl
            obtain ⟨e1, e2⟩ := cut_eq hcut
            have hpe : p' = p := by
              have e3 : (vs.drop j).take 1 = [p'] := by
                rw [List.take_one]
                simp [g2]
              rw [e3] at e1
              simpa using e1.symm
            subst hpe
            obtain ⟨u', hr⟩ := put_step rfl h hp' hc' (.val g3 g4) (fun y hy => .of_live (h2 y (g5 y hy))) (fun y hy => (h.leaf y (h2 y (g5 y hy))).lin)
            refine .value (v := v) ?_ hr
            have hev : a.eval (.tmp t) = .tuple cs := hv
            have hcs : cs[j]? = some v := by simpa using g1
            unfold execOp
            simp [ho, hev, Instr.extract, hcs]
          · cases hp
        · cases hp
      · cases hc
    · cases hc
  · cases hc

/-- A whole variable out of some cells. -/
theorem whole_ok (hS : Setting P G K f) {t : TypeId} {i : TyI} (hty : f.Ty t = .val i) {cells : List PV} {off : Nat} {p : PV} (hw : whole i cells off = some p) {ks : List LK} (hks : (ks.drop off).take i.leaves.length = i.leaves)
    {vs : List Value} {oss : List (List (Nat × Nat))} (hr : RdL f.Ty w ks vs cells oss) {b o' : Nat} (hra : w.rangeAt b o' vs) :
    ∃ v, (Instr.loadAt t (.pointer (some ⟨b, o' + off, none⟩))).run P w = .ok v w ∧ RdV f.Ty w i.agg i.leaves v p ((vs.drop off).take i.leaves.length) ((oss.drop off).take i.leaves.length) := by
  have hr2 := (hr.drop off).take i.leaves.length
  rw [hks] at hr2
  have hra2 := rangeAt_take (rangeAt_drop hra off) i.leaves.length
  have hlen := hr2.len
  obtain ⟨_, inf, z, hinf, hsz, _⟩ := hS.tab.ty t i hty
  unfold whole at hw
  cases ha : i.agg with
  | true =>
    rw [ha] at hw
    simp only at hw
    split at hw
    · rename_i l hl
      cases hw
      obtain ⟨e1, _⟩ := cut_eq hl
      rw [← e1] at hr2
      obtain ⟨fs, hu, _⟩ := hS.tab.agg t i hty ha
      refine ⟨_, run_loadAt_mid (P := P) w b (o' + off) t _ (.struct fs) hra2 hu rfl (by rw [hinf, hlen.1]; simp [hsz]), ?_⟩
      exact RdV.agg hr2
    · cases hw
  | false =>
    rw [ha] at hw
    simp only at hw
    split at hw
    · rename_i q hl
      cases hw
      obtain ⟨k, hk, hu⟩ := hS.tab.one t i hty ha
      obtain ⟨e1, _⟩ := cut_eq hl
      rw [hk] at hr2 hlen hra2 ⊢
      simp only [List.length_cons, List.length_nil, Nat.zero_add] at hr2 hlen hra2 ⊢
      rw [← e1] at hr2
      generalize hvs : (vs.drop off).take 1 = vs' at hr2 hlen hra2 ⊢
      generalize hoss : (oss.drop off).take 1 = oss' at hr2 hlen ⊢
      cases hr2 with
      | @cons _ v _ os _ _ _ _ hrd rest =>
        cases rest
        refine ⟨v, ?_, RdV.one hrd⟩
        have hcell : w.cell? ⟨b, o' + off, none⟩ = some v := hra2 0 v rfl
        have hagg : (isAgg t).run P w = .ok false w := by
          unfold isAgg
          rw [Sem.run_bind, run_underlying hu w]
          cases k <;> rfl
        simp only [Instr.loadAt, Instr.sureAddr, Sem.run_bind, Sem.run_pure, Result.andThen_ok, loadVar, hagg]
        simp [hcell]
    · cases hw

theorem load_ok (hS : Setting P G K f) (h : Rel f u st σ a w) {t : TypeId} {x : Operand} {e : Eff} {ce : CE} (ho : o.op = .load t x) (hp : pLoad G st.vars (tyOf G t) (evE st.env x) = some e) (hp' : papply stdF H o.dst st e = some st')
    (hc : cLoad σ (tyC K t) x = some ce) (hc' : capply f.N o.dst σ ce = some σ') : Goal P f o a w st' σ' := by
  have hexec : ∀ v, (Instr.loadAt t (a.eval x)).run P w = .ok v w → (execOp a.eval o).run P w = .ok (.value v) w := fun v hv => by
    unfold execOp
    simp only [ho, Sem.run_bind, hv, Result.andThen_ok, Sem.run_pure]
  unfold cLoad at hc
  split at hc
  · rename_i i t' hi
    have hty := tyC_eq hS hi
    have hg : tyOf G t = some i := by unfold tyOf; rw [hS.gty, hty]
    rw [hg] at hp
    simp only [evE] at hp
    cases hx : lk t' st.env with
    | none => simp [hx, pLoad] at hp
    | some en =>
      rw [hx] at hp
      have hev : a.eval (.tmp t') = a.tmps.getD t' undef := rfl
      split at hc
      · rename_i k off hs
        split at hc
        · rename_i ks ls hv
          split at hc
          · rename_i ks' ls' hk1 hl1
            split at hc
            · rename_i heq
              have := eqLKs_eq heq
              subst this
              cases hc
              obtain ⟨h1, _⟩ := h.entry hx hs
              obtain ⟨rfl, hval, _⟩ := h1.isVar
              simp only [pLoad, loadFrom] at hp
              split at hp
              · rename_i cells hcells
                obtain ⟨el, cur, g2, g3, g4, g5⟩ := h.var k cells _ hcells hv
                cases hwh : whole i cells off with
                | none => simp [hwh, putV] at hp
                | some p =>
                  simp only [hwh, putV, Option.some.injEq] at hp
                  subst hp
                  have hra : w.rangeAt (u.β k) 0 ((u.LV k).map (·.v)) := fun j v hj => by
                    rw [← g3] at hj
                    simp only [World.cell?, g2, Nat.zero_add]
                    simpa using hj
                  obtain ⟨e1, e2⟩ := cut_eq hk1
                  obtain ⟨e3, e4⟩ := cut_eq hl1
                  obtain ⟨v, q1, q2⟩ := whole_ok (P := P) hS hty hwh e1.symm g4 hra
                  obtain ⟨u', hr⟩ := put_step (v := v) (lfs := ((u.LV k).drop off).take i.leaves.length) rfl h hp' hc' (.val (by simpa [List.map_take, List.map_drop] using q2) (by
                      rw [List.map_take, List.map_drop, g5, e3]))
                    (fun y hy => .of_live (.inr ⟨k, cells, _, hcells, hv, List.mem_of_mem_drop (List.mem_of_mem_take hy)⟩))
                    (fun y hy => (h.leaf y (.inr ⟨k, cells, _, hcells, hv, List.mem_of_mem_drop (List.mem_of_mem_take hy)⟩)).lin)
                  refine .value (hexec _ ?_) hr
                  rw [hev, hval]
                  simpa using q1
              · simp [putV] at hp
            · cases hc
          · cases hc
        · cases hc
      · rename_i ks li off hs
        split at hc
        · rename_i ks' hk1
          split at hc
          · rename_i heq
            have := eqLKs_eq heq
            subst this
            obtain ⟨h1, h2⟩ := h.entry hx hs
            obtain ⟨b, o', j, cells, rest, row, rfl, hval, hlf, g0, g1, g2, g3⟩ := h1.isElem
            simp only [pLoad] at hp
            cases hwh : whole i cells off with
            | none => simp [hwh, pElem] at hp
            | some p =>
              rw [hwh] at hp
              obtain ⟨e1, e2⟩ := cut_eq hk1
              obtain ⟨v, q1, q2⟩ := whole_ok (P := P) hS hty hwh e1.symm g2 g1
              have hlen := q2.1.len
              have hmem : ∀ y ∈ (rest.drop off).take i.leaves.length, y ∈ rest := fun y hy => List.mem_of_mem_drop (List.mem_of_mem_take hy)
              have hliv : ∀ y ∈ (rest.drop off).take i.leaves.length, y.li = ⟨li.dt, li.dt, false, li.lin, 0⟩ := fun y hy => g3 y (hmem y hy)
              have hl2 : ((rest.drop off).take i.leaves.length).map (·.li) = List.replicate i.leaves.length ⟨li.dt, li.dt, false, li.lin, 0⟩ := by
                have hn : ((rest.drop off).take i.leaves.length).length = i.leaves.length := by
                  have := hlen.1
                  rw [← List.map_drop, ← List.map_take, List.length_map] at this
                  exact this
                rw [List.eq_replicate_iff]
                refine ⟨by rw [List.length_map, hn], fun y hy => ?_⟩
                obtain ⟨z, hz, rfl⟩ := List.mem_map.1 hy
                exact hliv z hz
              have hq2 : RdV f.Ty w i.agg i.leaves v p (((rest.drop off).take i.leaves.length).map (·.v)) (((rest.drop off).take i.leaves.length).map (·.os)) := by simpa [List.map_take, List.map_drop] using q2
              have hfin : ∀ {u' : Wit}, Rel f u' st' σ' (a.put o.dst v) w → Goal P f o a w st' σ' := fun hr => by
                refine .value (hexec _ ?_) hr
                rw [hev, hval]
                exact q1
              cases hsl : anySl i.leaves with
              | false =>
                simp only [hsl, pElem, Option.some.injEq] at hp hc
                subst hp; subst hc
                obtain ⟨u', hr⟩ := put_step (v := v) (lfs := (rest.drop off).take i.leaves.length) rfl h hp' hc' (.val hq2 hl2)
                  (fun y hy => .of_live (h2 y (by rw [hlf]; exact List.mem_cons_of_mem _ (hmem y hy))))
                  (fun y hy => (h.leaf y (h2 y (by rw [hlf]; exact List.mem_cons_of_mem _ (hmem y hy)))).lin)
                exact hfin hr
              | true =>
                simp only [hsl, pElem, Option.some.injEq] at hp hc
                subst hp; subst hc
                have hsub : ∀ y ∈ row :: (rest.drop off).take i.leaves.length, y ∈ u.LF t' := fun y hy => by
                  rw [hlf]
                  rcases List.mem_cons.1 hy with rfl | hy
                  · exact List.mem_cons_self
                  · exact List.mem_cons_of_mem _ (hmem y hy)
                obtain ⟨u', hr⟩ := put_step (v := v) (lfs := row :: (rest.drop off).take i.leaves.length) rfl h hp' hc'
                  (.velem g0 (by have := g2.len.1; have := congrArg List.length e1; simp at this; omega) (by
                    have := rangeAt_take (rangeAt_drop g1 off) i.leaves.length
                    simpa [List.map_take, List.map_drop] using this) hq2 hliv)
                  (fun y hy => .of_live (h2 y (hsub y hy)))
                  (fun y hy => (h.leaf y (h2 y (hsub y hy))).lin)
                exact hfin hr
          · cases hc
        · cases hc
      · cases hc
  · cases hc

theorem optInt_ok (h : Rel f u st σ a w) {x : Option Operand} {b : Option Int} (hc : optInt σ x = true) (hp : optI st.env x = some b) :
    (x = none ∧ b = none) ∨ ∃ y k n, x = some y ∧ b = some n ∧ a.eval y = .int k n := by
  cases x with
  | none => simp only [optI, Option.some.injEq] at hp; exact .inl ⟨rfl, hp.symm⟩
  | some y =>
    simp only [optInt] at hc
    obtain ⟨k, hk⟩ := isInt_ok hc
    simp only [optI] at hp
    split at hp
    · rename_i k' n hy
      cases hp
      obtain ⟨_, g⟩ := h.kind hk hy
      obtain ⟨n', e1, e2⟩ := g.asInt
      cases e2
      exact .inr ⟨y, _, n, rfl, rfl, e1⟩
    · cases hp

theorem bounds_eq {n : Nat} {lo hi : Option Int} {x y : Nat} (h : bounds n lo hi = some (x, y)) :
    x ≤ y ∧ y ≤ n ∧ (∀ h', hi = some h' → h' = (y : Int)) ∧ (hi = none → y = n) ∧ (∀ l', lo = some l' → l' = (x : Int)) ∧ (lo = none → x = 0) := by
  cases hi <;> cases lo <;> simp only [bounds] at h <;> split at h
  all_goals first
    | (rename_i hb
       simp only [Option.some.injEq, Prod.mk.injEq] at h
       obtain ⟨rfl, rfl⟩ := h
       simp at hb ⊢
       try omega)
    | cases h

theorem sliceBounds_run {isSl : Bool} {len cap : Nat} {lo hi : Option Value} {x y : Nat} (hxy : x ≤ y) (hyl : y ≤ len) (hlc : len ≤ cap) (hh : (hi = none ∧ y = len) ∨ ∃ k, hi = some (.int k y)) (hl : (lo = none ∧ x = 0) ∨ ∃ k, lo = some (.int k x)) :
    (Instr.sliceBounds isSl len cap lo hi none).run P w = .ok (x, y, cap) w := by
  rcases hh with ⟨rfl, rfl⟩ | ⟨k, rfl⟩ <;> rcases hl with ⟨rfl, rfl⟩ | ⟨k', rfl⟩
  · simp [Instr.sliceBounds]
  · simp [Instr.sliceBounds, Instr.sliceBound, asIntOf, hxy]
  · have h1 : y ≤ cap := by omega
    simp [Instr.sliceBounds, Instr.sliceBound, asIntOf, h1]
  · have h1 : y ≤ cap := by omega
    simp [Instr.sliceBounds, Instr.sliceBound, asIntOf, h1, hxy]

theorem slice_ok (hS : Setting P G K f) (h : Rel f u st σ a w) {t : TypeId} {x : Operand} {lo hi : Option Operand} {e : Eff} {ce : CE} (ho : o.op = .slice t x lo hi none) (hp : pSlice stdF (evV st.env x) (optI st.env lo) (optI st.env hi) = some e) (hp' : papply stdF H o.dst st e = some st')
    (hc : cSl K σ (exOne (tyC K t)) x lo hi none = some ce) (hc' : capply f.N o.dst σ ce = some σ') : Goal P f o a w st' σ' := by
  unfold cSl at hc
  split at hc
  · rename_i _ h1 h2
    have fin : ∀ {bl bh : Option Int} {x' y' n cap : Nat} {isS : Bool}, optI st.env lo = some bl → optI st.env hi = some bh → bounds n bl bh = some (x', y') → n ≤ cap → (Instr.sliceBounds isS n cap (lo.map a.eval) (hi.map a.eval) none).run P w = .ok (x', y', cap) w := by
      intro bl bh x' y' n cap isS hbl hbh hb hnc
      obtain ⟨b1, b2, b3, b4, b5, b6⟩ := bounds_eq hb
      refine sliceBounds_run b1 b2 hnc ?_ ?_
      · rcases optInt_ok h h2 hbh with ⟨rfl, rfl⟩ | ⟨y, k, m, rfl, rfl, e1⟩
        · exact .inl ⟨rfl, b4 rfl⟩
        · exact .inr ⟨k, by simp [e1, b3 m rfl]⟩
      · rcases optInt_ok h h1 hbl with ⟨rfl, rfl⟩ | ⟨y, k, m, rfl, rfl, e1⟩
        · exact .inl ⟨rfl, b6 rfl⟩
        · exact .inr ⟨k, by simp [e1, b5 m rfl]⟩
    unfold cSlice at hc
    split at hc
    · rename_i ls h3 h4
      have hu := exOne_eq hS h3
      simp only [putS, Option.some.injEq] at hc
      subst hc
      cases hx : evV st.env x with
      | none => simp [hx, pSlice] at hp
      | some p =>
        obtain ⟨lfs, g⟩ := h.val (by decide) h4 hx
        obtain ⟨os, _, _, rd⟩ := g.rd.isOne
        obtain ⟨s, e1, rfl⟩ := rd.asStr
        rw [hx] at hp
        unfold pSlice at hp
        split at hp
        · rename_i s' bl bh he hbl hbh
          cases he
          split at hp
          · rename_i r hr
            simp only [putV, Option.some.injEq] at hp
            subst hp
            simp only [stdF, stdSub] at hr
            split at hr
            · rename_i x' y' hb
              cases hr
              have hsz : s.data.toList.length = s.size := by simp
              rw [hsz] at hb
              have hrun := fin (cap := s.size) (isS := false) hbl hbh hb (Nat.le_refl _)
              obtain ⟨b1, b2, _⟩ := bounds_eq hb
              have hrd : Rd f.Ty w .str (.string (s.extract x' y')) (.str ((s.data.toList.take y').drop x')) [] := by
                have := Rd.str (Ty := f.Ty) (w := w) (s.extract x' y')
                rw [Lib.extract_data] at this
                rw [List.drop_take] at *
                exact this
              obtain ⟨u', hr⟩ := scal_put h hp' hc' hrd
              refine .value ?_ hr
              unfold execOp
              simp only [ho, e1, Instr.sliceAt, Sem.run_bind, run_underlying hu, Result.andThen_ok, LK.desc, Instr.slice, Option.map_none, Option.isSome_none, Bool.false_eq_true, if_false, hrun, Sem.run_pure]
            · cases hr
          · cases hp
        · rename_i he _ _; cases he
        · cases hp
    · rename_i E' E li h3 h4
      have hu := exOne_eq hS h3
      split at hc
      · rename_i ie hee hie
        have := beq_eq.1 hee
        subst this
        cases hc
        have hEE := tyC_eq hS hie
        cases hx : evV st.env x with
        | none => simp [hx, pSlice] at hp
        | some p =>
          obtain ⟨lfs, g⟩ := h.val (by decide) h4 hx
          obtain ⟨os, hvs, hos, rd⟩ := g.rd.isOne
          have hlf : ∃ x0, lfs = [x0] ∧ x0.os = os ∧ x0.li = li := by
            have hli := g.li
            cases lfs with
            | nil => simp at hos
            | cons x0 r =>
              simp only [List.map_cons, List.cons.injEq, List.map_eq_nil_iff] at hos hli
              obtain ⟨o1, o2⟩ := hos
              subst o2
              exact ⟨x0, rfl, o1, hli.1⟩
          obtain ⟨x0, rfl, hxo, hxl⟩ := hlf
          have hD := g.der x0 (by simp)
          have hN := g.lin x0 (by simp)
          rw [hx] at hp
          unfold pSlice at hp
          split at hp
          · rename_i he _ _
            cases he
            generalize a.eval x = vv at rd
            cases rd
          · rename_i s' bl bh he hbl hbh
            cases he
            split at hp
            · rename_i r hr
              simp only [putV, Option.some.injEq] at hp
              subst hp
              simp only [stdF, stdSub] at hr
              split at hr
              · rename_i x' y' hb
                cases hr
                obtain ⟨b1, b2, _⟩ := bounds_eq hb
                have hexec : ∀ {ad : Option Addr} {cap : Nat} {i : TyI}, a.eval x = .slice ad s'.length cap → s'.length ≤ cap → f.Ty E = .val i →
                    (execOp a.eval o).run P w = .ok (.value (.slice (if cap = x' then ad else ad.map (·.add (x' * i.leaves.length))) (y' - x') (cap - x'))) w := by
                  intro ad cap i hev hcap hE
                  have hrun := fin (cap := cap) (isS := true) hbl hbh hb hcap
                  unfold execOp
                  simp only [ho, hev, Instr.sliceAt, Sem.run_bind, run_underlying hu, Result.andThen_ok, LK.desc, Instr.slice, Option.map_none, hrun, size_run hS hE, Sem.run_pure]
                have hrest : ∀ p ∈ x0.tq, Rests u st σ p.1 p.2 := hD.rests
                rcases rd.sliceInv with ⟨hv, rfl, rfl⟩ | ⟨i, b, of, cap, vs, oss, hv, ho', hTy, hi, hcap, hel, hra, hrd⟩
                · simp at b2
                  subst b2
                  simp at b1
                  subst b1
                  obtain ⟨u', hr⟩ := put_step (v := .slice none 0 0) (e := .val (.slice [])) (s := .val false [.slice E] [⟨li.tag, li.dt, false, li.lin, 0⟩]) (lfs := [⟨⟨li.tag, li.dt, false, li.lin, 0⟩, .slice none 0 0, []⟩]) rfl h (by simpa using hp') hc' (.val (RdV.one (.nil E)) rfl)
                    (fun y hy => by obtain rfl := List.mem_singleton.1 hy; exact .free rfl rfl rfl) (fun y hy _ => by obtain rfl := List.mem_singleton.1 hy; simp)
                  refine .value (v := .slice none 0 0) (w' := w) ?_ hr
                  have hrun := fin (n := 0) (cap := 0) (isS := true) hbl hbh (by simpa using hb) (Nat.le_refl _)
                  unfold execOp
                  simp only [ho, hv, Instr.sliceAt, Sem.run_bind, run_underlying hu, Result.andThen_ok, LK.desc, Instr.slice, Option.map_none, hrun, size_run hS hEE, Sem.run_pure]
                  rfl
                · have hps : ∀ p ∈ (s'.take y').drop x', ElOk i p := fun p hp => hel p (List.mem_of_mem_take (List.mem_of_mem_drop hp))
                  have hpl : ((s'.take y').drop x').length = y' - x' := by simp; omega
                  have key : ∃ ad c oss', (if cap = x' then (some ⟨b, of, none⟩ : Option Addr) else (some ⟨b, of, none⟩ : Option Addr).map (·.add (x' * i.leaves.length))) = some ad ∧ c = cap - x' ∧ ad.block = b ∧ ∃ e', e' ≤ of + s'.length * i.leaves.length ∧
                      Rd f.Ty w (.slice E) (.slice (some ad) (y' - x') c) (.slice ((s'.take y').drop x')) ((b, e') :: oss') ∧ (∀ q ∈ oss', q ∈ oss.flatten) ∧ (oss'.map (·.1)).Sublist (oss.flatten.map (·.1)) := by
                    by_cases hcx : cap = x'
                    · have hxy : y' = x' := by omega
                      subst hxy
                      refine ⟨⟨b, of, none⟩, 0, [], by simp [hcx], by omega, rfl, of, by omega, ?_, (fun q hq => by cases hq), by simp⟩
                      have := Rd.slice (Ty := f.Ty) (w := w) (E := E) (i := i) (b := b) (o := of) (len := 0) (cap := 0) (ps := []) (vs := []) (oss := []) hTy hi rfl (Nat.le_refl _) (fun p hp => by cases hp) (fun j v hj => (by simp at hj)) (by simpa using RdL.nil)
                      simpa using this
                    · have hpart := hrd.part hi hel (a := x') (n := y' - x') (by omega)
                      have e3 : (s'.drop x').take (y' - x') = (s'.take y').drop x' := by rw [List.drop_take]
                      rw [e3] at hpart
                      refine ⟨⟨b, of + x' * i.leaves.length, none⟩, cap - x', _, by rw [if_neg hcx]; simp [Addr.add_mid], rfl, rfl, of + x' * i.leaves.length + (y' - x') * i.leaves.length, ?_,
                        Rd.slice hTy hi hpl (by omega) hps (rangeAt_take (rangeAt_drop hra _) _) hpart, fun q hq => mem_flatten_take_drop hq, ?_⟩
                      · have := Nat.mul_le_mul_right i.leaves.length (show x' + (y' - x') ≤ s'.length by omega)
                        rw [Nat.add_mul] at this
                        omega
                      · exact List.Sublist.map _ (flatten_sub ((List.take_sublist _ _).trans (List.drop_sublist _ _)))
                  obtain ⟨ad, c, oss', k1, k2, k3, e', k4, k5, k6, k7⟩ := key
                  obtain ⟨u', hr⟩ := put_step (v := .slice (some ad) (y' - x') c) (s := .val false [.slice E] [⟨li.tag, li.dt, false, li.lin, 0⟩]) (lfs := [⟨⟨li.tag, li.dt, false, li.lin, 0⟩, .slice (some ad) (y' - x') c, (b, e') :: oss'⟩]) rfl h hp' hc' (.val (RdV.one k5) rfl)
                    (fun y hy => by
                      obtain rfl := List.mem_singleton.1 hy
                      refine ⟨fun p hp => ?_, fun e => (by cases e), fun e => absurd rfl e⟩
                      simp only [Lf.tq, List.mem_cons, List.mem_map] at hp
                      have htq : x0.tq = (li.tag, (b, of + s'.length * i.leaves.length)) :: oss.flatten.map (li.dt, ·) := by simp [Lf.tq, hxo, ho', hxl]
                      rcases hp with rfl | ⟨q, hq, rfl⟩
                      · obtain ⟨z, hz, p0, hp0, z1, z2, z3⟩ := hrest (li.tag, (b, of + s'.length * i.leaves.length)) (by rw [htq]; simp)
                        exact ⟨z, hz, p0, hp0, z1, z2, by simp at z3 ⊢; omega⟩
                      · exact hrest (li.dt, q) (by rw [htq]; exact List.mem_cons_of_mem _ (List.mem_map.2 ⟨q, k6 q hq, rfl⟩)))
                    (fun y hy hl => by
                      obtain rfl := List.mem_singleton.1 hy
                      have := hN (by rw [hxl]; exact hl)
                      rw [hxo, ho', List.map_cons, List.nodup_cons] at this
                      rw [List.map_cons, List.nodup_cons]
                      exact ⟨fun hm => this.1 (k7.subset hm), this.2.sublist k7⟩)
                  refine .value (w' := w) ?_ hr
                  rw [hexec hv hcap hTy, k1, k2]
              · cases hr
            · cases hp
          · cases hp
      · cases hc
    · cases hc
  · cases hc
end
end Go.Pm
