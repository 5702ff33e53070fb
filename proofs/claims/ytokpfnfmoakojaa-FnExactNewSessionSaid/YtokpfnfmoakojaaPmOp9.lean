/-
  A store into an element of a row that is read at one place alone.
-/
import Derived.Test.YtokpfnfmoakojaaPmSet
namespace Go.Pm
open Go

theorem range_over {w w' : World} {b o p : Nat} {vs m : List Value} {cur cur' : Array Value} {el : TypeId} {fr : Nat × Nat} (hr : w.rangeAt b o vs) (h1 : w.heap[b]? = some (.cells cur el fr)) (h2 : w'.heap[b]? = some (.cells cur' el fr))
    (hc : cur'.toList = cur.toList.take (o + p) ++ m ++ cur.toList.drop (o + p + m.length)) (hp : p + m.length ≤ vs.length) (hs : o + vs.length ≤ cur.size) : w'.rangeAt b o (vs.take p ++ m ++ vs.drop (p + m.length)) := by
  intro j v hj
  have hcell : ∀ q, w'.cell? ⟨b, q, none⟩ = cur'.toList[q]? := fun q => by simp [World.cell?, h2]
  have hold : ∀ q x, vs[q]? = some x → cur.toList[o + q]? = some x := fun q x hq => by
    have := hr q x hq
    simpa [World.cell?, h1] using this
  have l1 : (cur.toList.take (o + p)).length = o + p := by simp; omega
  have l2 : (vs.take p).length = p := by simp; omega
  rw [hcell, hc]
  rcases Nat.lt_or_ge j p with hjp | hjp
  · rw [List.append_assoc, List.getElem?_append_left (by omega), List.getElem?_take, if_pos hjp] at hj
    rw [List.append_assoc, List.getElem?_append_left (by omega), List.getElem?_take, if_pos (by omega)]
    exact hold j v hj
  · rw [List.append_assoc, List.getElem?_append_right (by omega), l2] at hj
    rw [List.append_assoc, List.getElem?_append_right (by omega), l1, show o + j - (o + p) = j - p by omega]
    rcases Nat.lt_or_ge (j - p) m.length with hjm | hjm
    · rw [List.getElem?_append_left hjm] at hj ⊢
      exact hj
    · rw [List.getElem?_append_right hjm, List.getElem?_drop] at hj ⊢
      have := hold _ v hj
      rw [← this]
      congr 1
      omega

section
variable {P : Program} {G : Env} {K : CEnv} {f : Fix} {H : Hint} {u : Wit} {st st' : St} {σ σ' : SG} {a : Act} {w : World} {o : Oper}

theorem lay_eq {α : Type} (vs m : List α) {A sz off n : Nat} (hn : n = m.length) (h1 : off + n ≤ sz) (h2 : A + sz ≤ vs.length) :
    vs.take A ++ (((vs.drop A).take sz).take off ++ m ++ ((vs.drop A).take sz).drop (off + n)) ++ vs.drop (A + sz) = vs.take (A + off) ++ m ++ vs.drop (A + off + m.length) := by
  subst hn
  have e1 : vs.take (A + off) = vs.take A ++ (vs.drop A).take off := List.take_add
  have e2 : vs.drop (A + off + m.length) = ((vs.drop A).take sz).drop (off + m.length) ++ vs.drop (A + sz) := by
    have e3 : vs.drop A = (vs.drop A).take sz ++ vs.drop (A + sz) := by rw [← List.drop_drop, List.take_append_drop]
    rw [Nat.add_assoc, ← List.drop_drop]
    conv => lhs; rw [e3]
    rw [List.drop_append_of_le_length (by simp; omega)]
  rw [e1, e2, List.take_take, Nat.min_eq_left (by omega)]
  simp [List.append_assoc]
theorem likeEl {i : TyI} {p : PV} {cs : List PV} (h : ElOk i p) (hl : cs.length = i.leaves.length) (hi : i.ok) (hn : ∀ c ∈ cs, ∀ l, c ≠ .agg l) : cellsOf (likeCells p cs) = cs ∧ ElOk i (likeCells p cs) := by
  obtain ⟨agg, leaves, fields, sizes⟩ := i
  cases agg with
  | true =>
    obtain ⟨l, rfl, _⟩ := h
    exact ⟨rfl, _, rfl, hl⟩
  | false =>
    have h1 := hi.2 rfl
    simp only at h1 hl
    cases cs with
    | nil => simp at hl; omega
    | cons c r =>
      cases r with
      | cons _ _ => simp at hl; omega
      | nil =>
        have hc := hn c (by simp)
        have : likeCells p [c] = c := by cases p <;> first | rfl | exact absurd rfl (h _)
        rw [this]
        exact ⟨cellsOf_ne hc, hc⟩
/-- The leaf at a place is read. -/
theorem leafAt_ok (h : Rel f u st σ a w) {p : Place} {k : LK} {l0 : LI} {c : PV} (hl : leafAt σ p = some (k, l0)) (hp : leavesAt st p 1 = some [c]) :
    ∃ x, midAt u p 1 = [x] ∧ x.li = l0 ∧ Live u st σ x ∧ Rd f.Ty w k x.v c x.os ∧ ksAt σ p 1 = [k] := by
  have one : ∀ {α : Type} {l : List α} {off : Nat} {y : α}, l[off]? = some y → (l.drop off).take 1 = [y] := fun {α l off y} hy => by
    obtain ⟨h1, h2⟩ := List.getElem?_eq_some_iff.1 hy
    rw [List.drop_eq_getElem_cons h1, h2]
    rfl
  have core : ∀ {ks : List LK} {ls : List LI} {ps : List PV} {lfs : List Lf} {off : Nat}, RdL f.Ty w ks (lfs.map (·.v)) ps (lfs.map (·.os)) → lfs.map (·.li) = ls → (∀ x ∈ lfs, Live u st σ x) → ks[off]? = some k → ls[off]? = some l0 → cut ps off 1 = some [c] →
      ∃ x, (lfs.drop off).take 1 = [x] ∧ x.li = l0 ∧ Live u st σ x ∧ Rd f.Ty w k x.v c x.os ∧ (ks.drop off).take 1 = [k] := fun {ks ls ps lfs off} hr hls hlv h1 h2 h3 => by
    obtain ⟨c1, c2⟩ := cut_eq h3
    subst hls
    rw [List.getElem?_map] at h2
    cases hx : lfs[off]? with
    | none => simp [hx] at h2
    | some x =>
      simp [hx] at h2
      obtain ⟨k', v, p', os, e1, e2, e3, e4, e5⟩ := hr.get off (List.getElem?_eq_some_iff.1 h1).1
      rw [h1] at e1
      cases e1
      rw [one e3] at c1
      cases c1
      simp [hx] at e2 e4
      subst e2; subst e4
      exact ⟨x, one hx, h2, hlv x (List.mem_of_getElem? hx), e5, one h1⟩
  cases p with
  | slot s off =>
    simp only [leafAt] at hl
    split at hl
    · rename_i agg ks ls hs
      split at hl
      · rename_i k' l' h1 h2
        cases hl
        simp only [leavesAt] at hp
        split at hp
        · rename_i v he
          obtain ⟨q1, q2⟩ := h.entry he hs
          obtain ⟨v', e1, g1, g2⟩ := q1.isVal
          cases e1
          have := core g1.1 g2 q2 h1 h2 hp
          simpa [midAt, ksAt, hs] using this
        · cases hp
      · cases hl
    · cases hl
  | var k0 off =>
    simp only [leafAt] at hl
    split at hl
    · rename_i ks ls hs
      split at hl
      · rename_i k' l' h1 h2
        cases hl
        simp only [leavesAt] at hp
        split at hp
        · rename_i cs he
          obtain ⟨el, cur, g0, g00, g1, g2⟩ := h.var k0 _ _ he hs
          have := core g1 g2 (fun x hx => .inr ⟨k0, _, _, he, hs, hx⟩) h1 h2 hp
          simpa [midAt, ksAt, hs] using this
        · cases hp
      · cases hl
    · cases hl

/-- Pieces of a list without doubles, others between them. -/
theorem nodup_mid {α : Type} {P Q Y L : List α} (hs : (P ++ Q).Sublist L) (hL : L.Nodup) (hY : Y.Nodup) (hd : ∀ x ∈ Y, x ∉ L) : (P ++ Y ++ Q).Nodup := by
  have h1 := hs.nodup hL
  rw [List.nodup_append] at h1 ⊢
  obtain ⟨a1, a2, a3⟩ := h1
  refine ⟨List.nodup_append.2 ⟨a1, hY, fun x hx y hy e => ?_⟩, a2, fun x hx y hy e => ?_⟩
  · subst e
    exact hd x hy (hs.subset (List.mem_append_left _ hx))
  · subst e
    rcases List.mem_append.1 hx with hx | hx
    · exact a3 x hx x hy rfl
    · exact hd x hx (hs.subset (List.mem_append_right _ hy))

theorem storeE_ok (hS : Setting P G K f) (h : Rel f u st σ a w) {t : TypeId} {x y : Operand} {e : Eff} {ce : CE} (ho : o.op = .store t x y) (hd : o.dst = none) (hp : pStore H st.vars x (evE st.env x) (evV st.env y) = some e) (hp' : papply stdF H o.dst st e = some st')
    {n : Nat} (hn : n ≠ 0) (hc : cStoreE K H σ n (tyC K t) x y = some ce) (hc' : capply f.N o.dst σ ce = some σ') : Goal P f o a w st' σ' := by
  unfold cStoreE at hc
  split at hc
  · rename_i i t' hi
    have hty := tyC_eq hS hi
    split at hc
    · rename_i ks li off p hs hpl
      split at hc
      · rename_i agg ks' ls' ks'' E l0 hy hcut hleaf
        split at hc
        · rename_i ie q1 q2 q3 hE
          split at hc
          · rename_i q5 q6 q7
            have := eqLKs_eq q1; subst this
            have := eqLKs_eq q3; subst this
            have := eqLKs_eq q5; subst this
            have hEt := tyC_eq hS hE
            simp only [evE] at hp
            cases hx : lk t' st.env with
            | none => simp [hx, pStore] at hp
            | some en =>
            rw [hx] at hp
            obtain ⟨h1, h2⟩ := h.entry hx hs
            obtain ⟨b, o', j, cells, rest, row, rfl, hval, hlf, hrow, g1, g2, g3⟩ := h1.isElem
            cases hy' : evV st.env y with
            | none => simp [hy', pStore] at hp
            | some pv =>
            obtain ⟨lfs, g⟩ := h.val hn hy hy'
            simp only [hy', pStore, hpl, Option.some.injEq] at hp
            subst hp
            simp only [papply, setIn] at hp'
            split at hp'
            · rename_i l hlv
              split at hp'
              · rename_i el hget
                split at hp'
                · rename_i cs hov
                  obtain ⟨x, m1, m2, m3, m4, m5⟩ := leafAt_ok h hleaf hlv
                  have hrl : Live u st σ row := h2 row (by rw [hlf]; exact List.mem_cons_self)
                  have hid : li.id ≠ 0 := by rw [← beq_eq.1 q6]; exact beq_ne.1 q7
                  have e1 := (h.leaf row hrl).name (by rw [hrow.li]; exact hid)
                  have e2 := (h.leaf x m3).name (by rw [m2, beq_eq.1 q6]; exact hid)
                  rw [m2, beq_eq.1 q6] at e2
                  rw [hrow.li] at e1
                  simp only at e1
                  rw [e1] at e2
                  obtain ⟨rv, ros⟩ := Prod.mk.inj e2
                  rw [hd] at hc'
                  -- what both kinds of store have
                  have hYt : ∀ q ∈ (lfs.map (·.os)).flatten, ∃ t ∈ tagsOf i.leaves ls', Rests u st σ t q := fun q hq => by
                    obtain ⟨m, hm, hqm⟩ := List.mem_flatten.1 hq
                    obtain ⟨z, hz, rfl⟩ := List.mem_map.1 hm
                    obtain ⟨t, ht⟩ := tq_mem hqm
                    have h1 := tags_leaf g.rd.1 z hz _ ht
                    rw [g.li] at h1
                    exact ⟨t, h1, (g.der z hz).rests _ ht⟩
                  have hab : ∀ t t' b, u.S t b → u.S t' b → t = t' := fun t t' b h1 h2 => by
                    by_cases e : t = t'
                    · exact e
                    · exact absurd h2 (h.apart _ _ _ e h1)
                  obtain ⟨ρ, nli, hce, hA0, hA1, hty', hdt, hyt, hlown, hnid, hntag, hsole, h65, hlinn⟩ : ∃ (ρ : Ren) (nli : LI), ce = .mutL ρ p [nli] [l0.tag] ∧ (memN 0 ρ.A = true → ρ.m = 0) ∧ memN l0.tag ρ.A = false ∧ ρ.tag l0.tag = l0.tag ∧ ρ.tag l0.dt = nli.dt ∧
                      (∀ t ∈ tagsOf i.leaves ls', (lfs.map (·.os)).flatten = [] ∨ (ρ.tag t = nli.dt ∧ t ≠ l0.tag)) ∧ nli.own = l0.own ∧ nli.id = l0.id ∧ nli.tag = l0.tag ∧ soleRow l0 = true ∧ (anySl i.leaves = false ∨ 65 ≤ l0.id) ∧
                      (nli.lin = true → l0.lin = true ∧ ((lfs.map (·.os)).flatten.map (·.1)).Nodup ∧ ∀ q ∈ (lfs.map (·.os)).flatten, ¬ u.S l0.dt q.1) := by
                    split at hc
                    · rename_i hsl
                      split at hc
                      · rename_i hso
                        cases hc
                        have hno : (lfs.map (·.os)).flatten = [] := g.rd.1.noSlices (anySl_false hsl)
                        exact ⟨⟨[], 0, true⟩, l0, rfl, fun _ => rfl, rfl, rfl, rfl, fun _ _ => .inl hno, rfl, rfl, rfl, hso, .inl hsl, fun hl => ⟨hl, by rw [hno]; simp, fun q hq => by rw [hno] at hq; cases hq⟩⟩
                      · cases hc
                    · rename_i hsl
                      split at hc
                      · cases hc
                      · cases hc
                      · rename_i hm hb65
                        cases hc
                        have hmem : ∀ t ∈ l0.dt :: tagsOf i.leaves ls', (⟨l0.dt :: tagsOf i.leaves ls', joinOf 0 (l0.dt :: tagsOf i.leaves ls'), true⟩ : Ren).tag t = joinOf 0 (l0.dt :: tagsOf i.leaves ls') := fun t ht => by
                          simp only [Ren.tag, memN_iff.2 ht]
                        refine ⟨_, _, rfl, fun h0 => joinOf_zero 0 (memN_iff.1 h0), hm, by simp only [Ren.tag, hm], hmem _ List.mem_cons_self, fun t ht => .inr ⟨hmem t (List.mem_cons_of_mem _ ht), fun e => ?_⟩, rfl, rfl, rfl, ?_, .inr (Nat.ble_eq.mp hb65), fun hl => ?_⟩
                        · rw [memN_iff.2 (e ▸ List.mem_cons_of_mem _ ht)] at hm; cases hm
                        · unfold soleRow
                          split
                          · rfl
                          · rw [memN_cons] at hm
                            simp only [Bool.or_eq_false_iff] at hm
                            have := beq_ne.1 hm.1
                            simp [beq_ne.2 (Ne.symm this)]
                        · simp only [storeLin] at hl
                          split at hl
                          · rename_i a1 a2 a3
                            rw [← g.li] at a2 a3
                            have := apart_nodup (S := u.S) hab g.rd.1 (fun z hz p hp => ((g.der z hz).leafOk h.leaf (g.lin z hz)).tag p hp) g.lin a2 a3
                            exact ⟨a1, this.1, fun q hq => this.2 q hq l0.dt (by simp)⟩
                          · cases hl
                  subst hce
                  simp only [capply] at hc'
                  have htag : l0.tag ≠ 0 := fun e0 => by
                    unfold cMutL at hc'
                    rw [e0] at hc'
                    simp [memN] at hc'
                  simp only [stdF, stdGet] at hget
                  split at hget
                  · rename_i h0
                    have hlt := (List.getElem?_eq_some_iff.1 hget).1
                    rcases m4.sliceInv with ⟨_, rfl, _⟩ | ⟨ie', b1, o1, cap, vs, oss, hv, hos, hTy, hi', hcap, hel, hra, hrd⟩
                    · simp at hlt
                    rw [hEt] at hTy
                    cases hTy
                    obtain ⟨o0, len, cap', k1, k2, k3, k4⟩ := hrow.v
                    rw [rv, hv] at k1
                    cases k1
                    have htq : ∀ q ∈ oss.flatten, (l0.dt, q) ∈ x.tq := fun q hq => by
                      unfold Lf.tq; rw [hos, m2]; exact List.mem_cons_of_mem _ (List.mem_map.2 ⟨q, hq, rfl⟩)
                    have hhd : (l0.tag, (b, o1 + l.length * ie.leaves.length)) ∈ x.tq := by unfold Lf.tq; rw [hos, m2]; exact List.mem_cons_self
                    have hS0 : u.S l0.tag b := (h.leaf x m3).tag _ hhd
                    obtain ⟨cur, elT, hcur⟩ := h.mem _ b (.inl htag) hS0
                    have hvl := hrd.len.1
                    rw [flat_len] at hvl
                    have hdup : ∀ q ∈ oss.flatten, q.1 ≠ b := fun q hq e => by
                      unfold soleRow at hsole
                      split at hsole
                      · rename_i hl
                        have := (h.leaf x m3).lin (by rw [m2]; exact hl)
                        rw [hos, List.map_cons, List.nodup_cons] at this
                        exact this.1 (e ▸ List.mem_map.2 ⟨q, hq, rfl⟩)
                      · have h1 := (h.leaf x m3).tag _ (htq q hq)
                        rw [e] at h1
                        exact absurd (hab _ _ _ h1 hS0).symm (beq_ne.1 (by simpa using hsole))
                    have hnd : ∀ q ∈ (lfs.map (·.os)).flatten, q.1 ≠ b := fun q hq e => by
                      obtain ⟨t, ht, hR⟩ := hYt q hq
                      rcases hyt t ht with h1 | ⟨_, h1⟩
                      · rw [h1] at hq; cases hq
                      · have h2 := hR.inS h.leaf
                        rw [e] at h2
                        exact h1 (hab _ _ _ h2 hS0)
                    obtain ⟨hcu1, hcu2⟩ := cut_eq hcut
                    have hglen := g.rd.1.len
                    have hpvl : (cellsOf pv).length = i.leaves.length := hglen.2.1
                    have hll : lfs.length = i.leaves.length := by have := hglen.1; simpa using this
                    have hbnd : j.toNat * ie.leaves.length + ie.leaves.length ≤ l.length * ie.leaves.length := by
                      have := Nat.mul_le_mul_right ie.leaves.length (show j.toNat + 1 ≤ l.length by omega)
                      rw [Nat.succ_mul] at this
                      exact this
                    have hcsz : o1 + vs.length ≤ cur.size := by
                      rcases Nat.eq_zero_or_pos vs.length with hz | hz
                      · have := hi'.1; omega
                      · have := hra (vs.length - 1) _ (List.getElem?_eq_getElem (by omega))
                        simp only [World.cell?, hcur] at this
                        have := (Array.getElem?_eq_some_iff.1 this).1
                        omega
                    obtain ⟨cur', b1, b2⟩ := setCells_block (lfs.map (·.v)) w b (o1 + (j.toNat * ie.leaves.length + off)) hcur (by simp; omega)
                    have hwv := setCells_wrote (lfs.map (·.v)) w b (o1 + (j.toNat * ie.leaves.length + off))
                    generalize hw' : w.setCells b (o1 + (j.toNat * ie.leaves.length + off)) (lfs.map (·.v)) = w' at b1 hwv
                    have hcz : cur'.size = cur.size := by
                      have := congrArg List.length b2
                      simp at this
                      omega
                    have hfr : ∀ l' : List (List (Nat × Nat)), (∀ q ∈ l'.flatten, q ∈ oss.flatten) → SameOn w w' l'.flatten := fun l' hl' q hq _ _ => cell_of_block (hwv.block q.1 (hdup q (hl' q hq)))
                    have h1 := h.ren ρ hA0
                    have hSr : ∀ t b, u.S t b → (ρ.wit u).S (ρ.tag t) b := fun t b hb => ⟨t, rfl, hb⟩
                    have hS1 : (ρ.wit u).S l0.tag b := by have := hSr _ _ hS0; rwa [hty'] at this
                    have hwrote : WroteIn (ρ.wit u) [l0.tag] w w' := ⟨fun b' _ hb' => hwv.block b' (fun e => hb' l0.tag (by simp) (e ▸ hS1)), fun t ht b' hb' cu el' hm => by
                      by_cases e : b' = b
                      · subst e
                        rw [hcur] at hm
                        cases hm
                        exact ⟨_, _, b1, hcz⟩
                      · rw [hwv.block b' e]; exact ⟨_, _, hm, rfl⟩, by rw [hwv.size]; exact Nat.le_refl _, hwv.os, hwv.tape, hwv.output⟩
                    obtain ⟨c1, c2⟩ := over_eq hov
                    have hel0 := (hrd.elem hi' hel hget).frame (hfr _ fun q hq => mem_flatten_take_drop hq)
                    have hopn := g.rd.1.frame (w' := w') (fun q hq _ _ => cell_of_block (hwv.block q.1 (hnd q hq)))
                    have hlay := hel0.over hopn hcu1.symm
                    rw [hpvl] at c1
                    rw [← c1] at hlay
                    obtain ⟨hlk, hok⟩ := likeEl (hel el (List.mem_of_getElem? hget)) hlay.len.2.1 hi' fun c hc => by
                      obtain ⟨q, hq1, hq2⟩ := List.mem_iff_getElem.1 hc
                      obtain ⟨_, _, p', _, _, _, m3, _, m5⟩ := hlay.get q (by have := hlay.len.2.1; omega)
                      rw [List.getElem?_eq_getElem hq1, hq2] at m3
                      cases m3
                      exact m5.notAgg
                    have hrow' := Rd.slice (Ty := f.Ty) (w := w') (cap := cap) (len := l.length) (b := b) (o := o1) (ps := l.set j.toNat (likeCells el cs)) hEt hi' List.length_set hcap (fun p hp => by
                        rcases List.mem_or_eq_of_mem_set hp with hp | rfl
                        · exact hel p hp
                        · exact hok) (vs := vs.take (j.toNat * ie.leaves.length + off) ++ lfs.map (·.v) ++ vs.drop (j.toNat * ie.leaves.length + off + (lfs.map (·.v)).length))
                      (range_over hra hcur b1 (by rw [b2]) (by simp; omega) hcsz) (by
                        have := row_set (w' := w') hi' hel hrd hlt (by rw [hlk]; exact hlay) (hfr _ fun q hq => by
                            obtain ⟨m, hm1, hm2⟩ := List.mem_flatten.1 hq
                            exact List.mem_flatten.2 ⟨m, List.mem_of_mem_take hm1, hm2⟩) (hfr _ fun q hq => by
                            obtain ⟨m, hm1, hm2⟩ := List.mem_flatten.1 hq
                            exact List.mem_flatten.2 ⟨m, List.mem_of_mem_drop hm1, hm2⟩)
                        have eq : vs.take (j.toNat * ie.leaves.length) ++ (((vs.drop (j.toNat * ie.leaves.length)).take ie.leaves.length).take off ++ lfs.map (·.v) ++ ((vs.drop (j.toNat * ie.leaves.length)).take ie.leaves.length).drop (off + i.leaves.length)) ++ vs.drop (j.toNat * ie.leaves.length + ie.leaves.length)
                            = vs.take (j.toNat * ie.leaves.length + off) ++ lfs.map (·.v) ++ vs.drop (j.toNat * ie.leaves.length + off + (lfs.map (·.v)).length) :=
                          lay_eq vs (lfs.map (·.v)) (by simp [hll]) hcu2 (by omega)
                        rw [eq] at this
                        exact this)
                    rw [← hv] at hrow'
                    generalize hP : (oss.take (j.toNat * ie.leaves.length)).flatten ++ (((oss.drop (j.toNat * ie.leaves.length)).take ie.leaves.length).take off).flatten = Pp
                    generalize hQ : (((oss.drop (j.toNat * ie.leaves.length)).take ie.leaves.length).drop (off + i.leaves.length)).flatten ++ (oss.drop (j.toNat * ie.leaves.length + ie.leaves.length)).flatten = Qq
                    have hflat : (oss.take (j.toNat * ie.leaves.length) ++ (((oss.drop (j.toNat * ie.leaves.length)).take ie.leaves.length).take off ++ lfs.map (·.os) ++ ((oss.drop (j.toNat * ie.leaves.length)).take ie.leaves.length).drop (off + i.leaves.length)) ++ oss.drop (j.toNat * ie.leaves.length + ie.leaves.length)).flatten = Pp ++ (lfs.map (·.os)).flatten ++ Qq := by
                      rw [← hP, ← hQ]; simp only [List.flatten_append, List.append_assoc]
                    rw [hflat] at hrow'
                    have hsub : (Pp ++ Qq).Sublist oss.flatten := by
                      have e1 : oss.flatten = (oss.take (j.toNat * ie.leaves.length)).flatten ++ (((oss.drop (j.toNat * ie.leaves.length)).take ie.leaves.length).flatten ++ (oss.drop (j.toNat * ie.leaves.length + ie.leaves.length)).flatten) := by
                        rw [← List.flatten_append, ← List.flatten_append, ← List.drop_drop, List.take_append_drop, List.take_append_drop]
                      have e2 : ∀ z : List (List (Nat × Nat)), ((z.take off).flatten ++ (z.drop (off + i.leaves.length)).flatten).Sublist z.flatten := fun z => by
                        conv => rhs; rw [← three z off i.leaves.length]
                        rw [List.flatten_append, List.flatten_append, List.append_assoc]
                        exact List.Sublist.append (List.Sublist.refl _) (List.sublist_append_right _ _)
                      rw [e1, ← hP, ← hQ, List.append_assoc, ← List.append_assoc (((oss.drop (j.toNat * ie.leaves.length)).take ie.leaves.length).take off).flatten]
                      exact List.Sublist.append (List.Sublist.refl _) (List.Sublist.append (e2 _) (List.Sublist.refl _))
                    have hin : ∀ q ∈ Pp ++ (lfs.map (·.os)).flatten ++ Qq, q ∈ oss.flatten ∨ q ∈ (lfs.map (·.os)).flatten := fun q hq => by
                      rcases List.mem_append.1 hq with hq | hq
                      · rcases List.mem_append.1 hq with hq | hq
                        · exact .inl (hsub.subset (List.mem_append_left _ hq))
                        · exact .inr hq
                      · exact .inl (hsub.subset (List.mem_append_right _ hq))
                    have hlx : Live (ρ.wit u) st (ρ.sg σ) (ρ.lf x) := by
                      rcases m3 with ⟨d, e, s, a1, a2, a3⟩ | ⟨k, c, s, a1, a2, a3⟩
                      · exact .inl ⟨d, e, ρ.si s, a1, by simp [Ren.sg, lk_mapV, a2], List.mem_map.2 ⟨x, a3, rfl⟩⟩
                      · exact .inr ⟨k, c, (s.1, s.2.map ρ.li), a1, by simp [Ren.sg, lk_mapV, a2], List.mem_map.2 ⟨x, a3, rfl⟩⟩
                    have hmid : midAt (ρ.wit u) p 1 = [ρ.lf x] := by
                      cases p with
                      | slot s off =>
                        simp only [midAt] at m1 ⊢
                        simp only [Ren.wit, ← List.map_drop, ← List.map_take, m1, List.map_cons, List.map_nil]
                      | var k off =>
                        simp only [midAt] at m1 ⊢
                        simp only [Ren.wit, ← List.map_drop, ← List.map_take, m1, List.map_cons, List.map_nil]
                    have hksr : ksAt (ρ.sg σ) p 1 = [.slice E] := by
                      rw [← m5]
                      cases p with
                      | slot s off =>
                        simp only [ksAt, Ren.sg, lk_mapV]
                        cases hq : lk s σ.slots with
                        | none => rfl
                        | some si => cases si <;> rfl
                      | var k off =>
                        simp only [ksAt, Ren.sg, lk_mapV]
                        cases hq : lk k σ.vars with
                        | none => rfl
                        | some si => rfl
                    obtain ⟨u', hr'⟩ := h1.mutL hwrote (nl := [⟨nli, x.v, (b, o1 + l.length * ie.leaves.length) :: (Pp ++ (lfs.map (·.os)).flatten ++ Qq)⟩]) (G := fun i => if i = l0.id then (x.v, (b, o1 + l.length * ie.leaves.length) :: (Pp ++ (lfs.map (·.os)).flatten ++ Qq)) else u.G i) hc' hp'
                      (by simp only [List.length_cons, List.length_nil, Nat.zero_add]; rw [hmid]; rfl) (by
                        simp only [List.length_cons, List.length_nil, Nat.zero_add]
                        rw [hksr]
                        exact .cons hrow' .nil) (fun z hz => by
                        obtain rfl : z = _ := List.mem_singleton.1 hz
                        refine ⟨fun pq hpq => ?_, fun hl => ?_, fun ho => ⟨ρ.lf x, hlx, ?_, ?_, rfl, ?_⟩, fun _ => by simp [Wit.setG, hnid]⟩
                        · simp only [Lf.tq, List.mem_cons, List.mem_map] at hpq
                          rcases hpq with rfl | ⟨q, hq, rfl⟩
                          · have hm : (l0.tag, (b, o1 + l.length * ie.leaves.length)) ∈ (ρ.lf x).tq := by
                              unfold Lf.tq
                              simp only [Ren.lf, Ren.li, hos, m2, hty']
                              exact List.mem_cons_self
                            exact ⟨ρ.lf x, hlx, _, hm, hntag.symm, rfl, Nat.le_refl _⟩
                          · rcases hin q hq with hq | hq
                            · have := Rests.ren ρ (⟨x, m3, _, htq q hq, rfl, rfl, Nat.le_refl _⟩ : Rests u st σ l0.dt q)
                              rw [hdt] at this
                              exact this
                            · obtain ⟨t, ht, hR⟩ := hYt q hq
                              have := hR.ren ρ
                              rcases hyt t ht with h1 | ⟨h1, _⟩
                              · rw [h1] at hq; cases hq
                              · rw [h1] at this; exact this
                        · obtain ⟨a1, a2, a3⟩ := hlinn hl
                          have := (h.leaf x m3).lin (by rw [m2]; exact a1)
                          rw [hos, List.map_cons, List.nodup_cons] at this
                          rw [List.map_cons, List.nodup_cons]
                          refine ⟨fun hb => ?_, ?_⟩
                          · obtain ⟨q, hq, e⟩ := List.mem_map.1 hb
                            rcases hin q hq with hq | hq
                            · exact hdup q hq e
                            · exact hnd q hq e
                          · rw [List.map_append, List.map_append]
                            refine nodup_mid (L := oss.flatten.map (·.1)) (by rw [← List.map_append]; exact hsub.map _) this.2 a2 fun z hz hz' => ?_
                            obtain ⟨q, hq, rfl⟩ := List.mem_map.1 hz
                            obtain ⟨q', hq', e⟩ := List.mem_map.1 hz'
                            have := (h.leaf x m3).tag _ (htq q' hq')
                            simp only at this e
                            rw [e] at this
                            exact a3 q hq this
                        · simp only [Ren.lf, Ren.li, m2, hA1]
                          simp only at ho
                          rw [hlown] at ho
                          simp [ho]
                        · simp only [Ren.lf, Ren.li, m2, hty', hntag]
                        · simp [Ren.lf, hos]) (fun z hz ht _ hi => by
                        simp only [Ren.wit]
                        split
                        · rename_i he
                          exfalso
                          have e3 := (h1.leaf z hz).name hi
                          have e4 : (ρ.wit u).G z.li.id = (x.v, x.os) := by
                            rw [he]
                            have := (h.leaf x m3).name (by rw [m2]; exact beq_ne.1 q7)
                            rw [m2] at this
                            exact this
                          rw [e3] at e4
                          obtain ⟨_, e5⟩ := Prod.mk.inj e4
                          have hz1 : (z.li.tag, (b, o1 + l.length * ie.leaves.length)) ∈ z.tq := by
                            unfold Lf.tq; rw [e5, hos]; exact List.mem_cons_self
                          have := (h1.leaf z hz).tag _ hz1
                          refine ht ?_
                          by_cases e6 : z.li.tag = l0.tag
                          · rw [e6]; simp
                          · exact absurd hS1 (h1.apart _ _ _ e6 this)
                        · rfl) (fun ii hii => by
                        simp only [Ren.wit]
                        split
                        · rename_i he
                          rcases h65 with h65 | h65
                          · have hno : (lfs.map (·.os)).flatten = [] := g.rd.1.noSlices (anySl_false h65)
                            have hel1 := (hrd.elem hi' hel hget).drop off |>.take i.leaves.length
                            have hno2 := hel1.noSlices (anySl_false ((congrArg anySl hcu1.symm).trans h65))
                            have hall : Pp ++ (lfs.map (·.os)).flatten ++ Qq = oss.flatten := by
                              rw [hno, List.append_nil, ← hP, ← hQ]
                              have e1 := three oss (j.toNat * ie.leaves.length) ie.leaves.length
                              have e2 := three ((oss.drop (j.toNat * ie.leaves.length)).take ie.leaves.length) off i.leaves.length
                              conv => rhs; rw [← e1, ← e2]
                              simp only [List.flatten_append, hno2, List.nil_append, List.append_assoc]
                            have := (h.leaf x m3).name (by rw [m2]; exact beq_ne.1 q7)
                            rw [m2] at this
                            rw [he, this, hall, hos]
                          · omega
                        · rfl)
                    refine .skip (u' := u') (w' := w') ?_ (by rw [hd]; exact hr'.noDst)
                    have hev : a.eval (.tmp t') = .pointer (some ⟨b, o1 + (j.toNat * ie.leaves.length + off), none⟩) := by
                      have : a.eval (.tmp t') = a.tmps.getD t' undef := rfl
                      rw [this, hval, k4, Nat.add_assoc]
                    obtain ⟨_, inf, z, hinf, hisz, _⟩ := hS.tab.ty t i hty
                    have hvc : (a.eval y).cells.toList = lfs.map (·.v) := g.rd.cells
                    have hst := run_storeCells_cells (P := P) b (o1 + (j.toNat * ie.leaves.length + off)) (lfs.map (·.v)) 0 w (fun q hq => by
                        have hlt : o1 + (j.toNat * ie.leaves.length + off) + 0 + q < cur.size := by simp at hq; omega
                        simp [World.cell?, hcur]
                        omega) (fun q hq => by simp [World.frozen?, hcur]) (fun v hv => by exact g.rd.1.oneCell v hv)
                    rw [Nat.add_zero, hw'] at hst
                    unfold execOp
                    simp only [ho, hev, Instr.storeAt, Instr.sureAddr, Sem.run_bind, Sem.run_pure, Result.andThen_ok, storeVar, sizeOf, typeInfo]
                    have hcsz' : (a.eval y).cells.size = i.leaves.length := by rw [← Array.length_toList, hvc]; simpa using hll
                    simp [hinf, hisz, hcsz', hvc, hst]
                  · cases hget
                · cases hp'
              · cases hp'
            · cases hp'
          · cases hc
        · cases hc
      · cases hc
    · cases hc
  · cases hc
end
end Go.Pm
