/-
  The operations that make memory, and the store.
-/
import Derived.Test.YtokpfnfmoakojaaPmOp4
import Derived.Test.YtokpfnfmoakojaaPmFill
import Derived.Great.BuildSlice
namespace Go.Pm
open Go
section
variable {P : Program} {G : Env} {K : CEnv} {f : Fix} {H : Hint} {C : FuncId → List Arg → Option Res} {glob : Bool} {u : Wit} {st st' : St} {σ σ' : SG} {a : Act} {w : World} {o : Oper}

theorem Rd.zero {Ty : Nat → TyK} (k : LK) : Rd Ty w k k.zeroV k.zero [] := by
  cases k with
  | int k => exact .int k 0
  | bool => exact .bool false
  | str => exact .str ⟨#[]⟩
  | slice e => exact .nil e
theorem RdL.zeros {Ty : Nat → TyK} : ∀ ks : List LK, RdL Ty w ks (ks.map LK.zeroV) (ks.map LK.zero) (ks.map fun _ => [])
  | [] => .nil
  | k :: ks => .cons (.zero k) (RdL.zeros ks)

/-- The leaves of zeros and their witnesses. -/
theorem zero_leaves {u : Wit} {st : St} {σ : SG} {n : Nat} (hn : n ≠ 0) {ks : List LK} {vs : List Value} (hvs : vs = ks.map LK.zeroV) :
    ∃ lfs : List Lf, lfs.map (·.v) = vs ∧ lfs.map (·.os) = (ks.map fun _ => []) ∧ lfs.map (·.li) = nilLIs n ks ∧ (∀ y ∈ lfs, Deriv u st σ y) ∧ ∀ y ∈ lfs, y.li.lin = true → (y.os.map (·.1)).Nodup := by
  have e1 : (nilLIs n ks).length = vs.length := by rw [nilLIs_len, hvs]; simp
  have e2 : (ks.map fun _ => ([] : List (Nat × Nat))).length = vs.length := by rw [hvs]; simp
  have hos : ∀ y ∈ mkLf (nilLIs n ks) vs (ks.map fun _ => []), y.os = [] := fun y hy => by
    obtain ⟨j, _, _, h3⟩ := mkLf_mem hy
    rw [List.getElem?_map] at h3
    cases hk : ks[j]? with
    | none => simp [hk] at h3
    | some k => simp [hk] at h3; exact h3
  refine ⟨mkLf (nilLIs n ks) vs (ks.map fun _ => []), mkLf_v e1 e2, mkLf_os e1 e2, mkLf_li e1 e2, fun y hy => ?_, fun y hy _ => by simp [hos y hy]⟩
  obtain ⟨j, h1, h2, _⟩ := mkLf_mem hy
  cases ho : y.li.own with
  | false => exact .free (hos y hy) ho (nilLIs_id h1)
  | true =>
    obtain ⟨g1, k, g2, g3⟩ := nilLIs_get hn h1 ho
    refine .nilRow (hos y hy) ?_ g1 (nilLIs_id h1)
    rw [hvs, List.getElem?_map, g2] at h2
    cases k <;> simp [isSl] at g3
    simp [LK.zeroV] at h2
    exact h2.symm

theorem alloc_heap (w : World) (o : Obj) : (w.alloc o).heap[w.heap.size]? = some o := heap_alloc_new w o

/-- A new variable's block is laid. -/
theorem new_step (h : Rel f u st σ a w) {d : Option Nat} {cells : List PV} {ks : List LK} {ls : List LI} {t : TypeId} {arr : Array Value} {lfs : List Lf} (hp : papply stdF H d st (.new cells) = some st') (hc : capply f.N d σ (.new ks ls) = some σ')
    (hv : arr.toList = lfs.map (·.v)) (hr : RdL f.Ty w ks (lfs.map (·.v)) cells (lfs.map (·.os))) (hl : lfs.map (·.li) = ls) (hD : ∀ y ∈ lfs, Deriv u st σ y) (hn : ∀ y ∈ lfs, y.li.lin = true → (y.os.map (·.1)).Nodup) :
    ∃ u', Rel f u' st' σ' (a.put d (.pointer (some ⟨w.heap.size, 0, none⟩))) (w.alloc (.cells arr t)) := by
  cases d with
  | none => simp [capply] at hc
  | some d =>
    simp only [papply, Option.some.injEq] at hp
    simp only [capply] at hc
    cases hb : Nat.blt d f.N with
    | false => simp [hb] at hc
    | true =>
      simp only [hb, Option.some.injEq] at hc
      subst hp; subst hc
      have g := Grows.alloc w (.cells arr t)
      refine ⟨_, (h.grows g).newVar (Nat.blt_eq.mp hb) (g := w.heap.size) (lfs := lfs) ⟨t, arr, alloc_heap w _, hv, hr.frame (g.sameOn fun q hq => ?_), hl⟩ hD hn h.size (fun t ht => ?_) (fun k c s hk hsk e => ?_)⟩
      · obtain ⟨m, h1, h2⟩ := List.mem_flatten.1 hq
        obtain ⟨y, hy, rfl⟩ := List.mem_map.1 h1
        obtain ⟨t, ht⟩ := tq_mem h2
        exact h.inW _ _ (((hD y hy).rests _ ht).inS h.leaf)
      · exact absurd (h.inW t _ ht) (Nat.lt_irrefl _)
      · obtain ⟨el, cur, g2, _⟩ := h.var k c s hk hsk
        rw [e] at g2
        exact absurd (Array.getElem?_eq_some_iff.1 g2).1 (Nat.lt_irrefl _)

theorem alloc_ok (hS : Setting P G K f) (h : Rel f u st σ a w) {t : TypeId} {e : Eff} {ce : CE} (ho : o.op = .alloc t) (hp : (match tyOf G t with | some i => some (Eff.new (i.leaves.map LK.zero)) | none => none) = some e) (hp' : papply stdF H o.dst st e = some st')
    {n : Nat} (hn : n ≠ 0) (hc : cAlloc n (tyC K t) = some ce) (hc' : capply f.N o.dst σ ce = some σ') : Goal P f o a w st' σ' := by
  unfold cAlloc at hc
  split at hc
  · rename_i i hi
    cases hc
    have hty := tyC_eq hS hi
    have hg : tyOf G t = some i := by unfold tyOf; rw [hS.gty, hty]
    simp only [hg, Option.some.injEq] at hp
    subst hp
    obtain ⟨_, inf, z, h1, _, _, h2, h3⟩ := hS.tab.ty t i hty
    obtain ⟨lfs, q1, q2, q3, q4, q5⟩ := zero_leaves (u := u) (st := st) hn h3
    obtain ⟨u', hr⟩ := new_step h (t := t) (arr := z.cells) hp' hc' (by rw [q1]) (by rw [q1, q2, h3]; exact RdL.zeros _) q3 q4 q5
    refine .value ?_ hr
    unfold execOp
    simp [ho, Instr.alloc, zeroValue, typeInfo, h1, h2, newVar, newRow, newObj]
    rfl
  · cases hc

theorem box_ok (h : Rel f u st σ a w) {t : TypeId} {x : Operand} {e : Eff} {ce : CE} (ho : o.op = .box t x) (hp : (match evV st.env x with | some v => some (Eff.new (cellsOf v)) | none => none) = some e) (hp' : papply stdF H o.dst st e = some st')
    {n : Nat} (hn : n ≠ 0) (hc : cBox σ n (tyC K t) x = some ce) (hc' : capply f.N o.dst σ ce = some σ') : Goal P f o a w st' σ' := by
  unfold cBox at hc
  split at hc
  · rename_i i hi
    split at hc
    · rename_i agg ks ls hs
      split at hc
      · rename_i h1 h2
        cases hc
        have := eqLKs_eq h2
        subst this
        cases hx : evV st.env x with
        | none => simp [hx] at hp
        | some p =>
          simp only [hx, Option.some.injEq] at hp
          subst hp
          obtain ⟨lfs, g⟩ := h.val hn hs hx
          obtain ⟨u', hr⟩ := new_step h (t := t) (arr := (a.eval x).cells) hp' hc' g.rd.cells g.rd.1 g.li g.der g.lin
          refine .value ?_ hr
          unfold execOp
          simp [ho, Instr.box, newVar, newRow, newObj]
          rfl
      · cases hc
    · cases hc
  · cases hc

theorem setCell_block (w : World) (b o : Nat) (v : Value) {cur : Array Value} {el : TypeId} {fr : Nat × Nat} (h : w.heap[b]? = some (.cells cur el fr)) : (w.setCell ⟨b, o, none⟩ v).heap[b]? = some (.cells (cur.setIfInBounds o v) el fr) := by
  simp [World.setCell, Array.getElem?_modify, h]
theorem setCells_block : ∀ (vs : List Value) (w : World) (b o : Nat) {cur : Array Value} {el : TypeId} {fr : Nat × Nat}, w.heap[b]? = some (.cells cur el fr) → o + vs.length ≤ cur.size →
    ∃ cur', (w.setCells b o vs).heap[b]? = some (.cells cur' el fr) ∧ cur'.toList = cur.toList.take o ++ vs ++ cur.toList.drop (o + vs.length)
  | [], w, b, o, cur, el, fr, h, _ => ⟨cur, h, by simp⟩
  | v :: vs, w, b, o, cur, el, fr, h, hl => by
    have h1 := setCell_block w b o v h
    obtain ⟨cur', g1, g2⟩ := setCells_block vs (w.setCell ⟨b, o, none⟩ v) b (o + 1) h1 (by simp at hl ⊢; omega)
    refine ⟨cur', g1, ?_⟩
    rw [g2]
    simp only [Array.toList_setIfInBounds]
    have hlt : o < cur.toList.length := by simp at hl ⊢; omega
    rw [List.take_set, List.drop_set, if_pos (by omega), List.take_succ_eq_append_getElem hlt, List.set_append, if_neg (by simp; omega)]
    simp only [List.length_take]
    rw [Nat.min_eq_left (by omega), Nat.sub_self, List.set_cons_zero]
    simp [Nat.add_assoc, Nat.add_comm 1]
theorem setCells_wrote : ∀ (vs : List Value) (w : World) (b o : Nat), WroteVar w (w.setCells b o vs) b
  | [], w, b, o => ⟨fun _ _ => rfl, rfl, rfl, rfl, rfl⟩
  | v :: vs, w, b, o => by
    have h := setCells_wrote vs (w.setCell ⟨b, o, none⟩ v) b (o + 1)
    refine ⟨fun i hi => (h.block i hi).trans (RowKit.Below.heap_setCell w _ _ _ hi), h.size.trans (by simp), h.os, h.tape, h.output⟩

theorem Rel.noDst {f : Fix} {u : Wit} {st : St} {σ : SG} {a : Act} {w : World} (h : Rel f u st σ a w) : Rel f u st σ (a.put none undef) w := h

theorem store_ok (hS : Setting P G K f) (h : Rel f u st σ a w) {t : TypeId} {x y : Operand} {e : Eff} {ce : CE} (ho : o.op = .store t x y) (hd : o.dst = none) (hp : pStore H st.vars x (evE st.env x) (evV st.env y) = some e) (hp' : papply stdF H o.dst st e = some st')
    {n : Nat} (hn : n ≠ 0) (hc : cStore σ n (tyC K t) x y = some ce) (hc' : capply f.N o.dst σ ce = some σ') : Goal P f o a w st' σ' := by
  unfold cStore at hc
  split at hc
  · rename_i i t' hi
    have hty := tyC_eq hS hi
    split at hc
    · rename_i k off hs
      split at hc
      · rename_i ks ls agg ks' ls' hv hy
        split at hc
        · rename_i ks'' hcut hk' hagg
          have := eqLKs_eq hk'
          subst this
          split at hc
          · rename_i l heq hov
            have := eqLKs_eq heq
            subst this
            cases hc
            cases hx : lk t' st.env with
            | none => simp [evE, hx, pStore] at hp
            | some en =>
              obtain ⟨h1, _⟩ := h.entry hx hs
              obtain ⟨rfl, hval, _⟩ := h1.isVar
              cases hy' : evV st.env y with
              | none => simp [evE, hx, hy', pStore] at hp
              | some p =>
                obtain ⟨lfs, g⟩ := h.val hn hy hy'
                simp only [evE, hx, hy', pStore] at hp
                split at hp
                · rename_i cells hcells
                  split at hp
                  · rename_i cs hcs
                    cases hp
                    obtain ⟨el, cur, g2, g3, g4, g5⟩ := h.var k cells _ hcells hv
                    simp only [papply, upAll, Option.some.injEq] at hp'
                    simp only [capply, hv, Option.some.injEq] at hc'
                    subst hp'; subst hc'
                    obtain ⟨c1, c2⟩ := over_eq hcs
                    obtain ⟨c3, c4⟩ := over_eq hov
                    obtain ⟨c5, c6⟩ := cut_eq hcut
                    have hlen := g.rd.1.len
                    have hlenV := g4.len
                    have hvc : (a.eval y).cells.toList = lfs.map (·.v) := g.rd.cells
                    have hsz : cur.size = ks.length := by have := congrArg List.length g3; simp at this; simp at hlenV; omega
                    obtain ⟨cur', b1, b2⟩ := setCells_block (lfs.map (·.v)) w (u.β k) off g2 (by simp at hlen ⊢; omega)
                    have hw := setCells_wrote (lfs.map (·.v)) w (u.β k) off
                    have hne : ∀ q : Nat × Nat, (∃ t, u.S t q.1) → q.1 ≠ u.β k := fun q ⟨t, ht⟩ e => h.varNot k cells _ t hcells hv (e ▸ ht)
                    have hfr : ∀ (l : List Lf), (∀ y ∈ l, Deriv u st σ y) → SameOn w (w.setCells (u.β k) off (lfs.map (·.v))) (l.map (·.os)).flatten := fun l hl q hq j _ => by
                      obtain ⟨m, m1, m2⟩ := List.mem_flatten.1 hq
                      obtain ⟨z, hz, rfl⟩ := List.mem_map.1 m1
                      obtain ⟨t, ht⟩ := tq_mem m2
                      exact cell_of_block (hw.block q.1 (hne q ⟨_, ((hl z hz).rests _ ht).inS h.leaf⟩))
                    have hold : ∀ y ∈ u.LV k, Deriv u st σ y := fun y hy => .of_live (.inr ⟨k, cells, _, hcells, hv, hy⟩)
                    have r1 := g4.frame (hfr _ hold)
                    have r2 := g.rd.1.frame (hfr _ g.der)
                    have r3 := r1.over r2 (off := off) c5.symm
                    have hL : i.leaves.length = lfs.length := by simp at hlen; omega
                    generalize hnl : (u.LV k).take off ++ lfs ++ (u.LV k).drop (off + lfs.length) = nl
                    have e1 : nl.map (·.v) = ((u.LV k).map (·.v)).take off ++ lfs.map (·.v) ++ ((u.LV k).map (·.v)).drop (off + i.leaves.length) := by rw [← hnl, hL]; simp
                    have e2 : nl.map (·.os) = ((u.LV k).map (·.os)).take off ++ lfs.map (·.os) ++ ((u.LV k).map (·.os)).drop (off + i.leaves.length) := by rw [← hnl, hL]; simp
                    have e3 : nl.map (·.li) = l := by
                      have g5' : (u.LV k).map (·.li) = ls := g5
                      rw [c3, ← hnl, ← g5', ← g.li]
                      simp
                    have hmem : ∀ y ∈ nl, Deriv u st σ y ∧ (y.li.lin = true → (y.os.map (·.1)).Nodup) := fun y hy => by
                      rw [← hnl] at hy
                      rcases List.mem_append.1 hy with hy | hy
                      · rcases List.mem_append.1 hy with hy | hy
                        · have := List.mem_of_mem_take hy
                          exact ⟨hold y this, (h.leaf y (.inr ⟨k, cells, _, hcells, hv, this⟩)).lin⟩
                        · exact ⟨g.der y hy, g.lin y hy⟩
                      · have := List.mem_of_mem_drop hy
                        exact ⟨hold y this, (h.leaf y (.inr ⟨k, cells, _, hcells, hv, this⟩)).lin⟩
                    have hcells1 : cs = cells.take off ++ cellsOf p ++ cells.drop (off + i.leaves.length) := by rw [c1, hlen.2.1]
                    have hrel := h.setVar (k := k) hcells hv hw (cells := cs) (ks := ks) (ls := l) (lfs := nl)
                      ⟨el, cur', b1, by rw [b2, g3, e1]; simp [hL], by rw [e1, e2, hcells1]; exact r3, e3⟩ rfl (fun y hy => (hmem y hy).1) (fun y hy => (hmem y hy).2)
                    refine .skip (u' := u.setV k nl) (w' := w.setCells (u.β k) off (lfs.map (·.v))) ?_ (by rw [hd]; exact hrel.noDst)
                    have hev : a.eval (.tmp t') = .pointer (some ⟨u.β k, off, none⟩) := hval
                    obtain ⟨_, inf, z, hinf, hisz, _⟩ := hS.tab.ty t i hty
                    have hst := run_storeCells_cells (P := P) (u.β k) off (lfs.map (·.v)) 0 w (fun j hj => by
                        have hlt : off + 0 + j < cur.size := by simp at hj hlen; omega
                        simp [World.cell?, g2]
                        omega) (fun j hj => by simp [World.frozen?, g2]) (fun v hv => by exact g.rd.1.oneCell v hv)
                    unfold execOp
                    simp only [ho, hev, Instr.storeAt, Instr.sureAddr, Sem.run_bind, Sem.run_pure, Result.andThen_ok, storeVar, sizeOf, typeInfo]
                    have hcsz : (a.eval y).cells.size = i.leaves.length := by rw [← Array.length_toList, hvc]; exact hlen.1
                    simp [hinf, hisz, hcsz, hvc, hst]
                  · cases hp
                · cases hp
          · cases hc
        · cases hc
      · cases hc
    · cases hc
  · cases hc
end
end Go.Pm
