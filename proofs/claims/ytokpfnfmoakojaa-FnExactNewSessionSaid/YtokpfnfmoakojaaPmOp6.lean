/-
  Values and rows that are built.
-/
import Derived.Test.YtokpfnfmoakojaaPmOp5
namespace Go.Pm
open Go
section
variable {P : Program} {G : Env} {K : CEnv} {f : Fix} {H : Hint} {C : FuncId → List Arg → Option Res} {glob : Bool} {u : Wit} {st st' : St} {σ σ' : SG} {a : Act} {w : World} {o : Oper}

theorem places_of {fs : List Field} {offs sizes : List Nat} (h1 : offs.length = fs.length) (h2 : sizes.length = fs.length)
    (h : ∀ (j : Nat) (fl : Field), fs[j]? = some fl → offs[j]? = some fl.offset ∧ ∃ inf, P.info? fl.type = some inf ∧ sizes[j]? = some inf.size) :
    fs.mapM (fun f => (P.info? f.type).map fun i => (f.offset, i.size)) = some (offs.zip sizes) := by
  induction fs generalizing offs sizes with
  | nil =>
    have e1 : offs = [] := List.eq_nil_of_length_eq_zero (by simpa using h1)
    subst e1
    simp
  | cons fl fs ih =>
    cases offs with
    | nil => simp at h1
    | cons o offs =>
      cases sizes with
      | nil => simp at h2
      | cons s sizes =>
        obtain ⟨g1, inf, g2, g3⟩ := h 0 fl rfl
        simp at g1 g3
        have := ih (offs := offs) (sizes := sizes) (by simpa using h1) (by simpa using h2) (fun j fl' hj => by
          obtain ⟨k1, inf', k2, k3⟩ := h (j + 1) fl' (by simpa using hj)
          exact ⟨by simpa using k1, inf', k2, by simpa using k3⟩)
        simp [List.mapM_cons, g2, this, g1, g3]

/-- The parts of a struct that is built. -/
theorem fillP_ok (h : Rel f u st σ a w) {n : Nat} (hn : n ≠ 0) {i : TyI} {place : Nat → Option (Nat × Nat)} (hpl : ∀ (j off size : Nat), i.fields[j]? = some off → i.sizes[j]? = some size → place j = some (off, size)) :
    ∀ {parts : List (Nat × Operand)} {cs cs' : List PV} {ls : List LI} {cells : Array Value} {lfs : List Lf}, cells.toList = lfs.map (·.v) → RdL f.Ty w i.leaves (lfs.map (·.v)) cs (lfs.map (·.os)) →
      (∀ y ∈ lfs, Deriv u st σ y ∧ (y.li.lin = true → (y.os.map (·.1)).Nodup)) → fillParts i.fields st.env cs parts = some cs' → cParts σ n i (lfs.map (·.li)) parts = some ls →
      ∃ (cells' : Array Value) (lfs' : List Lf), Instr.fill place cells (parts.map fun x => (x.1, a.eval x.2)) = some cells' ∧ cells'.toList = lfs'.map (·.v) ∧ RdL f.Ty w i.leaves (lfs'.map (·.v)) cs' (lfs'.map (·.os)) ∧ lfs'.map (·.li) = ls ∧
        ∀ y ∈ lfs', Deriv u st σ y ∧ (y.li.lin = true → (y.os.map (·.1)).Nodup)
  | [], cs, cs', ls, cells, lfs, hv, hr, hD, hf, hc => by
    simp only [fillParts, Option.some.injEq] at hf
    simp only [cParts, Option.some.injEq] at hc
    subst hf; subst hc
    exact ⟨cells, lfs, rfl, hv, hr, rfl, hD⟩
  | (j, x) :: parts, cs, cs', ls, cells, lfs, hv, hr, hD, hf, hc => by
    simp only [fillParts] at hf
    split at hf
    · rename_i p hx
      split at hf
      · rename_i off hoff
        split at hf
        · rename_i cs1 hov
          simp only [cParts] at hc
          split at hc
          · rename_i off' size hoff' hsize
            rw [hoff] at hoff'
            cases hoff'
            split at hc
            · rename_i ls1 hp1
              split at hc
              · rename_i l hovl
                unfold cPart at hp1
                split at hp1
                · rename_i ks' hcut
                  split at hp1
                  · rename_i agg ks ls2 hs
                    split at hp1
                    · rename_i heq
                      have := eqLKs_eq heq
                      subst this
                      cases hp1
                      obtain ⟨lf1, g⟩ := h.val hn hs hx
                      obtain ⟨c1, c2⟩ := cut_eq hcut
                      obtain ⟨d1, d2⟩ := over_eq hov
                      obtain ⟨b1, b2⟩ := over_eq hovl
                      have hlen := g.rd.1.len
                      have hks : ks.length = size := by rw [c1]; simp; omega
                      have hcl := g.rd.cells
                      have hrl := hr.len
                      have hcs : cells.size = i.leaves.length := by rw [← Array.length_toList, hv]; exact hrl.1
                      obtain ⟨cells1, k1, k2, k3⟩ := fill_one (place := place) (cells := cells) (j := j) (off := off) (size := size) (v := a.eval x) (rest := parts.map fun x => (x.1, a.eval x.2)) (hpl j off size hoff hsize) (by rw [Value.cells_size hcl]; omega) (by omega)
                      have hL : lf1.length = ks.length := by have := hlen.1; simpa using this
                      have hr1 := hr.over g.rd.1 (off := off) (by rw [hks]; exact c1.symm)
                      generalize hnl : lfs.take off ++ lf1 ++ lfs.drop (off + lf1.length) = nl
                      have e1 : nl.map (·.v) = (lfs.map (·.v)).take off ++ lf1.map (·.v) ++ (lfs.map (·.v)).drop (off + ks.length) := by rw [← hnl, hL]; simp
                      have e2 : nl.map (·.os) = (lfs.map (·.os)).take off ++ lf1.map (·.os) ++ (lfs.map (·.os)).drop (off + ks.length) := by rw [← hnl, hL]; simp
                      have e3 : nl.map (·.li) = l := by rw [b1, ← hnl, ← g.li]; simp
                      have hcs1 : cs1 = cs.take off ++ cellsOf p ++ cs.drop (off + ks.length) := by rw [d1, hlen.2.1]
                      obtain ⟨cells', lfs', q1, q2, q3, q4, q5⟩ := fillP_ok h hn hpl (parts := parts) (cells := cells1) (lfs := nl) (by rw [k2, hv, hcl, e1, hks]) (by rw [e1, e2, hcs1]; exact hr1) (fun y hy => by
                        rw [← hnl] at hy
                        rcases List.mem_append.1 hy with hy | hy
                        · rcases List.mem_append.1 hy with hy | hy
                          · exact hD y (List.mem_of_mem_take hy)
                          · exact ⟨g.der y hy, g.lin y hy⟩
                        · exact hD y (List.mem_of_mem_drop hy)) hf (by rw [e3]; exact hc)
                      exact ⟨cells', lfs', k1.trans q1, q2, q3, q4, q5⟩
                    · cases hp1
                  · cases hp1
                · cases hp1
              · cases hc
            · cases hc
          · cases hc
        · cases hf
      · cases hf
    · cases hf

theorem build_ok (hS : Setting P G K f) (h : Rel f u st σ a w) {t : TypeId} {parts : Array (Nat × Operand)} {e : Eff} {ce : CE} (ho : o.op = .build t parts)
    (hp : (match tyOf G t with | some i => (match fillParts i.fields st.env (i.leaves.map LK.zero) parts.toList with | some cs => putV (some (.agg cs)) | none => none) | none => none) = some e) (hp' : papply stdF H o.dst st e = some st')
    {n : Nat} (hn : n ≠ 0) (hc : cBuild σ n (tyC K t) parts.toList = some ce) (hc' : capply f.N o.dst σ ce = some σ') : Goal P f o a w st' σ' := by
  unfold cBuild at hc
  split at hc
  · rename_i i hi
    split at hc
    · rename_i ls ha hls
      cases hc
      have hty := tyC_eq hS hi
      have hg : tyOf G t = some i := by unfold tyOf; rw [hS.gty, hty]
      simp only [hg] at hp
      cases hf : fillParts i.fields st.env (i.leaves.map LK.zero) parts.toList with
      | none => simp [hf] at hp
      | some cs =>
        simp only [hf, putV, Option.some.injEq] at hp
        subst hp
        obtain ⟨_, inf, z, h1, _, _, h2, h3⟩ := hS.tab.ty t i hty
        obtain ⟨fs, hu, hl1, hl2, hfs⟩ := hS.tab.agg t i hty ha
        obtain ⟨lfs, q1, q2, q3, q4, q5⟩ := zero_leaves (u := u) (st := st) hn h3
        have hplaces := places_of (P := P) (fs := fs.toList) (offs := i.fields) (sizes := i.sizes) (by simpa using hl1) (by simpa using hl2) (fun j fl hj => by
          obtain ⟨k1, inf', k2, k3, _⟩ := hfs j fl (by simpa using hj)
          exact ⟨k1, inf', k2, k3⟩)
        obtain ⟨cells', lfs', r1, r2, r3, r4, r5⟩ := fillP_ok h hn (i := i) (place := ((i.fields.zip i.sizes).toArray[·]?)) (fun j off size hj1 hj2 => by
            have e1 : (i.fields.zip i.sizes)[j]? = some (off, size) := by rw [List.getElem?_zip_eq_some]; exact ⟨hj1, hj2⟩
            simpa using e1) (cells := z.cells) (lfs := lfs) (by rw [q1]) (by rw [q1, q2, h3]; exact RdL.zeros _) (fun y hy => ⟨q4 y hy, q5 y hy⟩) hf (by rw [q3]; exact hls)
        have hrd : RdV f.Ty w true i.leaves (.agg cells') (.agg cs) (lfs'.map (·.v)) (lfs'.map (·.os)) := ⟨r3, by rw [← r2], _, rfl⟩
        obtain ⟨u', hr⟩ := put_step (v := .agg cells') rfl h hp' hc' (.val hrd r4) (fun y hy => (r5 y hy).1) (fun y hy => (r5 y hy).2)
        refine .value (w' := w) ?_ hr
        have hb : P.built t (parts.map fun x => (x.1, a.eval x.2)).toList = some cells' := by
          unfold Program.built
          simp only [h1, hu, h2, hplaces]
          rw [Array.toList_map]
          exact r1
        have := run_build (P := P) w t (parts.map fun x => (x.1, a.eval x.2)) cells' hb
        unfold execOp
        simp only [ho, Sem.run_bind]
        rw [show (parts.map fun (x : Nat × Operand) => match x with | (i, x) => (i, a.eval x)) = parts.map fun x => (x.1, a.eval x.2) from rfl, this]
        rfl
    · cases hc
  · cases hc

theorem zeros_get (l : List Value) (hl : 0 < l.length) : ∀ (len j : Nat), j < len * l.length → (List.replicate len l).flatten[j]? = l[j % l.length]?
  | 0, j, h => by simp at h
  | len + 1, j, h => by
    rw [List.replicate_succ, List.flatten_cons]
    by_cases hj : j < l.length
    · rw [List.getElem?_append_left hj, Nat.mod_eq_of_lt hj]
    · rw [List.getElem?_append_right (by omega), zeros_get l hl len (j - l.length) (by rw [Nat.succ_mul] at h; omega)]
      rw [Nat.mod_eq_sub_mod (show j ≥ l.length by omega)]
theorem zeros_list (z : Array Value) (len : Nat) (hz : 0 < z.size) : ((Array.range (len * z.size)).map (z[· % z.size]!)).toList = (List.replicate len z.toList).flatten := by
  apply List.ext_getElem?
  intro j
  by_cases hj : j < len * z.size
  · rw [zeros_get z.toList (by simpa using hz) len j (by simpa using hj)]
    have hm : j % z.size < z.size := Nat.mod_lt _ hz
    simp [hj, hm]
  · rw [List.getElem?_eq_none (by simp; omega), List.getElem?_eq_none (by
      have : (List.replicate len z.toList).flatten.length = len * z.size := by simp
      omega)]

theorem copies_eq (v : PV) : ∀ n, copies v n = List.replicate n v
  | 0 => rfl
  | n + 1 => by simp [copies, copies_eq v n, List.replicate_succ]

theorem zeroOf_cells {i : TyI} (hi : i.ok) : cellsOf (zeroOf i) = i.leaves.map LK.zero ∧ ElOk i (zeroOf i) := by
  cases i with
  | mk agg leaves fields sizes =>
    cases agg with
    | true => exact ⟨rfl, _, rfl, by simp⟩
    | false =>
      have hl : leaves.length = 1 := hi.2 rfl
      match leaves, hl with
      | [k], _ => cases k <;> exact ⟨rfl, fun l h => by simp [zeroOf, LK.zero] at h⟩

theorem RdL.zerosN {Ty : Nat → TyK} {i : TyI} (hi : i.ok) : ∀ len : Nat, RdL Ty w (List.replicate len i.leaves).flatten (List.replicate len (i.leaves.map LK.zeroV)).flatten ((List.replicate len (zeroOf i)).flatMap cellsOf) (List.replicate (len * i.leaves.length) [])
  | 0 => by simpa using RdL.nil
  | len + 1 => by
    have h1 := RdL.zeros (w := w) (Ty := Ty) i.leaves
    have h2 := RdL.zerosN hi len (Ty := Ty)
    rw [List.replicate_succ, List.replicate_succ, List.replicate_succ, List.flatten_cons, List.flatten_cons, List.flatMap_cons, (zeroOf_cells hi).1]
    have e : (List.replicate ((len + 1) * i.leaves.length) ([] : List (Nat × Nat))) = (i.leaves.map fun _ => []) ++ List.replicate (len * i.leaves.length) [] := by
      rw [Nat.succ_mul, Nat.add_comm, ← List.replicate_append_replicate]
      congr 1
      rw [List.map_const']
    rw [e]
    exact h1.append h2

theorem RdL.noSlices {Ty : Nat → TyK} : ∀ {ks : List LK} {vs : List Value} {ps : List PV} {oss : List (List (Nat × Nat))}, RdL Ty w ks vs ps oss → (∀ k ∈ ks, isSl k = false) → oss.flatten = []
  | _, _, _, _, .nil, _ => rfl
  | _, _, _, _, .cons h r, hk => by
    rw [List.flatten_cons, h.noSlice (hk _ (by simp)), r.noSlices fun k hm => hk k (by simp [hm])]
    rfl
theorem anySl_false : ∀ {ks : List LK}, anySl ks = false → ∀ k ∈ ks, isSl k = false
  | [], _, k, h => by cases h
  | k :: ks, h, k', hk => by
    simp only [anySl] at h
    cases hs : isSl k with
    | true => rw [hs] at h; cases h
    | false =>
      rw [hs] at h
      rcases List.mem_cons.1 hk with rfl | hk
      · exact hs
      · exact anySl_false h k' hk

theorem Rests.ren {u : Wit} {st : St} {σ : SG} (ρ : Ren) {t : Nat} {q : Nat × Nat} (h : Rests u st σ t q) : Rests (ρ.wit u) st (ρ.sg σ) (ρ.tag t) q := by
  obtain ⟨x, hx, p, hp, rfl, h2, h3⟩ := h
  refine ⟨ρ.lf x, ?_, (ρ.tag p.1, p.2), ?_, rfl, h2, h3⟩
  · rcases hx with ⟨d, e, s, g1, g3, g2⟩ | ⟨k, c, s, g1, g3, g2⟩
    · exact .inl ⟨d, e, ρ.si s, g1, by simp [Ren.sg, lk_mapV, g3], List.mem_map.2 ⟨x, g2, rfl⟩⟩
    · exact .inr ⟨k, c, (s.1, s.2.map ρ.li), g1, by simp [Ren.sg, lk_mapV, g3], List.mem_map.2 ⟨x, g2, rfl⟩⟩
  · unfold Lf.tq at hp ⊢
    simp only [Ren.lf, Ren.li]
    cases hx : x.os with
    | nil => rw [hx] at hp; cases hp
    | cons a r =>
      rw [hx] at hp
      rcases List.mem_cons.1 hp with rfl | hp
      · exact List.mem_cons_self
      · obtain ⟨q', hq', rfl⟩ := List.mem_map.1 hp
        exact List.mem_cons_of_mem _ (List.mem_map.2 ⟨q', hq', rfl⟩)

/-- A new row is put into a slot. -/
theorem row_step (h : Rel f u st σ a w) {d : Option Nat} {l : List PV} {E : TypeId} {i : TyI} (hE : f.Ty E = .val i) (hi : i.ok) {cells : Array Value} {cap : Nat} {w1 : World} (hw1 : Grows w w1) {oss : List (List (Nat × Nat))} {A : List Nat} {n t : Nat} {lin : Bool}
    (hp : papply stdF H d st (.put (.val (.slice l))) = some st') (hc : capply f.N d σ (.put [⟨A, t, true⟩] (.val false [.slice E] [⟨n, t, true, lin, 0⟩])) = some σ') (hn : n ≠ 0) (h0 : memN 0 A = true → t = 0)
    (hg : w1.heap.size = w.heap.size) (hel : ∀ p ∈ l, ElOk i p) (hlc : l.length ≤ cap) (hcap : cap ≤ maxLen) (hz : l.length = 0 → cap = 0) (hsz : cells.size = cap * i.leaves.length)
    (hrd : RdL f.Ty w1 (List.replicate l.length i.leaves).flatten (cells.toList.take (l.length * i.leaves.length)) (l.flatMap cellsOf) oss) (hq : ∀ q ∈ oss.flatten, ∃ t ∈ A, Rests u st σ t q) (hlin : lin = true → (oss.flatten.map (·.1)).Nodup) :
    ∃ u', Rel f u' st' σ' (a.put d (.slice (some ⟨w.heap.size, 0, none⟩) l.length cap)) (w1.alloc (.cells cells E)) := by
  have hg2 := hw1.trans (Grows.alloc w1 (.cells cells E))
  have h1 := h.grows hg2
  have h2 := h1.ren ⟨A, t, true⟩ h0
  have hlt : ∀ x, Live ((⟨A, t, true⟩ : Ren).wit u) st ((⟨A, t, true⟩ : Ren).sg σ) x → ∀ p ∈ x.tq, p.2.1 < w.heap.size := fun x hx p hp => by
    obtain ⟨y, hy, rfl⟩ := Ren.live hx
    obtain ⟨p0, hp0, rfl⟩ := Ren.tq _ y hp
    exact h.inW _ _ ((h.leaf y hy).tag p0 hp0)
  have hqlt : ∀ q ∈ oss.flatten, q.1 < w.heap.size := fun q hm => by
    obtain ⟨t0, _, hR⟩ := hq q hm
    exact h.inW _ _ (hR.inS h.leaf)
  have h3 := h2.addS n (· = w.heap.size) (fun b hb => by subst hb; simp [hg]) (fun b hb => by subst hb; exact h.size) (fun b hb t => by
      subst hb
      rintro ⟨t0, _, ht⟩
      exact absurd (h.inW t0 _ ht) (Nat.lt_irrefl _)) (fun b hb k c s hk hs e => by
      obtain ⟨s0, hs0, rfl⟩ := Ren.lkV _ hs
      obtain ⟨el, cur, g2, _⟩ := h.var k c s0 hk hs0
      have e' : u.β k = b := e
      rw [e', hb] at g2
      exact absurd (Array.getElem?_eq_some_iff.1 g2).1 (Nat.lt_irrefl _)) (fun b hb => by subst hb; rw [← hg]; exact ⟨_, _, heap_alloc_new w1 _⟩)
  cases d with
  | none =>
    simp only [papply, Option.some.injEq] at hp
    simp only [capply, Option.some.injEq] at hc
    subst hp; subst hc
    exact ⟨_, h2⟩
  | some d =>
    simp only [papply, Option.some.injEq] at hp
    simp only [capply] at hc
    cases hb : Nat.blt d f.N with
    | false => simp [hb] at hc
    | true =>
      simp only [hb, Option.some.injEq] at hc
      subst hp; subst hc
      have hheap : (w1.alloc (.cells cells E)).heap[w.heap.size]? = some (.cells cells E) := by rw [← hg]; exact heap_alloc_new w1 _
      have hra : (w1.alloc (.cells cells E)).rangeAt w.heap.size 0 (cells.toList.take (l.length * i.leaves.length)) := fun j v hj => by
        rw [List.getElem?_take] at hj
        split at hj
        · simp only [World.cell?, hheap, Nat.zero_add]
          simpa using hj
        · cases hj
      have hrow := Rd.slice (Ty := f.Ty) (w := w1.alloc (.cells cells E)) (cap := cap) hE hi rfl hlc hel hra (hrd.frame ((Grows.alloc w1 (.cells cells E)).sameOn fun q hm => by rw [hg]; exact hqlt q hm))
      rw [Nat.zero_add] at hrow
      refine ⟨_, h3.putRow (Nat.blt_eq.mp hb) (li := ⟨n, t, true, lin, 0⟩) hrow (.inr ⟨rfl, rfl⟩) (fun q hm => ?_) (fun x hx _ _ hh he e => ?_) (fun z hz p hp _ e => ?_) rfl (fun hl => ?_) (fun _ => ⟨hn, .inr ⟨_, _, _, cells, E, rfl, hheap, hlc, hcap, hz, _, _, rfl, hsz⟩⟩)⟩
      · obtain ⟨t0, ht0, hR⟩ := hq q hm
        have := hR.ren (⟨A, t, true⟩ : Ren)
        have et : (⟨A, t, true⟩ : Ren).tag t0 = t := by simp only [Ren.tag]; rw [memN_iff.2 ht0]
        rw [et] at this
        exact this
      · have h' : hh.1 < w.heap.size := hlt x hx _ (head_mem he)
        omega
      · have := hlt z hz p hp
        omega
      · rw [List.map_cons, List.nodup_cons]
        refine ⟨fun hm => ?_, hlin hl⟩
        obtain ⟨q, hq1, hq2⟩ := List.mem_map.1 hm
        have := hqlt q hq1
        omega

theorem buildSl_ok (hS : Setting P G K f) (h : Rel f u st σ a w) {t : TypeId} {len : Nat} {parts : Array (Nat × Operand)} {e : Eff} {ce : CE} (ho : o.op = .buildSlice t len parts)
    (hp : (match elemTy G t with | some i => (match fillElems st.env (copies (zeroOf i) len) parts.toList with | some es => putV (some (.slice es)) | none => none) | none => none) = some e) (hp' : papply stdF H o.dst st e = some st')
    {n : Nat} (hn : n ≠ 0) (hc : cBuildSl σ n (cElemTy K t) len parts.toList = some ce) (hc' : capply f.N o.dst σ ce = some σ') : Goal P f o a w st' σ' := by
  unfold cBuildSl at hc
  split at hc
  · rename_i E i hei
    obtain ⟨hu, hE, hg⟩ := cElemTy_eq hS hei
    split at hc
    · rename_i ls hls hble
      cases hc
      simp only [hg] at hp
      cases hf : fillElems st.env (copies (zeroOf i) len) parts.toList with
      | none => simp [hf] at hp
      | some es =>
        simp only [hf, putV, Option.some.injEq] at hp
        subst hp
        obtain ⟨hi, inf, z, h1, h2, _, h3, h4⟩ := hS.tab.ty E i hE
        have hzs : z.cells.size = i.leaves.length := by rw [← Array.length_toList, h4]; simp
        rw [copies_eq] at hf
        obtain ⟨zc, hzc1, hzc2⟩ : ∃ zc : Array Value, zc.toList = (List.replicate len (i.leaves.map LK.zeroV)).flatten ∧
            ∀ ps cells, Instr.fill (fun j => some (j * i.leaves.length, i.leaves.length)) zc ps = some cells → (Instr.buildSlice t len ps.toArray).run P w = .ok (.slice (some ⟨w.heap.size, 0, none⟩) len len) (w.alloc (.cells cells E)) := by
          by_cases hl0 : len = 0
          · refine ⟨#[], by simp [hl0], fun ps cells hcells => ?_⟩
            subst hl0
            simp [Instr.buildSlice, run_underlying hu, sizeOf, typeInfo, h1, h2, newRow, newObj, Array.range_zero', hcells]
            rfl
          · refine ⟨(Array.range (len * z.cells.size)).map (z.cells[· % z.cells.size]!), by rw [zeros_list z.cells len (by have := hi.1; omega), h4], fun ps cells hcells => ?_⟩
            have hpos : 0 < len * i.leaves.length := Nat.mul_pos (by omega) hi.1
            have hle := Nat.ble_eq.mp hble
            exact run_buildSlice (P := P) w t E len ps.toArray cells inf z hu h1 h3 (by rw [h2]; omega) (by rw [h2]; omega) (by rw [h2, ← hzs]; rw [← hzs] at hcells; simpa using hcells)
        have hzr : RdL f.Ty w (List.replicate len i.leaves).flatten zc.toList ((List.replicate len (zeroOf i)).flatMap cellsOf) (List.replicate (len * i.leaves.length) []) := by rw [hzc1]; exact RdL.zerosN hi len
        obtain ⟨cells', oss', q1, q2, q3, q4, q5, q6⟩ := fillE_ok h (n := n + 2) (by omega) hi (len := len) (parts := parts.toList) (by simp) (fun p hp => by rw [(List.mem_replicate.1 hp).2]; exact (zeroOf_cells hi).2) hzr hf hls
        have hz0 : (List.replicate (len * i.leaves.length) ([] : List (Nat × Nat))).flatten = [] := by simp
        have hcs : cells'.size = len * i.leaves.length := by have := q4.len.1; rw [flat_len] at this; simpa using this
        have hble' := Nat.ble_eq.mp hble
        have hlen24 : len ≤ 16777216 := by
          have := Nat.mul_le_mul_left len (show 1 ≤ i.leaves.length from hi.1)
          omega
        unfold cRow at hc'
        obtain ⟨u', hr⟩ := row_step h hE hi (cells := cells') (cap := len) (Grows.refl w) (oss := oss') hp' hc' hn (fun hm => joinOf_zero _ (memN_iff.1 hm)) rfl q3 (by omega) (by unfold maxLen; omega) (by omega) (by rw [hcs]) (by rw [q2, List.take_of_length_le (by simp [hcs])]; exact q4)
          (fun q hq => by
            rcases q5 q hq with hq | hq
            · rw [hz0] at hq; cases hq
            · exact hq)
          (fun hl => by
            cases has : anySl i.leaves with
            | false =>
              have := q4.noSlices (fun k hk => by
                obtain ⟨l, hl1, hl2⟩ := List.mem_flatten.1 hk
                rw [(List.mem_replicate.1 hl1).2] at hl2
                exact anySl_false has k hl2)
              rw [this]
              simp
            | true =>
              rw [has] at hl
              simp only at hl
              split at hl
              · rename_i hle1
                split at hl
                · rename_i hla
                  exact q6 (Nat.ble_eq.mp hle1) hz0 hla hl
                · cases hl
              · cases hl)
        rw [q2] at hr
        refine .value ?_ hr
        have := hzc2 (parts.toList.map fun x => (x.1, a.eval x.2)) cells' q1
        unfold execOp
        simp only [ho, Sem.run_bind]
        rw [show (parts.map fun (x : Nat × Operand) => match x with | (i, x) => (i, a.eval x)) = (parts.toList.map fun x => (x.1, a.eval x.2)).toArray from by rw [← Array.toList_inj]; simp, this]
        rfl
    · cases hc
  · cases hc
end
end Go.Pm
