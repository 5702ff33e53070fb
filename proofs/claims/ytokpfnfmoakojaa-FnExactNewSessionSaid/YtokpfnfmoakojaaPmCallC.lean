/-
  A call that writes the elements of one argument: the two ways in which the argument lies.
-/
import Derived.Test.YtokpfnfmoakojaaPmCallB
namespace Go.Pm
open Go

theorem wrLIs_len : ∀ (n : Nat) (ks : List LK), (wrLIs n ks).length = ks.length
  | _, [] => rfl
  | n, _ :: r => by simp [wrLIs, wrLIs_len (n + 1) r]
theorem wr_relab {Ty : Nat → TyK} {w : World} : ∀ {n : Nat} {ks : List LK} {ps : List PV} {lfs : List Lf}, RdL Ty w ks (lfs.map (·.v)) ps (lfs.map (·.os)) → ∀ y ∈ relab (wrLIs n ks) lfs,
    ∃ i x, lfs[i]? = some x ∧ y.v = x.v ∧ y.os = x.os ∧ (y.os ≠ [] → y.li.tag = n + i ∧ y.li.dt = n + i ∧ ∃ k, ks[i]? = some k ∧ isSl k = true)
  | _, _, _, [], h, y, hy => by
    cases h
    simp [wrLIs, relab] at hy
  | n, _, _, x :: lfs, h, y, hy => by
    simp only [List.map_cons] at h
    cases h with
    | @cons k _ _ _ ks _ ps _ h r =>
      simp only [wrLIs, relab] at hy
      rcases List.mem_cons.1 hy with rfl | hy
      · refine ⟨0, x, rfl, rfl, rfl, fun hne => ?_⟩
        cases hk : isSl k with
        | true => exact ⟨rfl, rfl, k, rfl, hk⟩
        | false => exact absurd (h.noSlice hk) hne
      · obtain ⟨i, z, e1, e2, e3, e4⟩ := wr_relab r y hy
        refine ⟨i + 1, z, by simpa using e1, e2, e3, fun hne => ?_⟩
        obtain ⟨g1, g2, k', g3⟩ := e4 hne
        exact ⟨by omega, by omega, k', by simpa using g3⟩
theorem flat_disj : ∀ {l : List Lf}, ((l.map (·.os)).flatten.map (·.1)).Nodup → ∀ {i j : Nat} {x y : Lf}, l[i]? = some x → l[j]? = some y → i ≠ j → ∀ q ∈ x.os, ∀ q' ∈ y.os, q.1 ≠ q'.1
  | [], _, _, _, _, _, h, _, _ => by simp at h
  | z :: l, hn, i, j, x, y, hi, hj, hne => by
    simp only [List.map_cons, List.flatten_cons, List.map_append, List.nodup_append] at hn
    obtain ⟨_, h2, h3⟩ := hn
    have mem : ∀ {k : Nat} {w : Lf}, l[k]? = some w → ∀ q ∈ w.os, q.1 ∈ (l.map (·.os)).flatten.map (·.1) := fun {k w} hk q hq =>
      List.mem_map.2 ⟨q, List.mem_flatten.2 ⟨w.os, List.mem_map.2 ⟨w, List.mem_of_getElem? hk, rfl⟩, hq⟩, rfl⟩
    cases i with
    | zero =>
      simp at hi
      subst hi
      cases j with
      | zero => exact absurd rfl hne
      | succ j =>
        intro q hq q' hq' e
        exact h3 q.1 (List.mem_map.2 ⟨q, hq, rfl⟩) q'.1 (mem (by simpa using hj) q' hq') e
    | succ i =>
      cases j with
      | zero =>
        simp at hj
        subst hj
        intro q hq q' hq' e
        exact h3 q'.1 (List.mem_map.2 ⟨q', hq', rfl⟩) q.1 (mem (by simpa using hi) q hq) e.symm
      | succ j => exact flat_disj h2 (by simpa using hi) (by simpa using hj) (by omega)
theorem noneIn_ok : ∀ {A C : List Nat}, noneIn A C = true → ∀ t ∈ A, t ∉ C
  | [], _, _, _, h => by cases h
  | x :: A, C, h, t, ht => by
    simp only [noneIn] at h
    split at h
    · cases h
    · rename_i hm
      rcases List.mem_cons.1 ht with rfl | ht
      · intro hc; rw [memN_iff.2 hc] at hm; cases hm
      · exact noneIn_ok h t ht

section
variable {B : Base} {G : Env} {K : CEnv} {f : Fix} {H : Hint} {C : FuncId → List Arg → Option Res} {u : Wit} {st st' st1 : St} {σ σ' σ1 : SG} {a : Act} {w : World} {o : Oper}

theorem sameIds_ok : ∀ {l m : List LI}, sameIds l m = true → l.length = m.length ∧ ∀ (i : Nat) (x y : LI), l[i]? = some x → m[i]? = some y → x.id = y.id ∧ x.id ≠ 0
  | [], [], _ => ⟨rfl, fun i x y h => by simp at h⟩
  | [], _ :: _, h => by simp [sameIds] at h
  | _ :: _, [], h => by simp [sameIds] at h
  | x :: r, y :: s, h => by
    simp only [sameIds] at h
    split at h
    · rename_i h1 h2
      obtain ⟨g1, g2⟩ := sameIds_ok h
      refine ⟨by simp [g1], fun i x' y' hx hy => ?_⟩
      cases i with
      | zero => simp at hx hy; subst hx; subst hy; exact ⟨beq_eq.1 h1, beq_ne.1 h2⟩
      | succ i => exact g2 i x' y' (by simpa using hx) (by simpa using hy)
    · cases h

/-- The argument is what a place holds. -/
theorem wr_val (h : Rel f u st σ a w) {t : Nat} {agg : Bool} {ks : List LK} {ls : List LI} (hs : lk t σ.slots = some (.val agg ks ls)) {p : PSig} (ha : agg = p.agg) (hk : ks = p.ks) (hl : linSl ks ls = true) (hap : apartIn [] ks ls = true) {A : List Nat} (hno : noneIn (tagsOf ks ls) (0 :: A) = true)
    {pv : PV} (hev : evV st.env (.tmp t) = some pv) : ∃ lfs nl, lk t st.env = some (.val pv) ∧ u.LF t = lfs ∧ lfs.map (·.li) = ls ∧ nl.map (·.v) = lfs.map (·.v) ∧ nl.map (·.os) = lfs.map (·.os) ∧ WrArg f u st a w A (tagsOf ks ls) p (.tmp t) pv nl := by
  have hst : lk t st.env = some (.val pv) := by
    simp only [evV, evE] at hev
    split at hev
    · rename_i hx; cases hev; exact hx
    · rename_i hx
      obtain ⟨g1, _⟩ := h.entry hx hs
      obtain ⟨p', e1, _⟩ := g1.isVal
      cases e1
    · cases hev
  obtain ⟨g1, g2⟩ := h.entry hst hs
  obtain ⟨p', e1, g3, g4⟩ := g1.isVal
  cases e1
  subst ha; subst hk
  have hlen := g3.1.len.1
  have hn : (wrLIs 1 p.ks).length = (u.LF t).length := by rw [wrLIs_len]; simpa using hlen.symm
  have hab : ∀ t t' b, u.S t b → u.S t' b → t = t' := fun t t' b h1 h2 => by
    by_cases e : t = t'
    · exact e
    · exact absurd h2 (h.apart _ _ _ e h1)
  have htag : ∀ y ∈ u.LF t, ∀ q ∈ y.tq, u.S q.1 q.2.1 := fun y hy => (h.leaf y (g2 y hy)).tag
  have hnod := apart_nodup (S := u.S) hab g3.1 htag (fun y hy => (h.leaf y (g2 y hy)).lin) (by rw [g4]; exact hl) (by rw [g4]; exact hap)
  have hrel : ∀ y ∈ relab (wrLIs 1 p.ks) (u.LF t), ∃ x ∈ u.LF t, y.os = x.os := fun y hy => by
    obtain ⟨i, x, e1, _, e3, _⟩ := wr_relab g3.1 y hy
    exact ⟨x, List.mem_of_getElem? e1, e3⟩
  refine ⟨u.LF t, relab (wrLIs 1 p.ks) (u.LF t), hst, rfl, g4, relab_v hn, relab_os hn, hev, by rw [relab_v hn, relab_os hn]; exact g3, relab_li hn, fun y hy => ?_, fun y hy hne => ?_, fun y hy z hz hyz q hq q' hq' => ?_, fun y hy q hq => ?_, fun t' ht' => ?_⟩
  · obtain ⟨x, hx, e⟩ := hrel y hy
    rw [e]
    have h1 := hnod.1
    exact one_nodup (List.mem_map.2 ⟨x, hx, rfl⟩) h1
  · obtain ⟨i, x, _, _, _, e4⟩ := wr_relab g3.1 y hy
    obtain ⟨k1, k2, _⟩ := e4 hne
    exact ⟨by omega, by omega⟩
  · obtain ⟨i, x, e1, _, e3, e4⟩ := wr_relab g3.1 y hy
    obtain ⟨j, x', e1', _, e3', e4'⟩ := wr_relab g3.1 z hz
    have h1 := (e4 (by intro e; rw [e] at hq; cases hq)).1
    have h2 := (e4' (by intro e; rw [e] at hq'; cases hq')).1
    exact flat_disj hnod.1 e1 e1' (by omega) q (by rw [← e3]; exact hq) q' (by rw [← e3']; exact hq')
  · obtain ⟨x, hx, e⟩ := hrel y hy
    rw [e] at hq
    obtain ⟨t', ht'⟩ := tq_mem hq
    have := tags_leaf g3.1 x hx _ ht'
    rw [g4] at this
    exact ⟨t', this, htag x hx _ ht'⟩
  · have := noneIn_ok hno t' ht'
    exact ⟨fun e => this (by rw [e]; simp), fun e => this (List.mem_cons_of_mem _ e)⟩

theorem wr_val_after (h : Rel f u st σ a w) {t : Nat} {agg : Bool} {ks : List LK} {ls ls0 : List LI} (hs : lk t σ.slots = some (.val agg ks ls)) {pv : PV} (hst : lk t st.env = some (.val pv)) {pl : Place} (hl : lisAt σ pl ks.length = some ls0) (hks : ksAt σ pl ks.length = ks) (hid : sameIds ls ls0 = true)
    {T : List Nat} {w' : World} (hw : WroteIn u T w w') {cells : List PV} (hr : RdL f.Ty w' ks ((u.LF t).map (·.v)) cells ((u.LF t).map (·.os))) (hc : cMut σ pl ks.length T = some σ1) (hp : putAt st pl cells = some st1) : ∃ u', Rel f u' st1 σ1 a w' := by
  obtain ⟨m1, m2, m3⟩ := lisAt_ok h hl hp
  obtain ⟨g1, g2⟩ := h.entry hst hs
  obtain ⟨p', e1, g3, g4⟩ := g1.isVal
  have hlen : (u.LF t).length = ks.length := by have := g3.1.len.1; simpa using this
  obtain ⟨s1, s2⟩ := sameIds_ok hid
  have key : ∀ (i : Nat) (x y : Lf), (u.LF t)[i]? = some x → (midAt u pl ks.length)[i]? = some y → x.v = y.v ∧ x.os = y.os := fun i x y hx hy => by
    obtain ⟨k1, k2⟩ := s2 i x.li y.li (by rw [← g4, List.getElem?_map, hx]; rfl) (by rw [← m1, List.getElem?_map, hy]; rfl)
    have n1 := (h.leaf x (g2 x (List.mem_of_getElem? hx))).name k2
    have n2 := (h.leaf y (m3 y (List.mem_of_getElem? hy))).name (by rw [← k1]; exact k2)
    rw [k1, n2] at n1
    exact ⟨(Prod.mk.inj n1).1.symm, (Prod.mk.inj n1).2.symm⟩
  have ext : ∀ {β : Type} (F : Lf → β), (∀ x y, x.v = y.v → x.os = y.os → F x = F y) → (u.LF t).map F = (midAt u pl ks.length).map F := fun F hF => by
    apply List.ext_getElem?
    intro i
    rw [List.getElem?_map, List.getElem?_map]
    cases hx : (u.LF t)[i]? with
    | none =>
      have : (midAt u pl ks.length)[i]? = none := by rw [List.getElem?_eq_none_iff] at hx ⊢; omega
      rw [this]
    | some x =>
      have hi := (List.getElem?_eq_some_iff.1 hx).1
      have hy : (midAt u pl ks.length)[i]? = some (midAt u pl ks.length)[i] := List.getElem?_eq_getElem (by omega)
      rw [hy]
      obtain ⟨k1, k2⟩ := key i x _ hx hy
      simp [hF x _ k1 k2]
  refine h.mutAt hw hc hp ?_
  rw [hks, ← ext (·.v) (fun x y h1 _ => h1), ← ext (·.os) (fun x y _ h2 => h2)]
  exact hr

/-- The argument is a part of an element of the row that a place holds. -/
structure PartOf (f : Fix) (u : Wit) (st : St) (σ : SG) (a : Act) (w : World) (t : Nat) (pl : Place) (A : List Nat) (p : PSig) (li : LI) (i : Int) (off : Nat) (pv : PV) (E : TypeId) (ie : TyI) (k : LK) (x1 nl1 : Lf) (xl : Lf) (b o1 cap : Nat) (l : List PV) (e : PV) (vs : List Value) (oss : List (List (Nat × Nat))) : Prop where
  en : lk t st.env = some (.velem i off pv)
  mid : midAt u pl 1 = [xl]
  ks : ksAt σ pl 1 = [.slice E]
  live : Live u st σ xl
  v : xl.v = .slice (some ⟨b, o1, none⟩) l.length cap
  os : xl.os = (b, o1 + l.length * ie.leaves.length) :: oss.flatten
  ok : ie.ok
  cap : l.length ≤ cap
  ty : f.Ty E = .val ie
  el : ∀ q ∈ l, ElOk ie q
  ra : w.rangeAt b o1 vs
  rd : RdL f.Ty w (List.replicate l.length ie.leaves).flatten vs (l.flatMap cellsOf) oss
  get : 0 ≤ i ∧ l[i.toNat]? = some e
  k : ie.leaves[off]? = some k
  part : oss[i.toNat * ie.leaves.length + off]? = some x1.os ∧ vs[i.toNat * ie.leaves.length + off]? = some x1.v
  nod : ((b, o1 + l.length * ie.leaves.length) :: oss.flatten |>.map (·.1)).Nodup
  nl : nl1.v = x1.v ∧ nl1.os = x1.os
  wr : WrArg f u st a w A [li.dt] p (.tmp t) pv [nl1]

theorem wr_part (hS : Setting B.P G K f) (h : Rel f u st σ a w) {t : Nat} {agg : Bool} {ks : List LK} {li : LI} {size off : Nat} (hs : lk t σ.slots = some (.velem agg ks li size off)) {p : PSig} (ha : agg = p.agg) (hk : ks = p.ks) (hone : oneSl ks = true) {pl : Place} {E : TypeId} {l0 : LI} (hleaf : leafAt σ pl = some (.slice E, l0))
    {ie : TyI} (hE : tyC K E = some ie) (hid : l0.id = li.id) (hid0 : l0.id ≠ 0) (hlin : l0.lin = true) {A : List Nat} (hno : noneIn [li.dt] (0 :: A) = true) (hsz : size = ie.leaves.length) (hcut : cut ie.leaves off 1 = some ks) {pv : PV} (hev : evV st.env (.tmp t) = some pv)
    {i : Int} {cells : List PV} {off' : Nat} (hen : ∀ j o v, lk t st.env = some (.velem j o v) → j = i ∧ o = off') (hset : setIn stdF st pl i off' cells = some st1) :
    ∃ k x1 nl1 xl b o1 cap l e vs oss, ks = [k] ∧ off' = off ∧ PartOf f u st σ a w t pl A p li i off pv E ie k x1 nl1 xl b o1 cap l e vs oss := by
  obtain ⟨k, rfl, hksl⟩ : ∃ k, ks = [k] ∧ isSl k = true := by
    unfold oneSl at hone
    split at hone
    · exact ⟨_, rfl, rfl⟩
    · cases hone
  cases hx : lk t st.env with
  | none => simp [evV, evE, hx] at hev
  | some en =>
  obtain ⟨g1, g2⟩ := h.entry hx hs
  obtain ⟨b, o, j, pv', rest, row, he1, hlf, hrow, hoff, hra, hrd, hli⟩ := g1.isVelem
  subst he1
  obtain ⟨rfl, rfl⟩ := hen _ _ _ hx
  have hpv : pv' = pv := by simpa [evV, evE, hx] using hev
  subst hpv
  have hEt := tyC_eq hS hE
  simp only [setIn] at hset
  split at hset
  · rename_i l hlv
    split at hset
    · rename_i e hget
      obtain ⟨xl, m1, m2, m3, m4, m5⟩ := leafAt_ok h hleaf hlv
      have hrl : Live u st σ row := g2 row (by rw [hlf]; exact List.mem_cons_self)
      have e1 := (h.leaf row hrl).name (by rw [hrow.li]; simp only; rw [← hid]; exact hid0)
      have e2 := (h.leaf xl m3).name (by rw [m2]; exact hid0)
      rw [m2, hid] at e2
      rw [hrow.li] at e1
      simp only at e1
      rw [e1] at e2
      obtain ⟨rv, ros⟩ := Prod.mk.inj e2
      simp only [stdF, stdGet] at hget
      split at hget
      · rename_i h0
        have hlt := (List.getElem?_eq_some_iff.1 hget).1
        rcases m4.sliceInv with ⟨_, rfl, _⟩ | ⟨ie', b1, o1, cap, vs, oss, hv, hos, hTy, hi', hcap, hel, hra1, hrd1⟩
        · simp at hlt
        rw [hEt] at hTy
        cases hTy
        obtain ⟨o0, len, cap', k1, k2, k3, k4⟩ := hrow.v
        rw [rv, hv] at k1
        cases k1
        obtain ⟨c1, c2⟩ := cut_eq hcut
        have hk1 : ie.leaves[off]? = some k := by
          have : (ie.leaves.drop off)[0]? = some k := by
            cases hd : ie.leaves.drop off with
            | nil => rw [hd] at c1; simp at c1
            | cons z r => rw [hd] at c1; simp at c1; simp [c1]
          simpa using this
        -- the part's leaf
        obtain ⟨x1, hrest⟩ : ∃ x1, rest = [x1] := by
          have := hrd.1.len.1
          cases rest with
          | nil => simp at this
          | cons x r => cases r with
            | nil => exact ⟨x, rfl⟩
            | cons _ _ => simp at this
        subst hrest
        have hvl := hrd1.len
        rw [flat_len] at hvl
        have hix : j.toNat * ie.leaves.length + off < l.length * ie.leaves.length := by
          have := Nat.mul_le_mul_right ie.leaves.length (show j.toNat + 1 ≤ l.length by omega)
          rw [Nat.succ_mul] at this
          omega
        have hvx : vs[j.toNat * ie.leaves.length + off]? = some x1.v := by
          have h1 := hra 0 x1.v (by simp)
          have h2 := hra1 (j.toNat * ie.leaves.length + off) _ (List.getElem?_eq_getElem (by omega))
          rw [k4, hsz] at h1
          rw [show o1 + j.toNat * ie.leaves.length + off + 0 = o1 + (j.toNat * ie.leaves.length + off) by omega] at h1
          rw [h1] at h2
          rw [List.getElem?_eq_getElem (by omega)]
          exact h2.symm
        have hel0 := hrd1.elem hi' hel hget
        obtain ⟨kk, v', p', os', f1, f2, f3, f4, f5⟩ := hel0.get off (List.getElem?_eq_some_iff.1 hk1).1
        rw [hk1] at f1
        cases f1
        have hofl := (List.getElem?_eq_some_iff.1 hk1).1
        have f2' : vs[j.toNat * ie.leaves.length + off]? = some v' := by
          rw [List.getElem?_take, if_pos hofl, List.getElem?_drop] at f2
          exact f2
        rw [hvx] at f2'
        cases f2'
        have f4' : oss[j.toNat * ie.leaves.length + off]? = some os' := by
          rw [List.getElem?_take, if_pos hofl, List.getElem?_drop] at f4
          exact f4
        have hcl : ∃ c, cellsOf pv' = [c] ∧ Rd f.Ty w k x1.v c x1.os := by
          have hr := hrd.1
          simp only [List.map_cons, List.map_nil] at hr
          cases hcp : cellsOf pv' with
          | nil => rw [hcp] at hr; cases hr
          | cons c r => rw [hcp] at hr; cases hr with | cons a1 a2 => cases a2; exact ⟨c, rfl, a1⟩
        obtain ⟨c, _, hc2⟩ := hcl
        obtain ⟨_, hos'⟩ := Rd.func f5 hc2
        subst hos'
        have hnod := (h.leaf xl m3).lin (by rw [m2]; exact hlin)
        rw [hos] at hnod
        have hmem : x1.os ∈ oss := List.mem_of_getElem? f4'
        have hnod1 : (x1.os.map (·.1)).Nodup := by
          have := hnod
          rw [List.map_cons, List.nodup_cons] at this
          exact one_nodup hmem this.2
        have hrtq : ∀ q ∈ x1.os, u.S li.dt q.1 := fun q hq => by
          have : (li.dt, q) ∈ row.tq := by
            unfold Lf.tq
            rw [ros, hos, hrow.li]
            exact List.mem_cons_of_mem _ (List.mem_map.2 ⟨q, List.mem_flatten.2 ⟨_, hmem, hq⟩, rfl⟩)
          exact (h.leaf row hrl).tag _ this
        subst ha
        refine ⟨k, x1, ⟨⟨1, 1, false, true, 1⟩, x1.v, x1.os⟩, xl, b, o1, cap, l, e, vs, oss, rfl, rfl, hx, m1, m5, m3, hv, hos, hi', hcap, hEt, hel, hra1, hrd1, ⟨h0, hget⟩, hk1, ⟨f4', hvx⟩, hnod, ⟨rfl, rfl⟩, hev, ?_, ?_, ?_, ?_, ?_, ?_, ?_⟩
        · rw [← hk]; exact hrd
        · rw [← hk]; simp [wrLIs, hksl]
        · intro y hy; obtain rfl := List.mem_singleton.1 hy; exact hnod1
        · intro y hy _; obtain rfl := List.mem_singleton.1 hy; exact ⟨rfl, by simp⟩
        · intro y hy z hz hne
          obtain rfl := List.mem_singleton.1 hy
          obtain rfl := List.mem_singleton.1 hz
          exact absurd rfl hne
        · intro y hy q hq
          obtain rfl := List.mem_singleton.1 hy
          exact ⟨li.dt, by simp, hrtq q hq⟩
        · intro t' ht'
          have := noneIn_ok hno t' ht'
          exact ⟨fun e => this (by rw [e]; simp), fun e => this (List.mem_cons_of_mem _ e)⟩
      · cases hget
    · cases hset
  · cases hset

/-- Parts of a list beside one of its members hold none of its blocks. -/
theorem beside {oss : List (List (Nat × Nat))} {ix : Nat} {os : List (Nat × Nat)} (hn : (oss.flatten.map (·.1)).Nodup) (hi : oss[ix]? = some os) : (∀ q ∈ (oss.take ix).flatten, ∀ q' ∈ os, q.1 ≠ q'.1) ∧ (∀ q ∈ (oss.drop (ix + 1)).flatten, ∀ q' ∈ os, q.1 ≠ q'.1) := by
  obtain ⟨hlt, hget⟩ := List.getElem?_eq_some_iff.1 hi
  have e : oss = oss.take ix ++ os :: oss.drop (ix + 1) := by
    rw [← hget, ← List.drop_eq_getElem_cons hlt, List.take_append_drop]
  rw [e, List.flatten_append, List.flatten_cons, List.map_append, List.map_append, List.nodup_append] at hn
  obtain ⟨_, h2, h3⟩ := hn
  rw [List.nodup_append] at h2
  refine ⟨fun q hq q' hq' he => ?_, fun q hq q' hq' he => ?_⟩
  · exact h3 q.1 (List.mem_map.2 ⟨q, hq, rfl⟩) q'.1 (List.mem_append_left _ (List.mem_map.2 ⟨q', hq', rfl⟩)) he
  · exact h2.2.2 q'.1 (List.mem_map.2 ⟨q', hq', rfl⟩) q.1 (List.mem_map.2 ⟨q, hq, rfl⟩) he.symm

theorem wr_part_after (h : Rel f u st σ a w) {t : Nat} {pl : Place} {A : List Nat} {p : PSig} {li : LI} {i : Int} {off : Nat} {pv : PV} {E : TypeId} {ie : TyI} {k : LK} {x1 nl1 xl : Lf} {b o1 cap : Nat} {l : List PV} {e : PV} {vs : List Value} {oss : List (List (Nat × Nat))}
    (hp : PartOf f u st σ a w t pl A p li i off pv E ie k x1 nl1 xl b o1 cap l e vs oss) (hleaf : leavesAt st pl 1 = some [.slice l]) {w' : World} (hw : WroteIn u [li.dt] w w') (hX : ∀ c, c < w.heap.size → (∀ q ∈ x1.os, q.1 ≠ c) → w'.heap[c]? = w.heap[c]?) {cells : List PV}
    (hr : RdL f.Ty w' [k] [x1.v] cells [x1.os]) (hc : cMut σ pl 1 [li.dt] = some σ1) (hset : setIn stdF st pl i off cells = some st1) : ∃ u', Rel f u' st1 σ1 a w' := by
  simp only [setIn, hleaf, stdF, stdGet, if_pos hp.get.1, hp.get.2] at hset
  split at hset
  · rename_i cs hov
    obtain ⟨c1, c2⟩ := over_eq hov
    have hcl : cells.length = 1 := hr.len.2.1
    rw [hcl] at c1
    have hofl := (List.getElem?_eq_some_iff.1 hp.k).1
    have hlt := (List.getElem?_eq_some_iff.1 hp.get.2).1
    have hnod := hp.nod
    rw [List.map_cons, List.nodup_cons] at hnod
    obtain ⟨b1, b2⟩ := beside hnod.2 hp.part.1
    have hin : ∀ q ∈ oss.flatten, q.1 < w.heap.size := fun q hq => by
      obtain ⟨t', ht'⟩ := tq_mem (x := xl) (q := q) (by rw [hp.os]; exact List.mem_cons_of_mem _ hq)
      exact h.inW _ _ ((h.leaf xl hp.live).tag _ ht')
    have hsame : ∀ l' : List (List (Nat × Nat)), (∀ q ∈ l'.flatten, q ∈ oss.flatten) → (∀ q ∈ l'.flatten, ∀ q' ∈ x1.os, q.1 ≠ q'.1) → SameOn w w' l'.flatten := fun l' h1 h2 q hq _ _ =>
      cell_of_block (hX q.1 (hin q (h1 q hq)) fun q' hq' e => h2 q hq q' hq' e.symm)
    have sub1 : ∀ {m n : Nat}, m ≤ n → ∀ q ∈ (oss.take m).flatten, q ∈ (oss.take n).flatten := fun {m n} hmn q hq => by
      obtain ⟨z, hz, hqz⟩ := List.mem_flatten.1 hq
      refine List.mem_flatten.2 ⟨z, ?_, hqz⟩
      have : oss.take m = (oss.take n).take m := by rw [List.take_take, Nat.min_eq_left hmn]
      rw [this] at hz
      exact List.mem_of_mem_take hz
    have sub2 : ∀ {m n : Nat}, n ≤ m → ∀ q ∈ (oss.drop m).flatten, q ∈ (oss.drop n).flatten := fun {m n} hmn q hq => by
      obtain ⟨z, hz, hqz⟩ := List.mem_flatten.1 hq
      refine List.mem_flatten.2 ⟨z, ?_, hqz⟩
      have : oss.drop m = (oss.drop n).drop (m - n) := by rw [List.drop_drop]; congr 1; omega
      rw [this] at hz
      exact List.mem_of_mem_drop hz
    have allT : ∀ m, ∀ q ∈ (oss.take m).flatten, q ∈ oss.flatten := fun m q hq => (flatten_sub (List.take_sublist _ _)).subset hq
    have allD : ∀ m, ∀ q ∈ (oss.drop m).flatten, q ∈ oss.flatten := fun m q hq => (flatten_sub (List.drop_sublist _ _)).subset hq
    generalize hI : i.toNat * ie.leaves.length = I at *
    have hbnd : I + ie.leaves.length ≤ l.length * ie.leaves.length := by
      have := Nat.mul_le_mul_right ie.leaves.length (show i.toNat + 1 ≤ l.length by omega)
      rw [Nat.succ_mul] at this
      omega
    have hvl := hp.rd.len
    rw [flat_len] at hvl
    have hel0 := hp.rd.elem hp.ok hp.el hp.get.2
    rw [hI] at hel0
    have p1 := hp.part.1
    have p2 := hp.part.2
    rw [hI] at p1 p2
    have hosse : ((oss.drop I).take ie.leaves.length)[off]? = some x1.os := by rw [List.getElem?_take, if_pos hofl, List.getElem?_drop]; exact p1
    have hvse : ((vs.drop I).take ie.leaves.length)[off]? = some x1.v := by rw [List.getElem?_take, if_pos hofl, List.getElem?_drop]; exact p2
    have one : ∀ {α : Type} {z : List α} {y : α}, z[off]? = some y → (z.drop off).take 1 = [y] := fun {α z y} hy => by
      obtain ⟨h1, h2⟩ := List.getElem?_eq_some_iff.1 hy
      rw [List.drop_eq_getElem_cons h1, h2]
      rfl
    have mid : ∀ {α : Type} {z : List α} {y : α}, z[off]? = some y → z.take off ++ [y] ++ z.drop (off + 1) = z := fun {α z y} hy => by
      rw [← one hy]; exact three z off 1
    have hT1 : ∀ q ∈ (((oss.drop I).take ie.leaves.length).take off).flatten, q ∈ (oss.take (I + off)).flatten := fun q hq => by
      obtain ⟨z, hz, hqz⟩ := List.mem_flatten.1 hq
      refine List.mem_flatten.2 ⟨z, ?_, hqz⟩
      rw [List.take_take, Nat.min_eq_left (by omega)] at hz
      rw [List.take_add]
      exact List.mem_append_right _ hz
    have hT2 : ∀ q ∈ (((oss.drop I).take ie.leaves.length).drop (off + 1)).flatten, q ∈ (oss.drop (I + off + 1)).flatten := fun q hq => by
      obtain ⟨z, hz, hqz⟩ := List.mem_flatten.1 hq
      refine List.mem_flatten.2 ⟨z, ?_, hqz⟩
      rw [List.drop_take, List.drop_drop] at hz
      exact List.mem_of_mem_take (by rw [show I + off + 1 = I + (off + 1) by omega]; exact hz)
    have hlay := hel0.splice (w' := w') (off := off) (n := 1) (cells := cells) (oss1 := [x1.os]) (by rw [one hp.k, one hvse]; exact hr) (hsame _ (fun q hq => allT _ q (hT1 q hq)) fun q hq => b1 q (hT1 q hq))
      (hsame _ (fun q hq => allD _ q (hT2 q hq)) fun q hq => b2 q (hT2 q hq))
    rw [mid hosse, ← c1] at hlay
    obtain ⟨hlk, hok⟩ := likeEl (hp.el e (List.mem_of_getElem? hp.get.2)) hlay.len.2.1 hp.ok fun c hc => by
      obtain ⟨q, hq1, hq2⟩ := List.mem_iff_getElem.1 hc
      obtain ⟨_, _, p', _, _, _, m3, _, m5⟩ := hlay.get q (by have := hlay.len.2.1; omega)
      rw [List.getElem?_eq_getElem hq1, hq2] at m3
      cases m3
      exact m5.notAgg
    have hset' := row_set (w' := w') hp.ok hp.el hp.rd hlt (by rw [hlk]; rw [hI] at *; exact hlay) (by
        rw [hI]
        exact hsame _ (allT _) fun q hq => b1 q (sub1 (by omega) q hq)) (by
        rw [hI]
        exact hsame _ (allD _) fun q hq => b2 q (sub2 (by omega) q hq))
    rw [hI, three, three] at hset'
    have hbX : ∀ q ∈ x1.os, q.1 ≠ b := fun q hq e => hnod.1 (by
      rw [← e]
      exact List.mem_map.2 ⟨q, List.mem_flatten.2 ⟨_, List.mem_of_getElem? hp.part.1, hq⟩, rfl⟩)
    have hra' : w'.rangeAt b o1 vs := fun j v hj => by
      have := hp.ra j v hj
      have hb := World.block_lt_of_cell? w _ this
      rw [cell_of_block (hX b hb hbX)]
      exact this
    have hrow' := Rd.slice (Ty := f.Ty) (w := w') (cap := cap) (len := l.length) (b := b) (o := o1) (ps := l.set i.toNat (likeCells e cs)) hp.ty hp.ok List.length_set hp.cap (fun q hq => by
      rcases List.mem_or_eq_of_mem_set hq with hq | rfl
      · exact hp.el q hq
      · exact hok) hra' hset'
    rw [← hp.v, ← hp.os] at hrow'
    refine h.mutAt hw hc hset ?_
    rw [hp.ks, hp.mid]
    exact .cons hrow' .nil
  · cases hset
end
end Go.Pm
