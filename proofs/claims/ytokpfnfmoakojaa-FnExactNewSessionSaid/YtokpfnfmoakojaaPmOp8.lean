/-
  append: the operation.
-/
import Derived.Test.YtokpfnfmoakojaaPmOp7
namespace Go.Pm
open Go
section
variable {P : Program} {G : Env} {K : CEnv} {f : Fix} {H : Hint} {C : FuncId → List Arg → Option Res} {glob : Bool} {u : Wit} {st st' : St} {σ σ' : SG} {a : Act} {w : World} {o : Oper}

theorem cells_take {cur : Array Value} {vs : List Value} {w : World} {g : Nat} {el : TypeId} {fr : Nat × Nat} (h1 : w.heap[g]? = some (.cells cur el fr)) (hr : w.rangeAt g 0 vs) : cur.toList.take vs.length = vs := by
  apply List.ext_getElem?
  intro j
  rw [List.getElem?_take]
  by_cases hj : j < vs.length
  · rw [if_pos hj]
    have := hr j vs[j] (List.getElem?_eq_getElem hj)
    simp only [World.cell?, h1, Nat.zero_add] at this
    rw [List.getElem?_eq_getElem hj]
    simpa using this
  · rw [if_neg hj, List.getElem?_eq_none (by omega)]

theorem setRow_self {w : World} {g : Nat} {cur : Array Value} {el : TypeId} {fr : Nat × Nat} (h : w.heap[g]? = some (.cells cur el fr)) : w.setRow g cur = w := by
  have : (w.heap.modify g fun | .cells _ elem frozen => .cells cur elem frozen | o => o) = w.heap := by
    apply Array.ext_getElem?
    intro j
    rw [Array.getElem?_modify]
    split
    · rename_i hj
      subst hj
      rw [h]
      rfl
    · rfl
  unfold World.setRow
  exact congrArg (fun h => ({ w with heap := h } : World)) this

theorem run_append_room' (t ty e el : TypeId) (i : TypeInfo) (ht : P.underlying t = some (.slice e)) (hi : P.info? e = some i)
    (g sLen sCap : Nat) (cur : Array Value) (hg : w.heap[g]? = some (.cells cur el (0, 0)))
    (a : Addr) (m c : Nat) (news : List Value) (hl : news.length = m * i.size) (hnews : ∀ (j : Nat) (u : Value), news[j]? = some u → w.cell? (a.add j) = some u) (h1 : ∀ u ∈ news, u.oneCell' = true)
    (hroom : sLen + m ≤ sCap) (hfit : sLen * i.size + news.length ≤ cur.size) :
    (Builtin.append_ #[t, t] ty #[.slice (some ⟨g, 0, none⟩) sLen sCap, .slice (some a) m c]).run P w =
      .ok (.slice (some ⟨g, 0, none⟩) (sLen + m) sCap) (w.setRow g (cur.toList.take (sLen * i.size) ++ news ++ cur.toList.drop (sLen * i.size + news.length)).toArray) := by
  have hf := run_firstCells_some (P := P) w i.size m a m c news hl hnews
  have hst := run_storeCells_at P g (sLen * i.size) el news 0 cur w hg (by simpa using hfit) h1
  simp only [Nat.add_zero] at hst
  simp [Builtin.append_, run_underlying ht, sizeOf, typeInfo, hi, Builtin.lenOf, hroom, hf, Addr.add_lit, hst]

theorem app_core (hS : Setting P G K f) (h : Rel f u st σ a w) {t E : TypeId} {i : TyI} {e : Eff} (hu : P.underlying t = some (.slice E)) (hE : f.Ty E = .val i) {x1 y1 : Lf} {vx vy : Value} {l1 l2 l : List PV}
    (rx : Rd f.Ty w (.slice E) vx (.slice l1) x1.os) (ry : Rd f.Ty w (.slice E) vy (.slice l2) y1.os) (hx1 : x1.v = vx) (Dx : Deriv u st σ x1) (Dy : Deriv u st σ y1) (Nx : x1.li.lin = true → (x1.os.map (·.1)).Nodup) (Ny : y1.li.lin = true → (y1.os.map (·.1)).Nodup)
    (hox : x1.li.own = true) (happ : stdApp l1 l2 = some l) {A : List Nat} {m : Nat} {lin : Bool}
    (hp' : papply stdF H o.dst st (.put (.val (.slice l))) = some st') (hc' : capply f.N o.dst σ (.put [⟨[x1.li.tag], x1.li.tag, false⟩, ⟨A, m, true⟩] (.val false [.slice E] [⟨x1.li.tag, m, true, lin, 0⟩])) = some σ')
    (h0 : memN 0 A = true → m = 0) (hA : memN x1.li.tag A = false) (hm : A ≠ [] → m = 0 ∨ m ∈ A) (hAx : anySl i.leaves = true → x1.li.dt ∈ A ∧ y1.li.dt ∈ A) (hAl : anySl i.leaves = true → lin = true → x1.li.lin = true ∧ y1.li.lin = true ∧ x1.li.dt ≠ y1.li.dt)
    (he : e = .put (.val (.slice l))) : ∃ v w' u', (Builtin.append_ #[t, t] o.type #[vx, vy]).run P w = .ok v w' ∧ Rel f u' st' σ' (a.put o.dst v) w' := by
  obtain ⟨hi, inf, z, hinf, hsz, hby, hz, hzc⟩ := hS.tab.ty E i hE
  have hpos : 0 < i.leaves.length := hi.1
  have hzs : z.cells.size = i.leaves.length := by rw [← Array.length_toList, hzc]; simp
  unfold stdApp at happ
  split at happ
  · rename_i hlen
    cases happ
    have htag : x1.li.tag ≠ 0 := by
      rcases Dx.own hox with ⟨h1, _⟩ | ⟨x0, hx0, g1, g2, _⟩
      · exact h1
      · rw [← g2]; exact ((h.leaf x0 hx0).own g1).1
    obtain ⟨vs1, oss1, rd1, el1, cx⟩ := rx.elems hE
    obtain ⟨vs2, oss2, rd2, el2, cy⟩ := ry.elems hE
    have hl1 := rd1.len
    have hl2 := rd2.len
    rw [flat_len] at hl1 hl2
    have rd12 : RdL f.Ty w (List.replicate (l1 ++ l2).length i.leaves).flatten (vs1 ++ vs2) ((l1 ++ l2).flatMap cellsOf) (oss1 ++ oss2) := by
      rw [List.length_append, rep_split, List.flatMap_append]
      exact rd1.append rd2
    have el12 : ∀ p ∈ l1 ++ l2, ElOk i p := fun p hp => (List.mem_append.1 hp).elim (el1 p) (el2 p)
    have hdx : ∀ q ∈ oss1.flatten, (x1.li.dt, q) ∈ x1.tq := fun q hq => by
      rcases cx with ⟨_, _, _, e⟩ | ⟨b, of, cap, _, ho, _⟩
      · rw [e] at hq; cases hq
      · unfold Lf.tq; rw [ho]; exact List.mem_cons_of_mem _ (List.mem_map.2 ⟨q, hq, rfl⟩)
    have hdy : ∀ q ∈ oss2.flatten, (y1.li.dt, q) ∈ y1.tq := fun q hq => by
      rcases cy with ⟨_, _, _, e⟩ | ⟨b, of, cap, _, ho, _⟩
      · rw [e] at hq; cases hq
      · unfold Lf.tq; rw [ho]; exact List.mem_cons_of_mem _ (List.mem_map.2 ⟨q, hq, rfl⟩)
    have hnos : anySl i.leaves = false → (oss1 ++ oss2).flatten = [] := fun hn => rd12.noSlices fun k hk => by
      obtain ⟨l, hl1, hl2⟩ := List.mem_flatten.1 hk
      rw [(List.mem_replicate.1 hl1).2] at hl2
      exact anySl_false hn k hl2
    have hq12 : ∀ q ∈ (oss1 ++ oss2).flatten, ∃ t ∈ A, Rests u st σ t q := fun q hq => by
      cases has : anySl i.leaves with
      | false => rw [hnos has] at hq; cases hq
      | true =>
        obtain ⟨hA1, hA2⟩ := hAx has
        rw [List.flatten_append] at hq
        rcases List.mem_append.1 hq with hq | hq
        · exact ⟨_, hA1, Dx.rests _ (hdx q hq)⟩
        · exact ⟨_, hA2, Dy.rests _ (hdy q hq)⟩
    have hnd : lin = true → ((oss1 ++ oss2).flatten.map (·.1)).Nodup := fun hl => by
      cases has : anySl i.leaves with
      | false => rw [hnos has]; simp
      | true =>
        obtain ⟨g1, g2, g3⟩ := hAl has hl
        rw [List.flatten_append, List.map_append]
        have n1 : (oss1.flatten.map (·.1)).Nodup := by
          rcases cx with ⟨_, _, _, e⟩ | ⟨b, of, cap, _, ho, _⟩
          · rw [e]; simp
          · have := Nx g1
            rw [ho, List.map_cons, List.nodup_cons] at this
            exact this.2
        have n2 : (oss2.flatten.map (·.1)).Nodup := by
          rcases cy with ⟨_, _, _, e⟩ | ⟨b, of, cap, _, ho, _⟩
          · rw [e]; simp
          · have := Ny g2
            rw [ho, List.map_cons, List.nodup_cons] at this
            exact this.2
        refine List.nodup_append.2 ⟨n1, n2, fun b hb c hc e => ?_⟩
        subst e
        obtain ⟨q, hq, rfl⟩ := List.mem_map.1 hb
        obtain ⟨q', hq', e⟩ := List.mem_map.1 hc
        have s1 := (Dx.rests _ (hdx q hq)).inS h.leaf
        have s2 := (Dy.rests _ (hdy q' hq')).inS h.leaf
        simp only at s1 s2
        rw [e] at s2
        exact h.apart _ _ _ g3 s1 s2
    have hone1 := rd1.oneCell
    have hone2 := rd2.oneCell
    -- the row that is grown
    have grown : ∀ (cap : Nat), (l1 ++ l2).length ≤ cap → cap ≤ maxLen → 0 < (l1 ++ l2).length → ∃ u', Rel f u' st' σ' (a.put o.dst (.slice (some ⟨w.heap.size, 0, none⟩) (l1 ++ l2).length cap)) (w.drew.alloc (.cells (vs1.toArray ++ vs2.toArray ++ Builtin.zeroCells z.cells (cap - (l1 ++ l2).length)) E)) := by
      intro cap hcap hmax hpos'
      have h1 := h.ren ⟨[x1.li.tag], x1.li.tag, false⟩ (by intro e; rw [memN_one] at e; exact e)
      have hR1 : ∀ {t q}, Rests u st σ t q → Rests ((⟨[x1.li.tag], x1.li.tag, false⟩ : Ren).wit u) st ((⟨[x1.li.tag], x1.li.tag, false⟩ : Ren).sg σ) t q := fun {t q} hr => by
        have := hr.ren (⟨[x1.li.tag], x1.li.tag, false⟩ : Ren)
        have et : (⟨[x1.li.tag], x1.li.tag, false⟩ : Ren).tag t = t := by
          unfold Ren.tag
          cases hm : memN t [x1.li.tag] with
          | true => rw [memN_one] at hm; exact hm
          | false => rfl
        rw [et] at this
        exact this
      have hvl : (vs1 ++ vs2).length = (l1 ++ l2).length * i.leaves.length := by rw [List.length_append, List.length_append, Nat.add_mul]; omega
      have hg0 := Grows.drew w
      refine row_step h1 hE hi (cells := vs1.toArray ++ vs2.toArray ++ Builtin.zeroCells z.cells (cap - (l1 ++ l2).length)) (cap := cap) hg0 (oss := oss1 ++ oss2) hp' hc' htag h0 rfl el12 hcap hmax (by omega) ?_ ?_ (fun q hq => ?_) hnd
      · simp only [Array.size_append, List.size_toArray, size_zeroCells, hzs]
        rw [← List.length_append, hvl, ← Nat.add_mul]
        congr 1
        omega
      · have e1 : (vs1.toArray ++ vs2.toArray ++ Builtin.zeroCells z.cells (cap - (l1 ++ l2).length)).toList.take ((l1 ++ l2).length * i.leaves.length) = vs1 ++ vs2 := by
          rw [← hvl]
          have e2 : (vs1.toArray ++ vs2.toArray ++ Builtin.zeroCells z.cells (cap - (l1 ++ l2).length)).toList = (vs1 ++ vs2) ++ (Builtin.zeroCells z.cells (cap - (l1 ++ l2).length)).toList := by simp
          rw [e2]
          exact List.take_left' rfl
        rw [e1]
        exact rd12.frame (hg0.sameOn fun q hq => by
          obtain ⟨t, _, hR⟩ := hq12 q hq
          exact h.inW _ _ (hR.inS h.leaf))
      · obtain ⟨t, ht, hR⟩ := hq12 q hq
        exact ⟨t, ht, hR1 hR⟩
    rcases cx with ⟨ex, el0, eo, eoss⟩ | ⟨b, of, cap, ex, eo, hra, hcap⟩
    · -- nothing was there
      subst ex
      subst el0
      by_cases hl20 : l2 = []
      · subst hl20
        have hrun : (Builtin.append_ #[t, t] o.type #[.slice none 0 0, vy]).run P w = .ok (.slice none 0 0) w := by
          rcases cy with ⟨ey, _⟩ | ⟨b, of, cap, ey, _⟩
          · rw [ey]; exact run_append_none hu hinf none 0 0 (Nat.le_refl _)
          · rw [ey]; exact run_append_zero hu hinf _ _
        have h1 := (h.ren ⟨[x1.li.tag], x1.li.tag, false⟩ (by intro e; rw [memN_one] at e; exact e)).ren ⟨A, m, true⟩ h0
        obtain ⟨u', hr⟩ := put_step (v := .slice none 0 0) (lfs := [⟨⟨x1.li.tag, m, true, lin, 0⟩, .slice none 0 0, []⟩]) (σ := σ) rfl h1 (by simpa using hp') hc' (.val (RdV.one (.nil E)) rfl)
          (fun y hy => by obtain rfl := List.mem_singleton.1 hy; exact .nilRow rfl rfl htag rfl) (fun y hy _ => by obtain rfl := List.mem_singleton.1 hy; simp)
        exact ⟨_, _, u', hrun, hr⟩
      · rcases cy with ⟨_, e2, _⟩ | ⟨b2, o2, cap2, ey, _, hra2, hcap2⟩
        · exact absurd e2 hl20
        · have hl2p : 0 < l2.length := List.length_pos_iff.2 hl20
          have h31 : l2.length ≤ 2147483648 := by simpa using hlen
          have hmul := two31 (n := 0) (m := l2.length) (by omega) hby
          have hr := run_append_nil (P := P) w t o.type E inf z hu hinf hz ⟨b2, o2, none⟩ l2.length cap2 vs2 (by rw [hsz]; exact hl2.1) (fun j v hj => by rw [Addr.add_mid]; exact hra2 j v hj) hl2p (by omega) (by simp at hmul; omega)
          have hge := grownCap_ge w l2.length 0 E
          have hcm := grownCap_le_maxLen w l2.length 0 E (by unfold maxLen; omega)
          obtain ⟨u', hrel⟩ := grown (grownCap w l2.length 0 E) (by simpa using hge) hcm (by simpa using hl2p)
          rw [ey]
          have hvs1 : vs1 = [] := List.eq_nil_of_length_eq_zero (by have := hl1.1; simpa using this)
          subst hvs1
          refine ⟨_, _, u', hr, ?_⟩
          simpa using hrel
    · -- a row was there
      have hvx := hx1.trans ex
      rcases Dx.own hox with ⟨_, h2⟩ | ⟨x0, hx0, g1, g2, g3, g4⟩
      · rw [h2] at hvx; cases hvx
      · obtain ⟨_, hor⟩ := (h.leaf x0 hx0).own g1
        rcases hor with h2 | ⟨g, n, cap', cur, el, h2, hg, hn, hmax, hn0, s0, r0, hos0, hcz⟩
        · rw [g3, hvx] at h2; cases h2
        · rw [g3, hvx] at h2
          simp only [Value.slice.injEq, Option.some.injEq, Addr.mk.injEq] at h2
          obtain ⟨⟨rfl, rfl, _⟩, rfl, rfl⟩ := h2
          have hhead : x0.head = some (b, 0 + l1.length * i.leaves.length) := by
            unfold Lf.head
            rw [g3, hvx, g4, eo]
            rfl
          rw [Nat.zero_add] at hhead
          have hs0 : cur.size = cap * i.leaves.length := by
            rw [g4, eo] at hos0
            simp only [List.cons.injEq, Prod.mk.injEq, true_and, Nat.zero_add] at hos0
            by_cases hz0 : l1.length = 0
            · rw [hcz, hn0 hz0]; simp
            · rw [hcz, Nat.eq_of_mul_eq_mul_left (by omega) hos0.1]
          have hvs1 : cur.toList.take (l1.length * i.leaves.length) = vs1 := by
            rw [← hl1.1]
            exact cells_take hg hra
          have hnd2 : lin = true → (b :: (oss1 ++ oss2).flatten.map (·.1)).Nodup := fun hl => by
            rw [List.nodup_cons]
            refine ⟨fun hm => ?_, hnd hl⟩
            cases has : anySl i.leaves with
            | false => rw [hnos has] at hm; cases hm
            | true =>
              obtain ⟨k1, k2, k3⟩ := hAl has hl
              obtain ⟨hA1, hA2⟩ := hAx has
              rw [List.flatten_append, List.map_append] at hm
              rcases List.mem_append.1 hm with hm | hm
              · have := Nx k1
                rw [eo, List.map_cons, List.nodup_cons] at this
                exact this.1 hm
              · obtain ⟨q, hq, e⟩ := List.mem_map.1 hm
                have s1 := (Dy.rests _ (hdy q hq)).inS h.leaf
                have s2 := (h.leaf x0 hx0).tag _ (head_mem hhead)
                simp only at s1 s2 e
                rw [e] at s1
                rw [g2] at s2
                refine h.apart _ _ _ (fun e2 => ?_) s2 s1
                rw [e2, memN_iff.2 hA2] at hA
                cases hA
          by_cases hroom : l1.length + l2.length ≤ cap
          · -- in place
            rw [← g2] at hc' hA
            have core : ∀ cur' : Array Value, cur'.size = cur.size → (∀ j, j < l1.length * i.leaves.length → cur'[j]? = cur[j]?) → cur'.toList.take ((l1 ++ l2).length * i.leaves.length) = vs1 ++ vs2 →
                ∃ u', Rel f u' st' σ' (a.put o.dst (.slice (some ⟨b, 0, none⟩) (l1 ++ l2).length cap)) (w.setRow b cur') := fun cur' k1 k2 k3 =>
              row_in h hx0 g1 hhead hE hi hg k2 k1 (cap := cap) (oss := oss1 ++ oss2) hp' hc' h0 hA hm el12 (by simpa using hroom) hmax (fun hz => hn0 (by rw [List.length_append] at hz; omega)) hs0 (by rw [List.length_append, Nat.add_mul]; omega) (by rw [k3]; exact rd12)
                (fun q hq => .inr (hq12 q hq)) hnd2
            rcases cy with ⟨ey, e2, _, e3⟩ | ⟨b2, o2, cap2, ey, _, hra2, hcap2⟩
            · subst e2
              have hv2 : vs2 = [] := List.eq_nil_of_length_eq_zero (by have := hl2.1; simpa using this)
              obtain ⟨u', hr⟩ := core cur rfl (fun _ _ => rfl) (by rw [hv2]; simpa using hvs1)
              rw [setRow_self hg] at hr
              refine ⟨_, _, u', ?_, hr⟩
              rw [ex, ey]
              have := run_append_none (P := P) (w := w) (ty := o.type) hu hinf (some ⟨b, 0, none⟩) l1.length cap (by simpa using hroom)
              simpa using this
            · have hfit : l1.length * i.leaves.length + vs2.length ≤ cur.size := by
                rw [hl2.1, hs0, ← Nat.add_mul]
                exact Nat.mul_le_mul_right _ hroom
              have hr0 := run_append_room' (P := P) (w := w) t o.type E el inf hu hinf b l1.length cap cur hg ⟨b2, o2, none⟩ l2.length cap2 vs2 (by rw [hsz]; exact hl2.1) (fun j v hj => by rw [Addr.add_mid]; exact hra2 j v hj) hone2 hroom (by rw [hsz]; exact hfit)
              rw [hsz] at hr0
              generalize hcur' : (cur.toList.take (l1.length * i.leaves.length) ++ vs2 ++ cur.toList.drop (l1.length * i.leaves.length + vs2.length)).toArray = cur' at hr0
              have hl : (cur.toList.take (l1.length * i.leaves.length)).length = l1.length * i.leaves.length := by rw [hvs1]; exact hl1.1
              obtain ⟨u', hr⟩ := core cur' (by rw [← hcur']; simp; omega) (fun j hj => by
                rw [← hcur']
                simp only [List.getElem?_toArray]
                rw [List.append_assoc, List.getElem?_append_left (by omega), List.getElem?_take, if_pos hj]
                simp) (by
                rw [← hcur']
                simp only
                rw [hvs1]
                have e1 : (l1 ++ l2).length * i.leaves.length = (vs1 ++ vs2).length := by rw [List.length_append, List.length_append, Nat.add_mul]; omega
                rw [e1]
                exact List.take_left' rfl)
              refine ⟨_, _, u', ?_, hr⟩
              rw [ex, ey]
              simpa using hr0
          · -- grown
            rcases cy with ⟨ey, e2, _, e3⟩ | ⟨b2, o2, cap2, ey, _, hra2, hcap2⟩
            · subst e2
              simp at hroom
              omega
            · have hmul := two31 (n := l1.length) (m := l2.length) hlen hby
              have hr0 := run_append_grow (P := P) w t o.type E inf z hu hinf hz ⟨b, 0, none⟩ l1.length cap vs1 (by rw [hsz]; exact hl1.1) (fun j v hj => by rw [Addr.add_mid]; exact hra j v hj) ⟨b2, o2, none⟩ l2.length cap2 vs2 (by rw [hsz]; exact hl2.1) (fun j v hj => by rw [Addr.add_mid]; exact hra2 j v hj)
                (by omega) (by omega) (growslice_fits (by omega) hmul)
              have hge := grownCap_ge w (l1.length + l2.length) cap E
              have hcm := grownCap_le_maxLen w (l1.length + l2.length) cap E (by unfold maxLen; omega)
              obtain ⟨u', hr⟩ := grown (grownCap w (l1.length + l2.length) cap E) (by simpa using hge) hcm (by simp; omega)
              refine ⟨_, _, u', ?_, hr⟩
              rw [ex, ey]
              simpa using hr0
  · cases happ

theorem beqF {a b : Nat} (h : (!(Nat.beq a b)) = true) : a ≠ b := by
  intro e
  rw [beq_eq.2 e] at h
  cases h

theorem one_leaf {lfs : List Lf} {v : Value} {os : List (Nat × Nat)} {li : LI} (h1 : lfs.map (·.v) = [v]) (h2 : lfs.map (·.os) = [os]) (h3 : lfs.map (·.li) = [li]) : lfs = [⟨li, v, os⟩] := by
  cases lfs with
  | nil => simp at h1
  | cons x r =>
    simp only [List.map_cons, List.cons.injEq, List.map_eq_nil_iff] at h1 h2 h3
    obtain ⟨a1, rfl⟩ := h1
    obtain ⟨a2, _⟩ := h2
    obtain ⟨a3, _⟩ := h3
    cases x
    simp only at a1 a2 a3
    rw [a1, a2, a3]

theorem append_ok (hS : Setting P G K f) (h : Rel f u st σ a w) {t : TypeId} {x y : Operand} {args : Array Operand} {ts : Array TypeId} {e : Eff} {ce : CE} (ho : o.op = .call ⟨.builtin .append, args, ts⟩) (hargs : args.toList = [x, y]) (hts : ts.toList = [t, t])
    (hp : pApp stdF (evV st.env x) (evV st.env y) = some e) (hp' : papply stdF H o.dst st e = some st') {n : Nat} (hn : n ≠ 0) (hc : cApp σ n K.types (exOne (tyC K t)) x y = some ce) (hc' : capply f.N o.dst σ ce = some σ') :
    Goal P f o a w st' σ' := by
  have ha : args = #[x, y] := by rw [← Array.toList_inj]; simpa using hargs
  have ht : ts = #[t, t] := by rw [← Array.toList_inj]; simpa using hts
  subst ha; subst ht
  have hrun : ∀ v w', (Builtin.append_ #[t, t] o.type #[a.eval x, a.eval y]).run P w = .ok v w' → (execOp a.eval o).run P w = .ok (.value v) w' := fun v w' hv => by
    unfold execOp
    simp [ho, resolve, invoke, builtin, hv]
  unfold cApp at hc
  split at hc
  · rename_i E0 E lx hex h1
    split at hc
    · rename_i i hTy hown hE0
      split at hc
      · rename_i E' ly h2
        split at hc
        · rename_i hee
          have := beq_eq.1 hee
          subst this
          have hE : f.Ty E = .val i := by rw [← hS.kty]; exact hTy
          have hu : P.underlying t = some (.slice E) := by
            have := beq_eq.1 hE0
            subst this
            exact exOne_eq hS hex
          cases hx : evV st.env x with
          | none => simp [hx, pApp] at hp
          | some p1 =>
            cases hy : evV st.env y with
            | none => simp [hx, hy, pApp] at hp
            | some p2 =>
              obtain ⟨lf1, g1⟩ := h.val hn h1 hx
              obtain ⟨lf2, g2⟩ := h.val (by omega) h2 hy
              obtain ⟨os1, a1, a2, r1⟩ := g1.rd.isOne
              obtain ⟨os2, b1, b2, r2⟩ := g2.rd.isOne
              have k1 := one_leaf a1 a2 g1.li
              have k2 := one_leaf b1 b2 g2.li
              subst k1; subst k2
              generalize hvx : a.eval x = vx at *
              generalize hvy : a.eval y = vy at *
              have hl1 : ∃ l, p1 = .slice l := by cases r1 <;> exact ⟨_, rfl⟩
              have hl2 : ∃ l, p2 = .slice l := by cases r2 <;> exact ⟨_, rfl⟩
              obtain ⟨l1, rfl⟩ := hl1
              obtain ⟨l2, rfl⟩ := hl2
              simp only [hx, hy, pApp] at hp
              split at hp
              · rename_i l hl
                simp only [putV, Option.some.injEq] at hp
                subst hp
                have Dx := g1.der ⟨lx, vx, os1⟩ (by simp)
                have Dy := g2.der ⟨ly, vy, os2⟩ (by simp)
                have Nx := g1.lin ⟨lx, vx, os1⟩ (by simp)
                have Ny := g2.lin ⟨ly, vy, os2⟩ (by simp)
                split at hc
                · rename_i has
                  cases hc
                  have hc2 : capply f.N o.dst σ (.put [⟨[lx.tag], lx.tag, false⟩, ⟨[], lx.dt, true⟩] (.val false [.slice E] [⟨lx.tag, lx.dt, true, true, 0⟩])) = some σ' := by
                    rw [← hc']
                    simp only [capply, rens, sg_nil]
                  obtain ⟨v, w', u', q1, q2⟩ := app_core hS h hu hE r1 r2 rfl Dx Dy Nx Ny hown hl hp' hc2 (fun e => by cases e) rfl (fun e => absurd rfl e) (fun e => by rw [has] at e; cases e) (fun e => by rw [has] at e; cases e) rfl
                  exact .value (hrun v w' q1) q2
                · rename_i has
                  dsimp only at hc
                  split at hc
                  · cases hc
                  · rename_i hmem
                    cases hc
                    obtain ⟨v, w', u', q1, q2⟩ := app_core hS h hu hE r1 r2 rfl Dx Dy Nx Ny hown hl hp' hc' (fun hm => joinOf_zero _ (memN_iff.1 hm)) hmem (fun h0 => .inr (joinOf_mem _ h0)) (fun _ => ⟨by simp, by simp⟩) (fun _ hl => by
                        simp only [Bool.and_eq_true] at hl
                        exact ⟨hl.1.1.1, hl.1.1.2, beqF hl.1.2⟩) rfl
                    exact .value (hrun v w' q1) q2
              · cases hp
        · cases hc
      · cases hc
    · cases hc
  · cases hc
end
end Go.Pm
