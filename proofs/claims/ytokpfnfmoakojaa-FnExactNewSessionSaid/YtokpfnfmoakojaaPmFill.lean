/-
  Parts laid over cells.
-/
import Derived.Test.YtokpfnfmoakojaaPmOp1
import Derived.Test.YtokpfnfmoakojaaPmElem
namespace Go.Pm
open Go

theorem foldl_set_list : ∀ (l : List Value) (n off : Nat) (cells : Array Value), off + n + l.length ≤ cells.size →
    ((l.zipIdx n).foldl (fun (cs : Array Value) (x : Value × Nat) => cs.setIfInBounds (off + x.2) x.1) cells).toList = cells.toList.take (off + n) ++ l ++ cells.toList.drop (off + n + l.length)
  | [], n, off, cells, _ => by simp
  | v :: l, n, off, cells, h => by
    rw [List.zipIdx_cons, List.foldl_cons, foldl_set_list l (n + 1) off _ (by simp at h ⊢; omega)]
    simp only [Array.toList_setIfInBounds]
    have h1 : off + n < cells.toList.length := by simp at h ⊢; omega
    rw [show off + (n + 1) = off + n + 1 from rfl]
    rw [List.take_set, List.drop_set, if_pos (by omega)]
    rw [List.take_succ_eq_append_getElem h1, List.set_append, if_neg (by simp; omega)]
    simp only [List.length_take]
    rw [Nat.min_eq_left (by omega), Nat.sub_self, List.set_cons_zero]
    simp [Nat.add_assoc, Nat.add_comm 1]

theorem foldl_set (vs : Array Value) (off : Nat) (cells : Array Value) (h : off + vs.size ≤ cells.size) :
    (vs.zipIdx.foldl (fun (cs : Array Value) (x : Value × Nat) => cs.setIfInBounds (off + x.2) x.1) cells).toList = cells.toList.take off ++ vs.toList ++ cells.toList.drop (off + vs.size) := by
  have := foldl_set_list vs.toList 0 off cells (by simpa using h)
  rw [← Array.foldl_toList, Array.toList_zipIdx]
  simpa using this

theorem Value.cells_size {v : Value} {vs : List Value} (h : v.cells.toList = vs) : v.cells.size = vs.length := by rw [← h]; simp

/-- One part over some cells. -/
theorem fill_one {place : Nat → Option (Nat × Nat)} {cells : Array Value} {j off size : Nat} {v : Value} {rest : List (Nat × Value)} (hp : place j = some (off, size)) (hs : v.cells.size = size) (hc : off + size ≤ cells.size) :
    ∃ cells', Instr.fill place cells ((j, v) :: rest) = Instr.fill place cells' rest ∧ cells'.toList = cells.toList.take off ++ v.cells.toList ++ cells.toList.drop (off + size) ∧ cells'.size = cells.size := by
  refine ⟨v.cells.zipIdx.foldl (fun (cs : Array Value) (x : Value × Nat) => cs.setIfInBounds (off + x.2) x.1) cells, ?_, ?_, ?_⟩
  · subst hs
    simp only [Instr.fill, hp]
    refine if_neg ?_
    simp
    omega
  · rw [foldl_set v.cells off cells (by omega), hs]
  · have h3 := congrArg List.length (foldl_set v.cells off cells (by omega))
    rw [Array.length_toList] at h3
    rw [h3]
    simp
    omega

variable {Ty : Nat → TyK} {w : World}
theorem RdL.over {ks : List LK} {vs : List Value} {ps : List PV} {oss : List (List (Nat × Nat))} (h : RdL Ty w ks vs ps oss) {off : Nat} {ks1 : List LK} {vs1 : List Value} {ps1 : List PV} {oss1 : List (List (Nat × Nat))} (h1 : RdL Ty w ks1 vs1 ps1 oss1)
    (hk : (ks.drop off).take ks1.length = ks1) :
    RdL Ty w ks (vs.take off ++ vs1 ++ vs.drop (off + ks1.length)) (ps.take off ++ ps1 ++ ps.drop (off + ks1.length)) (oss.take off ++ oss1 ++ oss.drop (off + ks1.length)) := by
  have e : ks = ks.take off ++ ks1 ++ ks.drop (off + ks1.length) := by
    conv => lhs; rw [← List.take_append_drop off ks]
    rw [List.append_assoc]
    congr 1
    conv => lhs; rw [← List.take_append_drop ks1.length (ks.drop off), hk, List.drop_drop]
  have := ((h.take off).append h1).append (h.drop (off + ks1.length))
  rw [← e] at this
  exact this

theorem flat_over {i : TyI} (hi : i.ok) {es : List PV} (hes : ∀ p ∈ es, ElOk i p) {j : Nat} {p : PV} (hj : j < es.length) :
    (es.take j ++ [p] ++ es.drop (j + 1)).flatMap cellsOf = (es.flatMap cellsOf).take (j * i.leaves.length) ++ cellsOf p ++ (es.flatMap cellsOf).drop (j * i.leaves.length + i.leaves.length) := by
  have h1 := flat_cells_take hi (n := j) hes (by omega)
  have h2 := flat_cells_drop hi (n := j + 1) hes (by omega)
  rw [Nat.succ_mul] at h2
  rw [h1, h2]
  simp

theorem rep_drop_take (len : Nat) (l : List LK) {j : Nat} (hj : j < len) : ((List.replicate len l).flatten.drop (j * l.length)).take l.length = l := by
  obtain ⟨m, hm⟩ : ∃ m, len = j + (1 + m) := ⟨len - j - 1, by omega⟩
  subst hm
  rw [rep_split, List.drop_append, flat_len, Nat.sub_self, List.drop_of_length_le (by rw [flat_len]; omega), rep_split]
  simp

theorem tagsOf_append : ∀ {k1 k2 : List LK} {l1 l2 : List LI}, k1.length = l1.length → tagsOf (k1 ++ k2) (l1 ++ l2) = tagsOf k1 l1 ++ tagsOf k2 l2
  | [], _, [], _, _ => rfl
  | k :: k1, k2, l :: l1, l2, h => by
    simp only [List.cons_append, tagsOf]
    rw [tagsOf_append (k1 := k1) (k2 := k2) (l1 := l1) (l2 := l2) (by simpa using h)]
    cases isSl k <;> rfl
  | [], _, _ :: _, _, h => by simp at h
  | _ :: _, _, [], _, h => by simp at h

/-- The groups of a leaf are among those told. -/
theorem tags_leaf {w : World} : ∀ {ks : List LK} {ps : List PV} {lfs : List Lf}, RdL Ty w ks (lfs.map (·.v)) ps (lfs.map (·.os)) → ∀ y ∈ lfs, ∀ p ∈ y.tq, p.1 ∈ tagsOf ks (lfs.map (·.li))
  | _, _, [], _, y, hy, _, _ => by cases hy
  | _, _, x :: lfs, h, y, hy, p, hp => by
    simp only [List.map_cons] at h
    cases h with
    | @cons k _ _ _ ks _ ps _ h r =>
      simp only [List.map_cons, tagsOf]
      rcases List.mem_cons.1 hy with rfl | hy
      · have hk : isSl k = true := by
          cases hk : isSl k with
          | true => rfl
          | false =>
            have := h.noSlice hk
            simp [Lf.tq, this] at hp
        rw [hk]
        unfold Lf.tq at hp
        cases hos : y.os with
        | nil => rw [hos] at hp; cases hp
        | cons q r =>
          rw [hos] at hp
          rcases List.mem_cons.1 hp with rfl | hp
          · exact List.mem_cons_self
          · obtain ⟨q', _, rfl⟩ := List.mem_map.1 hp
            exact List.mem_cons_of_mem _ List.mem_cons_self
      · have := tags_leaf r y hy p hp
        cases isSl k with
        | true => exact List.mem_cons_of_mem _ (List.mem_cons_of_mem _ this)
        | false => exact this

theorem memN_iff {k : Nat} : ∀ {l : List Nat}, memN k l = true ↔ k ∈ l
  | [] => by simp [memN]
  | j :: r => by rw [memN_cons, Bool.or_eq_true, memN_iff, beq_eq, List.mem_cons, eq_comm]

/-- Leaves that lie apart meet each block once. -/
theorem apart_nodup {S : Nat → Nat → Prop} (hS : ∀ t t' b, S t b → S t' b → t = t') : ∀ {ks : List LK} {ps : List PV} {lfs : List Lf} {seen : List Nat}, RdL Ty w ks (lfs.map (·.v)) ps (lfs.map (·.os)) → (∀ y ∈ lfs, ∀ p ∈ y.tq, S p.1 p.2.1) →
    (∀ y ∈ lfs, y.li.lin = true → (y.os.map (·.1)).Nodup) → linSl ks (lfs.map (·.li)) = true → apartIn seen ks (lfs.map (·.li)) = true → (((lfs.map (·.os)).flatten).map (·.1)).Nodup ∧ ∀ q ∈ (lfs.map (·.os)).flatten, ∀ t ∈ seen, ¬ S t q.1
  | _, _, [], _, _, _, _, _, _ => by simp
  | _, _, x :: lfs, seen, h, ht, hl, hlin, hap => by
    simp only [List.map_cons] at h hlin hap
    cases h with
    | @cons k _ _ _ ks _ ps _ h r =>
      simp only [linSl] at hlin
      simp only [apartIn] at hap
      have htail := fun (hlin : linSl ks (lfs.map (·.li)) = true) (seen' : List Nat) (hap' : apartIn seen' ks (lfs.map (·.li)) = true) => apart_nodup hS (seen := seen') r (fun y hy => ht y (List.mem_cons_of_mem _ hy)) (fun y hy => hl y (List.mem_cons_of_mem _ hy)) hlin hap'
      cases hk : isSl k with
      | false =>
        have h0 := h.noSlice hk
        rw [hk] at hap hlin
        simp only at hap hlin
        have := htail hlin seen hap
        simp only [List.map_cons, h0, List.flatten_cons, List.nil_append]
        exact this
      | true =>
        rw [hk] at hap hlin
        simp only at hap hlin
        have hx : x.li.lin = true := by
          cases hx : x.li.lin with
          | true => rfl
          | false => rw [hx] at hlin; cases hlin
        rw [hx] at hlin
        simp only at hlin
        split at hap
        · rename_i m1 m2
          have := htail hlin _ hap
          simp only [List.map_cons, List.flatten_cons, List.map_append]
          have hxin : ∀ q ∈ x.os, S x.li.tag q.1 ∨ S x.li.dt q.1 := fun q hq => by
            unfold Lf.tq at ht
            have := ht x (by simp)
            cases hos : x.os with
            | nil => rw [hos] at hq; cases hq
            | cons a r =>
              rw [hos] at this hq
              rcases List.mem_cons.1 hq with rfl | hq
              · exact .inl (this (x.li.tag, q) (by simp))
              · exact .inr (this (x.li.dt, q) (List.mem_cons_of_mem _ (List.mem_map.2 ⟨q, hq, rfl⟩)))
          refine ⟨List.nodup_append.2 ⟨hl x (by simp) hx, this.1, fun b hb c hc e => ?_⟩, fun q hq t hts hSt => ?_⟩
          · subst e
            obtain ⟨q, hq, rfl⟩ := List.mem_map.1 hb
            obtain ⟨q', hq', e⟩ := List.mem_map.1 hc
            rcases hxin q hq with g | g
            · exact this.2 q' hq' x.li.tag (by simp) (by rw [e]; exact g)
            · exact this.2 q' hq' x.li.dt (by simp) (by rw [e]; exact g)
          · rcases List.mem_append.1 hq with hq | hq
            · rcases hxin q hq with g | g
              · have := hS _ _ _ g hSt
                rw [this, memN_iff.2 hts] at m1
                cases m1
              · have := hS _ _ _ g hSt
                rw [this, memN_iff.2 hts] at m2
                cases m2
            · exact this.2 q hq t (List.mem_cons_of_mem _ (List.mem_cons_of_mem _ hts)) hSt
        · cases hap

theorem flatten_nil_take {α : Type} {l : List (List α)} (h : l.flatten = []) (n m : Nat) : (l.take n).flatten = [] ∧ (l.drop m).flatten = [] := by
  rw [List.flatten_eq_nil_iff] at h
  exact ⟨List.flatten_eq_nil_iff.2 fun x hx => h x (List.mem_of_mem_take hx), List.flatten_eq_nil_iff.2 fun x hx => h x (List.mem_of_mem_drop hx)⟩

/-- The parts of a row that is built. -/
theorem fillE_ok {f : Fix} {u : Wit} {st : St} {σ : SG} {a : Act} (h : Rel f u st σ a w) {n : Nat} (hn : n ≠ 0) {i : TyI} (hi : i.ok) {len : Nat} :
    ∀ {parts : List (Nat × Operand)} {elems es : List PV} {ls : List LI} {cells : Array Value} {oss : List (List (Nat × Nat))}, elems.length = len → (∀ p ∈ elems, ElOk i p) →
      RdL f.Ty w (List.replicate len i.leaves).flatten cells.toList (elems.flatMap cellsOf) oss → fillElems st.env elems parts = some es → cElems σ n i parts = some ls →
      ∃ cells' oss', Instr.fill (fun j => some (j * i.leaves.length, i.leaves.length)) cells (parts.map fun x => (x.1, a.eval x.2)) = some cells' ∧ es.length = len ∧ (∀ p ∈ es, ElOk i p) ∧
        RdL f.Ty w (List.replicate len i.leaves).flatten cells'.toList (es.flatMap cellsOf) oss' ∧
        (∀ q ∈ oss'.flatten, q ∈ oss.flatten ∨ ∃ t ∈ tagsOf (repK i.leaves parts.length) ls, Rests u st σ t q) ∧
        (parts.length ≤ 1 → oss.flatten = [] → linSl (repK i.leaves parts.length) ls = true → apartIn [] (repK i.leaves parts.length) ls = true → (oss'.flatten.map (·.1)).Nodup)
  | [], elems, es, ls, cells, oss, hl, hel, hr, hf, hc => by
    simp only [fillElems, Option.some.injEq] at hf
    subst hf
    refine ⟨cells, oss, rfl, hl, hel, hr, fun q hq => .inl hq, fun _ h0 _ _ => by rw [h0]; simp⟩
  | (j, x) :: parts, elems, es, ls, cells, oss, hl, hel, hr, hf, hc => by
    simp only [fillElems] at hf
    split at hf
    · rename_i p hx
      split at hf
      · rename_i es1 hov
        simp only [cElems] at hc
        split at hc
        · rename_i agg ks ls1 ls2 h1 h2
          split at hc
          · rename_i hagg hks
            cases hc
            have := eqB_eq hagg
            subst this
            have := eqLKs_eq hks
            subst this
            obtain ⟨lfs, g⟩ := h.val hn h1 hx
            obtain ⟨e1, e2⟩ := over_eq hov
            simp only [List.length_cons, List.length_nil, Nat.zero_add] at e1 e2
            have hcl := g.rd.cells
            have hlen := g.rd.1.len
            have hj : j < len := by omega
            have hmul : j * i.leaves.length + i.leaves.length ≤ len * i.leaves.length := by
              have := Nat.mul_le_mul_right i.leaves.length (show j + 1 ≤ len by omega)
              rw [Nat.succ_mul] at this
              exact this
            have hcs : cells.size = len * i.leaves.length := by have := hr.len.1; rw [flat_len] at this; simpa using this
            obtain ⟨cells1, k1, k2, k3⟩ := fill_one (place := fun j => some (j * i.leaves.length, i.leaves.length)) (cells := cells) (j := j) (rest := parts.map fun x => (x.1, a.eval x.2)) (v := a.eval x) rfl (by rw [Value.cells_size hcl]; omega) (by omega)
            have hel1 : ∀ q ∈ es1, ElOk i q := fun q hq => by
              rw [e1] at hq
              simp only [List.mem_append, List.mem_singleton] at hq
              rcases hq with (hq | rfl) | hq
              · exact hel q (List.mem_of_mem_take hq)
              · unfold ElOk
                have hrd := g.rd.2
                cases ha : i.agg with
                | true =>
                  rw [ha] at hrd
                  obtain ⟨_, l, rfl⟩ := hrd
                  exact ⟨l, rfl, by have := hlen.2.1; simpa [cellsOf] using this⟩
                | false =>
                  rw [ha] at hrd
                  exact hrd.2
              · exact hel q (List.mem_of_mem_drop hq)
            have hr1 : RdL f.Ty w (List.replicate len i.leaves).flatten cells1.toList (es1.flatMap cellsOf) (oss.take (j * i.leaves.length) ++ lfs.map (·.os) ++ oss.drop (j * i.leaves.length + i.leaves.length)) := by
              rw [k2, e1, flat_over hi hel (by omega), hcl]
              exact hr.over g.rd.1 (rep_drop_take len _ hj)
            have hls : i.leaves.length = ls1.length := by rw [← g.li]; have := hlen.1; simpa using this.symm
            have htags : tagsOf (repK i.leaves ((j, x) :: parts).length) (ls1 ++ ls2) = tagsOf i.leaves ls1 ++ tagsOf (repK i.leaves parts.length) ls2 := by
              rw [List.length_cons, repK, tagsOf_append hls]
            have hleaf : ∀ q ∈ (lfs.map (·.os)).flatten, ∃ t ∈ tagsOf (repK i.leaves ((j, x) :: parts).length) (ls1 ++ ls2), Rests u st σ t q := fun q hq => by
              obtain ⟨m, hm, hqm⟩ := List.mem_flatten.1 hq
              obtain ⟨y, hy, rfl⟩ := List.mem_map.1 hm
              obtain ⟨t, ht⟩ := tq_mem hqm
              have h1 := tags_leaf g.rd.1 y hy _ ht
              rw [g.li] at h1
              exact ⟨t, by rw [htags]; exact List.mem_append_left _ h1, (g.der y hy).rests _ ht⟩
            have hnew : ∀ q ∈ (oss.take (j * i.leaves.length) ++ lfs.map (·.os) ++ oss.drop (j * i.leaves.length + i.leaves.length)).flatten, q ∈ oss.flatten ∨ ∃ t ∈ tagsOf (repK i.leaves ((j, x) :: parts).length) (ls1 ++ ls2), Rests u st σ t q := fun q hq => by
              rw [List.flatten_append, List.flatten_append] at hq
              rcases List.mem_append.1 hq with hq | hq
              · rcases List.mem_append.1 hq with hq | hq
                · exact .inl ((flatten_sub (List.take_sublist _ _)).subset hq)
                · exact .inr (hleaf q hq)
              · exact .inl ((flatten_sub (List.drop_sublist _ _)).subset hq)
            cases parts with
            | nil =>
              simp only [fillElems, Option.some.injEq] at hf
              subst hf
              simp only [cElems, Option.some.injEq] at h2
              subst h2
              refine ⟨cells1, _, k1, by rw [e1]; simp; omega, hel1, hr1, hnew, fun _ h0 hlin hap => ?_⟩
              rw [List.flatten_append, List.flatten_append, (flatten_nil_take h0 _ 0).1, (flatten_nil_take h0 0 _).2]
              simp only [List.append_nil, List.nil_append, List.length_cons, List.length_nil, Nat.zero_add, repK] at hlin hap ⊢
              rw [← g.li] at hlin hap
              exact (apart_nodup (S := u.S) (fun t t' b h1 h2 => by
                by_cases e : t = t'
                · exact e
                · exact absurd h2 (h.apart _ _ _ e h1)) g.rd.1 (fun y hy p hp => ((g.der y hy).leafOk h.leaf (g.lin y hy)).tag p hp) g.lin hlin hap).1
            | cons pa parts =>
              obtain ⟨cells', oss', q1, q2, q3, q4, q5, q6⟩ := fillE_ok h hn hi (parts := pa :: parts) (by rw [e1]; simp; omega) hel1 hr1 hf h2
              refine ⟨cells', oss', by simpa using k1.trans q1, q2, q3, q4, fun q hq => ?_, fun hp1 _ _ _ => ?_⟩
              · rcases q5 q hq with hq | ⟨t, ht, hR⟩
                · exact hnew q hq
                · exact .inr ⟨t, by rw [htags]; exact List.mem_append_right _ ht, hR⟩
              · simp at hp1
          · cases hc
        · cases hc
      · cases hf
    · cases hf
end Go.Pm
