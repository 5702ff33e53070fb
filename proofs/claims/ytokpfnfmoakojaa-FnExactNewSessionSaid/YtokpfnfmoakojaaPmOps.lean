/-
  Each operation keeps the relation.
-/
import Derived.Test.YtokpfnfmoakojaaPmCheck
import Derived.WalkKit
namespace Go.Pm
open Go

def LK.zeroV : LK → Value
  | .int k => .int k 0
  | .bool => .bool false
  | .str => .string ⟨#[]⟩
  | .slice _ => .slice none 0 0
def LK.desc : LK → TypeDesc
  | .int k => .int k
  | .bool => .bool
  | .str => .string
  | .slice e => .slice e

/-- What the machine is told of the types is so. -/
structure TabOk (P : Program) (Ty : Nat → TyK) : Prop where
  ty : ∀ t i, Ty t = .val i → i.ok ∧ ∃ inf z, P.info? t = some inf ∧ inf.size = i.leaves.length ∧ inf.bytes ≤ 65536 ∧ inf.zero = some z ∧ z.cells.toList = i.leaves.map LK.zeroV
  agg : ∀ t i, Ty t = .val i → i.agg = true → ∃ fs, P.underlying t = some (.struct fs) ∧ i.fields.length = fs.size ∧ i.sizes.length = fs.size ∧
    ∀ (j : Nat) (fl : Field), fs[j]? = some fl → i.fields[j]? = some fl.offset ∧ ∃ inf, P.info? fl.type = some inf ∧ i.sizes[j]? = some inf.size ∧ inf.size ≠ 0
  one : ∀ t i, Ty t = .val i → i.agg = false → ∃ k, i.leaves = [k] ∧ P.underlying t = some k.desc

theorem wp_value {P : Program} {o : Oper} {a : Act} {w w' : World} {v : Value} {next : Act → World → Prop} {Q : Exit → Act → World → Prop} (h : (execOp a.eval o).run P w = .ok (.value v) w') (hn : next (a.put o.dst v) w') : o.wp P a w next Q := by
  unfold Oper.wp
  rw [h]
  exact hn
theorem wp_skip' {P : Program} {o : Oper} {a : Act} {w w' : World} {next : Act → World → Prop} {Q : Exit → Act → World → Prop} (h : (execOp a.eval o).run P w = .ok .skip w') (hn : next (a.put o.dst undef) w') : o.wp P a w next Q := by
  unfold Oper.wp
  rw [h]
  exact hn

theorem sameKind_eq {k k' : IntKind} (h : sameKind k k' = true) : k = k' := by cases k <;> cases k' <;> first | rfl | simp [sameKind] at h
theorem sameKind_refl (k : IntKind) : sameKind k k = true := by cases k <;> rfl
theorem eqLK_eq {a b : LK} (h : eqLK a b = true) : a = b := by
  cases a <;> cases b <;> simp [eqLK] at h ⊢
  · exact sameKind_eq h
  · exact h
theorem eqLKs_eq : ∀ {a b : List LK}, eqLKs a b = true → a = b
  | [], [], _ => rfl
  | [], _ :: _, h => by simp [eqLKs] at h
  | _ :: _, [], h => by simp [eqLKs] at h
  | x :: r, y :: s, h => by
    simp only [eqLKs] at h
    cases hk : eqLK x y with
    | true => rw [hk] at h; rw [eqLK_eq hk, eqLKs_eq h]
    | false => rw [hk] at h; cases h
theorem eqB_eq {a b : Bool} (h : eqB a b = true) : a = b := by cases a <;> cases b <;> simp [eqB] at h ⊢

/-! ### Constants -/
theorem constLK_ok {Ty : Nat → TyK} {w : World} {ex : List LK} {v : Value} {k : LK} (h : constLK ex v = some k) : ∃ p, constPV v = some p ∧ Rd Ty w k v p [] ∧ (isSl k = true → v = .slice none 0 0) := by
  unfold constLK at h
  split at h
  · cases h; exact ⟨_, rfl, .int _ _, fun h => by cases h⟩
  · cases h; exact ⟨_, rfl, .bool _, fun h => by cases h⟩
  · cases h; exact ⟨_, rfl, .str _, fun h => by cases h⟩
  · split at h
    · cases h; exact ⟨_, rfl, .nil _, fun _ => rfl⟩
    · cases h
  · cases h
theorem constLKs_ok {Ty : Nat → TyK} {w : World} : ∀ {ks : List LK} {vs : List Value}, constLKs ks vs = true → ∃ ps, constPVs vs = some ps ∧ RdL Ty w ks vs ps (ks.map fun _ => []) ∧ ∀ (j : Nat) (k : LK) (v : Value), ks[j]? = some k → vs[j]? = some v → isSl k = true → v = .slice none 0 0
  | [], [], _ => ⟨[], rfl, .nil, fun j k v h => by simp at h⟩
  | [], _ :: _, h => by simp [constLKs] at h
  | _ :: _, [], h => by simp [constLKs] at h
  | k :: ks, v :: vs, h => by
    simp only [constLKs] at h
    split at h
    · rename_i k' hk'
      split at h
      · rename_i he
        have := eqLK_eq he
        subst this
        obtain ⟨p, h1, h2, h3⟩ := constLK_ok (Ty := Ty) (w := w) hk'
        obtain ⟨ps, g1, g2, g3⟩ := constLKs_ok (Ty := Ty) (w := w) h
        refine ⟨p :: ps, by simp [constPVs, h1, g1], .cons h2 g2, fun j k' v' hj hv => ?_⟩
        cases j with
        | zero => simp at hj hv; subst hj; subst hv; exact h3
        | succ j => simp at hj hv; exact g3 j k' v' hj hv
      · cases h
    · cases h

theorem nilLIs_len : ∀ (n : Nat) (ks : List LK), (nilLIs n ks).length = ks.length
  | _, [] => rfl
  | n, k :: r => by simp [nilLIs, nilLIs_len]
theorem nilLIs_id : ∀ {n : Nat} {ks : List LK} {j : Nat} {li : LI}, (nilLIs n ks)[j]? = some li → li.id = 0
  | _, [], _, _, h => by simp [nilLIs] at h
  | n, k :: r, 0, li, h => by
    simp only [nilLIs, List.getElem?_cons_zero, Option.some.injEq] at h
    subst h
    cases isSl k <;> rfl
  | n, k :: r, j + 1, li, h => by
    simp only [nilLIs, List.getElem?_cons_succ] at h
    exact nilLIs_id h
theorem nilLIs_get : ∀ {n : Nat} {ks : List LK} {j : Nat} {li : LI}, n ≠ 0 → (nilLIs n ks)[j]? = some li → li.own = true → li.tag ≠ 0 ∧ ∃ k, ks[j]? = some k ∧ isSl k = true
  | _, [], _, _, _, h, _ => by simp [nilLIs] at h
  | n, k :: r, 0, li, hn, h, ho => by
    simp only [nilLIs, List.getElem?_cons_zero, Option.some.injEq] at h
    subst h
    cases hk : isSl k with
    | true => simp [hk] at ho ⊢; exact hn
    | false => simp [hk, scal] at ho
  | n, k :: r, j + 1, li, hn, h, ho => by
    simp only [nilLIs, List.getElem?_cons_succ] at h ⊢
    exact nilLIs_get (by omega) h ho

/-- Leaves put together. -/
def mkLf : List LI → List Value → List (List (Nat × Nat)) → List Lf
  | l :: ls, v :: vs, o :: os => ⟨l, v, o⟩ :: mkLf ls vs os
  | _, _, _ => []
theorem mkLf_v : ∀ {ls : List LI} {vs : List Value} {os : List (List (Nat × Nat))}, ls.length = vs.length → os.length = vs.length → (mkLf ls vs os).map (·.v) = vs
  | [], [], [], _, _ => rfl
  | _ :: ls, _ :: vs, _ :: os, h1, h2 => by simp [mkLf, mkLf_v (ls := ls) (vs := vs) (os := os) (by simpa using h1) (by simpa using h2)]
  | [], _ :: _, _, h, _ => by simp at h
  | _ :: _, [], _, h, _ => by simp at h
  | [], [], _ :: _, _, h => by simp at h
  | _ :: _, _ :: _, [], _, h => by simp at h
theorem mkLf_os : ∀ {ls : List LI} {vs : List Value} {os : List (List (Nat × Nat))}, ls.length = vs.length → os.length = vs.length → (mkLf ls vs os).map (·.os) = os
  | [], [], [], _, _ => rfl
  | _ :: ls, _ :: vs, _ :: os, h1, h2 => by simp [mkLf, mkLf_os (ls := ls) (vs := vs) (os := os) (by simpa using h1) (by simpa using h2)]
  | [], _ :: _, _, h, _ => by simp at h
  | _ :: _, [], _, h, _ => by simp at h
  | [], [], _ :: _, _, h => by simp at h
  | _ :: _, _ :: _, [], _, h => by simp at h
theorem mkLf_li : ∀ {ls : List LI} {vs : List Value} {os : List (List (Nat × Nat))}, ls.length = vs.length → os.length = vs.length → (mkLf ls vs os).map (·.li) = ls
  | [], [], [], _, _ => rfl
  | _ :: ls, _ :: vs, _ :: os, h1, h2 => by simp [mkLf, mkLf_li (ls := ls) (vs := vs) (os := os) (by simpa using h1) (by simpa using h2)]
  | [], _ :: _, _, h, _ => by simp at h
  | _ :: _, [], _, h, _ => by simp at h
  | [], [], _ :: _, _, h => by simp at h
  | _ :: _, _ :: _, [], _, h => by simp at h
theorem mkLf_mem : ∀ {ls : List LI} {vs : List Value} {os : List (List (Nat × Nat))} {y : Lf}, y ∈ mkLf ls vs os → ∃ j : Nat, ls[j]? = some y.li ∧ vs[j]? = some y.v ∧ os[j]? = some y.os
  | l :: ls, v :: vs, o :: os, y, h => by
    simp only [mkLf, List.mem_cons] at h
    rcases h with rfl | h
    · exact ⟨0, rfl, rfl, rfl⟩
    · obtain ⟨j, h1, h2, h3⟩ := mkLf_mem h
      exact ⟨j + 1, by simpa using h1, by simpa using h2, by simpa using h3⟩
  | [], _, _, _, h => by simp [mkLf] at h
  | _ :: _, [], _, _, h => by simp [mkLf] at h
  | _ :: _, _ :: _, [], _, h => by simp [mkLf] at h

/-- An operand that is a value: how it reads, and what its leaves come from. -/
structure ValOk (f : Fix) (u : Wit) (st : St) (σ : SG) (w : World) (agg : Bool) (ks : List LK) (ls : List LI) (v : Value) (p : PV) (lfs : List Lf) : Prop where
  rd : RdV f.Ty w agg ks v p (lfs.map (·.v)) (lfs.map (·.os))
  li : lfs.map (·.li) = ls
  der : ∀ y ∈ lfs, Deriv u st σ y
  lin : ∀ y ∈ lfs, y.li.lin = true → (y.os.map (·.1)).Nodup

theorem ValOk.ofConst {f : Fix} {u : Wit} {st : St} {σ : SG} {w : World} {ks : List LK} {vs : List Value} {ps : List PV} {n : Nat} (hn : n ≠ 0) {agg : Bool} {v : Value} {p : PV} (h : RdV f.Ty w agg ks v p vs (ks.map fun _ => []))
    (hs : ∀ (j : Nat) (k : LK) (v : Value), ks[j]? = some k → vs[j]? = some v → isSl k = true → v = .slice none 0 0) (_ : ps = ps) : ∃ lfs, ValOk f u st σ w agg ks (nilLIs n ks) v p lfs := by
  have hl := h.1.len
  have e1 : (nilLIs n ks).length = vs.length := by rw [nilLIs_len]; omega
  have e2 : (ks.map fun _ => ([] : List (Nat × Nat))).length = vs.length := by simp; omega
  refine ⟨mkLf (nilLIs n ks) vs (ks.map fun _ => []), by rw [mkLf_v e1 e2, mkLf_os e1 e2]; exact h, mkLf_li e1 e2, fun y hy => ?_, fun y hy _ => ?_⟩
  · obtain ⟨j, h1, h2, h3⟩ := mkLf_mem hy
    have hos : y.os = [] := by
      rw [List.getElem?_map] at h3
      cases hk : ks[j]? with
      | none => simp [hk] at h3
      | some k => simp [hk] at h3; exact h3
    cases ho : y.li.own with
    | false => exact .free hos ho (nilLIs_id h1)
    | true =>
      obtain ⟨g1, k, g2, g3⟩ := nilLIs_get hn h1 ho
      exact .nilRow hos (hs j k y.v g2 h2 g3) g1 (nilLIs_id h1)
  · obtain ⟨j, h1, h2, h3⟩ := mkLf_mem hy
    have hos : y.os = [] := by
      rw [List.getElem?_map] at h3
      cases hk : ks[j]? with
      | none => simp [hk] at h3
      | some k => simp [hk] at h3; exact h3
    simp [hos]

theorem Rel.entry {f : Fix} {u : Wit} {st : St} {σ : SG} {a : Act} {w : World} (h : Rel f u st σ a w) {t : Nat} {e : Ent} {s : SI} (he : lk t st.env = some e) (hs : lk t σ.slots = some s) :
    EntOk f.Ty u.β w (a.tmps.getD t undef) e s (u.LF t) ∧ ∀ x ∈ u.LF t, Live u st σ x := by
  exact ⟨(h.slot t e s he hs).2, fun x hx => .inl ⟨t, e, s, he, hs, hx⟩⟩

theorem Rel.val {f : Fix} {u : Wit} {st : St} {σ : SG} {a : Act} {w : World} (h : Rel f u st σ a w) {n : Nat} (hn : n ≠ 0) {ex : List LK} {x : Operand} {agg : Bool} {ks : List LK} {ls : List LI} {p : PV}
    (hs : sVal σ n ex x = some (agg, ks, ls)) (hp : evV st.env x = some p) : ∃ lfs, ValOk f u st σ w agg ks ls (a.eval x) p lfs := by
  cases x with
  | tmp t =>
    simp only [sVal] at hs
    have hev : a.eval (.tmp t) = a.tmps.getD t undef := rfl
    rw [hev]
    simp only [evV, evE] at hp
    cases he : lk t st.env with
    | none => simp [he] at hp
    | some en =>
    rw [he] at hp
    split at hs
    · rename_i hl
      cases hs
      obtain ⟨h1, h2⟩ := h.entry he hl
      generalize u.LF t = lfs at h1 h2
      generalize a.tmps.getD t undef = vv at h1 ⊢
      cases h1 with
      | val h3 h4 =>
        cases hp
        exact ⟨lfs, h3, h4, fun y hy => .of_live (h2 y hy), fun y hy => (h.leaf y (h2 y hy)).lin⟩
    · rename_i hl
      cases hs
      obtain ⟨h1, h2⟩ := h.entry he hl
      generalize u.LF t = lfs at h1 h2
      generalize a.tmps.getD t undef = vv at h1 ⊢
      cases h1 with
      | @velem _ _ _ _ _ b o i v p lfs row hrow hoff hr h3 hl =>
        cases hp
        have h4 : lfs.map (·.li) = List.replicate ks.length ⟨_, _, false, _, 0⟩ := List.eq_replicate_iff.2 ⟨by simpa using h3.1.len.1, fun x hx => by
          obtain ⟨y, hy, rfl⟩ := List.mem_map.1 hx
          exact hl y hy⟩
        exact ⟨lfs, h3, h4, fun y hy => .of_live (h2 y (List.mem_cons_of_mem _ hy)), fun y hy => (h.leaf y (h2 y (List.mem_cons_of_mem _ hy))).lin⟩
    · cases hs
  | const v =>
    simp only [sVal] at hs
    simp only [evV, evE] at hp
    have hev : a.eval (.const v) = v := rfl
    rw [hev]
    split at hs
    · rename_i cs hcs
      have hv : v = .agg cs := by cases v <;> simp [constAgg] at hcs; rw [hcs]
      subst hv
      split at hs
      · rename_i hk
        cases hs
        obtain ⟨ps, g1, g2, g3⟩ := constLKs_ok (Ty := f.Ty) (w := w) hk
        simp [constPV, g1] at hp
        subst hp
        refine ValOk.ofConst (ps := ps) hn (p := .agg ps) (vs := cs.toList) ?_ g3 rfl
        have := RdV.agg g2
        simpa using this
      · cases hs
    · split at hs
      · rename_i k hk
        cases hs
        obtain ⟨p', g1, g2, g3⟩ := constLK_ok (Ty := f.Ty) (w := w) hk
        simp [g1] at hp
        subst hp
        refine ValOk.ofConst (ps := [p']) hn (vs := [v]) (RdV.one g2) (fun j k' v' hj hv => ?_) rfl
        cases j with
        | zero => simp at hj hv; subst hj; subst hv; exact g3
        | succ j => simp at hj
      · cases hs
  | global g => simp [sVal] at hs
  | func f => simp [sVal] at hs

theorem EntOk.isVal {Ty : Nat → TyK} {β : Nat → Nat} {w : World} {v : Value} {e : Ent} {agg : Bool} {ks : List LK} {ls : List LI} {lfs : List Lf} (h : EntOk Ty β w v e (.val agg ks ls) lfs) :
    ∃ p, e = .val p ∧ RdV Ty w agg ks v p (lfs.map (·.v)) (lfs.map (·.os)) ∧ lfs.map (·.li) = ls := by
  cases h with
  | val h hl => exact ⟨_, rfl, h, hl⟩
theorem EntOk.isTup {Ty : Nat → TyK} {β : Nat → Nat} {w : World} {v : Value} {e : Ent} {parts : List (Bool × List LK × List LI)} {lfs : List Lf} (h : EntOk Ty β w v e (.tup parts) lfs) :
    ∃ ps vs, e = .tup ps ∧ v = .tuple vs ∧ TupOk Ty w parts vs.toList ps lfs := by
  cases h with
  | tup h => exact ⟨_, _, rfl, rfl, h⟩
theorem EntOk.isVar {Ty : Nat → TyK} {β : Nat → Nat} {w : World} {v : Value} {e : Ent} {k off : Nat} {lfs : List Lf} (h : EntOk Ty β w v e (.avar k off) lfs) : e = .avar k off ∧ v = .pointer (some ⟨β k, off, none⟩) ∧ lfs = [] := by
  cases h with
  | avar => exact ⟨rfl, rfl, rfl⟩
theorem EntOk.isElem {Ty : Nat → TyK} {β : Nat → Nat} {w : World} {v : Value} {e : Ent} {ks : List LK} {li : LI} {off : Nat} {lfs : List Lf} (h : EntOk Ty β w v e (.aelem ks li off) lfs) :
    ∃ b o i cells rest row, e = .aelem i cells off ∧ v = .pointer (some ⟨b, o + off, none⟩) ∧ lfs = row :: rest ∧ ElemAt row li ks.length b o i ∧ w.rangeAt b o (rest.map (·.v)) ∧
      RdL Ty w ks (rest.map (·.v)) cells (rest.map (·.os)) ∧ ∀ x ∈ rest, x.li = ⟨li.dt, li.dt, false, li.lin, 0⟩ := by
  cases h with
  | aelem hrow hr h hl => exact ⟨_, _, _, _, _, _, rfl, rfl, rfl, hrow, hr, h, hl⟩
theorem EntOk.isVelem {Ty : Nat → TyK} {β : Nat → Nat} {w : World} {v : Value} {e : Ent} {agg : Bool} {ks : List LK} {li : LI} {size off : Nat} {lfs : List Lf} (h : EntOk Ty β w v e (.velem agg ks li size off) lfs) :
    ∃ b o i p rest row, e = .velem i off p ∧ lfs = row :: rest ∧ ElemAt row li size b o i ∧ off + ks.length ≤ size ∧ w.rangeAt b (o + off) (rest.map (·.v)) ∧
      RdV Ty w agg ks v p (rest.map (·.v)) (rest.map (·.os)) ∧ rest.map (·.li) = List.replicate ks.length ⟨li.dt, li.dt, false, li.lin, 0⟩ := by
  cases h with
  | velem hrow hoff hr h hl =>
    refine ⟨_, _, _, _, _, _, rfl, rfl, hrow, hoff, hr, h, List.eq_replicate_iff.2 ⟨by simpa using h.1.len.1, fun x hx => ?_⟩⟩
    obtain ⟨y, hy, rfl⟩ := List.mem_map.1 hx
    exact hl y hy
/-- An operand that is one scalar. -/
theorem Rel.kind {f : Fix} {u : Wit} {st : St} {σ : SG} {a : Act} {w : World} (h : Rel f u st σ a w) {x : Operand} {k : LK} {p : PV} (hs : sKind σ x = some k) (hp : evV st.env x = some p) :
    ∃ os, Rd f.Ty w k (a.eval x) p os := by
  unfold sKind at hs
  split at hs
  · rename_i k' ls hv
    cases hs
    obtain ⟨lfs, g⟩ := h.val (by decide) hv hp
    obtain ⟨os, _, _, g3⟩ := g.rd.isOne
    exact ⟨os, g3⟩
  · cases hs
end Go.Pm
