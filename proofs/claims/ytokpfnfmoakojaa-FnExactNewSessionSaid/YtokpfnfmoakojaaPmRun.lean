/-
  The pure machine's runs tell what the program's calls come to.
-/
import Derived.Test.YtokpfnfmoakojaaPmEntry
namespace Go.Pm
open Go

section
variable {B : Base} {G : Env} {K : CEnv} {H : Hint} {fn : Func} {sg : GSig} {C : FuncId → List Arg → Option Res}

/-! ### A return's result comes from the function's end -/
theorem inBlock_ret {o : Out} {id : Nat} {r : Res} (h : o.inBlock id = .ret r) : o = .ret r := by
  cases o with
  | normal _ => cases h
  | exit j st =>
    simp only [Out.inBlock] at h
    split at h <;> cases h
  | ret _ => exact h
theorem den_ret {F : Alg} {fin : St → Option Res} {L : Nat → St → Option Out} (hL : ∀ i st r, L i st = some (.ret r) → ∃ st', fin st' = some r) : ∀ {c : Code} {k : Nat} {st : St} {r : Res}, den F G H C fin L k c st = some (.ret r) → ∃ st', fin st' = some r := fun {c} => by
  induction c with
  | region id ops draw => intro k st r h; simp only [den] at h; split at h <;> cases h
  | seq a b iha ihb =>
    intro k st r h
    simp only [den] at h
    split at h
    · exact ihb h
    · exact iha h
  | cond x a b iha ihb =>
    intro k st r h
    cases x with
    | tmp t =>
      simp only [den] at h
      split at h
      · split at h
        · exact iha h
        · exact ihb h
      · cases h
    | _ => simp [den] at h
  | block id c ih =>
    intro k st r h
    simp only [den] at h
    split at h
    · rename_i o ho
      have := inBlock_ret (Option.some.inj h)
      subst this
      exact ih ho
    · cases h
  | loop c ih => intro k st r h; exact hL _ _ _ h
  | scope c ih => intro k st r h; exact ih h
  | ret =>
    intro k st r h
    simp only [den] at h
    split at h
    · rename_i r' hr
      cases h
      exact ⟨st, hr⟩
    · cases h
  | _ => intro k st r h; simp [den] at h
theorem loopN_ret : ∀ {n i : Nat} {st : St} {r : Res}, loopN stdF G H C fn n i st = some (.ret r) → ∃ st', finish G H fn st' = some r := fun {n} => by
  induction n with
  | zero => intro i st r h; simp [loopN] at h
  | succ n ih =>
    intro i st r h
    simp only [loopN, roundOf] at h
    split at h
    · cases h
    · split at h
      · cases h
      · split at h
        · cases h
        · rename_i o ho
          cases o with
          | normal st' => exact ih h
          | exit _ _ => cases h
          | ret r' =>
            cases h
            exact den_ret (fun i st r => ih) ho
theorem body_ends {n : Nat} {as : List Arg} {r : Res} (h : bodyOf stdF G H C (loopN stdF G H C fn n) fn as = some r) : ∃ st, finish G H fn st = some r := by
  unfold bodyOf at h
  split at h
  · cases h
  · split at h
    · exact ⟨_, h⟩
    · rename_i r' hr
      cases h
      exact den_ret (fun i st r => loopN_ret) hr
    · cases h
theorem shape_of {st : St} {r : Res} (hm : mutsFit sg.params H.muts = true) (h : finish G H fn st = some r) : Shape sg r := by
  unfold finish at h
  split at h
  · rename_i rs outs _ ho
    cases h
    unfold Shape
    unfold mutsFit at hm
    split at hm
    · rename_i h1 h2
      rw [h1]
      rw [h2] at ho
      simp only [outsOf, Option.some.injEq] at ho
      exact ho.symm
    · rename_i j j' pl h1 h2
      have := Nat.eq_of_beq_eq_true hm; subst this
      rw [h1]
      rw [h2] at ho
      simp only [outsOf] at ho
      cases hp : placeAll st pl with
      | none => rw [hp] at ho; cases ho
      | some cells => rw [hp] at ho; cases ho; exact ⟨cells, rfl⟩
    · cases hm
  · cases h

/-! ### The entry -/
theorem args_len {Ty : Nat → TyK} {w : World} {S0 : Nat → Nat → Prop} : ∀ {ps : List PSig} {vs : List Value} {as : List Arg} {ls : List (List Lf)}, ArgsIn Ty w S0 ps vs as ls → vs.length = ps.length ∧ ls.length = ps.length
  | _, _, _, _, .nil => ⟨rfl, rfl⟩
  | _, _, _, _, .cons _ _ r => by have := args_len r; simp [this.1, this.2]
theorem args_at {Ty : Nat → TyK} {w : World} {S0 : Nat → Nat → Prop} : ∀ {ps : List PSig} {vs : List Value} {as : List Arg} {ls : List (List Lf)}, ArgsIn Ty w S0 ps vs as ls → ∀ {j : Nat} {p : PSig} {lfs : List Lf}, ps[j]? = some p → ls[j]? = some lfs → ∃ v pv, ArgIn Ty w S0 p v pv lfs
  | _, _, _, _, .nil, _, _, _, h, _ => by simp at h
  | _, _, _, _, .cons _ g r, j, p, lfs, h, h' => by
    cases j with
    | zero => simp at h h'; subst h; subst h'; exact ⟨_, _, g⟩
    | succ j => simp at h h'; exact args_at r h h'
theorem entry_vars {Ty : Nat → TyK} {w : World} {S0 : Nat → Nat → Prop} : ∀ {ps : List PSig} {vs : List Value} {as : List Arg} {ls : List (List Lf)}, ArgsIn Ty w S0 ps vs as ls → ∀ {j : Nat}, entryVars j as = []
  | _, _, _, _, .nil, _ => rfl
  | _, _, _, _, .cons _ _ r, _ => entry_vars r
theorem entry_lk {Ty : Nat → TyK} {w : World} {S0 : Nat → Nat → Prop} : ∀ {ps : List PSig} {vs : List Value} {as : List Arg} {ls : List (List Lf)}, ArgsIn Ty w S0 ps vs as ls → ∀ {j d : Nat} {e : Ent} {s : SI}, lk d (entryEnv j as) = some e → lk d (entryG j ps) = some s →
    ∃ i p v pv lfs, d = j + i ∧ ps[i]? = some p ∧ vs[i]? = some v ∧ ls[i]? = some lfs ∧ e = .val pv ∧ s = .val p.agg p.ks (entryLIs p) ∧ ArgIn Ty w S0 p v pv lfs
  | _, _, _, _, .nil, _, _, _, _, h, _ => by simp [entryEnv, lk] at h
  | p :: ps, v :: vs, .val pv :: as, lfs :: ls, .cons _ g r, j, d, e, s, h, h' => by
    simp only [entryEnv, lk] at h
    simp only [entryG, lk] at h'
    cases hb : Nat.beq j d with
    | true =>
      rw [hb] at h h'
      have := Nat.eq_of_beq_eq_true hb; subst this
      cases h; cases h'
      exact ⟨0, p, v, pv, lfs, rfl, rfl, rfl, rfl, rfl, rfl, g⟩
    | false =>
      rw [hb] at h h'
      obtain ⟨i, p', v', pv', lfs', e1, e2, e3, e4, e5, e6, e7⟩ := entry_lk r h h'
      exact ⟨i + 1, p', v', pv', lfs', by omega, by simpa using e2, by simpa using e3, by simpa using e4, e5, e6, e7⟩
theorem frLIs_mem : ∀ {ks : List LK} {x : LI}, x ∈ frLIs ks → x.own = false ∧ x.id = 0
  | [], _, h => by cases h
  | k :: ks, x, h => by
    simp only [frLIs] at h
    rcases List.mem_cons.1 h with rfl | h
    · cases isSl k <;> exact ⟨rfl, rfl⟩
    · exact frLIs_mem h
theorem wrLIs_mem : ∀ {ks : List LK} {n : Nat} {x : LI}, x ∈ wrLIs n ks → x.own = false
  | [], _, _, h => by cases h
  | k :: ks, n, x, h => by
    simp only [wrLIs] at h
    rcases List.mem_cons.1 h with rfl | h
    · cases isSl k <;> rfl
    · exact wrLIs_mem h
theorem wrLIs_at : ∀ {ks : List LK} {n i : Nat} {x : LI}, (wrLIs n ks)[i]? = some x → x.id = n + i
  | [], _, _, _, h => by simp [wrLIs] at h
  | k :: ks, n, i, x, h => by
    simp only [wrLIs] at h
    cases i with
    | zero =>
      simp at h
      subst h
      cases isSl k <;> rfl
    | succ i =>
      simp at h
      have := wrLIs_at h
      omega
theorem entryLIs_own {p : PSig} {x : LI} (h : x ∈ entryLIs p) : x.own = false := by
  unfold entryLIs at h
  split at h
  · exact wrLIs_mem h
  · exact (frLIs_mem h).1
/-- The cells that are remembered as the function is entered. -/
def entryN (ps : List PSig) (ls : List (List Lf)) (i : Nat) : Value × List (Nat × Nat) :=
  match wrIdx 0 ps with
  | some j => match (ls.getD j [])[i - 1]? with
    | some y => (y.v, y.os)
    | none => (undef, [])
  | none => (undef, [])
theorem wrIdx_one : ∀ {ps : List PSig} {j i : Nat} {p : PSig}, oneWr ps = true → ps[i]? = some p → p.wr = true → wrIdx j ps = some (j + i)
  | [], _, _, _, _, h, _ => by simp at h
  | q :: ps, j, i, p, ho, h, hw => by
    simp only [oneWr] at ho
    simp only [wrIdx]
    cases i with
    | zero =>
      simp at h
      subst h
      rw [hw]
      rfl
    | succ i =>
      simp at h
      cases hq : q.wr with
      | true =>
        rw [hq] at ho
        exfalso
        have : ∀ {l : List PSig} {i : Nat}, l[i]? = some p → anyWr l = true := fun {l} => by
          induction l with
          | nil => intro i h; simp at h
          | cons a l ih =>
            intro i h
            simp only [anyWr]
            cases i with
            | zero => simp at h; subst h; rw [hw]
            | succ i => simp at h; split <;> simp [ih h]
        have := this h
        simp [this] at ho
      | false =>
        rw [hq] at ho
        simp only
        rw [wrIdx_one ho h hw]
        congr 1
        omega

/-- What a program is to be for its runs to be told by the pure machine's. -/
structure ProgOk (B : Base) (G : Env) (K : CEnv) : Prop where
  tab : TabOk B.P B.Ty
  kty : K.types = B.Ty
  gty : G.types = B.Ty
  gks : ∀ g ks, K.gks g = some ks → B.gks g = ks
  globs : G.globs = B.globs
  mixed : B.P.follows .mixedOrders = true
  enters : ∀ g sg, K.sigs g = some sg → Enters B.P g
  fns : ∀ g sg, K.sigs g = some sg → G.ext g = none → ∃ fn, B.P.funcs[g]? = some fn ∧ cFn K (G.hints g) sg fn = true
  ext : ∀ g sg F, K.sigs g = some sg → G.ext g = some F → ∀ as r, F as = some r → CallSpec B sg g as r ∧ Shape sg r

def noGlobs : Nat → Option (List PV) := fun _ => none
def entryF (B : Base) (sg : GSig) (N : Nat) (W0 : World) (S0 : Nat → Nat → Prop) (ls : List (List Lf)) : Fix :=
  ⟨B.Ty, W0, fun b => ∃ t, t ≠ 0 ∧ S0 t b, S0 0, entryN sg.params ls, N, match sg.glob with | true => B.globs | false => noGlobs, B.gks⟩
def entryU (sg : GSig) (S0 : Nat → Nat → Prop) (ls : List (List Lf)) : Wit := ⟨S0, fun _ => 0, fun j => ls.getD j [], fun _ => [], entryN sg.params ls⟩
def entryA (N : Nat) (vs : List Value) : Act := { tmps := vs.toArray ++ Array.replicate (N - vs.length) undef, defers := [] }

theorem entry_rel {N : Nat} {W0 : World} {S0 : Nat → Nat → Prop} {vs : List Value} {as : List Arg} {ls : List (List Lf)} (ho : oneWr sg.params = true) (hN : sg.params.length ≤ N) (ha : ArgsIn B.Ty W0 S0 sg.params vs as ls)
    (h1 : ∀ t t' b, t ≠ t' → S0 t b → ¬ S0 t' b) (h2 : ∀ t b, S0 t b → b < W0.heap.size) (h3 : ∀ t b, t ≠ 0 → S0 t b → ∃ cur el, W0.heap[b]? = some (.cells cur el (0, 0))) (h4 : sg.glob = true → GlobsIn B.Ty W0 (S0 0) B.globs B.gks) :
    Rel (entryF B sg N W0 S0 ls) (entryU sg S0 ls) ⟨entryEnv 0 as, entryVars 0 as⟩ ⟨entryG 0 sg.params, []⟩ (entryA N vs) W0 := by
  obtain ⟨l1, l2⟩ := args_len ha
  have hv : entryVars 0 as = [] := entry_vars ha
  have nov : ∀ {k c}, ¬ lk k (entryVars 0 as) = some c := fun {k c} h => by rw [hv] at h; simp [lk] at h
  have key : ∀ {x}, Live (entryU sg S0 ls) ⟨entryEnv 0 as, entryVars 0 as⟩ ⟨entryG 0 sg.params, []⟩ x → ∃ i p v pv lfs, sg.params[i]? = some p ∧ ls[i]? = some lfs ∧ ArgIn B.Ty W0 S0 p v pv lfs ∧ x ∈ lfs := fun {x} hx => by
    rcases hx with ⟨d, e, s, g1, g2, g3⟩ | ⟨k, c, s, g1, _, _⟩
    · obtain ⟨i, p, v, pv, lfs, e1, e2, e3, e4, _, _, e7⟩ := entry_lk ha g1 g2
      rw [Nat.zero_add] at e1; subst e1
      refine ⟨d, p, v, pv, lfs, e2, e4, e7, ?_⟩
      simp only [entryU, List.getD_eq_getElem?_getD, e4, Option.getD_some] at g3
      exact g3
    · exact absurd g1 nov
  have nown : ∀ {x}, Live (entryU sg S0 ls) ⟨entryEnv 0 as, entryVars 0 as⟩ ⟨entryG 0 sg.params, []⟩ x → x.li.own = false := fun {x} hx => by
    obtain ⟨i, p, v, pv, lfs, _, _, e7, hm⟩ := key hx
    exact entryLIs_own (p := p) (by rw [← e7.li]; exact List.mem_map_of_mem hm)
  exact {
    slot := fun d e s g1 g2 => by
      obtain ⟨i, p, v, pv, lfs, e1, e2, e3, e4, rfl, rfl, e7⟩ := entry_lk ha g1 g2
      rw [Nat.zero_add] at e1; subst e1
      have hd : d < vs.length := (List.getElem?_eq_some_iff.1 e3).1
      refine ⟨by simp only [entryF]; omega, ?_⟩
      have hval : (entryA N vs).tmps.getD d undef = v := by
        have hv' := (List.getElem?_eq_some_iff.1 e3).2
        have hlt : d < vs.length + (N - vs.length) := by omega
        simp only [entryA, Array.getD_eq_getD_getElem?]
        rw [Array.getElem?_append_left (by simpa using hd)]
        simp [hd, hv']
      have hLF : (entryU sg S0 ls).LF d = lfs := by simp [entryU, List.getD_eq_getElem?_getD, e4]
      rw [hval, hLF]
      exact .val e7.rd e7.li
    var := fun k c s g1 _ => absurd g1 nov
    leaf := fun x hx => by
      obtain ⟨i, p, v, pv, lfs, e2, e4, e7, hm⟩ := key hx
      refine ⟨fun q hq => e7.tag x hm q hq, e7.lin x hm, fun h => (by rw [nown hx] at h; cases h), fun h => (by rw [nown hx] at h; cases h), fun hid => ?_⟩
      obtain ⟨j, hj, rfl⟩ := List.mem_iff_getElem.1 hm
      have hli : (entryLIs p)[j]? = some lfs[j].li := by rw [← e7.li]; simp [hj]
      cases hw : p.wr with
      | false =>
        unfold entryLIs at hli
        rw [hw] at hli
        exact absurd (frLIs_mem (List.mem_of_getElem? hli)).2 hid
      | true =>
        unfold entryLIs at hli
        rw [hw] at hli
        have hid' := wrLIs_at hli
        have hwi := wrIdx_one (j := 0) ho e2 hw
        rw [Nat.zero_add] at hwi
        simp only [entryU, entryN, hwi, List.getD_eq_getElem?_getD, e4, Option.getD_some]
        rw [hid', show 1 + j - 1 = j by omega, List.getElem?_eq_getElem hj]
    pair := fun x y hx _ ho => by rw [nown hx] at ho; cases ho
    apart := h1
    inW := h2
    mine := fun t b ht hb => .inr ⟨t, ht, hb⟩
    mem := fun t b ht hb => by
      rcases ht with ht | ht
      · exact h3 t b ht hb
      · exact absurd (h2 t b hb) (by simp only [entryF] at ht; omega)
    names := fun _ _ => rfl
    old := fun b hb => .inl hb
    xmem := fun b hb => by
      obtain ⟨t, ht, hb⟩ := hb
      obtain ⟨cur, el, hc⟩ := h3 t b ht hb
      exact ⟨cur, el, cur, el, hc, hc, rfl⟩
    varIn := fun k c s g1 _ => absurd g1 nov
    varNot := fun k c s t g1 _ => absurd g1 nov
    varInj := fun k k' c c' s s' g1 _ => absurd g1 nov
    frame := fun _ _ _ => rfl
    size := Nat.le_refl _
    os := rfl
    tape := rfl
    output := rfl
    defers := rfl
    tmps := by simp only [entryA, entryF]; simp; omega
    globs := fun g cs hg => by
      simp only [entryF] at hg
      cases hgl : sg.glob with
      | false => rw [hgl] at hg; cases hg
      | true =>
        rw [hgl] at hg
        exact (h4 hgl).all g cs hg }

theorem noPtrs_at : ∀ {ps : List PSig} {j : Nat} {p : PSig}, noPtrs ps = true → ps[j]? = some p → p.ks.length < 64
  | [], _, _, _, h => by simp at h
  | q :: ps, j, p, hn, h => by
    simp only [noPtrs] at hn
    split at hn
    · rename_i h1 h2
      cases j with
      | zero => simp at h; subst h; exact Nat.blt_eq.mp h2
      | succ j => simp at h; exact noPtrs_at hn h
    · cases hn
theorem entry_kept {W0 : World} {S0 : Nat → Nat → Prop} {vs : List Value} {as : List Arg} {ls : List (List Lf)} (hn : noPtrs sg.params = true) (ha : ArgsIn B.Ty W0 S0 sg.params vs as ls) : ∀ j p lfs, wrIdx 0 sg.params = some j → sg.params[j]? = some p → ls[j]? = some lfs →
    lfs.length = p.ks.length ∧ p.ks.length < 64 ∧ Kept (entryN sg.params ls) lfs := fun j p lfs h1 h2 h3 => by
  obtain ⟨v, pv, g⟩ := args_at ha h2 h3
  refine ⟨by have := g.rd.1.len.1; simpa using this, noPtrs_at hn h2, fun i y hy => ?_⟩
  simp only [entryN, h1, List.getD_eq_getElem?_getD, h3, Option.getD_some]
  rw [show 1 + i - 1 = i by omega, hy]

theorem body_spec (hP : ProgOk B G K) {g : FuncId} {n : Nat} {as : List Arg} {r : Res} (hfn : B.P.funcs[g]? = some fn) (hc : cFn K H sg fn = true) (hC : ∀ g sg as r, K.sigs g = some sg → C g as = some r → CallSpec B sg g as r ∧ Shape sg r)
    (hr : bodyOf stdF G H C (loopN stdF G H C fn n) fn as = some r) : CallSpec B sg g as r ∧ Shape sg r := by
  unfold cFn at hc
  split at hc
  · cases hc
  · rename_i c hb
    split at hc
    · rename_i q1 q2 q3 q4
      split at hc
      · rename_i co hco
        obtain ⟨st0, hst0⟩ := body_ends hr
        refine ⟨?_, shape_of q4 hst0⟩
        intro W0 S0 vals lfss ha h1 h2 h3 h4
        have hN := Nat.ble_eq.mp q3
        obtain ⟨l1, l2⟩ := args_len ha
        have hrel := entry_rel (B := B) (sg := sg) (N := fn.ntmps) q2 hN ha h1 h2 h3 h4
        have hS : Setting B.P G K (entryF B sg fn.ntmps W0 S0 lfss) := ⟨hP.tab, hP.kty, hP.gty, hP.gks, fun g cs hg hne => by
          simp only [entryF] at hne ⊢
          cases hgl : sg.glob with
          | true => rw [← hP.globs]; exact hg
          | false => rw [hgl] at hne; exact absurd rfl hne⟩
        have hk : Known B K C (entryF B sg fn.ntmps W0 S0 lfss) sg.glob := ⟨rfl, hP.enters, hC, fun hg => by simp [entryF, hg]⟩
        refine calls_of_wp hfn hb ?_
        have hact : ({ tmps := vals.toArray ++ Array.replicate (fn.ntmps - vals.toArray.size) undef, defers := [] } : Act) = entryA fn.ntmps vals := by simp [entryA]
        rw [hact]
        have hend : ∀ {u : Wit} {st : St} {σ : SG} {a : Act} {w : World}, cFin K H sg fn σ = true → finish G H fn st = some r → Rel (entryF B sg fn.ntmps W0 S0 lfss) u st σ a w →
            a.defers = [] ∧ ∃ v, (results fn a.tmps).run B.P w = .ok v w ∧ ∃ rvs, Ending.returned v = .returned (retVal rvs) ∧ ∃ (f : Fix) (u : Wit) (st : St) (σ : SG) (a : Act) (ll : List (List Lf)),
              f.W0 = W0 ∧ (f.X = fun b => ∃ t, t ≠ 0 ∧ S0 t b) ∧ f.S0 = S0 0 ∧ Rel f u st σ a w ∧ ResOut B.Ty w sg.res rvs r.rs ll ∧ (∀ l ∈ ll, ∀ x ∈ l, Live u st σ x) ∧ OutsOk B.Ty w 0 sg.params lfss r.outs := fun {u st σ a w} hc hf hr => by
          obtain ⟨u', τ, vs, ll, k1, k2, k3, k4, k5⟩ := fin_ok hS hr hc hf q2 l2 (entry_kept q1 ha)
          exact ⟨hr.defers, _, k2, vs, rfl, _, u', st, τ, a, ll, rfl, rfl, rfl, k1, k3, k4, k5⟩
        unfold bodyOf at hr
        rw [hb] at hr
        simp only at hr
        have hloop : ∀ j body, j < nLoops c → loopAt c j = some body → ∀ (u : Wit) (st : St) (σ : SG) (a : Act) (w : World) (o : Out) (exs : List (Nat × SG)) (Q : Exit → Act → World → Prop), Rel (entryF B sg fn.ntmps W0 S0 lfss) u st σ a w → loopN stdF G H C fn n (0 + j) st = some o →
            LoopOk K H sg.glob (entryF B sg fn.ntmps W0 S0 lfss).N (cFin K H sg fn) body σ exs → After (entryF B sg fn.ntmps W0 S0 lfss) G H (cFin K H sg fn) fn Q ⟨none, exs⟩ o → (Code.loop body).wp B.P Q a w := fun j body _ hj u st σ a w o exs Q hr' hl hlo hq => by
          rw [Nat.zero_add] at hl
          exact wp_loop_rounds n (loop_ok hS hk hP.mixed hb hj hr' hl hlo hq)
        split at hr
        · rename_i st hd
          refine code_ok hS hk hP.mixed hloop hrel hd hco fun σ' u a w hn hr' => hend ?_ hr hr'
          rw [hn] at hc
          exact hc
        · rename_i r' hd
          cases hr
          refine code_ok hS hk hP.mixed hloop hrel hd hco fun st' σ' u a w hf hfi hr' => hend hf hfi hr'
        · cases hr
      · cases hc
    · cases hc

/-- THE PURE MACHINE'S RUNS TELL WHAT THE PROGRAM'S CALLS COME TO. -/
theorem run_spec (hP : ProgOk B G K) : ∀ (n : Nat) (g : FuncId) (sg : GSig) (as : List Arg) (r : Res), K.sigs g = some sg → run stdF B.P G n g as = some r → CallSpec B sg g as r ∧ Shape sg r := fun n => by
  induction n with
  | zero => intro g sg as r _ h; simp [run] at h
  | succ n ih =>
    intro g sg as r hs h
    simp only [run] at h
    split at h
    · rename_i F hF
      exact hP.ext g sg F hs hF as r h
    · rename_i hF
      obtain ⟨fn, hfn, hc⟩ := hP.fns g sg hs hF
      rw [hfn] at h
      exact body_spec hP hfn hc ih h
end
end Go.Pm
