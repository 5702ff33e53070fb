/-
  Functions: loops with fuel, bodies, calls of calls.
-/
import Derived.Test.YtokpfnfmoakojaaPmCode
import Derived.Laws.Sem
namespace Go.Pm
open Go

section
variable {B : Base} {G : Env} {K : CEnv} {f : Fix} {H : Hint} {C : FuncId → List Arg → Option Res} {glob : Bool} {fin : SG → Bool} {fn : Func}

theorem loop_ok (hS : Setting B.P G K f) (hk : Known B K C f glob) (hfol : B.P.follows .mixedOrders = true) {b : Code} (hb : fn.body = some b) : ∀ {n : Nat} {i : Nat} {body : Code}, loopAt b i = some body → ∀ {u : Wit} {st : St} {σ : SG} {a : Act} {w : World} {out : Out} {exs : List (Nat × SG)} {Q : Exit → Act → World → Prop},
    Rel f u st σ a w → loopN stdF G H C fn n i st = some out → LoopOk K H glob f.N fin body σ exs → After f G H fin fn Q ⟨none, exs⟩ out → Code.rounds B.P body Q n a w := fun {n} => by
  induction n with
  | zero => intro i body _ u st σ a w out exs Q _ hl; simp [loopN] at hl
  | succ n ih =>
    intro i body hi u st σ a w out exs Q h hl hlo hq
    obtain ⟨inv, hf, co, hco, hnrm, hexs⟩ := hlo
    obtain ⟨u1, h1⟩ := fit_ok h hf
    simp only [loopN, roundOf, hb, hi] at hl
    rw [rounds_succ]
    split at hl
    · cases hl
    · rename_i o ho
      refine code_ok hS hk hfol (L := loopN stdF G H C fn n) (k := i + 1) (fun j body' hj hb' u st σ a w o exs Q hr hl' hlo' hq' => ?_) h1 ho hco ?_
      · have hat := loopAt_in hi j hj
        rw [hb'] at hat
        exact wp_loop_rounds n (ih hat hr hl' hlo' hq')
      · cases o with
        | normal st' =>
          simp only [again, callK] at hl
          intro σ1 u' a' w' hn hr
          have hkeep : ∀ {α : Type} {ks : List Nat} {l : List (Nat × α)} {d : Nat} {e : α}, lk d (keepIn ks l) = some e → lk d l = some e := fun {α ks l d e} k1 => by
            rw [lk_keepIn] at k1
            split at k1
            · exact k1
            · cases k1
          have hr' : Rel f u' ⟨keepIn (keysOf st.env) st'.env, keepIn (keysOf st.vars) st'.vars⟩ σ1 a' w' := hr.less (fun d e s k1 k2 => ⟨hkeep k1, k2⟩) (fun k c s k1 k2 => ⟨hkeep k1, k2⟩)
          exact ih hi hr' hl ⟨inv, hnrm σ1 hn, co, hco, hnrm, hexs⟩ hq
        | exit id st' =>
          simp only [again, Option.some.injEq] at hl
          subst hl
          intro σ' u' a' w' hm hr
          exact hq σ' u' a' w' (by rw [← hexs]; exact hm) hr
        | ret r =>
          simp only [again, Option.some.injEq] at hl
          subst hl
          exact hq
end

/-! ### A function's end -/
def finSG (K : CEnv) (σ : SG) : List ResultVar → List (Bool × List LK × List LI) → Option SG
  | [], [] => some ⟨[], []⟩
  | .tmp t :: r, (agg, ks, ls) :: s => match finSG K σ r s with
    | some τ => some ⟨(t, .val agg ks ls) :: τ.slots, τ.vars⟩
    | none => none
  | .cell a ty :: r, (agg, ks, ls) :: s => match lk a σ.slots, tyC K ty, finSG K σ r s with
    | some (.avar k 0), some i, some τ => match eqLKs ks i.leaves, eqB agg i.agg with
      | true, true => some ⟨(a, .avar k 0) :: τ.slots, (k, (ks, ls)) :: τ.vars⟩
      | _, _ => none
    | _, _, _ => none
  | _, _ => none
/-- Does 'τ' tell of each result what is asked? -/
def resIn (K : CEnv) (τ : SG) : List ResultVar → List (Bool × List LK × List LI) → Bool
  | [], [] => true
  | .tmp t :: r, (agg, ks, ls) :: s => match lk t τ.slots with
    | some si => match eqSI si (.val agg ks ls) with
      | true => resIn K τ r s
      | false => false
    | none => false
  | .cell a ty :: r, (agg, ks, ls) :: s => match lk a τ.slots, tyC K ty with
    | some (.avar k 0), some i => match lk k τ.vars with
      | some v => match eqLKs v.1 ks, eqLIs v.2 ls, eqLKs ks i.leaves, eqB agg i.agg with
        | true, true, true, true => resIn K τ r s
        | _, _, _, _ => false
      | none => false
    | _, _ => false
  | _, _ => false
def idsFrom : Nat → List LI → Bool
  | _, [] => true
  | n, x :: r => match Nat.beq x.id n with | true => idsFrom (n + 1) r | false => false
def mutOk (σ : SG) (ks : List LK) : Place → Bool
  | .slot s off => match off with
    | 0 => match lk s σ.slots with
      | some (.val _ ks' ls) => match eqLKs ks' ks with
        | true => idsFrom 1 ls
        | false => false
      | _ => false
    | _ + 1 => false
  | .var k off => match off with
    | 0 => match lk k σ.vars with
      | some (ks', ls) => match eqLKs ks' ks with
        | true => idsFrom 1 ls
        | false => false
      | none => false
    | _ + 1 => false
def mutsOk (σ : SG) (ps : List PSig) (muts : List (Nat × Place)) : Bool :=
  match wrIdx 0 ps with
  | none => match muts with
    | [] => true
    | _ => false
  | some j => match muts, ps[j]? with
    | [(j', pl)], some p => match Nat.beq j j' with
      | true => mutOk σ p.ks pl
      | false => false
    | _, _ => false
def cFin (K : CEnv) (H : Hint) (sg : GSig) (fn : Func) (σ : SG) : Bool :=
  match finSG K σ fn.results.toList sg.res with
  | some τ => match fitSG τ σ, resIn K τ fn.results.toList sg.res with
    | true, true => mutsOk σ sg.params H.muts
    | _, _ => false
  | none => false
def entryG : Nat → List PSig → List (Nat × SI)
  | _, [] => []
  | j, p :: r => (j, .val p.agg p.ks (entryLIs p)) :: entryG (j + 1) r
def noPtrs : List PSig → Bool
  | [] => true
  | p :: r => match p.ptr, Nat.blt p.ks.length 64 with
    | false, true => noPtrs r
    | _, _ => false
def mutsFit (ps : List PSig) (muts : List (Nat × Place)) : Bool :=
  match wrIdx 0 ps, muts with
  | none, [] => true
  | some j, [(j', _)] => Nat.beq j j'
  | _, _ => false
def cFn (K : CEnv) (H : Hint) (sg : GSig) (fn : Func) : Bool :=
  match fn.body with
  | none => false
  | some c => match noPtrs sg.params, oneWr sg.params, Nat.ble sg.params.length fn.ntmps, mutsFit sg.params H.muts with
    | true, true, true, true => match cCode K H sg.glob fn.ntmps (cFin K H sg fn) c ⟨entryG 0 sg.params, []⟩ with
      | some co => match co.nrm with
        | none => true
        | some σ => cFin K H sg fn σ
      | none => false
    | _, _, _, _ => false

section
variable {B : Base} {G : Env} {K : CEnv} {f : Fix} {H : Hint} {u : Wit} {st : St} {σ : SG} {a : Act} {w : World} {fn : Func} {sg : GSig}

def resOne (tmps : Array Value) : ResultVar → Sem Value
  | .tmp t => pure (tmps.getD t undef)
  | .cell a t => do loadVar t (← asAddr (tmps.getD a undef))
theorem results_eq (fn : Func) (tmps : Array Value) : results fn tmps = (do let vs ← fn.results.mapM (resOne tmps); pure (if h : vs.size = 1 then vs[0] else .tuple vs)) := by
  unfold results
  congr
theorem run_results {P : Program} {fn : Func} {tmps : Array Value} {w : World} {vs : List Value} (h : (fn.results.toList.mapM (resOne tmps)).run P w = .ok vs w) : (results fn tmps).run P w = .ok (retVal vs) w := by
  rw [results_eq, Array.mapM_eq_mapM_toList]
  simp only [Sem.run_bind, Sem.run_map]
  rw [h]
  cases vs with
  | nil => rfl
  | cons v r => cases r <;> rfl

theorem results_ok (hS : Setting B.P G K f) (h : Rel f u st σ a w) : ∀ {rvars : List ResultVar} {res : List (Bool × List LK × List LI)} {rs : List RV}, resIn K σ rvars res = true → resOf G st rvars = some rs →
    ∃ vs ll, (rvars.mapM (resOne a.tmps)).run B.P w = .ok vs w ∧ ResOut f.Ty w res vs rs ll ∧ ∀ l ∈ ll, ∀ x ∈ l, Live u st σ x
  | [], [], rs, _, hr => by
    simp only [resOf, Option.some.injEq] at hr
    subst hr
    exact ⟨[], [], rfl, .nil, fun _ h => by cases h⟩
  | [], _ :: _, _, hi, _ => by simp [resIn] at hi
  | .tmp t :: r, [], _, hi, _ => by simp [resIn] at hi
  | .cell a t :: r, [], _, hi, _ => by simp [resIn] at hi
  | .tmp t :: r, (agg, ks, ls) :: s, rs, hi, hr => by
    simp only [resIn] at hi
    split at hi
    · rename_i si hsl
      split at hi
      · rename_i he
        have := eqSI_eq he
        subst this
        simp only [resOf] at hr
        cases hen : lk t st.env with
        | none => rw [hen] at hr; cases hr
        | some en =>
          rw [hen] at hr
          obtain ⟨g1, g2⟩ := h.entry hen hsl
          obtain ⟨pv, e1, g3, g4⟩ := g1.isVal
          subst e1
          simp only at hr
          cases hrr : resOf G st r with
          | none => rw [hrr] at hr; cases hr
          | some rs' =>
            rw [hrr] at hr
            cases hr
            obtain ⟨vs, ll, k1, k2, k3⟩ := results_ok hS h hi hrr
            refine ⟨a.tmps.getD t undef :: vs, u.LF t :: ll, ?_, .cons g3 g4 k2, fun l hl x hx => ?_⟩
            · rw [List.mapM_cons]
              simp only [resOne, Sem.run_bind, Sem.run_pure, Result.andThen_ok]
              rw [k1]
              rfl
            · rcases List.mem_cons.1 hl with rfl | hl
              · exact g2 x hx
              · exact k3 l hl x hx
      · cases hi
    · cases hi
  | .cell ad ty :: r, (agg, ks, ls) :: s, rs, hi, hr => by
    simp only [resIn] at hi
    split at hi
    · rename_i k i hsl hty
      split at hi
      · rename_i v hv
        split at hi
        · rename_i q1 q2 q3 q4
          obtain ⟨ks', ls'⟩ := v
          have h1 := eqLKs_eq q1; simp only at h1; subst h1
          have h2 := eqLIs_eq q2; simp only at h2; subst h2
          have h3 := eqLKs_eq q3; subst h3
          have h4 := eqB_eq q4; subst h4
          have hty' := tyC_eq hS hty
          have hg : tyOf G ty = some i := by unfold tyOf; rw [hS.gty, hty']
          simp only [resOf] at hr
          cases hen : lk ad st.env with
          | none => rw [hen] at hr; cases hr
          | some en =>
            rw [hen, hg] at hr
            obtain ⟨g1, g2⟩ := h.entry hen hsl
            obtain ⟨rfl, hval, _⟩ := g1.isVar
            simp only [loadFrom] at hr
            cases hcl : lk k st.vars with
            | none => rw [hcl] at hr; cases hr
            | some cells =>
              rw [hcl] at hr
              simp only at hr
              cases hwh : whole i cells 0 with
              | none => rw [hwh] at hr; cases hr
              | some pv =>
                rw [hwh] at hr
                cases hrr : resOf G st r with
                | none => rw [hrr] at hr; cases hr
                | some rs' =>
                  rw [hrr] at hr
                  cases hr
                  obtain ⟨vs, ll, k1, k2, k3⟩ := results_ok hS h hi hrr
                  obtain ⟨el, cur, c1, c2, c3, c4⟩ := h.var k cells _ hcl hv
                  have hra : w.rangeAt (u.β k) 0 ((u.LV k).map (·.v)) := fun j v hj => by
                    rw [← c2] at hj
                    simp only [World.cell?, c1, Nat.zero_add]
                    simpa using hj
                  have hlen := c3.len
                  obtain ⟨v, q5, q6⟩ := whole_ok (P := B.P) hS hty' hwh (ks := i.leaves) (by simp) c3 hra
                  have hall : ∀ {α : Type} (z : List α), z.length = i.leaves.length → (z.drop 0).take i.leaves.length = z := fun z hz => by rw [List.drop_zero, ← hz, List.take_length]
                  rw [hall _ (by simpa using hlen.1), hall _ (by simpa using hlen.1)] at q6
                  refine ⟨v :: vs, u.LV k :: ll, ?_, .cons q6 c4 k2, fun l hl x hx => ?_⟩
                  · rw [List.mapM_cons]
                    have hl : (loadVar ty ⟨u.β k, 0, none⟩).run B.P w = .ok v w := by
                      simp only [Instr.loadAt, Instr.sureAddr, Sem.run_bind, Sem.run_pure, Result.andThen_ok, Nat.add_zero] at q5
                      exact q5
                    simp only [resOne, Sem.run_bind, hval, asAddr, Sem.run_pure, Result.andThen_ok, hl]
                    rw [k1]
                    rfl
                  · rcases List.mem_cons.1 hl with rfl | hl
                    · exact .inr ⟨k, cells, _, hcl, hv, hx⟩
                    · exact k3 l hl x hx
        · cases hi
      · cases hi
    · cases hi
end
end Go.Pm
