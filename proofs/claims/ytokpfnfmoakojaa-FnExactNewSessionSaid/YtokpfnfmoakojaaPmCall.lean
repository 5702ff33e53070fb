/-
  Calls: what a function is known to do, and what that does to its caller.
-/
import Derived.Test.YtokpfnfmoakojaaPmName
namespace Go.Pm
open Go

/-- The leaves of a parameter that is not written, as the function knows them; of one that is. -/
def frLIs : List LK → List LI
  | [] => []
  | k :: r => (match isSl k with | true => ⟨0, 0, false, false, 0⟩ | false => scal) :: frLIs r
def wrLIs : Nat → List LK → List LI
  | _, [] => []
  | n, k :: r => (match isSl k with | true => ⟨n, n, false, true, n⟩ | false => ⟨0, 0, false, true, n⟩) :: wrLIs (n + 1) r
def entryLIs (p : PSig) : List LI := match p.wr with | true => wrLIs 1 p.ks | false => frLIs p.ks

/-- An argument, as the function finds it; S0: the groups of blocks. -/
structure ArgIn (Ty : Nat → TyK) (w : World) (S0 : Nat → Nat → Prop) (p : PSig) (v : Value) (pv : PV) (lfs : List Lf) : Prop where
  rd : RdV Ty w p.agg p.ks v pv (lfs.map (·.v)) (lfs.map (·.os))
  li : lfs.map (·.li) = entryLIs p
  tag : ∀ x ∈ lfs, ∀ q ∈ x.tq, S0 q.1 q.2.1
  lin : ∀ x ∈ lfs, x.li.lin = true → (x.os.map (·.1)).Nodup
inductive ArgsIn (Ty : Nat → TyK) (w : World) (S0 : Nat → Nat → Prop) : List PSig → List Value → List Arg → List (List Lf) → Prop
  | nil : ArgsIn Ty w S0 [] [] [] []
  | cons {p : PSig} {v : Value} {pv : PV} {lfs : List Lf} {ps : List PSig} {vs : List Value} {as : List Arg} {ls : List (List Lf)} (hp : p.ptr = false) (h : ArgIn Ty w S0 p v pv lfs) (r : ArgsIn Ty w S0 ps vs as ls) :
      ArgsIn Ty w S0 (p :: ps) (v :: vs) (.val pv :: as) (lfs :: ls)

/-- The results, as the caller finds them. -/
inductive ResOut (Ty : Nat → TyK) (w : World) : List (Bool × List LK × List LI) → List Value → List RV → List (List Lf) → Prop
  | nil : ResOut Ty w [] [] [] []
  | cons {agg : Bool} {ks : List LK} {ls : List LI} {v : Value} {pv : PV} {lfs : List Lf} {r : List (Bool × List LK × List LI)} {vs : List Value} {rs : List RV} {ll : List (List Lf)}
      (h : RdV Ty w agg ks v pv (lfs.map (·.v)) (lfs.map (·.os))) (hl : lfs.map (·.li) = ls) (t : ResOut Ty w r vs rs ll) : ResOut Ty w ((agg, ks, ls) :: r) (v :: vs) (.val pv :: rs) (lfs :: ll)

def retVal (vs : List Value) : Value := match vs with | [v] => v | l => .tuple l.toArray

/-- What the arguments that are written read as, behind the call. -/
inductive OutsOk (Ty : Nat → TyK) (w : World) : Nat → List PSig → List (List Lf) → List (Nat × List PV) → Prop
  | nil {j : Nat} : OutsOk Ty w j [] [] []
  | skip {j : Nat} {p : PSig} {lfs : List Lf} {ps : List PSig} {ll : List (List Lf)} {outs : List (Nat × List PV)} (hw : p.wr = false) (h : OutsOk Ty w (j + 1) ps ll outs) : OutsOk Ty w j (p :: ps) (lfs :: ll) outs
  | wr {j : Nat} {p : PSig} {lfs : List Lf} {ps : List PSig} {ll : List (List Lf)} {cells : List PV} (hw : p.wr = true) (hr : RdL Ty w p.ks (lfs.map (·.v)) cells (lfs.map (·.os))) (hn : anyWr ps = false) : OutsOk Ty w j (p :: ps) (lfs :: ll) [(j, cells)]

structure GlobsIn (Ty : Nat → TyK) (w : World) (S : Nat → Prop) (globs : Nat → Option (List PV)) (gks : Nat → List LK) : Prop where
  all : ∀ g cs, globs g = some cs → ∃ vs oss, w.rangeAt g 0 vs ∧ RdL Ty w (gks g) vs cs oss ∧ S g ∧ ∀ q ∈ oss.flatten, S q.1

/-- What is fixed of a program for all functions. -/
structure Base where
  P : Program
  Ty : Nat → TyK
  globs : Nat → Option (List PV)
  gks : Nat → List LK

/-- Calls with these arguments come to this result, wherever. -/
def CallSpec (B : Base) (sg : GSig) (g : FuncId) (args : List Arg) (res : Res) : Prop :=
  ∀ (W0 : World) (S0 : Nat → Nat → Prop) (vals : List Value) (lfss : List (List Lf)), ArgsIn B.Ty W0 S0 sg.params vals args lfss →
    (∀ t t' b, t ≠ t' → S0 t b → ¬ S0 t' b) → (∀ t b, S0 t b → b < W0.heap.size) → (∀ t b, t ≠ 0 → S0 t b → ∃ cur el, W0.heap[b]? = some (.cells cur el (0, 0))) →
    (sg.glob = true → GlobsIn B.Ty W0 (S0 0) B.globs B.gks) →
    Calls B.P g vals.toArray W0 fun e w' => ∃ rvs, e = .returned (retVal rvs) ∧ ∃ (f : Fix) (u : Wit) (st : St) (σ : SG) (a : Act) (ll : List (List Lf)),
      f.W0 = W0 ∧ (f.X = fun b => ∃ t, t ≠ 0 ∧ S0 t b) ∧ f.S0 = S0 0 ∧ Rel f u st σ a w' ∧ ResOut B.Ty w' sg.res rvs res.rs ll ∧ (∀ l ∈ ll, ∀ x ∈ l, Live u st σ x) ∧ OutsOk B.Ty w' 0 sg.params lfss res.outs

/-- What is told of written arguments: of the one that is written, no more. -/
def Shape (sg : GSig) (r : Res) : Prop := match wrIdx 0 sg.params with | some j => ∃ cells, r.outs = [(j, cells)] | none => r.outs = []

/-- A function with a body is entered. -/
def Enters (P : Program) (g : FuncId) : Prop := ∀ args w, (callFunc g args).run P w = .ok (.enter g args) w
theorem enters_of {P : Program} {g : FuncId} {fn : Func} (h : P.funcs[g]? = some fn) (hb : fn.body.isSome = true) (hn : (fn.name == "runtime.NumGoroutine") = false) : Enters P g := fun args w => by
  have h1 : ¬ fn.body = none := by cases hf : fn.body <;> simp_all
  have h2 : ¬ fn.name = "runtime.NumGoroutine" := by simpa using hn
  simp [callFunc, Sem.run_bind, h, h2, h1]

section
variable {B : Base} {G : Env} {K : CEnv} {f : Fix} {H : Hint} {u : Wit} {st st' : St} {σ σ' : SG} {a : Act} {w : World} {o : Oper}

theorem frLIs_len : ∀ ks : List LK, (frLIs ks).length = ks.length
  | [] => rfl
  | _ :: r => by simp [frLIs, frLIs_len r]
/-- A value is handed on as one that is not written. -/
theorem arg_fr {Ty : Nat → TyK} {S0 : Nat → Nat → Prop} : ∀ {ks : List LK} {ps : List PV} {lfs : List Lf}, RdL Ty w ks (lfs.map (·.v)) ps (lfs.map (·.os)) → (∀ x ∈ lfs, ∀ q ∈ x.os, S0 0 q.1) →
    ∃ nl : List Lf, nl.map (·.v) = lfs.map (·.v) ∧ nl.map (·.os) = lfs.map (·.os) ∧ nl.map (·.li) = frLIs ks ∧ (∀ x ∈ nl, ∀ q ∈ x.tq, S0 q.1 q.2.1) ∧ ∀ x ∈ nl, x.li.lin = true → (x.os.map (·.1)).Nodup
  | _, _, [], h, _ => by
    cases h
    exact ⟨[], rfl, rfl, rfl, (fun _ hx => by cases hx), (fun _ hx => by cases hx)⟩
  | _, _, x :: lfs, h, hs => by
    simp only [List.map_cons] at h
    cases h with
    | @cons k _ _ _ ks _ ps _ h r =>
      obtain ⟨nl, e1, e2, e3, e4, e5⟩ := arg_fr r fun y hy => hs y (List.mem_cons_of_mem _ hy)
      refine ⟨⟨(match isSl k with | true => ⟨0, 0, false, false, 0⟩ | false => scal), x.v, x.os⟩ :: nl, by simp [e1], by simp [e2], by simp [e3, frLIs], fun y hy q hq => ?_, fun y hy hl => ?_⟩
      · rcases List.mem_cons.1 hy with rfl | hy
        · have h0 : ∀ z : LI, (z = ⟨0, 0, false, false, 0⟩ ∨ z = scal) → q ∈ (⟨z, x.v, x.os⟩ : Lf).tq → q.1 = 0 ∧ q.2 ∈ x.os := fun z hz hq => by
            have hz2 : z.tag = 0 ∧ z.dt = 0 := by rcases hz with rfl | rfl <;> exact ⟨rfl, rfl⟩
            unfold Lf.tq at hq
            cases hos : x.os with
            | nil => simp [hos] at hq
            | cons q0 r0 =>
              simp only [hos, hz2.1, hz2.2, List.mem_cons, List.mem_map] at hq
              rcases hq with rfl | ⟨q1, hq1, rfl⟩
              · exact ⟨rfl, by simp⟩
              · exact ⟨rfl, List.mem_cons_of_mem _ hq1⟩
          obtain ⟨g1, g2⟩ := h0 _ (by cases isSl k <;> simp) hq
          rw [g1]
          exact hs x (by simp) q.2 g2
        · exact e4 y hy q hq
      · rcases List.mem_cons.1 hy with rfl | hy
        · cases hk : isSl k with
          | true => rw [hk] at hl; cases hl
          | false => simp [h.noSlice hk]
        · exact e5 y hy hl

/-- The arguments that are not written: as the function finds them. -/
theorem args_A (h : Rel f u st σ a w) {n : Nat} (hn : n ≠ 0) {S0 : Nat → Nat → Prop} : ∀ {ps : List PSig} {xs : List Operand} {A : List Nat} {as : List Arg}, cArgsA σ n ps xs = some A → anyWr ps = false → argsOf st xs = some as →
    (∀ t ∈ A, ∀ b, u.S t b → S0 0 b) → ∃ lfss, ArgsIn f.Ty w S0 ps (xs.map a.eval) as lfss
  | [], [], _, _, _, _, ha, _ => by
    simp only [argsOf, Option.some.injEq] at ha
    subst ha
    exact ⟨[], .nil⟩
  | [], _ :: _, _, _, hc, _, _, _ => by simp [cArgsA] at hc
  | _ :: _, [], _, _, hc, _, _, _ => by simp [cArgsA] at hc
  | p :: ps, x :: xs, A, as, hc, hw, ha, hS => by
    simp only [cArgsA] at hc
    split at hc
    · cases hc
    · rename_i hptr
      simp only [anyWr] at hw
      split at hw
      · cases hw
      · rename_i hwr
        rw [hwr] at hc
        simp only at hc
        split at hc
        · rename_i agg ks ls A' h1 h2
          split at hc
          · rename_i q1 q2
            cases hc
            have := eqB_eq q1; subst this
            have := eqLKs_eq q2; subst this
            have key : ∃ pv r, evV st.env x = some pv ∧ argsOf st xs = some r ∧ as = .val pv :: r := by
              simp only [argsOf] at ha
              unfold evV
              cases he : evE st.env x with
              | none => simp [he] at ha
              | some en =>
                rw [he] at ha
                cases en with
                | val v =>
                  simp only at ha ⊢
                  cases hr : argsOf st xs with
                  | none => simp [hr] at ha
                  | some r => simp [hr] at ha; exact ⟨v, r, rfl, rfl, ha.symm⟩
                | velem i off v =>
                  simp only at ha ⊢
                  cases hr : argsOf st xs with
                  | none => simp [hr] at ha
                  | some r => simp [hr] at ha; exact ⟨v, r, rfl, rfl, ha.symm⟩
                | avar k off =>
                  -- a pointer is no value
                  exfalso
                  cases x with
                  | tmp t =>
                    simp only [sVal] at h1
                    simp only [evE] at he
                    split at h1
                    · rename_i hs
                      obtain ⟨g1, _⟩ := h.entry he hs
                      obtain ⟨p', e1, _⟩ := g1.isVal
                      cases e1
                    · rename_i hs
                      obtain ⟨g1, _⟩ := h.entry he hs
                      obtain ⟨_, _, _, _, _, _, e1, _⟩ := g1.isVelem
                      cases e1
                    · cases h1
                  | const v =>
                    simp only [evE] at he
                    split at he <;> cases he
                  | global g => simp [sVal] at h1
                  | func g => simp [sVal] at h1
                | _ => simp at ha
            obtain ⟨pv, r, k1, k2, rfl⟩ := key
            obtain ⟨lfs, g⟩ := h.val hn h1 k1
            obtain ⟨lfss, hr⟩ := args_A h hn h2 hw k2 fun t ht b hb => hS t (List.mem_append_right _ ht) b hb
            obtain ⟨nl, e1, e2, e3, e4, e5⟩ := arg_fr (S0 := S0) g.rd.1 fun y hy q hq => by
              obtain ⟨t, ht⟩ := tq_mem hq
              have h3 := tags_leaf g.rd.1 y hy _ ht
              rw [g.li] at h3
              exact hS t (List.mem_append_left _ h3) q.1 (((g.der y hy).rests _ ht).inS h.leaf)
            exact ⟨nl :: lfss, .cons hptr ⟨by rw [e1, e2]; exact g.rd, by rw [e3]; simp [entryLIs, hwr], e4, e5⟩ hr⟩
          · cases hc
        · cases hc
end
end Go.Pm
