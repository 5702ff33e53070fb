/-
  One operation, whichever: the pure machine's step and the checker's step tell what the program does. Calls of functions are told by whoever uses this.
-/
import Derived.Test.YtokpfnfmoakojaaPmOp10
namespace Go.Pm
open Go

section
variable {P : Program} {G : Env} {K : CEnv} {f : Fix} {H : Hint} {C : FuncId → List Arg → Option Res} {glob : Bool} {u : Wit} {st st' : St} {σ σ' : SG} {a : Act} {w : World} {o : Oper}

theorem builtin_ok (hS : Setting P G K f) (h : Rel f u st σ a w) {b : Builtin} {args : Array Operand} {ts : Array TypeId} {e : Eff} {ce : CE} (ho : o.op = .call ⟨.builtin b, args, ts⟩)
    (hp : pBuiltin stdF b st.env args.toList = some e) (hp' : papply stdF H o.dst st e = some st') {n : Nat} (hn : n ≠ 0) (hc : cBuiltin K σ n b args.toList ts.toList = some ce) (hc' : capply f.N o.dst σ ce = some σ') : Goal P f o a w st' σ' := by
  generalize ha : args.toList = as at hp hc
  generalize ht : ts.toList = tl at hc
  unfold cBuiltin at hc
  split at hc
  · exact len_ok hS h ho ha ht hp hp' hn hc hc'
  · split at hc
    · rename_i hb
      have := beq_eq.1 hb
      subst this
      exact append_ok hS h ho ha ht hp hp' hn hc hc'
    · cases hc
  · exact mm_ok h ho ha (.inl rfl) hp hp' hc hc'
  · exact mm_ok h ho ha (.inr rfl) hp hp' hc hc'
  · cases hc

theorem step_ok (hS : Setting P G K f) (h : Rel f u st σ a w) (hp : pstep stdF G H C o st = some st') (hc : cstep K H glob f.N o σ = some σ')
    (hcall : ∀ g args ts, o.op = .call ⟨.value (.func g), args, ts⟩ → Goal P f o a w st' σ') : Goal P f o a w st' σ' := by
  obtain ⟨e, hp, hp'⟩ := pstep_parts hp
  obtain ⟨ce, hc, hc'⟩ := cstep_parts hc
  have hn := freshOf_ne o.dst
  unfold cact at hc
  unfold pact at hp
  simp only at hc
  cases ho : o.op <;> simp only [ho] at hc hp <;> try (cases hc; done)
  case move x => exact move_ok h hn (by unfold execOp; simp [ho]) hp hp' hc hc'
  case assign x => exact move_ok h hn (by unfold execOp; simp [ho]) hp hp' hc hc'
  case pick c x y => exact pick_ok h ho hp hp' hc hc'
  case alloc t => exact alloc_ok hS h ho hp hp' hn hc hc'
  case box t x => exact box_ok h ho hp hp' hn hc hc'
  case build t parts => exact build_ok hS h ho hp hp' hn hc hc'
  case buildSlice t len parts => exact buildSl_ok hS h ho hp hp' hn hc hc'
  case load t x => exact load_ok hS h ho hp hp' hc hc'
  case store t x y =>
    cases hd : o.dst with
    | some d => rw [hd] at hc; simp at hc
    | none =>
      rw [hd] at hc hn
      simp only at hc
      split at hc
      · rename_i e' he'
        cases hc
        exact store_ok hS h ho hd hp hp' hn he' hc'
      · exact storeE_ok hS h ho hd hp hp' hn hc hc'
  case nilCheck x => exact nil_ok h ho hp hp' hc hc'
  case binOp op t x y t' => exact bin_ok hS h ho hp hp' hc hc'
  case unOp op t x => exact un_ok h ho hp hp' hc hc'
  case convert s t x =>
    split at hc
    · rename_i e' he'
      cases hc
      exact conv_ok hS h ho hp hp' he' hc'
    · exact bts_ok hS h ho hp hp' hc hc'
  case makeSlice t l c => exact makeSl_ok hS h ho hp hp' hn hc hc'
  case slice t x lo hi mx =>
    cases mx with
    | none => exact slice_ok hS h ho hp hp' hc hc'
    | some m => cases hp
  case fieldAddr t x j => exact field_ok hS h ho hp hp' hc hc'
  case indexAddr t x ix => exact idxA_ok hS h ho hp hp' hc hc'
  case index t x ix => exact idx_ok hS h ho hp hp' hc hc'
  case extract x j => exact extract_ok h ho hp hp' hc hc'
  case call c =>
    obtain ⟨callee, args, ts⟩ := c
    cases callee <;> simp only at hc hp <;> try (cases hc; done)
    case builtin b => exact builtin_ok hS h ho hp hp' hn hc hc'
    case value v =>
      cases v <;> simp only at hc hp <;> try (cases hc; done)
      exact hcall _ _ _ ho
end
end Go.Pm
