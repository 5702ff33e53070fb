/-
  The statement's form: a law that hands back true and leaves its arguments alone.
-/
import Derived.Test.YtokpfnfmoakojaaPmTabOk
import Derived.WalkKit
import Derived.ProofKit
import Derived.OpenShut
namespace Go.Pm
open Go Go.ChangeShapes Go.WideShapes

/-- What was there stays as it was. -/
structure Kept0 (W w' : World) : Prop where
  os : w'.os = W.os
  output : w'.output = W.output
  heap : ∀ b, b < W.heap.size → w'.heap[b]? = W.heap[b]?
theorem Kept0.but {W w' : World} (h : Kept0 W w') (may : MemPlace → Prop) : W.keptBut w' may := by
  refine ⟨h.os, h.output, fun i hi => ?_⟩
  rw [h.heap i hi]
  cases W.heap[i]? with
  | none => rfl
  | some o => cases o <;> simp
theorem Kept0.frozen {W w' : World} (h : Kept0 W w') {a : Addr} (ha : a.block < W.heap.size) : w'.frozen? a = W.frozen? a := by
  unfold World.frozen?
  rw [h.heap _ ha]

section
variable {H : Type} {enc : TypeId × Value → H} {P : Program}
/-- The law's conclusion, where its arguments read as they did. -/
theorem post_of_kept {f : Func} {s : ChangeSpec} {apart fresh handsOn again : Bool} {W W' : World} {args : Array Value} {v : Value} {ds gs : List (DataW H)} {before pa pv : List MemPlace}
    (hW : DataW.Whole enc P f.params.toList s.vars apart W args.toList ds gs before) (hk : Kept0 W W') (hps : before = pa ++ pv)
    (hres : ∀ (b : Nat) (sp : Nat → Bool) (hd : Bool), DataW.TrodAll enc P W' b sp hd f.resultTypes.toList (v.resultList f.resultTypes.size) (s.fn H (ds ++ gs)).results [])
    (hargs : ∀ sp : Nat → Bool, (∀ p ∈ before, sp p.block = true) → DataW.TrodAll enc P W' 0 sp true f.params.toList args.toList (s.fn H (ds ++ gs)).args pa)
    (hvars : ∀ sp : Nat → Bool, (∀ p ∈ before, sp p.block = true) → DataW.TrodVars enc P W' sp s.vars (s.fn H (ds ++ gs)).vars pv)
    (hok : ∀ (j : Nat) (t : TypeId) (r : Value), f.resultTypes[j]? = some t → (v.resultList f.resultTypes.size)[j]? = some r → Value.okWide P W' .any 0 t r) :
    s.post enc P f apart fresh handsOn again W args v W' := by
  have hlt : ∀ p ∈ before, p.block < W.heap.size := fun p hp => hW.lt p hp
  have hall : ∀ p ∈ before, p ∈ [] ++ pa ∨ p ∈ pv := fun p hp => by
    rw [hps] at hp
    simpa using hp
  have hold : ∀ p ∈ before, decide (p.block < W.heap.size) = true := fun p hp => decide_eq_true (hlt p hp)
  refine ⟨ds, gs, before, [], pa, pv, hW, hres _ _ _, hargs _ hold, hvars _ hold, hk.but _, fun _ => ?_⟩
  obtain ⟨_, _, _, _, _, hz, hn⟩ := hW
  refine ⟨hok, _, _, ([] ++ pa) ++ pv, ⟨[] ++ pa, pv, trodAll_append (hargs _ (fun _ _ => rfl)) (hres _ _ _), hvars _ (fun _ _ => rfl), rfl, fun b off hp => ?_, fun ha => ?_⟩, ?_⟩
  · have hb : MemPlace.cell b off ∈ before := by rw [hps]; simpa using hp
    rw [hk.frozen (a := ⟨b, off, none⟩) (hlt _ hb)]
    exact hz b off hb
  · have := hn ha
    rw [hps] at this
    simpa using this
  · intro p hp _
    rw [hps]
    simpa using hp
end

def lawSig (ps : List PSig) : GSig := ⟨ps, [(false, [.bool], [scal])], false⟩
theorem anyWr_none : ∀ {ps : List PSig}, anyWr ps = false → True := fun _ => trivial
/-- A law's call, where nothing is written of what came in. -/
theorem law_calls {B : Base} {g : FuncId} {as : List Arg} {ps : List PSig} {b : Bool} (h : CallSpec B (lawSig ps) g as ⟨[.val (.bool b)], []⟩) {W : World} {vals : List Value} {lfss : List (List Lf)}
    (ha : ArgsIn B.Ty W (fun t b => t = 0 ∧ b < W.heap.size) ps vals as lfss) : Calls B.P g vals.toArray W fun e w' => e = .returned (.bool b) ∧ Kept0 W w' := by
  refine (h W (fun t b => t = 0 ∧ b < W.heap.size) vals lfss ha (fun t t' c hne h1 h2 => hne (h1.1.trans h2.1.symm)) (fun t c h1 => h1.2) (fun t c ht h1 => absurd h1.1 ht) (fun hg => by cases hg)).mono fun e w' ⟨rvs, he, f, u, st, σ, a, ll, hW0, hX, _, hr, hro, _, _⟩ => ?_
  subst hW0
  refine ⟨?_, hr.os, hr.output, fun c hc => hr.frame c hc ?_⟩
  · rw [he]
    cases hro with
    | cons h1 hl t =>
      cases t with
      | nil =>
        obtain ⟨os, _, _, h5⟩ := h1.isOne
        cases h5
        rfl
  · rw [hX]
    rintro ⟨t, ht, h1, _⟩
    exact ht h1
end Go.Pm
