/-
  Operations one behind the other.
-/
import Derived.Test.YtokpfnfmoakojaaPmCallD
namespace Go.Pm
open Go

/-- A slot holds nothing: an operation that was not wanted. -/
theorem Rel.undef {f : Fix} {u : Wit} {st : St} {σ : SG} {a : Act} {w : World} (h : Rel f u st σ a w) (d : Nat) (s : SI) (v : Value) :
    Rel f u { st with env := dl d st.env } { σ with slots := up d s σ.slots } (a.put (some d) v) w := by
  have hold : ∀ d' e s', lk d' (dl d st.env) = some e → lk d' (up d s σ.slots) = some s' → d' ≠ d ∧ lk d' st.env = some e ∧ lk d' σ.slots = some s' := fun d' e s' h1 h2 => by
    rw [lk_dl] at h1
    split at h1
    · cases h1
    · rename_i hd
      rw [lk_up_other s hd] at h2
      exact ⟨hd, h1, h2⟩
  have live : ∀ x, Live u { st with env := dl d st.env } { σ with slots := up d s σ.slots } x → Live u st σ x := fun x hx => by
    rcases hx with ⟨d', e, s', h1, h2, h3⟩ | hx
    · obtain ⟨_, g1, g2⟩ := hold d' e s' h1 h2
      exact .inl ⟨d', e, s', g1, g2, h3⟩
    · exact .inr hx
  exact { h with
    slot := fun d' e s' h1 h2 => by
      obtain ⟨g0, g1, g2⟩ := hold d' e s' h1 h2
      rw [Act.put_other _ _ _ _ g0]
      exact h.slot d' e s' g1 g2
    leaf := fun x hx => h.leaf x (live x hx)
    pair := fun x y hx hy => h.pair x y (live x hx) (live y hy)
    tmps := by rw [Act.put_size]; exact h.tmps
    defers := h.defers }

theorem Rel.rens {f : Fix} : ∀ {ρ : List Ren} {u : Wit} {st : St} {σ : SG} {a : Act} {w : World}, Rel f u st σ a w → (∀ r ∈ ρ, memN 0 r.A = true → r.m = 0) → ∃ u', Rel f u' st (Pm.rens σ ρ) a w
  | [], u, _, _, _, _, h, _ => ⟨u, h⟩
  | r :: ρ, _, _, _, _, _, h, h0 => by
    obtain ⟨u', h'⟩ := Rel.rens (h.ren r (h0 r (by simp))) fun r' hr' => h0 r' (List.mem_cons_of_mem _ hr')
    exact ⟨u', h'⟩

def rensOk : List Ren → Bool
  | [] => true
  | r :: l => match memN 0 r.A with
    | true => match Nat.beq r.m 0 with | true => rensOk l | false => false
    | false => rensOk l
theorem rensOk_ok : ∀ {l : List Ren}, rensOk l = true → ∀ r ∈ l, memN 0 r.A = true → r.m = 0
  | [], _, _, hr, _ => by cases hr
  | x :: l, h, r, hr, hm => by
    simp only [rensOk] at h
    split at h
    · split at h
      · rename_i h1 h2
        rcases List.mem_cons.1 hr with rfl | hr
        · exact beq_eq.1 h2
        · exact rensOk_ok h r hr hm
      · cases h
    · rename_i h1
      rcases List.mem_cons.1 hr with rfl | hr
      · rw [hm] at h1; cases h1
      · exact rensOk_ok h r hr hm

/-- The checker at an operation that is wanted at times: it only fills its slot. -/
def cGuarded (K : CEnv) (H : Hint) (glob : Bool) (N : Nat) (o : Oper) (σ : SG) : Option SG :=
  match cact K H glob o σ, o.dst with
  | some (.put ρ s), some t => match rensOk ρ with
    | true => capply N (some t) σ (.put ρ s)
    | false => none
  | _, _ => none
def isBoolSlot (σ : SG) (d : Nat) : Bool :=
  match lk d σ.slots with
  | some (.val false [.bool] _) => true
  | _ => false
/-- A step, and the names of what it makes. -/
def nstep (K : CEnv) (H : Hint) (glob : Bool) (N : Nat) (o : Oper) (σ : SG) : Option SG :=
  match cstep K H glob N o σ with
  | some σ' => some (cName o σ')
  | none => none
def cgstep (K : CEnv) (H : Hint) (glob : Bool) (N : Nat) (ops : List Oper) (o : Oper) (σ : SG) : Option SG :=
  match o.guard with
  | none => nstep K H glob N o σ
  | some (j, _) => match ops[j]? with
    | some g => match g.dst with
      | some d => match isBoolSlot σ d with
        | true => cGuarded K H glob N o σ
        | false => none
      | none => none
    | none => none

theorem cGuarded_step {K : CEnv} {H : Hint} {glob : Bool} {N : Nat} {o : Oper} {σ σ' : SG} (h : cGuarded K H glob N o σ = some σ') : cstep K H glob N o σ = some σ' ∧ ∃ t ρ s, o.dst = some t ∧ σ' = { (Pm.rens σ ρ) with slots := up t s (Pm.rens σ ρ).slots } ∧ rensOk ρ = true := by
  unfold cGuarded at h
  split at h
  · rename_i ρ s t h1 h2
    split at h
    · rename_i h3
      refine ⟨by unfold cstep; rw [h1, h2]; exact h, t, ρ, s, h2, ?_, h3⟩
      simp only [capply] at h
      split at h
      · cases h; rfl
      · cases h
    · cases h
  · cases h

/-- What an operation with a guard does, wanted or not. -/
theorem wanted_ok {f : Fix} {u : Wit} {st : St} {σ : SG} {a : Act} {w : World} (h : Rel f u st σ a w) {ops : Array Oper} {o : Oper} {j : Nat} {want : Bool} (hg : o.guard = some (j, want)) {g : Oper} (hj : ops[j]? = some g) {d : Nat} (hd : g.dst = some d) (hb : isBoolSlot σ d = true) {b : Bool}
    (hp : guardOf ops.toList st (some (j, want)) = some b) : Region.wanted o (yielded ops a.tmps) = b := by
  unfold guardOf at hp
  have hj' : ops.toList[j]? = some g := by simpa using hj
  simp only [hj', hd] at hp
  unfold isBoolSlot at hb
  split at hb
  · rename_i ls hs
    split at hp
    · rename_i c he
      obtain ⟨h1, h2⟩ := h.slot d _ _ he hs
      obtain ⟨p, e1, g1, _⟩ := h2.isVal
      cases e1
      obtain ⟨os, _, _, g3⟩ := g1.isOne
      obtain ⟨c', e2, e3⟩ := g3.asBool
      cases e3
      have hlt : d < a.tmps.size := by rw [h.tmps]; exact h1
      have : a.tmps[d]? = some (.bool c) := by
        rw [Array.getElem?_eq_getElem hlt]
        rw [Array.getD_eq_getD_getElem?, Array.getElem?_eq_getElem hlt] at e2
        simpa using e2
      have hy : yielded ops a.tmps j = some c := by simp [yielded, hj, hd, this]
      unfold Region.wanted
      rw [hg]
      simp only [hy]
      cases c <;> cases want <;> simp at hp ⊢ <;> first | exact hp | exact hp.symm | simp_all
    · cases hp
  · cases hb

theorem freshOf_65 (d : Nat) : 65 ≤ freshOf (some d) := by
  show 65 ≤ 64 * (d + 1) + 1
  omega
theorem Goal.name {P : Program} {f : Fix} {o : Oper} {a : Act} {w : World} {st' : St} {σ' : SG} (h : Goal P f o a w st' σ') : Goal P f o a w st' (cName o σ') := by
  intro next Q hn
  refine h next Q fun u' a' w' hr => ?_
  unfold cName at hn
  split at hn
  · rename_i d _ _
    obtain ⟨u2, h2⟩ := hr.name (freshOf (some d)) d (freshOf_65 d)
    exact hn u2 a' w' h2
  · exact hn u' a' w' hr

section
variable {B : Base} {G : Env} {K : CEnv} {f : Fix} {H : Hint} {C : FuncId → List Arg → Option Res} {glob : Bool} {u : Wit} {st st' : St} {σ σ' : SG} {a : Act} {w : World} {o : Oper}

/-- One operation with its guard. -/
theorem gstep_ok (hS : Setting B.P G K f) (hk : Known B K C f glob) (h : Rel f u st σ a w) {ops : Array Oper} (hp : gstep stdF G H C ops.toList o st = some st') (hc : cgstep K H glob f.N ops.toList o σ = some σ') {next : Act → World → Prop} {Q : Exit → Act → World → Prop} (hn : ∀ u' a' w', Rel f u' st' σ' a' w' → next a' w') :
    if Region.wanted o (yielded ops a.tmps) then o.wp B.P a w next Q else next (a.put o.dst undef) w := by
  unfold gstep at hp
  unfold cgstep at hc
  cases hg : o.guard with
  | none =>
    rw [hg] at hp hc
    simp only [guardOf] at hp hc
    have hw : Region.wanted o (yielded ops a.tmps) = true := by unfold Region.wanted; rw [hg]
    rw [if_pos hw]
    unfold nstep at hc
    split at hc
    · rename_i σ1 hc1
      cases hc
      exact (step_ok hS h hp hc1 fun g args ts ho => call_ok hS hk h ho hp hc1).name next Q hn
    · cases hc
  | some jw =>
    obtain ⟨j, want⟩ := jw
    rw [hg] at hp hc
    simp only at hc
    split at hc
    · rename_i g hj
      split at hc
      · rename_i d hd
        split at hc
        · rename_i hb
          obtain ⟨hc1, t, ρ, s, ht, hσ, hρ⟩ := cGuarded_step hc
          split at hp
          · rename_i b hgd
            have hw := wanted_ok h hg (by simpa using hj) hd hb hgd
            cases b with
            | true =>
              simp only at hp
              rw [if_pos hw]
              exact step_ok hS h hp hc1 (fun g args ts ho => call_ok hS hk h ho hp hc1) next Q hn
            | false =>
              simp only [Option.some.injEq] at hp
              rw [if_neg (by simp [hw])]
              obtain ⟨u1, h1⟩ := Rel.rens h (rensOk_ok hρ)
              have h2 := h1.undef t s undef
              refine hn u1 _ _ ?_
              rw [ht, ← hp, hσ, ht]
              exact h2
          · cases hp
        · cases hc
      · cases hc
    · cases hc

def cOps (K : CEnv) (H : Hint) (glob : Bool) (N : Nat) (ops : List Oper) : List Oper → SG → Option SG
  | [], σ => some σ
  | o :: r, σ => match cgstep K H glob N ops o σ with
    | some σ' => cOps K H glob N ops r σ'
    | none => none

/-- Operations in one order. -/
theorem ops_ok (hS : Setting B.P G K f) (hk : Known B K C f glob) {ops : Array Oper} {Q : Exit → Act → World → Prop} : ∀ {is : List Nat} {l : List Oper} {u : Wit} {st st' : St} {σ σ' : SG} {a : Act} {w : World}, is.map (ops[·]?) = l.map some →
    Rel f u st σ a w → evOps stdF G H C ops.toList l st = some st' → cOps K H glob f.N ops.toList l σ = some σ' → (∀ u' a' w', Rel f u' st' σ' a' w' → Q .normal a' w') → wpOps B.P ops Q is a w
  | [], [], u, _, _, _, _, _, _, _, h, hp, hc, hn => by
    cases hp; cases hc
    exact hn u _ _ h
  | [], _ :: _, _, _, _, _, _, _, _, hi, _, _, _, _ => by simp at hi
  | _ :: _, [], _, _, _, _, _, _, _, hi, _, _, _, _ => by simp at hi
  | i :: is, o :: l, u, st, st', σ, σ', a, w, hi, h, hp, hc, hn => by
    simp only [List.map_cons, List.cons.injEq] at hi
    obtain ⟨hi1, hi2⟩ := hi
    simp only [evOps] at hp
    split at hp
    · rename_i st1 hp1
      simp only [cOps] at hc
      split at hc
      · rename_i σ1 hc1
        have hg := gstep_ok (Q := Q) hS hk h hp1 hc1 (next := wpOps B.P ops Q is) (fun u' a' w' h' => ops_ok hS hk hi2 h' hp hc hn)
        unfold wpOps
        rw [hi1]
        simp only
        split
        · rename_i hw
          rw [if_pos hw] at hg
          exact .inl hg
        · rename_i hw
          rw [if_neg hw] at hg
          exact hg
      · cases hc
    · cases hp
end
end Go.Pm
