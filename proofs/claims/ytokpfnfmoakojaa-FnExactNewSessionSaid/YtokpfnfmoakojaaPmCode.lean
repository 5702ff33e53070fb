/-
  Code: the pure machine's run and the checker's look tell what the program does.
-/
import Derived.Test.YtokpfnfmoakojaaPmJoin
import Derived.LoopN
namespace Go.Pm
open Go

structure CO where
  nrm : Option SG
  exs : List (Nat × SG)
def trim (H : Hint) (σ : SG) : SG := { σ with slots := keepIn H.keep σ.slots }
def exsAt (id : Nat) : List (Nat × SG) → List SG
  | [] => []
  | (j, σ) :: r => match Nat.beq j id with | true => σ :: exsAt id r | false => exsAt id r
def exsBut (id : Nat) : List (Nat × SG) → List (Nat × SG)
  | [] => []
  | (j, σ) :: r => match Nat.beq j id with | true => exsBut id r | false => (j, σ) :: exsBut id r
def foldJ : SG → List SG → SG
  | σ, [] => σ
  | σ, τ :: r => foldJ (joinSG σ τ) r
def fitAll (τ : SG) : List SG → Bool
  | [] => true
  | σ :: r => match fitSG τ σ with | true => fitAll τ r | false => false
/-- Where ways meet. -/
def meetAll : List SG → Option (Option SG)
  | [] => some none
  | [σ] => some (some σ)
  | σ :: r => let τ := foldJ σ r
    match fitAll τ (σ :: r) with
    | true => some (some τ)
    | false => none
def optL (x : Option SG) : List SG := match x with | some σ => [σ] | none => []
def cLoopN (body : SG → Option CO) (σ0 : SG) : Nat → SG → Option CO
  | 0, _ => none
  | n + 1, σ => match body σ with
    | none => none
    | some co => match co.nrm with
      | none => match fitSG σ σ0 with
        | true => some ⟨none, co.exs⟩
        | false => none
      | some σ1 => match fitSG σ σ1 with
        | true => match fitSG σ σ0 with
          | true => some ⟨none, co.exs⟩
          | false => none
        | false => cLoopN body σ0 n (joinSG σ σ1)
def cCode (K : CEnv) (H : Hint) (glob : Bool) (N : Nat) (fin : SG → Bool) : Code → SG → Option CO
  | .skip, σ => some ⟨some σ, []⟩
  | .region _ ops draw, σ => match (match draw with | true => cDraw K H glob N ops.toList σ | false => cOps K H glob N ops.toList ops.toList σ) with
    | some σ' => some ⟨some (trim H σ'), []⟩
    | none => none
  | .seq a b, σ => match cCode K H glob N fin a σ with
    | none => none
    | some ca => match ca.nrm with
      | none => some ca
      | some σ' => match cCode K H glob N fin b σ' with
        | none => none
        | some cb => some ⟨cb.nrm, ca.exs ++ cb.exs⟩
  | .cond c a b, σ => match c with
    | .tmp t => match isBoolSlot σ t with
      | true => match cCode K H glob N fin a σ, cCode K H glob N fin b σ with
        | some ca, some cb => match meetAll (optL ca.nrm ++ optL cb.nrm) with
          | some n => some ⟨n, ca.exs ++ cb.exs⟩
          | none => none
        | _, _ => none
      | false => none
    | _ => none
  | .block id c, σ => match cCode K H glob N fin c σ with
    | none => none
    | some co => match meetAll (optL co.nrm ++ exsAt id co.exs) with
      | some n => some ⟨n, exsBut id co.exs⟩
      | none => none
  | .loop c, σ => cLoopN (fun σ' => cCode K H glob N fin c σ') σ 8 σ
  | .exit id, σ => some ⟨none, [(id, σ)]⟩
  | .label _, σ => some ⟨some σ, []⟩
  | .ret, σ => match fin σ with
    | true => some ⟨none, []⟩
    | false => none
  | _, _ => none

theorem fitAll_ok {τ : SG} : ∀ {l : List SG}, fitAll τ l = true → ∀ σ ∈ l, fitSG τ σ = true
  | [], _, _, h => by cases h
  | x :: r, h, σ, hs => by
    simp only [fitAll] at h
    split at h
    · rename_i h1
      rcases List.mem_cons.1 hs with rfl | hs
      · exact h1
      · exact fitAll_ok h σ hs
    · cases h
theorem meetAll_ok {f : Fix} {u : Wit} {st : St} {a : Act} {w : World} {l : List SG} {n : Option SG} (h : meetAll l = some n) {σ : SG} (hs : σ ∈ l) (hr : Rel f u st σ a w) : ∃ τ u', n = some τ ∧ Rel f u' st τ a w := by
  cases l with
  | nil => cases hs
  | cons x r =>
    cases r with
    | nil =>
      simp only [meetAll, Option.some.injEq] at h
      subst h
      obtain rfl := List.mem_singleton.1 hs
      exact ⟨_, u, rfl, hr⟩
    | cons y r =>
      simp only [meetAll] at h
      split at h
      · rename_i hf
        cases h
        obtain ⟨u', h'⟩ := fit_ok hr (fitAll_ok hf σ hs)
        exact ⟨_, u', rfl, h'⟩
      · cases h
theorem exsAt_mem {id : Nat} {σ : SG} : ∀ {l : List (Nat × SG)}, (id, σ) ∈ l → σ ∈ exsAt id l
  | [], h => by cases h
  | (j, x) :: r, h => by
    simp only [exsAt]
    rcases List.mem_cons.1 h with e | h
    · cases e; rw [Nat.beq_refl]; exact List.mem_cons_self
    · have := exsAt_mem h
      split
      · exact List.mem_cons_of_mem _ this
      · exact this
theorem exsBut_mem {id j : Nat} {σ : SG} (hne : j ≠ id) : ∀ {l : List (Nat × SG)}, (j, σ) ∈ l → (j, σ) ∈ exsBut id l
  | [], h => by cases h
  | (i, x) :: r, h => by
    simp only [exsBut]
    rcases List.mem_cons.1 h with e | h
    · cases e
      rw [beq_ne.2 hne]
      exact List.mem_cons_self
    · have := exsBut_mem hne h
      split
      · exact this
      · exact List.mem_cons_of_mem _ this

/-- A loop's head is known by one knowledge for all rounds. -/
def LoopOk (K : CEnv) (H : Hint) (glob : Bool) (N : Nat) (fin : SG → Bool) (c : Code) (σ : SG) (exs : List (Nat × SG)) : Prop :=
  ∃ inv, fitSG inv σ = true ∧ ∃ co, cCode K H glob N fin c inv = some co ∧ (∀ σ1, co.nrm = some σ1 → fitSG inv σ1 = true) ∧ co.exs = exs
theorem cLoopN_ok {K : CEnv} {H : Hint} {glob : Bool} {N : Nat} {fin : SG → Bool} {c : Code} {σ0 : SG} : ∀ {n : Nat} {σ : SG} {co : CO}, cLoopN (fun σ' => cCode K H glob N fin c σ') σ0 n σ = some co → LoopOk K H glob N fin c σ0 co.exs ∧ co.nrm = none
  | 0, _, _, h => by simp [cLoopN] at h
  | n + 1, σ, co, h => by
    simp only [cLoopN] at h
    split at h
    · cases h
    · rename_i co1 h1
      split at h
      · rename_i hn
        split at h
        · rename_i hf
          cases h
          exact ⟨⟨σ, hf, co1, h1, fun σ1 e => (by rw [hn] at e; cases e), rfl⟩, rfl⟩
        · cases h
      · rename_i σ1 hn
        split at h
        · rename_i hf1
          split at h
          · rename_i hf
            cases h
            exact ⟨⟨σ, hf, co1, h1, fun σ2 e => (by rw [hn] at e; cases e; exact hf1), rfl⟩, rfl⟩
          · cases h
        · exact cLoopN_ok h

/-- A loop's body, and the loops in it, by their numbers. -/
theorem loopAt_lt : ∀ {b : Code} {i : Nat} {c : Code}, loopAt b i = some c → i < nLoops b := fun {b} => by
  induction b with
  | seq a b iha ihb =>
    intro i c h
    simp only [loopAt, nLoops] at h ⊢
    split at h
    · have := iha h; omega
    · have := ihb h; omega
  | cond x a b iha ihb =>
    intro i c h
    simp only [loopAt, nLoops] at h ⊢
    split at h
    · have := iha h; omega
    · have := ihb h; omega
  | block id c ih => intro i c' h; exact ih h
  | scope c ih => intro i c' h; exact ih h
  | loop c ih =>
    intro i c' h
    simp only [nLoops]
    cases i with
    | zero => omega
    | succ j => simp only [loopAt] at h; have := ih h; omega
  | _ => intro i c h; simp [loopAt] at h
theorem loopAt_in : ∀ {b : Code} {i : Nat} {c : Code}, loopAt b i = some c → ∀ j, j < nLoops c → loopAt b (i + 1 + j) = loopAt c j := fun {b} => by
  induction b with
  | seq a b iha ihb =>
    intro i c h j hj
    simp only [loopAt] at h ⊢
    split at h
    · rename_i hlt
      have h1 := iha h j hj
      cases hq : loopAt c j with
      | none =>
        exfalso
        have : ∀ {x : Code} {j : Nat}, j < nLoops x → loopAt x j ≠ none := fun {x} => by
          induction x with
          | seq a b iha ihb =>
            intro j hj
            simp only [loopAt, nLoops] at hj ⊢
            split
            · rename_i h1; exact iha (Nat.blt_eq.mp h1)
            · rename_i h1
              have : ¬ j < nLoops a := fun h => by rw [Nat.blt_eq.mpr h] at h1; cases h1
              exact ihb (by omega)
          | cond y a b iha ihb =>
            intro j hj
            simp only [loopAt, nLoops] at hj ⊢
            split
            · rename_i h1; exact iha (Nat.blt_eq.mp h1)
            · rename_i h1
              have : ¬ j < nLoops a := fun h => by rw [Nat.blt_eq.mpr h] at h1; cases h1
              exact ihb (by omega)
          | block id c ih => intro j hj; exact ih hj
          | scope c ih => intro j hj; exact ih hj
          | loop c ih =>
            intro j hj
            cases j with
            | zero => simp [loopAt]
            | succ j => simp only [loopAt, nLoops] at hj ⊢; exact ih (by omega)
          | _ => intro j hj; simp [nLoops] at hj
        exact this hj hq
      | some d =>
        rw [hq] at h1
        have := loopAt_lt h1
        rw [Nat.blt_eq.mpr this]
        exact h1
    · rename_i hlt
      have hge : ¬ i < nLoops a := fun hh => by rw [Nat.blt_eq.mpr hh] at hlt; cases hlt
      have h1 := ihb h j hj
      have : Nat.blt (i + 1 + j) (nLoops a) = false := by
        cases hb : Nat.blt (i + 1 + j) (nLoops a) with
        | false => rfl
        | true => have := Nat.blt_eq.mp hb; omega
      rw [this]
      simp only
      rw [show i + 1 + j - nLoops a = i - nLoops a + 1 + j by omega]
      exact h1
  | cond x a b iha ihb =>
    intro i c h j hj
    simp only [loopAt] at h ⊢
    split at h
    · rename_i hlt
      have h1 := iha h j hj
      cases hq : loopAt c j with
      | none =>
        exfalso
        have : ∀ {x : Code} {j : Nat}, j < nLoops x → loopAt x j ≠ none := fun {x} => by
          induction x with
          | seq a b iha ihb =>
            intro j hj
            simp only [loopAt, nLoops] at hj ⊢
            split
            · rename_i h1; exact iha (Nat.blt_eq.mp h1)
            · rename_i h1
              have : ¬ j < nLoops a := fun h => by rw [Nat.blt_eq.mpr h] at h1; cases h1
              exact ihb (by omega)
          | cond y a b iha ihb =>
            intro j hj
            simp only [loopAt, nLoops] at hj ⊢
            split
            · rename_i h1; exact iha (Nat.blt_eq.mp h1)
            · rename_i h1
              have : ¬ j < nLoops a := fun h => by rw [Nat.blt_eq.mpr h] at h1; cases h1
              exact ihb (by omega)
          | block id c ih => intro j hj; exact ih hj
          | scope c ih => intro j hj; exact ih hj
          | loop c ih =>
            intro j hj
            cases j with
            | zero => simp [loopAt]
            | succ j => simp only [loopAt, nLoops] at hj ⊢; exact ih (by omega)
          | _ => intro j hj; simp [nLoops] at hj
        exact this hj hq
      | some d =>
        rw [hq] at h1
        have := loopAt_lt h1
        rw [Nat.blt_eq.mpr this]
        exact h1
    · rename_i hlt
      have hge : ¬ i < nLoops a := fun hh => by rw [Nat.blt_eq.mpr hh] at hlt; cases hlt
      have h1 := ihb h j hj
      have : Nat.blt (i + 1 + j) (nLoops a) = false := by
        cases hb : Nat.blt (i + 1 + j) (nLoops a) with
        | false => rfl
        | true => have := Nat.blt_eq.mp hb; omega
      rw [this]
      simp only
      rw [show i + 1 + j - nLoops a = i - nLoops a + 1 + j by omega]
      exact h1
  | block id c ih => intro i c' h j hj; exact ih h j hj
  | scope c ih => intro i c' h j hj; exact ih h j hj
  | loop c ih =>
    intro i c' h j hj
    cases i with
    | zero =>
      simp only [loopAt, Option.some.injEq] at h
      subst h
      rw [show 0 + 1 + j = j + 1 by omega]
      rfl
    | succ i =>
      simp only [loopAt] at h
      rw [show i + 1 + 1 + j = (i + 1 + j) + 1 by omega]
      simp only [loopAt]
      exact ih h j hj
  | _ => intro i c h; simp [loopAt] at h

section
variable {B : Base} {G : Env} {K : CEnv} {f : Fix} {H : Hint} {C : FuncId → List Arg → Option Res} {glob : Bool} {fin : SG → Bool} {fn : Func} {L : Nat → St → Option Out}

/-- What is to follow, whichever way the code is left. -/
def After (f : Fix) (G : Env) (H : Hint) (fin : SG → Bool) (fn : Func) (Q : Exit → Act → World → Prop) (co : CO) : Out → Prop
  | .normal st' => ∀ σ' u a w, co.nrm = some σ' → Rel f u st' σ' a w → Q .normal a w
  | .exit id st' => ∀ σ' u a w, (id, σ') ∈ co.exs → Rel f u st' σ' a w → Q (.exit id) a w
  | .ret r => ∀ st' σ' u a w, fin σ' = true → finish G H fn st' = some r → Rel f u st' σ' a w → Q .ret a w

theorem After.mono {Q : Exit → Act → World → Prop} {co co' : CO} {o : Out} (h : After f G H fin fn Q co o) (hn : ∀ σ', co'.nrm = some σ' → co.nrm = some σ') (he : ∀ x ∈ co'.exs, x ∈ co.exs) : After f G H fin fn Q co' o := by
  cases o with
  | normal st => exact fun σ' u a w h1 h2 => h σ' u a w (hn σ' h1) h2
  | exit id st => exact fun σ' u a w h1 h2 => h σ' u a w (he _ h1) h2
  | ret r => exact h

theorem mem_optL {x : Option SG} {σ : SG} (h : x = some σ) : σ ∈ optL x := by subst h; simp [optL]

theorem code_ok (hS : Setting B.P G K f) (hk : Known B K C f glob) (hfol : B.P.follows .mixedOrders = true) :
    ∀ {c : Code} {k : Nat} {u : Wit} {st : St} {σ : SG} {a : Act} {w : World} {out : Out} {co : CO} {Q : Exit → Act → World → Prop},
      (∀ j body, j < nLoops c → loopAt c j = some body → ∀ (u : Wit) (st : St) (σ : SG) (a : Act) (w : World) (o : Out) (exs : List (Nat × SG)) (Q : Exit → Act → World → Prop), Rel f u st σ a w → L (k + j) st = some o → LoopOk K H glob f.N fin body σ exs → After f G H fin fn Q ⟨none, exs⟩ o → (Code.loop body).wp B.P Q a w) →
      Rel f u st σ a w → den stdF G H C (finish G H fn) L k c st = some out → cCode K H glob f.N fin c σ = some co → After f G H fin fn Q co out → c.wp B.P Q a w := fun {c} => by
  induction c with
  | skip =>
    intro k u st σ a w out co Q _ h hd hc hq
    simp only [den, Option.some.injEq] at hd
    simp only [cCode, Option.some.injEq] at hc
    subst hd; subst hc
    exact wp_skip (hq σ u a w rfl h)
  | region id ops draw =>
    intro k u st σ a w out co Q _ h hd hc hq
    simp only [den] at hd
    simp only [cCode] at hc
    have fin' : ∀ {st' : St} {σ' : SG}, out = .normal { st' with env := keepIn H.keep st'.env } → co = ⟨some (trim H σ'), []⟩ → ∀ u' a' w', Rel f u' st' σ' a' w' → Q .normal a' w' := fun {st' σ'} e1 e2 u' a' w' hr => by
      subst e1; subst e2
      refine hq (trim H σ') u' a' w' rfl (hr.less (fun d e s h1 h2 => ?_) (fun k c s h1 h2 => ⟨h1, h2⟩))
      simp only [trim] at h1 h2
      rw [lk_keepIn] at h1 h2
      split at h1
      · rename_i hm; rw [if_pos hm] at h2; exact ⟨h1, h2⟩
      · cases h1
    cases draw with
    | true =>
      simp only at hd hc
      split at hd
      · rename_i st' hev
        cases hd
        split at hc
        · rename_i σ' hcd
          cases hc
          exact draw_ok hS hk hfol h hev hcd (fin' rfl rfl)
        · cases hc
      · cases hd
    | false =>
      simp only at hd hc
      split at hd
      · rename_i st' hev
        cases hd
        split at hc
        · rename_i σ' hcd
          cases hc
          refine wp_region (ops_ok hS hk (l := ops.toList) ?_ h hev hcd (fin' rfl rfl))
          apply List.ext_getElem?
          intro i
          simp only [List.getElem?_map]
          by_cases hi : i < ops.size
          · rw [List.getElem?_eq_getElem (by simpa using hi)]
            simp [hi]
          · rw [List.getElem?_eq_none (by rw [List.length_range]; omega), List.getElem?_eq_none (by rw [Array.length_toList]; omega)]
            rfl
        · cases hc
      · cases hd
  | seq x y ihx ihy =>
    intro k u st σ a w out co Q hL h hd hc hq
    simp only [den] at hd
    simp only [cCode] at hc
    have hL1 : ∀ j body, j < nLoops x → loopAt x j = some body → ∀ (u : Wit) (st : St) (σ : SG) (a : Act) (w : World) (o : Out) (exs : List (Nat × SG)) (Q : Exit → Act → World → Prop), Rel f u st σ a w → L (k + j) st = some o → LoopOk K H glob f.N fin body σ exs → After f G H fin fn Q ⟨none, exs⟩ o → (Code.loop body).wp B.P Q a w := fun j body hj hb =>
      hL j body (by simp only [nLoops]; omega) (by simp only [loopAt]; rw [Nat.blt_eq.mpr hj]; exact hb)
    have hL2 : ∀ j body, j < nLoops y → loopAt y j = some body → ∀ (u : Wit) (st : St) (σ : SG) (a : Act) (w : World) (o : Out) (exs : List (Nat × SG)) (Q : Exit → Act → World → Prop), Rel f u st σ a w → L (k + nLoops x + j) st = some o → LoopOk K H glob f.N fin body σ exs → After f G H fin fn Q ⟨none, exs⟩ o → (Code.loop body).wp B.P Q a w := fun j body hj hb => by
      have := hL (nLoops x + j) body (by simp only [nLoops]; omega) (by
        simp only [loopAt]
        have : Nat.blt (nLoops x + j) (nLoops x) = false := by
          cases hb : Nat.blt (nLoops x + j) (nLoops x) with
          | false => rfl
          | true => have := Nat.blt_eq.mp hb; omega
        rw [this]
        simp only [Nat.add_sub_cancel_left]
        exact hb)
      rw [← Nat.add_assoc] at this
      exact this
    refine wp_seq ?_
    split at hc
    · cases hc
    · rename_i ca hca
      cases hdx : den stdF G H C (finish G H fn) L k x st with
      | none => rw [hdx] at hd; cases hd
      | some ox =>
        rw [hdx] at hd
        refine ihx hL1 h hdx hca ?_
        cases ox with
        | normal st' =>
          simp only at hd
          intro σ' u' a' w' hn hr
          rw [hn] at hc
          simp only at hc
          split at hc
          · cases hc
          · rename_i cb hcb
            cases hc
            exact ihy hL2 hr hd hcb (hq.mono (fun _ e => e) (fun z hz => List.mem_append_right _ hz))
        | exit id st' =>
          simp only [Option.some.injEq] at hd
          subst hd
          intro σ' u' a' w' hm hr
          refine hq σ' u' a' w' ?_ hr
          split at hc
          · cases hc; exact hm
          · split at hc
            · cases hc
            · cases hc; exact List.mem_append_left _ hm
        | ret r =>
          simp only [Option.some.injEq] at hd
          subst hd
          exact hq
  | cond c x y ihx ihy =>
    intro k u st σ a w out co Q hL h hd hc hq
    simp only [den] at hd
    simp only [cCode] at hc
    have hL1 : ∀ j body, j < nLoops x → loopAt x j = some body → ∀ (u : Wit) (st : St) (σ : SG) (a : Act) (w : World) (o : Out) (exs : List (Nat × SG)) (Q : Exit → Act → World → Prop), Rel f u st σ a w → L (k + j) st = some o → LoopOk K H glob f.N fin body σ exs → After f G H fin fn Q ⟨none, exs⟩ o → (Code.loop body).wp B.P Q a w := fun j body hj hb =>
      hL j body (by simp only [nLoops]; omega) (by simp only [loopAt]; rw [Nat.blt_eq.mpr hj]; exact hb)
    have hL2 : ∀ j body, j < nLoops y → loopAt y j = some body → ∀ (u : Wit) (st : St) (σ : SG) (a : Act) (w : World) (o : Out) (exs : List (Nat × SG)) (Q : Exit → Act → World → Prop), Rel f u st σ a w → L (k + nLoops x + j) st = some o → LoopOk K H glob f.N fin body σ exs → After f G H fin fn Q ⟨none, exs⟩ o → (Code.loop body).wp B.P Q a w := fun j body hj hb => by
      have := hL (nLoops x + j) body (by simp only [nLoops]; omega) (by
        simp only [loopAt]
        have : Nat.blt (nLoops x + j) (nLoops x) = false := by
          cases hb : Nat.blt (nLoops x + j) (nLoops x) with
          | false => rfl
          | true => have := Nat.blt_eq.mp hb; omega
        rw [this]
        simp only [Nat.add_sub_cancel_left]
        exact hb)
      rw [← Nat.add_assoc] at this
      exact this
    split at hd
    · rename_i t
      simp only at hc
      split at hc
      · rename_i hb
        split at hc
        · rename_i ca cb hca hcb
          split at hc
          · rename_i nn hmeet
            cases hc
            split at hd
            · rename_i cv hen
              have hval : a.eval (.tmp t) = .bool cv := by
                unfold isBoolSlot at hb
                split at hb
                · rename_i ls hs
                  obtain ⟨g1, _⟩ := h.entry hen hs
                  obtain ⟨p', e1, g3, _⟩ := g1.isVal
                  cases e1
                  obtain ⟨os, _, _, g4⟩ := g3.isOne
                  obtain ⟨b', e2, e3⟩ := g4.asBool
                  cases e3
                  exact e2
                · cases hb
              have hless : Rel f u { st with env := dl t st.env } σ a w := h.less (fun d e s h1 h2 => ⟨by
                rw [lk_dl] at h1
                split at h1
                · cases h1
                · exact h1, h2⟩) (fun k c s h1 h2 => ⟨h1, h2⟩)
              refine wp_cond hval ?_
              cases cv with
              | true =>
                simp only [if_true] at hd ⊢
                refine ihx hL1 hless hd hca ?_
                cases out with
                | normal st' =>
                  intro σ' u' a' w' hn hr
                  obtain ⟨τ, u2, e1, h2⟩ := meetAll_ok hmeet (List.mem_append_left _ (mem_optL hn)) hr
                  exact hq τ u2 a' w' e1 h2
                | exit id st' => intro σ' u' a' w' hm hr; exact hq σ' u' a' w' (List.mem_append_left _ hm) hr
                | ret r => exact hq
              | false =>
                simp only [Bool.false_eq_true, if_false] at hd ⊢
                refine ihy hL2 hless hd hcb ?_
                cases out with
                | normal st' =>
                  intro σ' u' a' w' hn hr
                  obtain ⟨τ, u2, e1, h2⟩ := meetAll_ok hmeet (List.mem_append_right _ (mem_optL hn)) hr
                  exact hq τ u2 a' w' e1 h2
                | exit id st' => intro σ' u' a' w' hm hr; exact hq σ' u' a' w' (List.mem_append_right _ hm) hr
                | ret r => exact hq
            · cases hd
          · cases hc
        · cases hc
      · cases hc
    · cases hd
  | block id c ih =>
    intro k u st σ a w out co Q hL h hd hc hq
    simp only [den] at hd
    simp only [cCode] at hc
    split at hd
    · rename_i o1 ho
      cases hd
      split at hc
      · cases hc
      · rename_i co1 hco
        split at hc
        · rename_i nn hmeet
          cases hc
          refine wp_block (ih hL h ho hco ?_)
          cases o1 with
          | normal st' =>
            intro σ' u' a' w' hn hr
            obtain ⟨τ, u2, e1, h2⟩ := meetAll_ok hmeet (List.mem_append_left _ (mem_optL hn)) hr
            exact hq τ u2 a' w' e1 h2
          | exit j st' =>
            intro σ' u' a' w' hm hr
            simp only [Exit.inBlock]
            by_cases e : j = id
            · subst e
              rw [if_pos rfl]
              obtain ⟨τ, u2, e1, h2⟩ := meetAll_ok hmeet (List.mem_append_right _ (exsAt_mem hm)) hr
              simp only [Out.inBlock, Nat.beq_refl] at hq
              exact hq τ u2 a' w' e1 h2
            · rw [if_neg e]
              simp only [Out.inBlock, beq_ne.2 e] at hq
              exact hq σ' u' a' w' (exsBut_mem e hm) hr
          | ret r => exact hq
        · cases hc
    · cases hd
  | loop c ih =>
    intro k u st σ a w out co Q hL h hd hc hq
    simp only [den] at hd
    simp only [cCode] at hc
    obtain ⟨hlo, hn⟩ := cLoopN_ok hc
    refine hL 0 c (by simp only [nLoops]; omega) rfl u st σ a w out co.exs Q h (by simpa using hd) hlo ?_
    exact hq.mono (fun _ e => (by cases e)) (fun z hz => hz)
  | exit id =>
    intro k u st σ a w out co Q _ h hd hc hq
    simp only [den, Option.some.injEq] at hd
    simp only [cCode, Option.some.injEq] at hc
    subst hd; subst hc
    exact wp_exit (hq σ u a w (by simp) h)
  | scope c ih =>
    intro k u st σ a w out co Q hL h hd hc hq
    simp [cCode] at hc
  | label l =>
    intro k u st σ a w out co Q _ h hd hc hq
    simp only [den, Option.some.injEq] at hd
    simp only [cCode, Option.some.injEq] at hc
    subst hd; subst hc
    exact wp_label (hq σ u a w rfl h)
  | ret =>
    intro k u st σ a w out co Q _ h hd hc hq
    simp only [den] at hd
    split at hd
    · rename_i r hr
      cases hd
      simp only [cCode] at hc
      split at hc
      · rename_i hf
        exact wp_ret (hq st σ u a w hf hr h)
      · cases hc
    · cases hd
  | _ =>
    intro k u st σ a w out co Q _ h hd hc hq
    simp [den] at hd
end
end Go.Pm
