/-
  Regions whose order is drawn: the checker looks at every order.
-/
import Derived.Test.YtokpfnfmoakojaaPmDraw
namespace Go.Pm
open Go

/-! ### Equality of what is known -/
def eqLI (x y : LI) : Bool :=
  match Nat.beq x.tag y.tag, Nat.beq x.dt y.dt, eqB x.own y.own, eqB x.lin y.lin, Nat.beq x.id y.id with
  | true, true, true, true, true => true
  | _, _, _, _, _ => false
theorem eqLI_eq {x y : LI} (h : eqLI x y = true) : x = y := by
  unfold eqLI at h
  split at h
  · rename_i h1 h2 h3 h4 h5
    cases x; cases y
    simp only at h1 h2 h3 h4 h5
    rw [beq_eq.1 h1, beq_eq.1 h2, eqB_eq h3, eqB_eq h4, beq_eq.1 h5]
  · cases h
def eqLIs : List LI → List LI → Bool
  | [], [] => true
  | x :: r, y :: s => match eqLI x y with | true => eqLIs r s | false => false
  | _, _ => false
theorem eqLIs_eq : ∀ {l m : List LI}, eqLIs l m = true → l = m
  | [], [], _ => rfl
  | [], _ :: _, h => by simp [eqLIs] at h
  | _ :: _, [], h => by simp [eqLIs] at h
  | x :: r, y :: s, h => by
    simp only [eqLIs] at h
    split at h
    · rename_i hb; rw [eqLI_eq hb, eqLIs_eq h]
    · cases h
def eqParts : List (Bool × List LK × List LI) → List (Bool × List LK × List LI) → Bool
  | [], [] => true
  | x :: r, y :: s => match eqB x.1 y.1, eqLKs x.2.1 y.2.1, eqLIs x.2.2 y.2.2 with
    | true, true, true => eqParts r s
    | _, _, _ => false
  | _, _ => false
theorem eqParts_eq : ∀ {l m : List (Bool × List LK × List LI)}, eqParts l m = true → l = m
  | [], [], _ => rfl
  | [], _ :: _, h => by simp [eqParts] at h
  | _ :: _, [], h => by simp [eqParts] at h
  | (a, b, c) :: r, (a', b', c') :: s, h => by
    simp only [eqParts] at h
    split at h
    · rename_i h1 h2 h3; rw [eqB_eq h1, eqLKs_eq h2, eqLIs_eq h3, eqParts_eq h]
    · cases h
def eqSI : SI → SI → Bool
  | .val a k l, .val a' k' l' => match eqB a a', eqLKs k k' with | true, true => eqLIs l l' | _, _ => false
  | .tup l, .tup l' => eqParts l l'
  | .avar k o, .avar k' o' => match Nat.beq k k' with | true => Nat.beq o o' | false => false
  | .aelem k l o, .aelem k' l' o' => match eqLKs k k', Nat.beq o o' with | true, true => eqLI l l' | _, _ => false
  | .velem a k l z o, .velem a' k' l' z' o' => match eqB a a', eqLKs k k', Nat.beq z z', Nat.beq o o' with | true, true, true, true => eqLI l l' | _, _, _, _ => false
  | .glob g, .glob g' => Nat.beq g g'
  | _, _ => false
theorem eqSI_eq {x y : SI} (h : eqSI x y = true) : x = y := by
  cases x <;> cases y <;> simp only [eqSI] at h <;> try (cases h; done)
  · split at h
    · rename_i h1 h2; rw [eqB_eq h1, eqLKs_eq h2, eqLIs_eq h]
    · cases h
  · rw [eqParts_eq h]
  · split at h
    · rename_i h1; rw [beq_eq.1 h1, beq_eq.1 h]
    · cases h
  · split at h
    · rename_i h1 h2; rw [eqLKs_eq h1, beq_eq.1 h2, eqLI_eq h]
    · cases h
  · split at h
    · rename_i h1 h2 h3 h4; rw [eqB_eq h1, eqLKs_eq h2, beq_eq.1 h3, beq_eq.1 h4, eqLI_eq h]
    · cases h
  · rw [beq_eq.1 h]
def eqSlots : List (Nat × SI) → List (Nat × SI) → Bool
  | [], [] => true
  | (d, x) :: r, (d', y) :: s => match Nat.beq d d', eqSI x y with | true, true => eqSlots r s | _, _ => false
  | _, _ => false
theorem eqSlots_eq : ∀ {l m : List (Nat × SI)}, eqSlots l m = true → l = m
  | [], [], _ => rfl
  | [], _ :: _, h => by simp [eqSlots] at h
  | _ :: _, [], h => by simp [eqSlots] at h
  | (d, x) :: r, (d', y) :: s, h => by
    simp only [eqSlots] at h
    split at h
    · rename_i h1 h2; rw [beq_eq.1 h1, eqSI_eq h2, eqSlots_eq h]
    · cases h
def eqVars : List (Nat × (List LK × List LI)) → List (Nat × (List LK × List LI)) → Bool
  | [], [] => true
  | (d, x) :: r, (d', y) :: s => match Nat.beq d d', eqLKs x.1 y.1, eqLIs x.2 y.2 with | true, true, true => eqVars r s | _, _, _ => false
  | _, _ => false
theorem eqVars_eq : ∀ {l m : List (Nat × (List LK × List LI))}, eqVars l m = true → l = m
  | [], [], _ => rfl
  | [], _ :: _, h => by simp [eqVars] at h
  | _ :: _, [], h => by simp [eqVars] at h
  | (d, x, x') :: r, (d', y, y') :: s, h => by
    simp only [eqVars] at h
    split at h
    · rename_i h1 h2 h3; rw [beq_eq.1 h1, eqLKs_eq h2, eqLIs_eq h3, eqVars_eq h]
    · cases h
def eqSG (x y : SG) : Bool := match eqSlots x.slots y.slots with | true => eqVars x.vars y.vars | false => false
theorem eqSG_eq {x y : SG} (h : eqSG x y = true) : x = y := by
  unfold eqSG at h
  split at h
  · rename_i h1
    cases x; cases y
    simp only at h1 h
    rw [eqSlots_eq h1, eqVars_eq h]
  · cases h

/-! ### The orders -/
structure Item where
  i : Nat
  need : Nat
  clos : Nat
  o : Oper
  rw : RW

def needM : List Edge → Nat
  | [] => 0
  | e :: r => match Region.binds .any e with
    | true => Nat.lor (Nat.pow 2 e.on) (needM r)
    | false => needM r
def closM (cl : List Nat) : List Edge → Nat
  | [] => 0
  | e :: r => match Region.binds .any e with
    | true => Nat.lor (Nat.lor (Nat.pow 2 e.on) (cl.getD e.on 0)) (closM cl r)
    | false => closM cl r
def itemsOf (H : Hint) (ops : List Oper) : Nat → List Nat → List Oper → List Item
  | _, _, [] => []
  | i, cl, o :: r => let c := closM cl o.after.toList
    ⟨i, needM o.after.toList, c, o, rwOf H ops o⟩ :: itemsOf H ops (i + 1) (cl ++ [c]) r
def confL (a b : RW) : Bool :=
  match a.all, b.all with
  | false, false => match anyIn a.ws (b.rs ++ b.ws), anyIn b.ws (a.rs ++ a.ws), anyIn a.wv (b.rv ++ b.wv), anyIn b.wv (a.rv ++ a.wv) with
    | false, false, false, false => false
    | _, _, _, _ => true
  | _, _ => true
def apartL (it : Item) : List Item → Bool
  | [] => true
  | b :: r => match Nat.testBit b.clos it.i with
    | true => apartL it r
    | false => match confL it.rw b.rw with
      | true => false
      | false => apartL it r
def itemsOk : List Item → Bool
  | [] => true
  | it :: r => match Nat.blt it.need (Nat.pow 2 it.i), apartL it r with
    | true, true => itemsOk r
    | _, _ => false
def putM (m : Nat) (σ : SG) : List (Nat × SG) → Option (List (Nat × SG))
  | [] => some [(m, σ)]
  | (m', τ) :: r => match Nat.beq m m' with
    | true => match eqSG σ τ with
      | true => some ((m', τ) :: r)
      | false => none
    | false => match putM m σ r with
      | some l => some ((m', τ) :: l)
      | none => none
def exIt (step : Oper → SG → Option SG) (m : Nat) (σ : SG) : List Item → List (Nat × SG) → Option (List (Nat × SG))
  | [], acc => some acc
  | it :: r, acc => match Nat.testBit m it.i with
    | true => exIt step m σ r acc
    | false => match Nat.beq (Nat.land m it.need) it.need with
      | false => exIt step m σ r acc
      | true => match step it.o σ with
        | none => none
        | some σ' => match putM (Nat.lor m (Nat.pow 2 it.i)) σ' acc with
          | none => none
          | some acc' => exIt step m σ r acc'
def exLevel (step : Oper → SG → Option SG) (items : List Item) : List (Nat × SG) → List (Nat × SG) → Option (List (Nat × SG))
  | [], acc => some acc
  | (m, σ) :: r, acc => match exIt step m σ items acc with
    | some acc' => exLevel step items r acc'
    | none => none
def explore (step : Oper → SG → Option SG) (items : List Item) : Nat → List (Nat × SG) → Option (List (Nat × SG))
  | 0, l => some l
  | n + 1, l => match exLevel step items l [] with
    | some l' => explore step items n l'
    | none => none
def cDraw (K : CEnv) (H : Hint) (glob : Bool) (N : Nat) (ops : List Oper) (σ : SG) : Option SG :=
  let items := itemsOf H ops 0 [] ops
  match itemsOk items with
  | true => match explore (cgstep K H glob N ops) items ops.length [(0, σ)] with
    | some [(_, τ)] => some τ
    | _ => none
  | false => none

theorem putM_ok : ∀ {m : Nat} {σ : SG} {acc acc' : List (Nat × SG)}, putM m σ acc = some acc' → (∀ x ∈ acc, x ∈ acc') ∧ (m, σ) ∈ acc'
  | m, σ, [], acc', h => by simp only [putM, Option.some.injEq] at h; subst h; exact ⟨fun _ h => (by cases h), by simp⟩
  | m, σ, (m', τ) :: r, acc', h => by
    simp only [putM] at h
    split at h
    · rename_i hb
      split at h
      · rename_i he
        cases h
        have := beq_eq.1 hb; subst this
        have := eqSG_eq he; subst this
        exact ⟨fun _ h => h, by simp⟩
      · cases h
    · split at h
      · rename_i l hl
        cases h
        obtain ⟨h1, h2⟩ := putM_ok hl
        exact ⟨fun x hx => by
          rcases List.mem_cons.1 hx with rfl | hx
          · exact List.mem_cons_self
          · exact List.mem_cons_of_mem _ (h1 x hx), List.mem_cons_of_mem _ h2⟩
      · cases h
theorem exIt_ok {step : Oper → SG → Option SG} {m : Nat} {σ : SG} : ∀ {items : List Item} {acc acc' : List (Nat × SG)}, exIt step m σ items acc = some acc' →
    (∀ x ∈ acc, x ∈ acc') ∧ ∀ it ∈ items, Nat.testBit m it.i = false → Nat.land m it.need = it.need → ∃ σ', step it.o σ = some σ' ∧ (Nat.lor m (Nat.pow 2 it.i), σ') ∈ acc'
  | [], acc, acc', h => by simp only [exIt, Option.some.injEq] at h; subst h; exact ⟨fun _ h => h, fun _ h => (by cases h)⟩
  | it :: r, acc, acc', h => by
    simp only [exIt] at h
    split at h
    · rename_i ht
      obtain ⟨h1, h2⟩ := exIt_ok h
      refine ⟨h1, fun b hb hbt hbn => ?_⟩
      rcases List.mem_cons.1 hb with rfl | hb
      · rw [ht] at hbt; cases hbt
      · exact h2 b hb hbt hbn
    · split at h
      · rename_i hn
        obtain ⟨h1, h2⟩ := exIt_ok h
        refine ⟨h1, fun b hb hbt hbn => ?_⟩
        rcases List.mem_cons.1 hb with rfl | hb
        · exact absurd hbn (beq_ne.1 hn)
        · exact h2 b hb hbt hbn
      · split at h
        · cases h
        · rename_i σ' hs
          split at h
          · cases h
          · rename_i acc1 hp
            obtain ⟨p1, p2⟩ := putM_ok hp
            obtain ⟨h1, h2⟩ := exIt_ok h
            refine ⟨fun x hx => h1 x (p1 x hx), fun b hb hbt hbn => ?_⟩
            rcases List.mem_cons.1 hb with rfl | hb
            · exact ⟨σ', hs, h1 _ p2⟩
            · exact h2 b hb hbt hbn
theorem exLevel_ok {step : Oper → SG → Option SG} {items : List Item} : ∀ {l acc acc' : List (Nat × SG)}, exLevel step items l acc = some acc' →
    (∀ x ∈ acc, x ∈ acc') ∧ ∀ m σ, (m, σ) ∈ l → ∀ it ∈ items, Nat.testBit m it.i = false → Nat.land m it.need = it.need → ∃ σ', step it.o σ = some σ' ∧ (Nat.lor m (Nat.pow 2 it.i), σ') ∈ acc'
  | [], acc, acc', h => by simp only [exLevel, Option.some.injEq] at h; subst h; exact ⟨fun _ h => h, fun _ _ h => by cases h⟩
  | (m0, σ0) :: r, acc, acc', h => by
    simp only [exLevel] at h
    split at h
    · rename_i acc1 h1
      obtain ⟨a1, a2⟩ := exIt_ok h1
      obtain ⟨b1, b2⟩ := exLevel_ok h
      refine ⟨fun x hx => b1 x (a1 x hx), fun m σ hm it hit ht hn => ?_⟩
      rcases List.mem_cons.1 hm with e | hm
      · cases e
        obtain ⟨σ', g1, g2⟩ := a2 it hit ht hn
        exact ⟨σ', g1, b1 _ g2⟩
      · exact b2 m σ hm it hit ht hn
    · cases h

theorem anyIn_ok {l m : List Nat} (h : anyIn l m = false) : ∀ x ∈ l, x ∉ m := by
  induction l with
  | nil => intro x hx; cases hx
  | cons y r ih =>
    simp only [anyIn] at h
    split at h
    · cases h
    · rename_i hm
      intro x hx
      rcases List.mem_cons.1 hx with rfl | hx
      · intro hx'; rw [memN_iff.2 hx'] at hm; cases hm
      · exact ih h x hx

theorem itemsOf_get {H : Hint} {ops : List Oper} : ∀ {l : List Oper} {i : Nat} {cl : List Nat} {j : Nat}, (itemsOf H ops i cl l)[j]? = (l[j]?).map fun o => ⟨i + j, needM o.after.toList, ((itemsOf H ops i cl l)[j]?.map (·.clos)).getD 0, o, rwOf H ops o⟩
  | [], _, _, _ => by simp [itemsOf]
  | o :: r, i, cl, 0 => by simp [itemsOf]
  | o :: r, i, cl, j + 1 => by
    simp only [itemsOf, List.getElem?_cons_succ]
    rw [itemsOf_get (l := r) (i := i + 1) (j := j)]
    cases r[j]? with
    | none => rfl
    | some o' =>
      simp only [Option.map_some, Option.getD_some, Option.some.injEq, Item.mk.injEq, and_true]
      omega
theorem itemsOf_len {H : Hint} {ops : List Oper} : ∀ {l : List Oper} {i : Nat} {cl : List Nat}, (itemsOf H ops i cl l).length = l.length
  | [], _, _ => rfl
  | _ :: r, i, cl => by simp [itemsOf, itemsOf_len (l := r)]
/-- What is bound before an operation, with all that is bound before that. -/
theorem itemsOf_clos {H : Hint} {ops : List Oper} : ∀ {l : List Oper} {i : Nat} {cl : List Nat} {j : Nat} {it : Item}, cl.length = i → (itemsOf H ops i cl l)[j]? = some it →
    it.clos = closM ((cl ++ (itemsOf H ops i cl l).map (·.clos)).take (i + j)) it.o.after.toList
  | [], _, _, _, _, _, h => by simp [itemsOf] at h
  | o :: r, i, cl, 0, it, hl, h => by
    simp only [itemsOf, List.getElem?_cons_zero, Option.some.injEq] at h
    subst h
    simp [← hl]
  | o :: r, i, cl, j + 1, it, hl, h => by
    simp only [itemsOf, List.getElem?_cons_succ] at h
    have := itemsOf_clos (l := r) (cl := cl ++ [closM cl o.after.toList]) (by simp [hl]) h
    rw [this]
    simp only [itemsOf, List.map_cons]
    congr 2
    · omega
    · simp

theorem testBit_lor (a b k : Nat) : (Nat.lor a b).testBit k = (a.testBit k || b.testBit k) := Nat.testBit_or a b k
theorem testBit_pow (i k : Nat) : (Nat.pow 2 i).testBit k = decide (i = k) := Nat.testBit_two_pow
theorem needM_bit {l : List Edge} {k : Nat} : (needM l).testBit k = true ↔ ∃ e ∈ l, Region.binds .any e = true ∧ e.on = k := by
  induction l with
  | nil => simp [needM]
  | cons e r ih =>
    simp only [needM]
    cases hb : Region.binds .any e with
    | true =>
      simp only [testBit_lor, testBit_pow, Bool.or_eq_true, decide_eq_true_eq, ih, List.mem_cons, exists_eq_or_imp, hb, true_and]
    | false =>
      simp only [ih, List.mem_cons, exists_eq_or_imp, hb, Bool.false_eq_true, false_and, false_or]
theorem closM_bit {cl : List Nat} {l : List Edge} {k : Nat} : (closM cl l).testBit k = true ↔ ∃ e ∈ l, Region.binds .any e = true ∧ (e.on = k ∨ (cl.getD e.on 0).testBit k = true) := by
  induction l with
  | nil => simp [closM]
  | cons e r ih =>
    simp only [closM]
    cases hb : Region.binds .any e with
    | true =>
      simp only [testBit_lor, testBit_pow, Bool.or_eq_true, decide_eq_true_eq, ih, List.mem_cons, exists_eq_or_imp, hb, true_and]
    | false =>
      simp only [ih, List.mem_cons, exists_eq_or_imp, hb, Bool.false_eq_true, false_and, false_or]
theorem lt_bit {n i k : Nat} (h : Nat.blt n (Nat.pow 2 i) = true) (hk : n.testBit k = true) : k < i := by
  have h := Nat.blt_eq.mp h
  rcases Nat.lt_or_ge k i with h1 | h1
  · exact h1
  · have : n < 2 ^ k := Nat.lt_of_lt_of_le h (Nat.pow_le_pow_right (by omega) h1)
    rw [Nat.testBit_lt_two_pow this] at hk
    cases hk

theorem itemsOk_need {items : List Item} (h : itemsOk items = true) : ∀ it ∈ items, Nat.blt it.need (Nat.pow 2 it.i) = true := by
  induction items with
  | nil => intro _ h; cases h
  | cons a r ih =>
    simp only [itemsOk] at h
    split at h
    · rename_i h1 h2
      intro it hit
      rcases List.mem_cons.1 hit with rfl | hit
      · exact h1
      · exact ih h it hit
    · cases h
theorem apartL_ok {it : Item} {l : List Item} (h : apartL it l = true) : ∀ b ∈ l, b.clos.testBit it.i = true ∨ confL it.rw b.rw = false := by
  induction l with
  | nil => intro _ h; cases h
  | cons a r ih =>
    simp only [apartL] at h
    intro b hb
    split at h
    · rename_i h1
      rcases List.mem_cons.1 hb with rfl | hb
      · exact .inl h1
      · exact ih h b hb
    · split at h
      · cases h
      · rename_i h2
        rcases List.mem_cons.1 hb with rfl | hb
        · exact .inr h2
        · exact ih h b hb
theorem itemsOk_apart : ∀ {items : List Item}, itemsOk items = true → ∀ {j k : Nat} {a b : Item}, j < k → items[j]? = some a → items[k]? = some b → b.clos.testBit a.i = true ∨ confL a.rw b.rw = false
  | [], _, _, _, _, _, _, ha, _ => by simp at ha
  | x :: r, h, j, k, a, b, hjk, ha, hb => by
    simp only [itemsOk] at h
    split at h
    · rename_i h1 h2
      cases k with
      | zero => omega
      | succ k =>
        cases j with
        | zero =>
          simp at ha
          subst ha
          exact apartL_ok h2 b (List.mem_of_getElem? (by simpa using hb))
        | succ j => exact itemsOk_apart (j := j) (k := k) h (by omega) (by simpa using ha) (by simpa using hb)
    · cases h
end Go.Pm
