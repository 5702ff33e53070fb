/-
  Regions whose order is drawn: what an operation reads and writes is as told.
-/
import Derived.Test.YtokpfnfmoakojaaPmCongr
import Derived.Orders
namespace Go.Pm
open Go

section
variable {F : Alg} {G : Env} {H : Hint} {C : FuncId → List Arg → Option Res} {s s1 t : St} {o : Oper}

theorem effIn_simple {d : Option Nat} {wv : List Nat} : ∀ {e : Eff}, effIn d wv e = true → e.simple = true ∧ ∀ k c, effV d e k = some c → k ∈ wv
  | .put _, _ => ⟨rfl, fun k c h => by cases h⟩
  | .none, _ => ⟨rfl, fun k c h => by cases h⟩
  | .new c', h => by
    refine ⟨rfl, fun k c hc => ?_⟩
    simp only [effV] at hc
    split at hc
    · rename_i hd
      simp only [effIn, hd] at h
      exact memN_iff.1 h
    · cases hc
  | .outs l r, h => by
    simp only [effIn] at h
    split at h
    · rename_i hs
      obtain ⟨h1, h2⟩ := effIn_simple h
      refine ⟨h1, fun k c hc => ?_⟩
      simp only [effV] at hc
      split at hc
      · rename_i c' hc'
        exact h2 k c' hc'
      · have : ∀ {l : List (Nat × List PV)}, effIn.subN (keysOf l) wv = true → ∀ k c, lastOf k l = some c → k ∈ wv := fun {l} => by
          induction l with
          | nil => intro _ k c hk; cases hk
          | cons z l ih =>
            obtain ⟨j, cc⟩ := z
            intro hs k c hk
            simp only [keysOf, effIn.subN] at hs
            split at hs
            · rename_i hm
              simp only [lastOf] at hk
              split at hk
              · rename_i c2 hc2; exact ih hs k c2 hc2
              · split at hk
                · rename_i e; rw [← e]; exact memN_iff.1 hm
                · cases hk
            · cases hs
        exact this hs k c hc
    · cases h
  | .elem .., h => by cases h
  | .at .., h => by cases h
  | .elemAt .., h => by cases h

theorem ptrsOk_ok {ptrs : List (Nat × Nat)} {env : List (Nat × Ent)} : ∀ {l : List Nat}, ptrsOk ptrs env l = true → ∀ t ∈ l, ∀ k off, lk t env = some (.avar k off) → lk t ptrs = some k
  | [], _, _, h, _, _, _ => by cases h
  | x :: r, h, t, ht, k, off, he => by
    simp only [ptrsOk] at h
    rcases List.mem_cons.1 ht with rfl | ht
    · rw [he] at h
      simp only at h
      split at h
      · rename_i k' hk'
        split at h
        · rename_i hb; rw [hk', beq_eq.1 hb]
        · cases h
      · cases h
    · have : ptrsOk ptrs env r = true := by
        split at h
        · split at h
          · split at h
            · exact h
            · cases h
          · cases h
        · exact h
      exact ptrsOk_ok this t ht k off he
theorem ptrsOf_mem {ptrs : List (Nat × Nat)} {t k : Nat} (hs : lk t ptrs = some k) : ∀ {l : List Nat}, t ∈ l → k ∈ ptrsOf ptrs l
  | [], h => by cases h
  | x :: r, h => by
    simp only [ptrsOf]
    rcases List.mem_cons.1 h with rfl | h
    · rw [hs]; exact List.mem_cons_self
    · have := ptrsOf_mem hs h
      split
      · exact List.mem_cons_of_mem _ this
      · exact this

/-- What is written of slots and variables is as told. -/
structure Told (rw : RW) (s s1 t t1 : St) : Prop where
  ws : ∀ x ∈ rw.ws, lk x t.env = lk x s.env → lk x t1.env = lk x s1.env
  ns : ∀ x, x ∉ rw.ws → lk x t1.env = lk x t.env ∧ lk x s1.env = lk x s.env
  wv : ∀ k ∈ rw.wv, lk k t.vars = lk k s.vars → lk k t1.vars = lk k s1.vars
  nv : ∀ k, k ∉ rw.wv → lk k t1.vars = lk k t.vars ∧ lk k s1.vars = lk k s.vars

/-- The parts of what is told. -/
theorem rwOf_parts {ops : List Oper} (hall : (rwOf H ops o).all = false) : (rwOf H ops o).rs = guardSlot ops o ++ tmpsOf o.op.operands.toList ∧ (rwOf H ops o).ws = dstL o ∧ (rwOf H ops o).rv = ptrsOf H.ptrs (tmpsOf o.op.operands.toList) := by
  unfold rwOf at hall ⊢
  simp only at hall ⊢
  split at hall
  · split at hall
    · split at hall
      · exact ⟨rfl, rfl, rfl⟩
      · cases hall
    · cases hall
  · exact ⟨rfl, rfl, rfl⟩
  · exact ⟨rfl, rfl, rfl⟩
  · split at hall
    · cases hall
    · exact ⟨rfl, rfl, rfl⟩
  · exact ⟨rfl, rfl, rfl⟩

theorem rw_told {ops : List Oper} (hall : (rwOf H ops o).all = false) (hslot : ∀ x ∈ (rwOf H ops o).rs, lk x s.env = lk x t.env) (hvar : ∀ k ∈ (rwOf H ops o).rv, lk k s.vars = lk k t.vars)
    (hp : gstepD F G H C ops o s = some s1) : ∃ t1, gstep F G H C ops o t = some t1 ∧ Told (rwOf H ops o) s s1 t t1 := by
  obtain ⟨r1, r2, r3⟩ := rwOf_parts hall
  unfold gstepD at hp
  simp only [hall] at hp
  split at hp
  · cases hp
  · rename_i hpt
    rw [r1] at hslot
    rw [r3] at hvar
    have hag : Agree (tmpsOf o.op.operands.toList) s t := ⟨fun x hx => hslot x (List.mem_append_right _ hx), fun x hx k off he => hvar k (ptrsOf_mem (ptrsOk_ok hpt x hx k off he) hx)⟩
    have hgs : guardOf ops s o.guard = guardOf ops t o.guard := guardOf_congr fun x hx => hslot x (List.mem_append_left _ hx)
    have hpe := pact_congr (F := F) (G := G) (H := H) (C := C) (X := tmpsOf o.op.operands.toList) hag fun z hz => hz
    have hD : ∀ x, x ∈ dstL o ↔ o.dst = some x := fun x => by
      unfold dstL
      cases o.dst with
      | none => simp
      | some d => simp [eq_comm]
    split at hp
    · rename_i b hb
      cases b with
      | true =>
        simp only at hp
        split at hp
        · rename_i e he
          split at hp
          · rename_i hin
            obtain ⟨h1, h2⟩ := effIn_simple hin
            obtain ⟨t1, ht1⟩ := papply_some (F := F) (H := H) (d := o.dst) t h1
            obtain ⟨a1, a2⟩ := papply_simple h1 hp
            obtain ⟨b1, b2⟩ := papply_simple h1 ht1
            have hS : ∀ e' : Eff, ∀ x en, effS o.dst e' x = some en → x ∈ dstL o := fun e' => by
              induction e' with
              | put en' => intro x en hx; simp only [effS] at hx; split at hx <;> first | (rename_i hd; exact (hD x).2 hd) | cases hx
              | new c => intro x en hx; simp only [effS] at hx; split at hx <;> first | (rename_i hd; exact (hD x).2 hd) | cases hx
              | outs l r ih => intro x en hx; exact ih x en hx
              | _ => intro x en hx; cases hx
            refine ⟨t1, ?_, fun x _ hxx => by rw [b1 x, a1 x, hxx], fun x hx => ?_, fun k _ hkk => by rw [b2 k, a2 k, hkk], fun k hk => ?_⟩
            · unfold gstep pstep
              rw [← hgs, hb, ← hpe, he]
              exact ht1
            · rw [b1 x, a1 x]
              cases hx' : effS o.dst e x with
              | some en => rw [r2] at hx; exact absurd (hS e x en hx') hx
              | none => exact ⟨rfl, rfl⟩
            · rw [b2 k, a2 k]
              cases hk' : effV o.dst e k with
              | some c => exact absurd (h2 k c hk') hk
              | none => exact ⟨rfl, rfl⟩
          · cases hp
        · cases hp
      | false =>
        simp only [Option.some.injEq] at hp
        subst hp
        have hu : ∀ (z : St) (x : Nat), lk x (undefd o.dst z).env = if o.dst = some x then none else lk x z.env := fun z x => by
          unfold undefd
          cases o.dst with
          | none => simp
          | some d =>
            simp only [lk_dl, Option.some.injEq]
            by_cases e : x = d
            · simp [e]
            · simp [e, Ne.symm e]
        have hv : ∀ (z : St), (undefd o.dst z).vars = z.vars := fun z => by unfold undefd; cases o.dst <;> rfl
        refine ⟨undefd o.dst t, ?_, fun x _ hxx => by rw [hu, hu, hxx], fun x hx => ?_, fun k _ hkk => by rw [hv, hv]; exact hkk, fun k _ => by rw [hv, hv]; exact ⟨rfl, rfl⟩⟩
        · unfold gstep
          rw [← hgs, hb]
        · rw [r2] at hx
          have : o.dst ≠ some x := fun e => hx ((hD x).2 e)
          rw [hu, hu, if_neg this, if_neg this]
          exact ⟨rfl, rfl⟩
    · cases hp

/-- In the text's order nothing else is written. -/
theorem text_same {ops : List Oper} (hall : (rwOf H ops o).all = false) (hp : gstepD F G H C ops o s = some s1) : (∀ x, x ∉ (rwOf H ops o).ws → lk x s1.env = lk x s.env) ∧ ∀ k, k ∉ (rwOf H ops o).wv → lk k s1.vars = lk k s.vars := by
  obtain ⟨t1, _, h⟩ := rw_told (t := s) hall (fun _ _ => rfl) (fun _ _ => rfl) hp
  exact ⟨fun x hx => (h.ns x hx).2, fun k hk => (h.nv k hk).2⟩
theorem gstepD_gstep {ops : List Oper} (hp : gstepD F G H C ops o s = some s1) : gstep F G H C ops o s = some s1 := by
  unfold gstepD at hp
  simp only at hp
  split at hp
  · exact hp
  · split at hp
    · cases hp
    · unfold gstep pstep
      split at hp
      · rename_i b hb
        cases b with
        | true =>
          simp only at hp ⊢
          split at hp
          · rename_i e he
            split at hp
            · first | exact hp | (rw [he]; exact hp)
            · cases hp
          · cases hp
        | false => exact hp
      · cases hp
end
end Go.Pm
