/-
  The operations that leave the memory as it is.
-/
import Derived.Test.YtokpfnfmoakojaaPmOps
import Derived.Test.YtokpfnfmoakojaaPmStd
namespace Go.Pm
open Go

/-- What is taken as given of the program's tables: the same for all functions. -/
structure Setting (P : Program) (G : Env) (K : CEnv) (f : Fix) : Prop where
  tab : TabOk P f.Ty
  kty : K.types = f.Ty
  gty : G.types = f.Ty
  gks : ∀ g ks, K.gks g = some ks → f.gks g = ks
  glob : ∀ g cs, G.globs g = some cs → f.globs g ≠ none → f.globs g = some cs

/-- The goal of an operation: from whatever state the relation gives for it, the rest follows. -/
def Goal (P : Program) (f : Fix) (o : Oper) (a : Act) (w : World) (st' : St) (σ' : SG) : Prop :=
  ∀ (next : Act → World → Prop) (Q : Exit → Act → World → Prop), (∀ u' a' w', Rel f u' st' σ' a' w' → next a' w') → o.wp P a w next Q

theorem Goal.value {P : Program} {f : Fix} {o : Oper} {a : Act} {w w' : World} {st' : St} {σ' : SG} {v : Value} {u' : Wit} (h : (execOp a.eval o).run P w = .ok (.value v) w') (hr : Rel f u' st' σ' (a.put o.dst v) w') : Goal P f o a w st' σ' :=
  fun _ _ hn => wp_value h (hn u' _ _ hr)
theorem Goal.skip {P : Program} {f : Fix} {o : Oper} {a : Act} {w w' : World} {st' : St} {σ' : SG} {u' : Wit} (h : (execOp a.eval o).run P w = .ok .skip w') (hr : Rel f u' st' σ' (a.put o.dst undef) w') : Goal P f o a w st' σ' :=
  fun _ _ hn => wp_skip' h (hn u' _ _ hr)

/-- A value is put into the operation's slot, if it has one. -/
theorem put_step {f : Fix} {u : Wit} {st st' : St} {σ σ1 σ' : SG} {a : Act} {w : World} {F : Alg} {H : Hint} {d : Option Nat} {e : Ent} {s : SI} {ρ : List Ren} {v : Value} {lfs : List Lf} (hσ : rens σ ρ = σ1)
    (h : Rel f u st σ1 a w) (hp : papply F H d st (.put e) = some st') (hc : capply f.N d σ (.put ρ s) = some σ') (he : EntOk f.Ty u.β w v e s lfs) (hD : ∀ y ∈ lfs, Deriv u st σ1 y)
    (hn : ∀ y ∈ lfs, y.li.lin = true → (y.os.map (·.1)).Nodup) : ∃ u', Rel f u' st' σ' (a.put d v) w := by
  cases d with
  | none =>
    simp only [papply, Option.some.injEq] at hp
    simp only [capply, Option.some.injEq] at hc
    subst hp; subst hc; subst hσ
    exact ⟨u, h⟩
  | some t =>
    simp only [papply, Option.some.injEq] at hp
    simp only [capply] at hc
    cases hb : Nat.blt t f.N with
    | false => simp [hb] at hc
    | true =>
      simp only [hb, Option.some.injEq] at hc
      subst hp; subst hc; subst hσ
      exact ⟨_, h.put (Nat.blt_eq.mp hb) he hD hn⟩

theorem scal_put {f : Fix} {u : Wit} {st st' : St} {σ σ' : SG} {a : Act} {w : World} {F : Alg} {H : Hint} {d : Option Nat} {k : LK} {v : Value} {p : PV}
    (h : Rel f u st σ a w) (hp : papply F H d st (.put (.val p)) = some st') (hc : capply f.N d σ (.put [] (.val false [k] [scal])) = some σ') (hv : Rd f.Ty w k v p []) : ∃ u', Rel f u' st' σ' (a.put d v) w :=
  put_step (lfs := [⟨scal, v, []⟩]) rfl h hp hc (.val (RdV.one hv) rfl) (fun y hy => by obtain rfl := List.mem_singleton.1 hy; exact .free rfl rfl rfl) (fun y hy _ => by obtain rfl := List.mem_singleton.1 hy; simp)

/-- A step, in its two parts. -/
theorem pstep_parts {F : Alg} {G : Env} {H : Hint} {C : FuncId → List Arg → Option Res} {o : Oper} {st st' : St} (h : pstep F G H C o st = some st') : ∃ e, pact F G H C o st = some e ∧ papply F H o.dst st e = some st' := by
  unfold pstep at h
  cases he : pact F G H C o st with
  | none => simp [he] at h
  | some e => exact ⟨e, rfl, by simpa [he] using h⟩
theorem cstep_parts {K : CEnv} {H : Hint} {glob : Bool} {N : Nat} {o : Oper} {σ σ' : SG} (h : cstep K H glob N o σ = some σ') : ∃ e, cact K H glob o σ = some e ∧ capply N o.dst σ e = some σ' := by
  unfold cstep at h
  cases he : cact K H glob o σ with
  | none => simp [he] at h
  | some e => exact ⟨e, rfl, by simpa [he] using h⟩

theorem freshOf_ne (d : Option Nat) : freshOf d ≠ 0 := by cases d <;> simp [freshOf]
theorem minOf_mem : ∀ (r : List Nat) (a : Nat), minOf a r ∈ a :: r
  | [], a => by simp [minOf]
  | b :: r, a => by
    have := minOf_mem r (minN a b)
    simp only [minOf]
    rcases List.mem_cons.1 this with h | h
    · rw [h]
      unfold minN
      cases Nat.ble a b <;> simp
    · exact List.mem_cons_of_mem _ (List.mem_cons_of_mem _ h)
theorem minOf_le : ∀ (r : List Nat) (a b : Nat), b ∈ a :: r → minOf a r ≤ b
  | [], a, b, h => by simp at h; subst h; exact Nat.le_refl _
  | c :: r, a, b, h => by
    simp only [minOf]
    have hm : minN a c ≤ a ∧ minN a c ≤ c := by
      unfold minN
      cases hb : Nat.ble a c with
      | true => have := Nat.ble_eq.mp hb; simp; omega
      | false => have : ¬ a ≤ c := fun h => by rw [Nat.ble_eq.mpr h] at hb; cases hb
                 simp; omega
    have h0 := minOf_le r (minN a c) (minN a c) List.mem_cons_self
    rcases List.mem_cons.1 h with rfl | h
    · omega
    · rcases List.mem_cons.1 h with rfl | h
      · omega
      · exact minOf_le r _ b (List.mem_cons_of_mem _ h)
theorem joinOf_mem (n : Nat) {A : List Nat} (h : A ≠ []) : joinOf n A ∈ A := by
  cases A with
  | nil => exact absurd rfl h
  | cons a r => exact minOf_mem r a
theorem joinOf_zero (n : Nat) {A : List Nat} (h : 0 ∈ A) : joinOf n A = 0 := by
  cases A with
  | nil => cases h
  | cons a r => exact Nat.le_zero.1 (minOf_le r a 0 h)

section
variable {P : Program} {G : Env} {K : CEnv} {f : Fix} {H : Hint} {C : FuncId → List Arg → Option Res} {glob : Bool} {u : Wit} {st st' : St} {σ σ' : SG} {a : Act} {w : World} {o : Oper}

theorem move_ok (h : Rel f u st σ a w) {n : Nat} (hn : n ≠ 0) {ex : List LK} {x : Operand} (hrun : (execOp a.eval o).run P w = .ok (.value (a.eval x)) w) {e : Eff} {ce : CE} (hp : pMove (evE st.env x) = some e) (hp' : papply stdF H o.dst st e = some st')
    (hc : cMove σ n ex x = some ce) (hc' : capply f.N o.dst σ ce = some σ') : Goal P f o a w st' σ' := by
  cases x with
  | tmp t =>
    simp only [cMove] at hc
    simp only [evE] at hp
    cases he : lk t st.env with
    | none => simp [he, pMove] at hp
    | some en =>
      rw [he] at hp
      have hev : a.eval (.tmp t) = a.tmps.getD t undef := rfl
      rw [hev] at hrun
      split at hc
      · rename_i agg ks ls hs
        cases hc
        obtain ⟨h1, h2⟩ := h.entry he hs
        obtain ⟨p, rfl, g1, g2⟩ := h1.isVal
        simp only [pMove, Option.some.injEq] at hp
        subst hp
        obtain ⟨u', hr⟩ := put_step rfl h hp' hc' (.val g1 g2) (fun y hy => .of_live (h2 y hy)) (fun y hy => (h.leaf y (h2 y hy)).lin)
        exact .value hrun hr
      · rename_i agg ks li size off hs
        cases hc
        obtain ⟨h1, h2⟩ := h.entry he hs
        obtain ⟨b, o', i, p, rest, row, rfl, e1, _, _, _, g1, g2⟩ := h1.isVelem
        rw [e1] at h2
        simp only [pMove, Option.some.injEq] at hp
        subst hp
        obtain ⟨u', hr⟩ := put_step rfl h hp' hc' (.val g1 g2) (fun y hy => .of_live (h2 y (List.mem_cons_of_mem _ hy))) (fun y hy => (h.leaf y (h2 y (List.mem_cons_of_mem _ hy))).lin)
        exact .value hrun hr
      · rename_i l hs
        cases hc
        obtain ⟨h1, h2⟩ := h.entry he hs
        obtain ⟨ps, vs, rfl, _, _⟩ := h1.isTup
        simp only [pMove, Option.some.injEq] at hp
        subst hp
        obtain ⟨u', hr⟩ := put_step rfl h hp' hc' h1 (fun y hy => .of_live (h2 y hy)) (fun y hy => (h.leaf y (h2 y hy)).lin)
        exact .value hrun hr
      · rename_i k off hs
        cases hc
        obtain ⟨h1, h2⟩ := h.entry he hs
        obtain ⟨rfl, _, _⟩ := h1.isVar
        simp only [pMove, Option.some.injEq] at hp
        subst hp
        obtain ⟨u', hr⟩ := put_step rfl h hp' hc' h1 (fun y hy => .of_live (h2 y hy)) (fun y hy => (h.leaf y (h2 y hy)).lin)
        exact .value hrun hr
      · cases hc
  | const c =>
    simp only [cMove] at hc
    split at hc
    · rename_i agg ks ls hs
      cases hc
      have hp2 : ∃ p, evV st.env (.const c) = some p ∧ e = .put (.val p) := by
        simp only [evE] at hp
        cases hcp : constPV c with
        | none => simp [hcp, pMove] at hp
        | some p => simp [hcp, pMove] at hp; exact ⟨p, by simp [evV, evE, hcp], hp.symm⟩
      obtain ⟨p, hv, rfl⟩ := hp2
      obtain ⟨lfs, g⟩ := h.val hn hs hv
      obtain ⟨u', hr⟩ := put_step rfl h hp' hc' (.val g.rd g.li) g.der g.lin
      exact .value hrun hr
    · cases hc
  | global g => simp [cMove, sVal] at hc
  | func g => simp [cMove, sVal] at hc

theorem Rd.asInt {k : IntKind} {v : Value} {p : PV} {os : List (Nat × Nat)} {Ty : Nat → TyK} {w : World} (h : Rd Ty w (.int k) v p os) : ∃ n, v = .int k n ∧ p = .int k n := by cases h; exact ⟨_, rfl, rfl⟩
theorem Rd.asBool {v : Value} {p : PV} {os : List (Nat × Nat)} {Ty : Nat → TyK} {w : World} (h : Rd Ty w .bool v p os) : ∃ b, v = .bool b ∧ p = .bool b := by cases h; exact ⟨_, rfl, rfl⟩
theorem Rd.asStr {v : Value} {p : PV} {os : List (Nat × Nat)} {Ty : Nat → TyK} {w : World} (h : Rd Ty w .str v p os) : ∃ s, v = .string s ∧ p = .str s.data.toList := by cases h; exact ⟨_, rfl, rfl⟩
theorem Rd.noSlice {k : LK} {v : Value} {p : PV} {os : List (Nat × Nat)} {Ty : Nat → TyK} {w : World} (h : Rd Ty w k v p os) (hk : isSl k = false) : os = [] := by cases h <;> first | rfl | simp [isSl] at hk

theorem mustS_eq {k : Option LK} {ce : CE} (h : mustS k = some ce) : ∃ k', k = some k' ∧ isSl k' = false ∧ ce = .put [] (.val false [k'] [scal]) := by
  unfold mustS at h
  split at h
  · rename_i k'
    split at h
    · cases h
    · rename_i hk
      simp only [putS, Option.some.injEq] at h
      exact ⟨k', rfl, hk, h.symm⟩
  · cases h

theorem pick_ok (h : Rel f u st σ a w) {c x y : Operand} {e : Eff} {ce : CE} (ho : o.op = .pick c x y) (hp : pPick (evV st.env c) (evV st.env x) (evV st.env y) = some e) (hp' : papply stdF H o.dst st e = some st')
    (hc : cPick σ c x y = some ce) (hc' : capply f.N o.dst σ ce = some σ') : Goal P f o a w st' σ' := by
  unfold cPick at hc
  split at hc
  · rename_i k k' h1 h2 h3
    split at hc
    · rename_i he
      have := eqLK_eq he
      subst this
      obtain ⟨k', hk1, hk2, rfl⟩ := mustS_eq hc
      cases hk1
      unfold pPick at hp
      split at hp
      · rename_i b hb
        obtain ⟨os, g⟩ := h.kind h1 hb
        obtain ⟨b', g1, g2⟩ := g.asBool
        cases g2
        have hrun : (execOp a.eval o).run P w = .ok (.value (if b then a.eval x else a.eval y)) w := by
          unfold execOp
          simp [ho, g1, asBool]
        cases b with
        | true =>
          simp only at hp
          cases hv : evV st.env x with
          | none => simp [hv, putV] at hp
          | some p =>
            simp [hv, putV] at hp
            subst hp
            obtain ⟨os, g3⟩ := h.kind h2 hv
            have := g3.noSlice hk2
            subst this
            obtain ⟨u', hr⟩ := scal_put h hp' hc' g3
            exact .value (by simpa using hrun) hr
        | false =>
          simp only at hp
          cases hv : evV st.env y with
          | none => simp [hv, putV] at hp
          | some p =>
            simp [hv, putV] at hp
            subst hp
            obtain ⟨os, g3⟩ := h.kind h3 hv
            have := g3.noSlice hk2
            subst this
            obtain ⟨u', hr⟩ := scal_put h hp' hc' g3
            exact .value (by simpa using hrun) hr
      · cases hp
    · cases hc
  · cases hc
end
end Go.Pm
