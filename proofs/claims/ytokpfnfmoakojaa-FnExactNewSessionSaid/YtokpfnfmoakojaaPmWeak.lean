/-
  Less is known: the checker lowers what it knows of leaves, and forgets slots and variables.
-/
import Derived.Test.YtokpfnfmoakojaaPmMut
namespace Go.Pm
open Go

def impB (a b : Bool) : Bool := match a with | true => b | false => true
/-- 'x' says no more than 'y'. -/
def leLI (x y : LI) : Bool :=
  match Nat.beq x.tag y.tag, Nat.beq x.dt y.dt, impB x.own y.own, impB x.lin y.lin with
  | true, true, true, true => match Nat.beq x.id 0 with
    | true => true
    | false => Nat.beq x.id y.id
  | _, _, _, _ => false
def leLIs : List LI → List LI → Bool
  | [], [] => true
  | x :: r, y :: s => match leLI x y with | true => leLIs r s | false => false
  | _, _ => false
def leParts : List (Bool × List LK × List LI) → List (Bool × List LK × List LI) → Bool
  | [], [] => true
  | x :: r, y :: s => match eqB x.1 y.1, eqLKs x.2.1 y.2.1, leLIs x.2.2 y.2.2 with
    | true, true, true => leParts r s
    | _, _, _ => false
  | _, _ => false
def leSI : SI → SI → Bool
  | .val a k l, .val a' k' l' => match eqB a a', eqLKs k k' with
    | true, true => leLIs l l'
    | _, _ => false
  | .tup l, .tup l' => leParts l l'
  | .avar k o, .avar k' o' => match Nat.beq k k' with | true => Nat.beq o o' | false => false
  | .aelem k l o, .aelem k' l' o' => match eqLKs k k', Nat.beq o o' with
    | true, true => leLI l l'
    | _, _ => false
  | .velem a k l z o, .velem a' k' l' z' o' => match eqB a a', eqLKs k k', Nat.beq z z', Nat.beq o o' with
    | true, true, true, true => leLI l l'
    | _, _, _, _ => false
  | .glob g, .glob g' => Nat.beq g g'
  | _, _ => false
def leSlots (t : List (Nat × SI)) : List (Nat × SI) → Bool
  | [] => true
  | (d, s) :: r => match lk d t with
    | some s' => match leSI s s' with | true => leSlots t r | false => false
    | none => false
def leVars (t : List (Nat × (List LK × List LI))) : List (Nat × (List LK × List LI)) → Bool
  | [] => true
  | (d, s) :: r => match lk d t with
    | some s' => match eqLKs s.1 s'.1, leLIs s.2 s'.2 with | true, true => leVars t r | _, _ => false
    | none => false
/-- 'σ' tells no more than 'τ'. -/
def leSG (σ τ : SG) : Bool := match leSlots τ.slots σ.slots with | true => leVars τ.vars σ.vars | false => false

/-- What a slot's knowledge says of its leaves, one by one. -/
def lisOf : SI → Nat → List LI
  | .val _ _ ls, _ => ls
  | .tup l, _ => l.flatMap (·.2.2)
  | .aelem _ li _, n => ⟨li.tag, li.dt, false, li.lin, li.id⟩ :: List.replicate (n - 1) ⟨li.dt, li.dt, false, li.lin, 0⟩
  | .velem _ _ li _ _, n => ⟨li.tag, li.dt, false, li.lin, li.id⟩ :: List.replicate (n - 1) ⟨li.dt, li.dt, false, li.lin, 0⟩
  | _, _ => []
def relab : List LI → List Lf → List Lf
  | li :: ls, x :: r => { x with li := li } :: relab ls r
  | [], _ => []
  | _ :: _, [] => []

structure LeLI (x y : LI) : Prop where
  tag : x.tag = y.tag
  dt : x.dt = y.dt
  own : x.own = true → y.own = true
  lin : x.lin = true → y.lin = true
  id : x.id ≠ 0 → x.id = y.id
inductive LeLIs : List LI → List LI → Prop
  | nil : LeLIs [] []
  | cons {x y : LI} {r s : List LI} (h : LeLI x y) (t : LeLIs r s) : LeLIs (x :: r) (y :: s)

theorem impB_eq {a b : Bool} (h : impB a b = true) (ha : a = true) : b = true := by subst ha; exact h
theorem leLI_ok {x y : LI} (h : leLI x y = true) : LeLI x y := by
  unfold leLI at h
  split at h
  · rename_i h1 h2 h3 h4
    refine ⟨beq_eq.1 h1, beq_eq.1 h2, impB_eq h3, impB_eq h4, fun hi => ?_⟩
    split at h
    · rename_i h5; exact absurd (beq_eq.1 h5) hi
    · exact beq_eq.1 h
  · cases h
theorem leLIs_ok : ∀ {l m : List LI}, leLIs l m = true → LeLIs l m
  | [], [], _ => .nil
  | [], _ :: _, h => by simp [leLIs] at h
  | _ :: _, [], h => by simp [leLIs] at h
  | x :: r, y :: s, h => by
    simp only [leLIs] at h
    split at h
    · rename_i h1; exact .cons (leLI_ok h1) (leLIs_ok h)
    · cases h
theorem LeLIs.len : ∀ {l m : List LI}, LeLIs l m → l.length = m.length
  | _, _, .nil => rfl
  | _, _, .cons _ t => by simp [t.len]
theorem LeLIs.append : ∀ {l m l' m' : List LI}, LeLIs l m → LeLIs l' m' → LeLIs (l ++ l') (m ++ m')
  | _, _, _, _, .nil, h => h
  | _, _, _, _, .cons a t, h => .cons a (t.append h)
theorem LeLIs.rep {x y : LI} (h : LeLI x y) : ∀ n : Nat, LeLIs (List.replicate n x) (List.replicate n y)
  | 0 => .nil
  | n + 1 => .cons h (LeLIs.rep h n)
theorem relab_v : ∀ {ls : List LI} {lfs : List Lf}, ls.length = lfs.length → (relab ls lfs).map (·.v) = lfs.map (·.v)
  | [], [], _ => rfl
  | _ :: ls, _ :: r, h => by simp [relab, relab_v (ls := ls) (lfs := r) (by simpa using h)]
  | [], _ :: _, h => by simp at h
  | _ :: _, [], h => by simp at h
theorem relab_os : ∀ {ls : List LI} {lfs : List Lf}, ls.length = lfs.length → (relab ls lfs).map (·.os) = lfs.map (·.os)
  | [], [], _ => rfl
  | _ :: ls, _ :: r, h => by simp [relab, relab_os (ls := ls) (lfs := r) (by simpa using h)]
  | [], _ :: _, h => by simp at h
  | _ :: _, [], h => by simp at h
theorem relab_li : ∀ {ls : List LI} {lfs : List Lf}, ls.length = lfs.length → (relab ls lfs).map (·.li) = ls
  | [], [], _ => rfl
  | _ :: ls, _ :: r, h => by simp [relab, relab_li (ls := ls) (lfs := r) (by simpa using h)]
  | [], _ :: _, h => by simp at h
  | _ :: _, [], h => by simp at h
theorem relab_mem : ∀ {ls : List LI} {lfs : List Lf} {x : Lf}, LeLIs ls (lfs.map (·.li)) → x ∈ relab ls lfs → ∃ y ∈ lfs, x.v = y.v ∧ x.os = y.os ∧ LeLI x.li y.li
  | _ :: ls, z :: r, x, h, hx => by
    cases h with
    | cons a t =>
      rcases List.mem_cons.1 hx with rfl | hx
      · exact ⟨z, List.mem_cons_self, rfl, rfl, a⟩
      · obtain ⟨y, hy, g⟩ := relab_mem t hx
        exact ⟨y, List.mem_cons_of_mem _ hy, g⟩
  | [], _, _, _, hx => by simp [relab] at hx
  | _ :: _, [], _, _, hx => by simp [relab] at hx
theorem relab_append : ∀ {l1 l2 : List LI} {m1 m2 : List Lf}, l1.length = m1.length → relab (l1 ++ l2) (m1 ++ m2) = relab l1 m1 ++ relab l2 m2
  | [], _, [], _, _ => rfl
  | _ :: l1, l2, _ :: m1, m2, h => by simp [relab, relab_append (l1 := l1) (l2 := l2) (m1 := m1) (m2 := m2) (by simpa using h)]
  | [], _, _ :: _, _, h => by simp at h
  | _ :: _, _, [], _, h => by simp at h

theorem TupOk.relab {Ty : Nat → TyK} {w : World} : ∀ {parts' parts : List (Bool × List LK × List LI)} {vs : List Value} {ps : List PV} {lfs : List Lf}, leParts parts' parts = true → TupOk Ty w parts vs ps lfs →
    LeLIs (parts'.flatMap (·.2.2)) (lfs.map (·.li)) ∧ TupOk Ty w parts' vs ps (Pm.relab (parts'.flatMap (·.2.2)) lfs)
  | [], [], _, _, _, _, .nil => ⟨.nil, .nil⟩
  | [], _ :: _, _, _, _, h, _ => by simp [leParts] at h
  | _ :: _, [], _, _, _, h, _ => by simp [leParts] at h
  | x :: r, y :: s, _, _, _, h, .cons (lfs := lfs) (rest := rest) h1 hl t => by
    simp only [leParts] at h
    split at h
    · rename_i g1 g2 g3
      have e1 := eqB_eq g1
      have e2 := eqLKs_eq g2
      have e3 := leLIs_ok g3
      obtain ⟨k1, k2⟩ := TupOk.relab h t
      have e4 : LeLIs x.2.2 (lfs.map (·.li)) := by rw [hl]; exact e3
      have hn : x.2.2.length = lfs.length := by have := e4.len; simpa using this
      rw [List.flatMap_cons, List.map_append, relab_append hn]
      refine ⟨e4.append k1, ?_⟩
      obtain ⟨x1, x2, x3⟩ := x
      simp only at e1 e2 hn ⊢
      subst e1; subst e2
      exact .cons (by rw [relab_v hn, relab_os hn]; exact h1) (relab_li hn) k2
    · cases h

theorem EntOk.relab {Ty : Nat → TyK} {β : Nat → Nat} {w : World} {v : Value} {e : Ent} {s s' : SI} {lfs : List Lf} (h : EntOk Ty β w v e s lfs) (hs : leSI s' s = true) :
    LeLIs (lisOf s' lfs.length) (lfs.map (·.li)) ∧ EntOk Ty β w v e s' (Pm.relab (lisOf s' lfs.length) lfs) := by
  cases h with
  | @val agg ks ls v p lfs h hl =>
    cases s' <;> simp only [leSI] at hs <;> try cases hs
    split at hs
    · rename_i g1 g2
      have := eqB_eq g1; subst this
      have := eqLKs_eq g2; subst this
      have e := leLIs_ok hs
      rw [← hl] at e
      have hn := by have := e.len; simpa using this
      exact ⟨e, .val (by simp only [lisOf]; rw [relab_v hn, relab_os hn]; exact h) (relab_li hn)⟩
    · cases hs
  | tup h =>
    cases s' <;> simp only [leSI] at hs <;> try cases hs
    obtain ⟨k1, k2⟩ := h.relab hs
    exact ⟨k1, .tup k2⟩
  | avar =>
    cases s' <;> simp only [leSI] at hs <;> try cases hs
    split at hs
    · rename_i g1
      have := beq_eq.1 g1; subst this
      have := beq_eq.1 hs; subst this
      exact ⟨.nil, .avar⟩
    · cases hs
  | @aelem ks li off b o i cells lfs row hrow hr h hl =>
    cases s' <;> simp only [leSI] at hs <;> try cases hs
    rename_i ks' li' off'
    split at hs
    · rename_i g1 g2
      have := eqLKs_eq g1; subst this
      have := beq_eq.1 g2; subst this
      have e := leLI_ok hs
      have e0 : LeLI (⟨li'.tag, li'.dt, false, li'.lin, li'.id⟩ : LI) row.li := by rw [hrow.li]; exact ⟨e.tag, e.dt, fun h => h, e.lin, e.id⟩
      have e1 : LeLIs (List.replicate lfs.length (⟨li'.dt, li'.dt, false, li'.lin, 0⟩ : LI)) (lfs.map (·.li)) := by
        rw [List.eq_replicate_iff.2 ⟨List.length_map _, fun x hx => by obtain ⟨y, hy, rfl⟩ := List.mem_map.1 hx; exact hl y hy⟩]
        exact LeLIs.rep (x := ⟨li'.dt, li'.dt, false, li'.lin, 0⟩) (y := ⟨li.dt, li.dt, false, li.lin, 0⟩) ⟨e.dt, e.dt, fun h => h, e.lin, fun h => absurd rfl h⟩ _
      have hn : (List.replicate lfs.length (⟨li'.dt, li'.dt, false, li'.lin, 0⟩ : LI)).length = lfs.length := by simp
      refine ⟨by simpa [lisOf] using LeLIs.cons e0 e1, ?_⟩
      simp only [lisOf, List.length_cons, Nat.add_sub_cancel, Pm.relab]
      exact .aelem ⟨hrow.v, hrow.os, rfl⟩ (by rw [relab_v hn]; exact hr) (by rw [relab_v hn, relab_os hn]; exact h) (fun x hx => by
        have : x.li ∈ (Pm.relab (List.replicate lfs.length (⟨li'.dt, li'.dt, false, li'.lin, 0⟩ : LI)) lfs).map (·.li) := List.mem_map.2 ⟨x, hx, rfl⟩
        rw [relab_li hn] at this
        exact List.eq_of_mem_replicate this)
    · cases hs
  | @velem agg ks li size off b o i v p lfs row hrow hoff hr h hl =>
    cases s' <;> simp only [leSI] at hs <;> try cases hs
    rename_i agg' ks' li' size' off'
    split at hs
    · rename_i g0 g1 g2 g3
      have := eqB_eq g0; subst this
      have := eqLKs_eq g1; subst this
      have := beq_eq.1 g2; subst this
      have := beq_eq.1 g3; subst this
      have e := leLI_ok hs
      have e0 : LeLI (⟨li'.tag, li'.dt, false, li'.lin, li'.id⟩ : LI) row.li := by rw [hrow.li]; exact ⟨e.tag, e.dt, fun h => h, e.lin, e.id⟩
      have e1 : LeLIs (List.replicate lfs.length (⟨li'.dt, li'.dt, false, li'.lin, 0⟩ : LI)) (lfs.map (·.li)) := by
        rw [List.eq_replicate_iff.2 ⟨List.length_map _, fun x hx => by obtain ⟨y, hy, rfl⟩ := List.mem_map.1 hx; exact hl y hy⟩]
        exact LeLIs.rep (x := ⟨li'.dt, li'.dt, false, li'.lin, 0⟩) (y := ⟨li.dt, li.dt, false, li.lin, 0⟩) ⟨e.dt, e.dt, fun h => h, e.lin, fun h => absurd rfl h⟩ _
      have hn : (List.replicate lfs.length (⟨li'.dt, li'.dt, false, li'.lin, 0⟩ : LI)).length = lfs.length := by simp
      refine ⟨by simpa [lisOf] using LeLIs.cons e0 e1, ?_⟩
      simp only [lisOf, List.length_cons, Nat.add_sub_cancel, Pm.relab]
      exact .velem ⟨hrow.v, hrow.os, rfl⟩ hoff (by rw [relab_v hn]; exact hr) (by rw [relab_v hn, relab_os hn]; exact h) (fun x hx => by
        have : x.li ∈ (Pm.relab (List.replicate lfs.length (⟨li'.dt, li'.dt, false, li'.lin, 0⟩ : LI)) lfs).map (·.li) := List.mem_map.2 ⟨x, hx, rfl⟩
        rw [relab_li hn] at this
        exact List.eq_of_mem_replicate this)
    · cases hs
  | glob =>
    cases s' <;> simp only [leSI] at hs <;> try cases hs
    have := beq_eq.1 hs; subst this
    exact ⟨.nil, .glob⟩

theorem leSlots_ok {t : List (Nat × SI)} : ∀ {l : List (Nat × SI)}, leSlots t l = true → ∀ {d : Nat} {s' : SI}, lk d l = some s' → ∃ s, lk d t = some s ∧ leSI s' s = true
  | [], _, _, _, h => by simp [lk] at h
  | (j, x) :: r, h, d, s', hl => by
    simp only [leSlots] at h
    split at h
    · rename_i s hs
      split at h
      · rename_i hle
        simp only [lk] at hl
        cases hb : Nat.beq j d with
        | true =>
          have := beq_eq.1 hb; subst this
          simp at hl
          subst hl
          exact ⟨s, hs, hle⟩
        | false =>
          simp only [hb] at hl
          exact leSlots_ok h hl
      · cases h
    · cases h
theorem leVars_ok {t : List (Nat × (List LK × List LI))} : ∀ {l : List (Nat × (List LK × List LI))}, leVars t l = true → ∀ {d : Nat} {s' : List LK × List LI}, lk d l = some s' → ∃ s, lk d t = some s ∧ s'.1 = s.1 ∧ LeLIs s'.2 s.2
  | [], _, _, _, h => by simp [lk] at h
  | (j, x) :: r, h, d, s', hl => by
    simp only [leVars] at h
    split at h
    · rename_i s hs
      split at h
      · rename_i h1 h2
        simp only [lk] at hl
        cases hb : Nat.beq j d with
        | true =>
          have := beq_eq.1 hb; subst this
          simp at hl
          subst hl
          exact ⟨s, hs, eqLKs_eq h1, leLIs_ok h2⟩
        | false =>
          simp only [hb] at hl
          exact leVars_ok h hl
      · cases h
    · cases h

def Wit.weak (u : Wit) (σ : SG) : Wit :=
  { u with
    LF := fun d => match lk d σ.slots with | some s => relab (lisOf s (u.LF d).length) (u.LF d) | none => u.LF d
    LV := fun k => match lk k σ.vars with | some s => relab s.2 (u.LV k) | none => u.LV k }

/-- The checker may tell less. -/
theorem Rel.weak {f : Fix} {u : Wit} {st : St} {σ σ' : SG} {a : Act} {w : World} (h : Rel f u st σ a w) (hle : leSG σ' σ = true) : Rel f (u.weak σ') st σ' a w := by
  unfold leSG at hle
  split at hle
  · rename_i hs
    have same : ∀ {ls : List LI} {lfs : List Lf}, LeLIs ls (lfs.map (·.li)) → (∀ y ∈ lfs, Live u st σ y) → ∀ x ∈ relab ls lfs, Same u st σ x := fun hl hv x hx => by
      obtain ⟨y, hy, g1, g2, g3⟩ := relab_mem hl hx
      exact ⟨⟨y, hv y hy, g1, g2, g3.tag, g3.dt, g3.id, g3.lin, g3.own⟩⟩
    refine h.reread (T := []) (by simp) ⟨fun _ _ _ => rfl, fun _ ht => (by cases ht), Nat.le_refl _, rfl, rfl, rfl⟩ rfl rfl rfl (fun d e s' h1 h2 => .inr ?_) (fun k c s' h1 h2 => ?_)
    · obtain ⟨s, g1, g2⟩ := leSlots_ok hs h2
      obtain ⟨k1, k2⟩ := h.slot d e s h1 g1
      obtain ⟨k3, k4⟩ := k2.relab g2
      simp only [Wit.weak, h2]
      exact ⟨k1, k4, same k3 fun y hy => .inl ⟨d, e, s, h1, g1, hy⟩⟩
    · obtain ⟨s, g1, g2, g3⟩ := leVars_ok hle h2
      obtain ⟨el, cur, k1, k2, k3, k4⟩ := h.var k c s h1 g1
      rw [← k4] at g3
      have hn : s'.2.length = (u.LV k).length := by have := g3.len; simpa using this
      refine ⟨c, s, h1, g1, .inr ?_⟩
      simp only [Wit.weak, h2]
      exact ⟨⟨el, cur, k1, by rw [relab_v hn]; exact k2, by rw [relab_v hn, relab_os hn, g2]; exact k3, relab_li hn⟩, same g3 fun y hy => .inr ⟨k, c, s, h1, g1, hy⟩⟩
  · cases hle
end Go.Pm
