/-
  The leaves of a slot get names.
-/
import Derived.Test.YtokpfnfmoakojaaPmFunc
namespace Go.Pm
open Go

theorem clrL_le (n m : Nat) (x : LI) : leLI (clrL n m x) x = true := by
  have hi : ∀ b : Bool, impB b b = true := fun b => by cases b <;> rfl
  unfold clrL
  cases inN n m x.id with
  | true => simp [leLI, Nat.beq_refl, hi]
  | false => unfold leLI; simp only [Nat.beq_refl, hi]; cases Nat.beq x.id 0 <;> rfl
theorem clrLs_le (n m : Nat) : ∀ l : List LI, leLIs (l.map (clrL n m)) l = true
  | [] => rfl
  | x :: r => by simp [leLIs, clrL_le, clrLs_le n m r]
theorem eqB_refl (b : Bool) : eqB b b = true := by cases b <;> rfl
theorem eqLK_refl (k : LK) : eqLK k k = true := by cases k <;> simp [eqLK, sameKind_refl, Nat.beq_refl]
theorem eqLKs_refl : ∀ ks : List LK, eqLKs ks ks = true
  | [] => rfl
  | k :: r => by simp [eqLKs, eqLK_refl, eqLKs_refl r]
theorem clrPs_le (n m : Nat) : ∀ l : List (Bool × List LK × List LI), leParts (l.map (clrP n m)) l = true
  | [] => rfl
  | x :: r => by simp [leParts, clrP, eqB_refl, eqLKs_refl, clrLs_le, clrPs_le n m r]
theorem clrSI_le (n m : Nat) (s : SI) : leSI (clrSI n m s) s = true := by
  cases s <;> simp [clrSI, leSI, eqB_refl, eqLKs_refl, clrLs_le, clrPs_le, clrL_le, Nat.beq_refl]
theorem clrL_id (n m : Nat) (x : LI) : (clrL n m x).id = 0 ∨ inN n m (clrL n m x).id = false := by
  unfold clrL
  cases h : inN n m x.id with
  | true => exact .inl rfl
  | false => exact .inr h
theorem lisOf_clr (n m : Nat) (s : SI) (k : Nat) : ∀ li ∈ lisOf (clrSI n m s) k, li.id = 0 ∨ inN n m li.id = false := by
  intro li hli
  cases s with
  | val a k' l =>
    simp only [clrSI, lisOf] at hli
    obtain ⟨x, _, rfl⟩ := List.mem_map.1 hli
    exact clrL_id n m x
  | tup l =>
    simp only [clrSI, lisOf] at hli
    obtain ⟨p, hp, hx⟩ := List.mem_flatMap.1 hli
    obtain ⟨q, _, rfl⟩ := List.mem_map.1 hp
    obtain ⟨x, _, rfl⟩ := List.mem_map.1 hx
    exact clrL_id n m x
  | avar => simp [clrSI, lisOf] at hli
  | aelem k' l o =>
    simp only [clrSI, lisOf] at hli
    rcases List.mem_cons.1 hli with rfl | hli
    · exact clrL_id n m l
    · exact .inl (by rw [List.eq_of_mem_replicate hli])
  | velem a k' l z o =>
    simp only [clrSI, lisOf] at hli
    rcases List.mem_cons.1 hli with rfl | hli
    · exact clrL_id n m l
    · exact .inl (by rw [List.eq_of_mem_replicate hli])
  | glob => simp [clrSI, lisOf] at hli
theorem relab_li_mem : ∀ {ls : List LI} {lfs : List Lf} {x : Lf}, x ∈ relab ls lfs → x.li ∈ ls
  | [], _, _, h => by simp [relab] at h
  | _ :: _, [], _, h => by simp [relab] at h
  | li :: ls, y :: r, x, h => by
    rcases List.mem_cons.1 h with rfl | h
    · exact List.mem_cons_self
    · exact List.mem_cons_of_mem _ (relab_li_mem h)
theorem numLI_len : ∀ (n : Nat) (l : List LI), (numLI n l).length = l.length
  | _, [] => rfl
  | n, _ :: r => by simp [numLI, numLI_len (n + 1) r]
theorem num_mem : ∀ {n : Nat} {lfs : List Lf} {x : Lf}, x ∈ relab (numLI n (lfs.map (·.li))) lfs →
    ∃ j y, lfs[j]? = some y ∧ x.v = y.v ∧ x.os = y.os ∧ x.li = ⟨y.li.tag, y.li.dt, y.li.own, y.li.lin, n + j⟩
  | _, [], _, h => by simp [relab, numLI] at h
  | n, y :: r, x, h => by
    simp only [List.map_cons, numLI, relab] at h
    rcases List.mem_cons.1 h with rfl | h
    · exact ⟨0, y, rfl, rfl, rfl, rfl⟩
    · obtain ⟨j, z, h1, h2, h3, h4⟩ := num_mem h
      exact ⟨j + 1, z, by simpa using h1, h2, h3, by rw [h4]; congr 1; omega⟩

def Wit.name (u : Wit) (n d : Nat) (σ : SG) : Wit :=
  { u with
    LF := fun d' => match lk d' (nameSlot n d σ).slots with | some s => relab (lisOf s (u.LF d').length) (u.LF d') | none => u.LF d'
    LV := fun k => match lk k (nameSlot n d σ).vars with | some s => relab s.2 (u.LV k) | none => u.LV k
    G := fun i => match inN n (n + (u.LF d).length) i with
      | true => match (u.LF d)[i - n]? with | some x => (x.v, x.os) | none => u.G i
      | false => u.G i }

theorem Rel.name {f : Fix} {u : Wit} {st : St} {σ : SG} {a : Act} {w : World} (h : Rel f u st σ a w) (n d : Nat) (hn65 : 65 ≤ n) : ∃ u', Rel f u' st (nameSlot n d σ) a w := by
  cases hd : lk d st.env with
  | none =>
    -- the slot is not held: the names are forgotten, no more
    cases hs : lk d σ.slots with
    | none => exact ⟨u, by unfold nameSlot; rw [hs]; exact h⟩
    | some s =>
      cases s <;> try (exact ⟨u, by unfold nameSlot; rw [hs]; exact h⟩)
      rename_i ag ks ls
      have hns : nameSlot n d σ = { (clrSG n (n + ls.length) σ) with slots := up d (.val ag ks (numLI n ls)) (clrSG n (n + ls.length) σ).slots } := by unfold nameSlot; rw [hs]
      refine ⟨{ u with LF := fun d' => match lk d' σ.slots with | some s => relab (lisOf (clrSI n (n + ls.length) s) (u.LF d').length) (u.LF d') | none => u.LF d', LV := fun k => match lk k σ.vars with | some s => relab (s.2.map (clrL n (n + ls.length))) (u.LV k) | none => u.LV k }, ?_⟩
      have same : ∀ {l : List LI} {lfs : List Lf}, LeLIs l (lfs.map (·.li)) → (∀ y ∈ lfs, Live u st σ y) → ∀ x ∈ relab l lfs, Same u st σ x := fun hl hv x hx => by
        obtain ⟨y, hy, g1, g2, g3⟩ := relab_mem hl hx
        exact ⟨⟨y, hv y hy, g1, g2, g3.tag, g3.dt, g3.id, g3.lin, g3.own⟩⟩
      refine h.reread (T := []) (by simp) ⟨fun _ _ _ => rfl, fun _ ht => (by cases ht), Nat.le_refl _, rfl, rfl, rfl⟩ rfl rfl rfl (fun d' e s' h1 h2 => .inr ?_) (fun k c s' h1 h2 => ?_)
      · rw [hns] at h2
        simp only at h2
        have hne : d' ≠ d := fun e => by subst e; rw [hd] at h1; cases h1
        rw [lk_up_other _ hne] at h2
        simp only [clrSG, lk_mapV, Option.map_eq_some_iff] at h2
        obtain ⟨s, g1, rfl⟩ := h2
        obtain ⟨k1, k2⟩ := h.slot d' e s h1 g1
        obtain ⟨k3, k4⟩ := k2.relab (clrSI_le n (n + ls.length) s)
        simp only [g1]
        exact ⟨k1, k4, same k3 fun y hy => .inl ⟨d', e, s, h1, g1, hy⟩⟩
      · rw [hns] at h2
        simp only [clrSG, lk_mapV, Option.map_eq_some_iff] at h2
        obtain ⟨s, g1, rfl⟩ := h2
        obtain ⟨el, cur, k1, k2, k3, k4⟩ := h.var k c s h1 g1
        have g3 := leLIs_ok (clrLs_le n (n + ls.length) s.2)
        have hn : (s.2.map (clrL n (n + ls.length))).length = (u.LV k).length := by rw [← k4]; simp
        rw [← k4] at g3
        refine ⟨c, s, h1, g1, .inr ?_⟩
        simp only [g1]
        exact ⟨⟨el, cur, k1, by rw [relab_v hn]; exact k2, by rw [relab_v hn, relab_os hn]; exact k3, relab_li hn⟩, same (by rw [← k4]; exact g3) fun y hy => .inr ⟨k, c, s, h1, g1, hy⟩⟩
  | some e0 =>
    cases hs : lk d σ.slots with
    | none => exact ⟨u, by unfold nameSlot; rw [hs]; exact h⟩
    | some s =>
      cases s <;> try (exact ⟨u, by unfold nameSlot; rw [hs]; exact h⟩)
      rename_i ag ks ls
      obtain ⟨j1, j2⟩ := h.slot d _ _ hd hs
      obtain ⟨p0, rfl, j3, j4⟩ := j2.isVal
      have hlen : ls.length = (u.LF d).length := by rw [← j4]; simp
      have hns : nameSlot n d σ = { (clrSG n (n + ls.length) σ) with slots := up d (.val ag ks (numLI n ls)) (clrSG n (n + ls.length) σ).slots } := by unfold nameSlot; rw [hs]
      have cont : ∀ {l : List LI} {lfs : List Lf}, LeLIs l (lfs.map (·.li)) → (∀ y ∈ lfs, Live u st σ y) → (∀ li ∈ l, li.id = 0 ∨ inN n (n + ls.length) li.id = false) → ∀ x ∈ relab l lfs, Cont u (u.name n d σ) st σ x := fun hl hv hid x hx => by
        obtain ⟨y, hy, g1, g2, g3⟩ := relab_mem hl hx
        have hy' := hv y hy
        refine ⟨fun p hp => ⟨y, hy', p, ?_, rfl, rfl, Nat.le_refl _⟩, fun hl => by rw [g2]; exact (h.leaf y hy').lin (g3.lin hl), fun ho => ⟨y, hy', g3.own ho, g3.tag, g1, by rw [g2]⟩, fun hi => ?_⟩
        · unfold Lf.tq at hp ⊢
          rw [← g2, ← g3.tag, ← g3.dt]; exact hp
        · rcases hid x.li (relab_li_mem hx) with e | e
          · exact absurd e hi
          · simp only [Wit.name, ← hlen, e]
            rw [g3.id hi, g1, g2]
            exact (h.leaf y hy').name (by rw [← g3.id hi]; exact hi)
      refine ⟨u.name n d σ, h.redo (T := []) (by simp) ⟨fun _ _ _ => rfl, fun _ ht => (by cases ht), Nat.le_refl _, rfl, rfl, rfl⟩ rfl rfl (fun i hi => by
        have : inN n (n + (u.LF d).length) i = false := by
          unfold inN
          cases hb : Nat.ble n i with
          | false => rfl
          | true => have := Nat.ble_eq.mp hb; omega
        simp only [Wit.name, this]) (fun d' e s' h1 h2 => .inr ?_) (fun k c s' h1 h2 => ?_)⟩
      · have h2' := h2
        rw [hns] at h2
        simp only at h2
        by_cases hne : d' = d
        · subst hne
          rw [lk_up_same] at h2
          cases h2
          rw [hd] at h1
          cases h1
          have hn : (numLI n ls).length = (u.LF d').length := by rw [numLI_len]; exact hlen
          have hF : (u.name n d' σ).LF d' = relab (numLI n ls) (u.LF d') := by simp only [Wit.name, h2', lisOf]
          rw [hF]
          refine ⟨j1, .val (by rw [relab_v hn, relab_os hn]; exact j3) (relab_li hn), fun x hx => ?_⟩
          rw [← j4] at hx
          obtain ⟨j, y, g1, g2, g3, g4⟩ := num_mem hx
          have hyl : Live u st σ y := .inl ⟨d', _, _, hd, hs, List.mem_of_getElem? g1⟩
          refine ⟨fun p hp => ⟨y, hyl, p, ?_, rfl, rfl, Nat.le_refl _⟩, fun hl => by rw [g3]; exact (h.leaf y hyl).lin (by rw [g4] at hl; exact hl), fun ho => ⟨y, hyl, by rw [g4] at ho; exact ho, by rw [g4], g2, by rw [g3]⟩, fun _ => ?_⟩
          · unfold Lf.tq at hp ⊢
            rw [g3, g4] at hp; exact hp
          · have hjl := (List.getElem?_eq_some_iff.1 g1).1
            have hin : inN n (n + (u.LF d').length) (n + j) = true := by
              unfold inN
              rw [Nat.ble_eq.mpr (by omega), Nat.blt_eq.mpr (by omega)]
            simp only [Wit.name, g4, hin, Nat.add_sub_cancel_left, g1]
            rw [g2, g3]
        · rw [lk_up_other _ hne] at h2
          simp only [clrSG, lk_mapV, Option.map_eq_some_iff] at h2
          obtain ⟨s, g1, rfl⟩ := h2
          obtain ⟨k1, k2⟩ := h.slot d' e s h1 g1
          obtain ⟨k3, k4⟩ := k2.relab (clrSI_le n (n + ls.length) s)
          have hF : (u.name n d σ).LF d' = relab (lisOf (clrSI n (n + ls.length) s) (u.LF d').length) (u.LF d') := by simp only [Wit.name, h2']
          rw [hF]
          exact ⟨k1, k4, cont k3 (fun y hy => .inl ⟨d', e, s, h1, g1, hy⟩) (lisOf_clr n _ s _)⟩
      · have h2' := h2
        rw [hns] at h2
        simp only [clrSG, lk_mapV, Option.map_eq_some_iff] at h2
        obtain ⟨s, g1, rfl⟩ := h2
        obtain ⟨el, cur, k1, k2, k3, k4⟩ := h.var k c s h1 g1
        have g3 := leLIs_ok (clrLs_le n (n + ls.length) s.2)
        have hn : (s.2.map (clrL n (n + ls.length))).length = (u.LV k).length := by rw [← k4]; simp
        rw [← k4] at g3
        have hF : (u.name n d σ).LV k = relab (s.2.map (clrL n (n + ls.length))) (u.LV k) := by simp only [Wit.name, h2']
        refine ⟨c, s, h1, g1, .inr ?_⟩
        rw [hF]
        refine ⟨⟨el, cur, k1, by rw [relab_v hn]; exact k2, by rw [relab_v hn, relab_os hn]; exact k3, relab_li hn⟩, cont (by rw [← k4]; exact g3) (fun y hy => .inr ⟨k, c, s, h1, g1, hy⟩) fun li hli => ?_⟩
        obtain ⟨x, _, rfl⟩ := List.mem_map.1 hli
        exact clrL_id n _ x
end Go.Pm
