/-
  Leaves at a place of the frame are read anew, behind a write to blocks that they alone lead to.
-/
import Derived.Test.YtokpfnfmoakojaaPmWeak
namespace Go.Pm
open Go

theorem liFree_ok {T : List Nat} {x : LI} (h : liFree T x = true) : x.tag ∉ T ∧ x.dt ∉ T := by
  unfold liFree at h
  cases h1 : memN x.tag T with
  | true => simp [h1] at h
  | false =>
    cases h2 : memN x.dt T with
    | true => simp [h1, h2] at h
    | false => exact ⟨fun hm => (by rw [memN_iff.2 hm] at h1; cases h1), fun hm => (by rw [memN_iff.2 hm] at h2; cases h2)⟩
theorem allFree_ok {T : List Nat} : ∀ {l : List LI}, allFree T l = true → ∀ x ∈ l, x.tag ∉ T ∧ x.dt ∉ T
  | [], _, _, hx => by cases hx
  | y :: r, h, x, hx => by
    simp only [allFree] at h
    split at h
    · rename_i hy
      rcases List.mem_cons.1 hx with rfl | hx
      · exact liFree_ok hy
      · exact allFree_ok h x hx
    · cases h
theorem TupOk.free {Ty : Nat → TyK} {w : World} {T : List Nat} : ∀ {parts : List (Bool × List LK × List LI)} {vs : List Value} {ps : List PV} {lfs : List Lf}, partsFree T parts = true → TupOk Ty w parts vs ps lfs → ∀ x ∈ lfs, x.li.tag ∉ T ∧ x.li.dt ∉ T
  | [], _, _, _, _, .nil, x, hx => by cases hx
  | y :: r, _, _, _, h, .cons (lfs := lfs) h1 hl t, x, hx => by
    simp only [partsFree] at h
    split at h
    · rename_i hy
      rcases List.mem_append.1 hx with hx | hx
      · exact allFree_ok hy x.li (by rw [← hl]; exact List.mem_map.2 ⟨x, hx, rfl⟩)
      · exact t.free h x hx
    · cases h
theorem EntOk.free {Ty : Nat → TyK} {β : Nat → Nat} {w : World} {T : List Nat} {v : Value} {e : Ent} {s : SI} {lfs : List Lf} (h : EntOk Ty β w v e s lfs) (hs : siFree T s = true) : ∀ x ∈ lfs, x.li.tag ∉ T ∧ x.li.dt ∉ T := by
  intro x hx
  cases h with
  | val h hl => exact allFree_ok hs x.li (by rw [← hl]; exact List.mem_map.2 ⟨x, hx, rfl⟩)
  | tup h => exact h.free hs x hx
  | avar => cases hx
  | aelem hrow hr h hl =>
    obtain ⟨g1, g2⟩ := liFree_ok hs
    rcases List.mem_cons.1 hx with rfl | hx
    · rw [hrow.li]; exact ⟨g1, g2⟩
    · rw [hl x hx]; exact ⟨g2, g2⟩
  | velem hrow hoff hr h hl =>
    obtain ⟨g1, g2⟩ := liFree_ok hs
    rcases List.mem_cons.1 hx with rfl | hx
    · rw [hrow.li]; exact ⟨g1, g2⟩
    · rw [hl x hx]; exact ⟨g2, g2⟩
  | glob => cases hx
theorem badS_mem {T : List Nat} {d : Nat} {s : SI} (hs : siFree T s = false) : ∀ {l : List (Nat × SI)}, lk d l = some s → memN d (badS T l) = true
  | [], h => by simp [lk] at h
  | (j, x) :: r, h => by
    simp only [lk] at h
    cases hb : Nat.beq j d with
    | true =>
      simp [hb] at h
      subst h
      simp [badS, hs, memN_cons, hb]
    | false =>
      simp only [hb] at h
      have ih := badS_mem hs h
      simp only [badS]
      cases siFree T x with
      | true => exact ih
      | false => simp only; rw [memN_cons, hb]; exact ih
theorem badV_mem {T : List Nat} {d : Nat} {s : List LK × List LI} (hs : allFree T s.2 = false) : ∀ {l : List (Nat × (List LK × List LI))}, lk d l = some s → memN d (badV T l) = true
  | [], h => by simp [lk] at h
  | (j, x) :: r, h => by
    simp only [lk] at h
    cases hb : Nat.beq j d with
    | true =>
      simp [hb] at h
      subst h
      simp [badV, hs, memN_cons, hb]
    | false =>
      simp only [hb] at h
      have ih := badV_mem hs h
      simp only [badV]
      cases allFree T x.2 with
      | true => exact ih
      | false => simp only; rw [memN_cons, hb]; exact ih
theorem dropT_slot {T : List Nat} {σ : SG} {d : Nat} {s : SI} (h : lk d (dropT T σ).slots = some s) : lk d σ.slots = some s ∧ siFree T s = true := by
  simp only [dropT, lk_dlAll] at h
  split at h
  · cases h
  · rename_i hm
    refine ⟨h, ?_⟩
    cases hs : siFree T s with
    | true => rfl
    | false => exact absurd (badS_mem hs h) hm
theorem dropT_var {T : List Nat} {σ : SG} {d : Nat} {s : List LK × List LI} (h : lk d (dropT T σ).vars = some s) : lk d σ.vars = some s ∧ allFree T s.2 = true := by
  simp only [dropT, lk_dlAll] at h
  split at h
  · cases h
  · rename_i hm
    refine ⟨h, ?_⟩
    cases hs : allFree T s.2 with
    | true => rfl
    | false => exact absurd (badV_mem hs h) hm

theorem RdL.splice {Ty : Nat → TyK} {w w' : World} {ks : List LK} {vs : List Value} {ps : List PV} {oss oss1 : List (List (Nat × Nat))} (h : RdL Ty w ks vs ps oss) {off n : Nat} {cells : List PV}
    (hm : RdL Ty w' ((ks.drop off).take n) ((vs.drop off).take n) cells oss1) (h1 : SameOn w w' (oss.take off).flatten) (h2 : SameOn w w' (oss.drop (off + n)).flatten) :
    RdL Ty w' ks vs (ps.take off ++ cells ++ ps.drop (off + n)) (oss.take off ++ oss1 ++ oss.drop (off + n)) := by
  have e : ∀ {α : Type} (l : List α), l.take off ++ (l.drop off).take n ++ l.drop (off + n) = l := fun l => by
    rw [← List.drop_drop, List.append_assoc, List.take_append_drop, List.take_append_drop]
  have := (((h.take off).frame h1).append hm).append ((h.drop (off + n)).frame h2)
  rwa [e, e] at this

/-- The leaves at a place, and their kinds. -/
def midAt (u : Wit) (p : Place) (n : Nat) : List Lf :=
  match p with
  | .slot s off => ((u.LF s).drop off).take n
  | .var k off => ((u.LV k).drop off).take n
theorem likeCells_eq {agg : Bool} {p : PV} {cs : List PV} (h : match agg with | true => ∃ l, p = .agg l | false => ∀ l, p ≠ .agg l) (hc : agg = false → ∃ c, cs = [c] ∧ ∀ l, c ≠ .agg l) :
    cellsOf (likeCells p cs) = cs ∧ match agg with | true => ∃ l, likeCells p cs = .agg l | false => ∀ l, likeCells p cs ≠ .agg l := by
  cases agg with
  | true =>
    obtain ⟨l, rfl⟩ := h
    exact ⟨rfl, _, rfl⟩
  | false =>
    obtain ⟨c, rfl, hn⟩ := hc rfl
    have : likeCells p [c] = c := by
      cases p <;> first | rfl | exact absurd rfl (h _)
    rw [this]
    exact ⟨cellsOf_ne hn, hn⟩

theorem same_live {u : Wit} {st : St} {σ : SG} {x : Lf} (hx : Live u st σ x) : Same u st σ x :=
  ⟨⟨x, hx, rfl, rfl, rfl, rfl, fun _ => rfl, fun h => h, fun h => h⟩⟩
theorem splitFree_ok {T : List Nat} {ls : List LI} {off n : Nat} (h : splitFree T ls off n = true) : (∀ x ∈ ls.take off, x.tag ∉ T ∧ x.dt ∉ T) ∧ (∀ x ∈ ls.drop (off + n), x.tag ∉ T ∧ x.dt ∉ T) ∧ off + n ≤ ls.length := by
  unfold splitFree at h
  split at h
  · rename_i h1 h2
    exact ⟨allFree_ok h1, allFree_ok h2, Nat.ble_eq.mp h⟩
  · cases h

theorem Rel.sameOn {f : Fix} {u : Wit} {st : St} {σ : SG} {a : Act} {w w' : World} (h : Rel f u st σ a w) {T : List Nat} (hw : WroteIn u T w w') {l : List Lf} (hl : ∀ x ∈ l, Live u st σ x) (hf : ∀ x ∈ l, x.li.tag ∉ T ∧ x.li.dt ∉ T) : SameOn w w' (l.map (·.os)).flatten := fun q hq j _ => by
  obtain ⟨m, hm1, hm2⟩ := List.mem_flatten.1 hq
  obtain ⟨x, hx, rfl⟩ := List.mem_map.1 hm1
  obtain ⟨t, ht⟩ := tq_mem hm2
  have hS := (h.leaf x (hl x hx)).tag _ ht
  have htag : t = x.li.tag ∨ t = x.li.dt := by
    unfold Lf.tq at ht
    cases hx : x.os with
    | nil => rw [hx] at ht; cases ht
    | cons a r =>
      rw [hx] at ht
      rcases List.mem_cons.1 ht with e | ht
      · cases e; exact .inl rfl
      · obtain ⟨z, _, e⟩ := List.mem_map.1 ht; cases e; exact .inr rfl
  have hT : t ∉ T := by
    rcases htag with rfl | rfl
    · exact (hf x hx).1
    · exact (hf x hx).2
  exact cell_of_block (hw.block q.1 (h.inW t _ hS) fun t' ht' hb' => h.apart t' t _ (fun e => hT (e ▸ ht')) hb' hS)

def Wit.setG (u : Wit) (G : Nat → Value × List (Nat × Nat)) : Wit := { u with G := G }
theorem cutL {α : Type} (l : List α) (off : Nat) (m : List α) (h : off + m.length ≤ l.length) : (l.take off ++ m ++ l.drop (off + m.length)).length = l.length := by simp; omega

theorem Rel.mutL {f : Fix} {u : Wit} {st st' : St} {σ σ' : SG} {a : Act} {w w' : World} (h : Rel f u st σ a w) {T : List Nat} (hw : WroteIn u T w w') {p : Place} {nl : List Lf} {cells : List PV} {G : Nat → Value × List (Nat × Nat)}
    (hc : cMutL σ p (nl.map (·.li)) T = some σ') (hp : putAt st p cells = some st') (hv : nl.map (·.v) = (midAt u p nl.length).map (·.v)) (hr : RdL f.Ty w' (ksAt σ p nl.length) (nl.map (·.v)) cells (nl.map (·.os)))
    (hC : ∀ x ∈ nl, Cont u (u.setG G) st σ x) (hG : ∀ x, Live u st σ x → x.li.tag ∉ T → x.li.dt ∉ T → x.li.id ≠ 0 → G x.li.id = u.G x.li.id) (hN : ∀ i, i < 65 → G i = u.G i) : ∃ u', Rel f u' st' σ' a w' := by
  have hold : ∀ x, Live u st σ x → x.li.tag ∉ T ∧ x.li.dt ∉ T → Cont u (u.setG G) st σ x := fun x hx ht =>
    ⟨fun p hp => ⟨x, hx, p, hp, rfl, rfl, Nat.le_refl _⟩, (h.leaf x hx).lin, fun ho => ⟨x, hx, ho, rfl, rfl, rfl⟩, fun e => (hG x hx ht.1 ht.2 e).trans ((h.leaf x hx).name e)⟩
  unfold cMutL at hc
  split at hc
  · cases hc
  · rename_i h0
    have h0 : 0 ∉ T := fun hm => by rw [memN_iff.2 hm] at h0; cases h0
    cases p with
    | slot s off =>
      simp only at hc
      split at hc
      · rename_i agg ks ls hs
        split at hc
        · rename_i lnew hf hov
          cases hc
          rw [List.length_map] at hf
          obtain ⟨f1, f2, f3⟩ := splitFree_ok hf
          simp only [putAt] at hp
          split at hp
          · rename_i v he
            split at hp
            · rename_i cs hcs
              cases hp
              obtain ⟨g1, g2⟩ := h.slot s _ _ he hs
              have hlive : ∀ x ∈ u.LF s, Live u st σ x := fun x hx => .inl ⟨s, _, _, he, hs, hx⟩
              obtain ⟨v', e1, g3, g4⟩ := g2.isVal
              cases e1
              simp only [ksAt, hs] at hr
              simp only [midAt] at hv
              obtain ⟨c1, c2⟩ := over_eq hcs
              obtain ⟨o1, o2⟩ := over_eq hov
              rw [List.length_map] at o1 o2
              have hlen := hr.len
              have hlenL := g3.1.len
              have hls : ls.length = (u.LF s).length := by rw [← g4]; simp
              have hn : cells.length = nl.length := by
                have h1 := hlen.2.1
                have h2 := hlen.1
                rw [List.length_map] at h2
                omega
              rw [hn] at c1
              have hsp := g3.1.splice (w' := w') (off := off) (n := nl.length) (cells := cells) (oss1 := nl.map (·.os)) (by rw [hv] at hr; simpa [List.map_take, List.map_drop] using hr)
                (by rw [← List.map_take]; exact h.sameOn hw (fun x hx => hlive x (List.mem_of_mem_take hx)) fun x hx => f1 x.li (by rw [← g4, ← List.map_take]; exact List.mem_map.2 ⟨x, hx, rfl⟩))
                (by rw [← List.map_drop]; exact h.sameOn hw (fun x hx => hlive x (List.mem_of_mem_drop hx)) fun x hx => f2 x.li (by rw [← g4, ← List.map_drop]; exact List.mem_map.2 ⟨x, hx, rfl⟩))
              rw [← c1] at hsp
              have hlk := likeCells_eq (agg := agg) (p := v) (cs := cs) (by
                  have := g3.2
                  cases agg <;> simp only at this ⊢ <;> exact this.2) (fun ha => by
                subst ha
                have e2 := g3.2.1
                have l1 := hsp.len
                rw [e2] at l1
                cases cs with
                | nil => simp at l1; omega
                | cons c r =>
                  cases r with
                  | nil =>
                    obtain ⟨_, _, p', _, _, _, m3, _, m5⟩ := hsp.get 0 (by simp at l1; omega)
                    simp at m3
                    exact ⟨c, rfl, by rw [m3]; exact m5.notAgg⟩
                  | cons _ _ => simp at l1; omega)
              generalize hnew : (u.LF s).take off ++ nl ++ (u.LF s).drop (off + nl.length) = new
              have hnv : new.map (·.v) = (u.LF s).map (·.v) := by
                rw [← hnew, List.map_append, List.map_append, hv, ← List.drop_drop]
                rw [← List.map_append, ← List.map_append, List.append_assoc, List.take_append_drop, List.take_append_drop]
              have hnos : new.map (·.os) = ((u.LF s).map (·.os)).take off ++ nl.map (·.os) ++ ((u.LF s).map (·.os)).drop (off + nl.length) := by rw [← hnew]; simp
              have hnli : new.map (·.li) = lnew := by rw [o1, ← hnew, ← g4]; simp
              refine ⟨(u.setG G).setF s new, h.redo h0 hw rfl rfl hN (fun d e si k1 k2 => ?_) (fun k c si k1 k2 => ?_)⟩
              · simp only at k1 k2
                by_cases hd : d = s
                · subst hd
                  rw [lk_up_same] at k1 k2
                  cases k1; cases k2
                  refine .inr ⟨g1, ?_, fun x hx => ?_⟩
                  · simp only [Wit.setF, if_pos]
                    refine .val ⟨by rw [hnv, hnos, hlk.1]; exact hsp, ?_⟩ hnli
                    have := g3.2
                    have h2 := hlk.2
                    rw [hnv]
                    cases agg <;> simp only at this h2 ⊢ <;> exact ⟨this.1, h2⟩
                  · simp only [Wit.setF, if_pos] at hx
                    have : Cont u (u.setG G) st σ x := by
                      rw [← hnew] at hx
                      rcases List.mem_append.1 hx with hx | hx
                      · rcases List.mem_append.1 hx with hx | hx
                        · exact hold x (hlive x (List.mem_of_mem_take hx)) (f1 x.li (by rw [← g4, ← List.map_take]; exact List.mem_map.2 ⟨x, hx, rfl⟩))
                        · exact hC x hx
                      · exact hold x (hlive x (List.mem_of_mem_drop hx)) (f2 x.li (by rw [← g4, ← List.map_drop]; exact List.mem_map.2 ⟨x, hx, rfl⟩))
                    exact ⟨this.rests, this.lin, this.own, this.name⟩
                · rw [lk_up_other _ hd] at k1 k2
                  obtain ⟨m1, m2⟩ := dropT_slot k2
                  exact .inl ⟨k1, m1, by simp [Wit.setF, Wit.setG, hd], fun x hx => ⟨((h.slot d e si k1 m1).2.free m2 x hx).1, ((h.slot d e si k1 m1).2.free m2 x hx).2, hG x (.inl ⟨d, e, si, k1, m1, hx⟩) ((h.slot d e si k1 m1).2.free m2 x hx).1 ((h.slot d e si k1 m1).2.free m2 x hx).2⟩⟩
              · obtain ⟨m1, m2⟩ := dropT_var k2
                obtain ⟨_, _, _, _, _, m3⟩ := h.var k c si k1 m1
                have hfr : ∀ x ∈ u.LV k, x.li.tag ∉ T ∧ x.li.dt ∉ T := fun x hx => allFree_ok m2 x.li (by rw [← m3]; exact List.mem_map.2 ⟨x, hx, rfl⟩)
                exact ⟨c, si, k1, m1, .inl ⟨rfl, rfl, rfl, fun x hx => ⟨(hfr x hx).1, (hfr x hx).2, hG x (.inr ⟨k, c, si, k1, m1, hx⟩) (hfr x hx).1 (hfr x hx).2⟩⟩⟩
            · cases hp
          · cases hp
        · cases hc
      · cases hc
    | var k off =>
      simp only at hc
      split at hc
      · rename_i ks ls hs
        split at hc
        · rename_i lnew hf hov
          cases hc
          rw [List.length_map] at hf
          obtain ⟨f1, f2, f3⟩ := splitFree_ok hf
          simp only [putAt] at hp
          split at hp
          · rename_i c0 he
            split at hp
            · rename_i cs hcs
              cases hp
              obtain ⟨el, cur, g1, g2, g3, g4⟩ := h.var k _ _ he hs
              have hlive : ∀ x ∈ u.LV k, Live u st σ x := fun x hx => .inr ⟨k, _, _, he, hs, hx⟩
              simp only at g3 g4
              simp only [ksAt, hs] at hr
              simp only [midAt] at hv
              obtain ⟨c1, c2⟩ := over_eq hcs
              obtain ⟨o1, o2⟩ := over_eq hov
              rw [List.length_map] at o1 o2
              have hlen := hr.len
              have hlenL := g3.len
              have hls : ls.length = (u.LV k).length := by rw [← g4]; simp
              have hn : cells.length = nl.length := by
                have h1 := hlen.2.1
                have h2 := hlen.1
                rw [List.length_map] at h2
                omega
              rw [hn] at c1
              have hsp := g3.splice (w' := w') (off := off) (n := nl.length) (cells := cells) (oss1 := nl.map (·.os)) (by rw [hv] at hr; simpa [List.map_take, List.map_drop] using hr)
                (by rw [← List.map_take]; exact h.sameOn hw (fun x hx => hlive x (List.mem_of_mem_take hx)) fun x hx => f1 x.li (by rw [← g4, ← List.map_take]; exact List.mem_map.2 ⟨x, hx, rfl⟩))
                (by rw [← List.map_drop]; exact h.sameOn hw (fun x hx => hlive x (List.mem_of_mem_drop hx)) fun x hx => f2 x.li (by rw [← g4, ← List.map_drop]; exact List.mem_map.2 ⟨x, hx, rfl⟩))
              rw [← c1] at hsp
              generalize hnew : (u.LV k).take off ++ nl ++ (u.LV k).drop (off + nl.length) = new
              have hnv : new.map (·.v) = (u.LV k).map (·.v) := by
                rw [← hnew, List.map_append, List.map_append, hv, ← List.drop_drop]
                rw [← List.map_append, ← List.map_append, List.append_assoc, List.take_append_drop, List.take_append_drop]
              have hnos : new.map (·.os) = ((u.LV k).map (·.os)).take off ++ nl.map (·.os) ++ ((u.LV k).map (·.os)).drop (off + nl.length) := by rw [← hnew]; simp
              have hnli : new.map (·.li) = lnew := by rw [o1, ← hnew, ← g4]; simp
              refine ⟨(u.setG G).setV k new, h.redo h0 hw rfl rfl hN (fun d e si k1 k2 => ?_) (fun k' c si k1 k2 => ?_)⟩
              · obtain ⟨m1, m2⟩ := dropT_slot k2
                exact .inl ⟨k1, m1, rfl, fun x hx => ⟨((h.slot d e si k1 m1).2.free m2 x hx).1, ((h.slot d e si k1 m1).2.free m2 x hx).2, hG x (.inl ⟨d, e, si, k1, m1, hx⟩) ((h.slot d e si k1 m1).2.free m2 x hx).1 ((h.slot d e si k1 m1).2.free m2 x hx).2⟩⟩
              · simp only at k1 k2
                by_cases hd : k' = k
                · subst hd
                  rw [lk_up_same] at k1 k2
                  cases k1; cases k2
                  refine ⟨_, _, he, hs, .inr ⟨⟨el, cur, ?_, ?_, ?_, ?_⟩, fun x hx => ?_⟩⟩
                  · rw [hw.block _ (Array.getElem?_eq_some_iff.1 g1).1 fun t _ => h.varNot k' _ _ t he hs]
                    exact g1
                  · simp only [Wit.setV, if_pos]; rw [hnv]; exact g2
                  · simp only [Wit.setV, if_pos]; rw [hnv, hnos]; exact hsp
                  · simp only [Wit.setV, if_pos]; exact hnli
                  · simp only [Wit.setV, if_pos] at hx
                    have : Cont u (u.setG G) st σ x := by
                      rw [← hnew] at hx
                      rcases List.mem_append.1 hx with hx | hx
                      · rcases List.mem_append.1 hx with hx | hx
                        · exact hold x (hlive x (List.mem_of_mem_take hx)) (f1 x.li (by rw [← g4, ← List.map_take]; exact List.mem_map.2 ⟨x, hx, rfl⟩))
                        · exact hC x hx
                      · exact hold x (hlive x (List.mem_of_mem_drop hx)) (f2 x.li (by rw [← g4, ← List.map_drop]; exact List.mem_map.2 ⟨x, hx, rfl⟩))
                    exact ⟨this.rests, this.lin, this.own, this.name⟩
                · rw [lk_up_other _ hd] at k1 k2
                  obtain ⟨m1, m2⟩ := dropT_var k2
                  obtain ⟨_, _, _, _, _, m3⟩ := h.var k' c si k1 m1
                  have hfr : ∀ x ∈ u.LV k', x.li.tag ∉ T ∧ x.li.dt ∉ T := fun x hx => allFree_ok m2 x.li (by rw [← m3]; exact List.mem_map.2 ⟨x, hx, rfl⟩)
                  exact ⟨c, si, k1, m1, .inl ⟨rfl, rfl, by simp [Wit.setV, Wit.setG, hd], fun x hx => ⟨(hfr x hx).1, (hfr x hx).2, hG x (.inr ⟨k', c, si, k1, m1, hx⟩) (hfr x hx).1 (hfr x hx).2⟩⟩⟩
            · cases hp
          · cases hp
        · cases hc
      · cases hc

/-- The leaves at a place, by what is known of them. -/
theorem lisAt_ok {f : Fix} {u : Wit} {st st' : St} {σ : SG} {a : Act} {w : World} (h : Rel f u st σ a w) {p : Place} {n : Nat} {l : List LI} {cells : List PV} (hl : lisAt σ p n = some l) (hp : putAt st p cells = some st') :
    (midAt u p n).map (·.li) = l ∧ (midAt u p n).length = n ∧ ∀ x ∈ midAt u p n, Live u st σ x := by
  cases p with
  | slot s off =>
    simp only [lisAt] at hl
    split at hl
    · rename_i agg ks ls hs
      obtain ⟨c1, c2⟩ := cut_eq hl
      simp only [putAt] at hp
      split at hp
      · rename_i v he
        obtain ⟨g1, g2⟩ := h.entry he hs
        obtain ⟨v', e1, g3, g4⟩ := g1.isVal
        subst g4
        simp at c2
        refine ⟨by rw [c1]; simp [midAt], by simp [midAt]; omega, fun x hx => g2 x (List.mem_of_mem_drop (List.mem_of_mem_take hx))⟩
      · cases hp
    · cases hl
  | var k off =>
    simp only [lisAt] at hl
    split at hl
    · rename_i ks ls hs
      obtain ⟨c1, c2⟩ := cut_eq hl
      simp only [putAt] at hp
      split at hp
      · rename_i c0 he
        obtain ⟨el, cur, g1, g2, g3, g4⟩ := h.var k _ _ he hs
        simp only at g4
        subst g4
        simp at c2
        refine ⟨by rw [c1]; simp [midAt], by simp [midAt]; omega, fun x hx => .inr ⟨k, _, _, he, hs, List.mem_of_mem_drop (List.mem_of_mem_take hx)⟩⟩
      · cases hp
    · cases hl

theorem Rel.mutAt {f : Fix} {u : Wit} {st st' : St} {σ σ' : SG} {a : Act} {w w' : World} (h : Rel f u st σ a w) {T : List Nat} (hw : WroteIn u T w w') {p : Place} {n : Nat} {cells : List PV} (hc : cMut σ p n T = some σ') (hp : putAt st p cells = some st')
    (hr : RdL f.Ty w' (ksAt σ p n) ((midAt u p n).map (·.v)) cells ((midAt u p n).map (·.os))) : ∃ u', Rel f u' st' σ' a w' := by
  unfold cMut at hc
  split at hc
  · rename_i l hl
    obtain ⟨g1, g2, g3⟩ := lisAt_ok h hl hp
    rw [← g1] at hc
    refine h.mutL hw (nl := midAt u p n) (G := u.G) hc hp (by rw [g2]) (by rw [g2]; exact hr) (fun x hx => (same_live (g3 x hx)).cont h rfl) (fun _ _ _ _ _ => rfl) (fun _ _ => rfl)
  · cases hc
end Go.Pm
