/-
  append.
-/
import Derived.Test.YtokpfnfmoakojaaPmOp6
namespace Go.Pm
open Go
section
variable {P : Program} {G : Env} {K : CEnv} {f : Fix} {H : Hint} {C : FuncId → List Arg → Option Res} {glob : Bool} {u : Wit} {st st' : St} {σ σ' : SG} {a : Act} {w : World} {o : Oper}

/-- What is appended: its elements' cells, where they lie. -/
theorem Rd.elems {Ty : Nat → TyK} {E : TypeId} {i : TyI} (hE : Ty E = .val i) {v : Value} {l : List PV} {os : List (Nat × Nat)} (h : Rd Ty w (.slice E) v (.slice l) os) :
    ∃ vs oss, RdL Ty w (List.replicate l.length i.leaves).flatten vs (l.flatMap cellsOf) oss ∧ (∀ p ∈ l, ElOk i p) ∧ ((v = .slice none 0 0 ∧ l = [] ∧ os = [] ∧ oss = []) ∨
      ∃ b o cap, v = .slice (some ⟨b, o, none⟩) l.length cap ∧ os = (b, o + l.length * i.leaves.length) :: oss.flatten ∧ w.rangeAt b o vs ∧ l.length ≤ cap) := by
  rcases h.sliceInv with ⟨rfl, rfl, rfl⟩ | ⟨i', b, o, cap, vs, oss, hv, ho, hTy, hi, hcap, hel, hr, hrd⟩
  · exact ⟨[], [], by simpa using RdL.nil, (fun p hp => by cases hp), .inl ⟨rfl, rfl, rfl, rfl⟩⟩
  · rw [hE] at hTy
    cases hTy
    exact ⟨vs, oss, hrd, hel, .inr ⟨b, o, cap, hv, ho, hr, hcap⟩⟩

theorem two31 {n m b : Nat} (h : n + m ≤ 2147483648) (hb : b ≤ 65536) : (n + m) * b ≤ 140737488355328 := by
  have := Nat.mul_le_mul h hb
  omega

theorem run_append_none {t ty E : TypeId} {inf : TypeInfo} (hu : P.underlying t = some (.slice E)) (hi : P.info? E = some inf) (ad : Option Addr) (n cap : Nat) (hn : n ≤ cap) :
    (Builtin.append_ #[t, t] ty #[.slice ad n cap, .slice none 0 0]).run P w = .ok (.slice ad n cap) w := by
  cases ad <;> simp [Builtin.append_, run_underlying hu, sizeOf, typeInfo, hi, Builtin.lenOf, hn, Builtin.firstCells, storeCells]
theorem run_append_zero {t ty E : TypeId} {inf : TypeInfo} (hu : P.underlying t = some (.slice E)) (hi : P.info? E = some inf) (b : Addr) (c : Nat) :
    (Builtin.append_ #[t, t] ty #[.slice none 0 0, .slice (some b) 0 c]).run P w = .ok (.slice none 0 0) w := by
  simp [Builtin.append_, run_underlying hu, sizeOf, typeInfo, hi, Builtin.lenOf, Builtin.firstCells, loadCells, loadCellsFrom]

theorem li_nil (t : Nat) (x : LI) : (⟨[], t, true⟩ : Ren).li x = x := by
  cases x; simp [Ren.li, Ren.tag, memN]
theorem mapV_id {α : Type} {g : α → α} (hg : ∀ x, g x = x) : ∀ l : List (Nat × α), mapV g l = l
  | [] => rfl
  | (j, a) :: r => by simp [mapV, hg, mapV_id hg r]
theorem sg_nil (t : Nat) (σ : SG) : (⟨[], t, true⟩ : Ren).sg σ = σ := by
  have hl : ∀ l : List LI, l.map (⟨[], t, true⟩ : Ren).li = l := fun l => by
    rw [List.map_congr_left (g := id) (fun x _ => li_nil t x), List.map_id]
  have hs : ∀ s : SI, (⟨[], t, true⟩ : Ren).si s = s := fun s => by
    cases s with
    | val agg ks ls => simp [Ren.si, hl]
    | tup l =>
      simp only [Ren.si]
      rw [List.map_congr_left (g := id) (fun x _ => by simp [Ren.part, hl]), List.map_id]
    | avar k o => rfl
    | aelem ks li o => simp [Ren.si, li_nil]
    | velem agg ks li z o => simp [Ren.si, li_nil]
    | glob g => rfl
  cases σ
  simp [Ren.sg, mapV_id hs, mapV_id (g := fun x : List LK × List LI => (x.1, x.2.map (⟨[], t, true⟩ : Ren).li)) (fun x => by simp [hl])]
theorem put_nilRen (N : Nat) (d : Option Nat) (σ : SG) (t : Nat) (s : SI) : capply N d σ (.put [] s) = capply N d σ (.put [⟨[], t, true⟩] s) := by
  simp only [capply, rens, sg_nil]

/-- A row is appended to in place. -/
theorem row_in (h : Rel f u st σ a w) {d : Option Nat} {x0 : Lf} (hx0 : Live u st σ x0) (ho0 : x0.li.own = true) {g e0 : Nat} (hh0 : x0.head = some (g, e0)) {l : List PV} {E el : TypeId} {i : TyI} (hE : f.Ty E = .val i) (hi : i.ok)
    {cur cur' : Array Value} (h1 : w.heap[g]? = some (.cells cur el (0, 0))) (hs : ∀ j, j < e0 → cur'[j]? = cur[j]?) (hcz : cur'.size = cur.size) {cap : Nat} {oss : List (List (Nat × Nat))} {A : List Nat} {t : Nat} {lin : Bool}
    (hp : papply stdF H d st (.put (.val (.slice l))) = some st') (hc : capply f.N d σ (.put [⟨[x0.li.tag], x0.li.tag, false⟩, ⟨A, t, true⟩] (.val false [.slice E] [⟨x0.li.tag, t, true, lin, 0⟩])) = some σ') (h0 : memN 0 A = true → t = 0) (hA : memN x0.li.tag A = false) (ht : A ≠ [] → t = 0 ∨ t ∈ A)
    (hel : ∀ p ∈ l, ElOk i p) (hlc : l.length ≤ cap) (hcap : cap ≤ maxLen) (hz : l.length = 0 → cap = 0) (hsz : cur.size = cap * i.leaves.length) (hle : e0 ≤ l.length * i.leaves.length)
    (hrd : RdL f.Ty w (List.replicate l.length i.leaves).flatten (cur'.toList.take (l.length * i.leaves.length)) (l.flatMap cellsOf) oss) (hq : ∀ q ∈ oss.flatten, (A = [] ∧ False) ∨ ∃ t ∈ A, Rests u st σ t q) (hlin : lin = true → ((g :: oss.flatten.map (·.1))).Nodup) :
    ∃ u', Rel f u' st' σ' (a.put d (.slice (some ⟨g, 0, none⟩) l.length cap)) (w.setRow g cur') := by
  obtain ⟨htag, _⟩ := (h.leaf x0 hx0).own ho0
  have hgS : u.S x0.li.tag g := (h.leaf x0 hx0).tag _ (head_mem hh0)
  have h2 := setRow_heap w g cur cur' el (0, 0) h1
  have hw : WroteVar w (w.setRow g cur') g := ⟨fun b hb => setRow_other w g b cur' hb, by simp [World.setRow], rfl, rfl, rfl⟩
  have r1 := h.rowTail hx0 ho0 hh0 h1 h2 hs hcz hw
  generalize hρ1 : (⟨[x0.li.tag], x0.li.tag, false⟩ : Ren) = ρ1 at r1 hc
  have hρt : ∀ t, ρ1.tag t = t := fun t => by
    subst hρ1
    unfold Ren.tag
    cases hm : memN t [x0.li.tag] with
    | true => rw [memN_one] at hm; exact hm
    | false => rfl
  have r2 := r1.ren ⟨A, t, true⟩ h0
  have hR1 : ∀ {t q}, Rests u st σ t q → Rests (ρ1.wit u) st (ρ1.sg σ) t q := fun {t q} hr => by
    have := hr.ren ρ1
    rw [hρt] at this
    exact this
  have hso : SameOn w (w.setRow g cur') oss.flatten := fun q hm j hj => by
    rcases hq q hm with ⟨_, hf⟩ | ⟨t0, ht0, x, hx, p, hp', q1, q2, q3⟩
    · exact hf.elim
    · by_cases e : q.1 = g
      · have hS := (h.leaf x hx).tag p hp'
        have e1 : p.1 = x0.li.tag := by
          by_cases e2 : p.1 = x0.li.tag
          · exact e2
          · rw [q2, e] at hS
            exact absurd hgS (h.apart _ _ _ e2 hS)
        rw [q1] at e1
        rw [e1] at ht0
        rw [memN_iff.2 ht0] at hA
        cases hA
      · exact cell_of_block (hw.block q.1 e)
  cases d with
  | none =>
    simp only [papply, Option.some.injEq] at hp
    simp only [capply, Option.some.injEq] at hc
    subst hp; subst hc
    exact ⟨_, r2⟩
  | some d =>
    simp only [papply, Option.some.injEq] at hp
    simp only [capply] at hc
    cases hb : Nat.blt d f.N with
    | false => simp [hb] at hc
    | true =>
      simp only [hb, Option.some.injEq] at hc
      subst hp; subst hc
      have hra : (w.setRow g cur').rangeAt g 0 (cur'.toList.take (l.length * i.leaves.length)) := fun j v hj => by
        rw [List.getElem?_take] at hj
        split at hj
        · simp only [World.cell?, h2, Nat.zero_add]
          simpa using hj
        · cases hj
      have hrow := Rd.slice (Ty := f.Ty) (w := w.setRow g cur') (cap := cap) hE hi rfl hlc hel hra (hrd.frame hso)
      rw [Nat.zero_add] at hrow
      have ht2 : (⟨A, t, true⟩ : Ren).tag x0.li.tag = x0.li.tag := by simp only [Ren.tag, hA]
      have htne : t ≠ x0.li.tag ∨ A = [] := by
        by_cases hAn : A = []
        · exact .inr hAn
        · rcases ht hAn with e | e
          · exact .inl (by rw [e]; exact Ne.symm htag)
          · refine .inl fun e2 => ?_
            rw [e2] at e
            rw [memN_iff.2 e] at hA
            cases hA
      refine ⟨_, r2.putRow (Nat.blt_eq.mp hb) (li := ⟨x0.li.tag, t, true, lin, 0⟩) hrow ⟨x0.li.tag, ht2, x0.li.tag, hρt _, hgS⟩ (fun q hm => ?_) (fun x hx hox htx hh he e => ?_) (fun z hz p hp ht1 e => ?_) rfl (fun hl => by simpa using hlin hl) (fun _ => ⟨htag, .inr ⟨_, _, _, cur', el, rfl, h2, hlc, hcap, hz, _, _, rfl, by rw [hcz]; exact hsz⟩⟩)⟩
      · rcases hq q hm with ⟨_, hf⟩ | ⟨t0, ht0, hR⟩
        · exact hf.elim
        · have := (hR1 hR).ren (⟨A, t, true⟩ : Ren)
          have et : (⟨A, t, true⟩ : Ren).tag t0 = t := by simp only [Ren.tag]; rw [memN_iff.2 ht0]
          rw [et] at this
          exact this
      · obtain ⟨y, hy, rfl⟩ := Ren.live hx
        obtain ⟨z, hz, rfl⟩ := Ren.live hy
        exfalso
        simp only [Ren.lf, Ren.li, Bool.and_eq_true] at hox htx
        have hzt : z.li.tag = x0.li.tag := by
          rw [hρt] at htx
          simp only [Ren.tag] at htx
          split at htx
          · rename_i hm
            rcases htne with h3 | h3
            · exact absurd htx h3
            · rw [h3] at hm; cases hm
          · exact htx
        have := hox.1.2
        subst hρ1
        rw [hzt] at this
        have hm1 : memN x0.li.tag [x0.li.tag] = true := by rw [memN_one]
        simp [hm1] at this
      · obtain ⟨y, hy, rfl⟩ := Ren.live hz
        obtain ⟨z, hz', rfl⟩ := Ren.live hy
        obtain ⟨p1, hp1, rfl⟩ := Ren.tq _ _ hp
        obtain ⟨p0, hp0, rfl⟩ := Ren.tq _ _ hp1
        have hS := (h.leaf z hz').tag p0 hp0
        have e1 : p0.1 = x0.li.tag := by
          by_cases e2 : p0.1 = x0.li.tag
          · exact e2
          · have e' : p0.2.1 = g := e
            rw [e'] at hS
            exact absurd hgS (h.apart _ _ _ e2 hS)
        have := h.pair x0 z hx0 hz' ho0 p0 hp0 e1 _ hh0 e
        simp at this ⊢
        omega
end
end Go.Pm
