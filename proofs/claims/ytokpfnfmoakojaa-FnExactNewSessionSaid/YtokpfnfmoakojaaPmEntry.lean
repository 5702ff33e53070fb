/-
  A function's entry and end: what a call of the pure machine tells of the program's call.
-/
import Derived.Test.YtokpfnfmoakojaaPmFn
namespace Go.Pm
open Go

section
variable {B : Base} {G : Env} {K : CEnv} {f : Fix} {H : Hint} {u : Wit} {st : St} {σ : SG} {a : Act} {w : World} {fn : Func} {sg : GSig}

theorem ids_eq {u : Wit} {G0 : Nat → Value × List (Nat × Nat)} (hn : ∀ i, i < 65 → u.G i = G0 i) : ∀ {n : Nat} {l lfs : List Lf}, n ≠ 0 → n + l.length ≤ 65 → idsFrom n (l.map (·.li)) = true → (∀ x ∈ l, x.li.id ≠ 0 → u.G x.li.id = (x.v, x.os)) →
    l.length = lfs.length → (∀ i y, lfs[i]? = some y → G0 (n + i) = (y.v, y.os)) → l.map (·.v) = lfs.map (·.v) ∧ l.map (·.os) = lfs.map (·.os)
  | _, [], [], _, _, _, _, _, _ => ⟨rfl, rfl⟩
  | _, [], _ :: _, _, _, _, _, hl, _ => by cases hl
  | _, _ :: _, [], _, _, _, _, hl, _ => by cases hl
  | n, x :: l, y :: lfs, h0, h65, hi, hx, hl, hy => by
    simp only [List.map_cons, idsFrom] at hi
    split at hi
    · rename_i hb
      have hid := Nat.eq_of_beq_eq_true hb
      simp only [List.length_cons] at h65 hl
      have h1 := hx x List.mem_cons_self (by rw [hid]; exact h0)
      rw [hid, hn n (by omega)] at h1
      have h2 := hy 0 y rfl
      rw [Nat.add_zero, h1] at h2
      obtain ⟨e1, e2⟩ := Prod.mk.inj h2
      obtain ⟨k1, k2⟩ := ids_eq hn (n := n + 1) (lfs := lfs) (by omega) (by omega) hi (fun z hz => hx z (List.mem_cons_of_mem _ hz)) (by omega) fun i z hz => by
        rw [show n + 1 + i = n + (i + 1) by omega]
        exact hy (i + 1) z (by simpa using hz)
      exact ⟨by simp only [List.map_cons, e1, k1], by simp only [List.map_cons, e2, k2]⟩
    · cases hi

/-- The written argument's leaves are remembered. -/
def Kept (G0 : Nat → Value × List (Nat × Nat)) (lfs : List Lf) : Prop := ∀ i y, lfs[i]? = some y → G0 (1 + i) = (y.v, y.os)

theorem mut_ok (h : Rel f u st σ a w) {ks : List LK} {pl : Place} {lfs : List Lf} {cells : List PV} (hm : mutOk σ ks pl = true) (hl : lfs.length = ks.length) (h64 : ks.length < 64) (hk : Kept f.G0 lfs) (hp : placeAll st pl = some cells) :
    RdL f.Ty w ks (lfs.map (·.v)) cells (lfs.map (·.os)) := by
  cases pl with
  | slot s off =>
    cases off with
    | succ _ => simp [mutOk] at hm
    | zero =>
      simp only [mutOk] at hm
      split at hm
      · rename_i agg ks' ls hs
        split at hm
        · rename_i hq
          have := eqLKs_eq hq; subst this
          simp only [placeAll] at hp
          split at hp
          · rename_i v he
            cases hp
            obtain ⟨g1, g2⟩ := h.entry he hs
            obtain ⟨pv, e1, g3, g4⟩ := g1.isVal
            cases e1
            have hlen : (u.LF s).length = ks'.length := by have := g3.1.len.1; simpa using this
            obtain ⟨k1, k2⟩ := ids_eq h.names (n := 1) (l := u.LF s) (lfs := lfs) (by omega) (by omega) (by rw [g4]; exact hm) (fun x hx => (h.leaf x (g2 x hx)).name) (by omega) hk
            rw [← k1, ← k2]
            exact g3.1
          · cases hp
        · cases hm
      · cases hm
  | var k off =>
    cases off with
    | succ _ => simp [mutOk] at hm
    | zero =>
      simp only [mutOk] at hm
      split at hm
      · rename_i ks' ls hs
        split at hm
        · rename_i hq
          have := eqLKs_eq hq; subst this
          simp only [placeAll] at hp
          obtain ⟨el, cur, c1, c2, c3, c4⟩ := h.var k cells _ hp hs
          have hlen : (u.LV k).length = ks'.length := by have := c3.len.1; simpa using this
          obtain ⟨k1, k2⟩ := ids_eq h.names (n := 1) (l := u.LV k) (lfs := lfs) (by omega) (by omega) (by rw [c4]; exact hm) (fun x hx => (h.leaf x (.inr ⟨k, cells, _, hp, hs, hx⟩)).name) (by omega) hk
          rw [← k1, ← k2]
          exact c3
        · cases hm
      · cases hm

theorem outs_none {Ty : Nat → TyK} : ∀ {ps : List PSig} {ll : List (List Lf)} {j : Nat}, wrIdx j ps = none → ll.length = ps.length → OutsOk Ty w j ps ll []
  | [], [], _, _, _ => .nil
  | [], _ :: _, _, _, h => by cases h
  | _ :: _, [], _, _, h => by cases h
  | p :: ps, l :: ll, j, h, hl => by
    simp only [wrIdx] at h
    split at h
    · cases h
    · rename_i hw
      exact .skip hw (outs_none h (by simpa using hl))
theorem wrIdx_ge : ∀ {ps : List PSig} {j i : Nat}, wrIdx j ps = some i → j ≤ i
  | [], _, _, h => by simp [wrIdx] at h
  | p :: ps, j, i, h => by
    simp only [wrIdx] at h
    split at h
    · cases h; exact Nat.le_refl _
    · have := wrIdx_ge h; omega
theorem outs_some {Ty : Nat → TyK} : ∀ {ps : List PSig} {ll : List (List Lf)} {j i : Nat} {p : PSig} {lfs : List Lf} {cells : List PV}, oneWr ps = true → wrIdx j ps = some i → ps[i - j]? = some p → ll[i - j]? = some lfs → ll.length = ps.length →
    RdL Ty w p.ks (lfs.map (·.v)) cells (lfs.map (·.os)) → OutsOk Ty w j ps ll [(i, cells)]
  | [], _, _, _, _, _, _, _, h, _, _, _, _ => by simp [wrIdx] at h
  | _ :: _, [], _, _, _, _, _, _, _, _, _, h, _ => by cases h
  | q :: ps, l :: ll, j, i, p, lfs, cells, ho, h, h1, h2, hl, hr => by
    simp only [wrIdx] at h
    simp only [oneWr] at ho
    split at h
    · rename_i hw
      cases h
      rw [hw] at ho
      simp only [Nat.sub_self, List.getElem?_cons_zero, Option.some.injEq] at h1 h2
      subst h1; subst h2
      exact .wr hw hr (by simpa using ho)
    · rename_i hw
      rw [hw] at ho
      have hge := wrIdx_ge h
      rw [show i - j = (i - (j + 1)) + 1 by omega] at h1 h2
      simp only [List.getElem?_cons_succ] at h1 h2
      exact .skip hw (outs_some ho h h1 h2 (by simpa using hl) hr)

/-- A function's end. -/
theorem fin_ok (hS : Setting B.P G K f) (h : Rel f u st σ a w) {r : Res} {lfss : List (List Lf)} (hc : cFin K H sg fn σ = true) (hf : finish G H fn st = some r) (ho : oneWr sg.params = true) (hl : lfss.length = sg.params.length)
    (hk : ∀ j p lfs, wrIdx 0 sg.params = some j → sg.params[j]? = some p → lfss[j]? = some lfs → lfs.length = p.ks.length ∧ p.ks.length < 64 ∧ Kept f.G0 lfs) :
    ∃ u' τ vs ll, Rel f u' st τ a w ∧ (results fn a.tmps).run B.P w = .ok (retVal vs) w ∧ ResOut f.Ty w sg.res vs r.rs ll ∧ (∀ l ∈ ll, ∀ x ∈ l, Live u' st τ x) ∧ OutsOk f.Ty w 0 sg.params lfss r.outs := by
  unfold cFin at hc
  split at hc
  · rename_i τ hτ
    split at hc
    · rename_i q1 q2
      unfold finish at hf
      split at hf
      · rename_i rs outs hrs hout
        cases hf
        obtain ⟨u', h'⟩ := fit_ok h q1
        obtain ⟨vs, ll, k1, k2, k3⟩ := results_ok hS h' q2 hrs
        refine ⟨u', τ, vs, ll, h', run_results k1, k2, k3, ?_⟩
        unfold mutsOk at hc
        cases hw : wrIdx 0 sg.params with
        | none =>
          rw [hw] at hc
          simp only at hc
          cases hm : H.muts with
          | cons _ _ => rw [hm] at hc; cases hc
          | nil =>
            rw [hm] at hout
            simp only [outsOf, Option.some.injEq] at hout
            subst hout
            exact outs_none hw hl
        | some j =>
          rw [hw] at hc
          simp only at hc
          split at hc
          · rename_i j' pl p hm hp
            split at hc
            · rename_i hb
              have := Nat.eq_of_beq_eq_true hb; subst this
              rw [hm] at hout
              simp only [outsOf] at hout
              cases hpl : placeAll st pl with
              | none => rw [hpl] at hout; cases hout
              | some cells =>
                rw [hpl] at hout
                cases hout
                have hj : j < lfss.length := by
                  rw [hl]
                  exact (List.getElem?_eq_some_iff.1 hp).1
                have hlf : lfss[j]? = some lfss[j] := List.getElem?_eq_getElem hj
                obtain ⟨e1, e2, e3⟩ := hk j p _ hw hp hlf
                exact outs_some ho hw hp hlf hl (mut_ok h hc e1 e2 e3 hpl)
            · cases hc
          · cases hc
      · cases hf
    · cases hc
  · cases hc
end
end Go.Pm
