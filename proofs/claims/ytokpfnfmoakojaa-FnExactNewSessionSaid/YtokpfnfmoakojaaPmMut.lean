/-
  Blocks of some groups are written: what is read in other groups stays, what is read in these is told anew.
-/
import Derived.Test.YtokpfnfmoakojaaPmOp8
namespace Go.Pm
open Go

/-- The memory behind a write to blocks of the groups T. -/
structure WroteIn (u : Wit) (T : List Nat) (w w' : World) : Prop where
  block : ∀ b, b < w.heap.size → (∀ t ∈ T, ¬ u.S t b) → w'.heap[b]? = w.heap[b]?
  mem : ∀ t ∈ T, ∀ b, u.S t b → ∀ cur el, w.heap[b]? = some (.cells cur el (0, 0)) → ∃ cur' el', w'.heap[b]? = some (.cells cur' el' (0, 0)) ∧ cur'.size = cur.size
  size : w.heap.size ≤ w'.heap.size
  os : w'.os = w.os
  tape : w'.tape = w.tape
  output : w'.output = w.output

/-- A leaf that is told anew: all that it rests on was rested on. -/
structure Cont (u u' : Wit) (st : St) (σ : SG) (x : Lf) : Prop where
  rests : ∀ p ∈ x.tq, Rests u st σ p.1 p.2
  lin : x.li.lin = true → (x.os.map (·.1)).Nodup
  own : x.li.own = true → ∃ y, Live u st σ y ∧ y.li.own = true ∧ x.li.tag = y.li.tag ∧ x.v = y.v ∧ x.os.head? = y.os.head?
  name : x.li.id ≠ 0 → u'.G x.li.id = (x.v, x.os)

theorem OwnRow.head {w : World} {v : Value} {os os' : List (Nat × Nat)} (h : OwnRow w v os) (he : os'.head? = os.head?) : OwnRow w v os' := by
  rcases h with h | ⟨g, n, cap, cur, el, h1, h2, h3, h4, h5, s, r, h6, h7⟩
  · exact .inl h
  · rw [h6] at he
    cases os' with
    | nil => simp at he
    | cons a r' =>
      simp at he
      exact .inr ⟨g, n, cap, cur, el, h1, h2, h3, h4, h5, s, r', by rw [he], h7⟩

theorem Rel.redo {f : Fix} {u u' : Wit} {st st' : St} {σ σ' : SG} {a : Act} {w w' : World} (h : Rel f u st σ a w) {T : List Nat} (h0 : 0 ∉ T) (hw : WroteIn u T w w') (hS : u'.S = u.S) (hβ : u'.β = u.β) (hN : ∀ i, i < 65 → u'.G i = u.G i)
    (hslot : ∀ d e s, lk d st'.env = some e → lk d σ'.slots = some s → (lk d st.env = some e ∧ lk d σ.slots = some s ∧ u'.LF d = u.LF d ∧ ∀ x ∈ u.LF d, x.li.tag ∉ T ∧ x.li.dt ∉ T ∧ (x.li.id ≠ 0 → u'.G x.li.id = u.G x.li.id)) ∨
      (d < f.N ∧ EntOk f.Ty u.β w' (a.tmps.getD d undef) e s (u'.LF d) ∧ ∀ x ∈ u'.LF d, Cont u u' st σ x))
    (hvar : ∀ k c s, lk k st'.vars = some c → lk k σ'.vars = some s → ∃ c0 s0, lk k st.vars = some c0 ∧ lk k σ.vars = some s0 ∧ ((c = c0 ∧ s = s0 ∧ u'.LV k = u.LV k ∧ ∀ x ∈ u.LV k, x.li.tag ∉ T ∧ x.li.dt ∉ T ∧ (x.li.id ≠ 0 → u'.G x.li.id = u.G x.li.id)) ∨
      (VarOk f.Ty w' (u.β k) c s (u'.LV k) ∧ ∀ x ∈ u'.LV k, Cont u u' st σ x))) : Rel f u' st' σ' a w' := by
  have hout : ∀ t b, t ∉ T → u.S t b → w'.heap[b]? = w.heap[b]? := fun t b ht hb => hw.block b (h.inW t b hb) fun t' ht' hb' => h.apart t' t b (fun e => ht (e ▸ ht')) hb' hb
  have hvb : ∀ k c s, lk k st.vars = some c → lk k σ.vars = some s → w'.heap[u.β k]? = w.heap[u.β k]? := fun k c s h1 h2 => by
    obtain ⟨el, cur, g, _⟩ := h.var k c s h1 h2
    exact hw.block _ (Array.getElem?_eq_some_iff.1 g).1 fun t _ => h.varNot k c s t h1 h2
  have tqs : ∀ (x : Lf) (q : Nat × Nat × Nat), q ∈ x.tq → q.1 = x.li.tag ∨ q.1 = x.li.dt := fun x q hq => by
    unfold Lf.tq at hq
    cases hx : x.os with
    | nil => rw [hx] at hq; cases hq
    | cons a r =>
      rw [hx] at hq
      rcases List.mem_cons.1 hq with rfl | hq
      · exact .inl rfl
      · obtain ⟨z, _, rfl⟩ := List.mem_map.1 hq; exact .inr rfl
  have hso : ∀ x, Live u st σ x → x.li.tag ∉ T → x.li.dt ∉ T → SameOn w w' x.os := fun x hx g1 g2 q hq j _ => by
    obtain ⟨t, ht⟩ := tq_mem hq
    have hSt := (h.leaf x hx).tag _ ht
    rcases tqs x _ ht with e | e
    · exact cell_of_block (hout _ _ (by rw [e]; exact g1) hSt)
    · exact cell_of_block (hout _ _ (by rw [e]; exact g2) hSt)
  have live : ∀ x, Live u' st' σ' x → Cont u u' st σ x := fun x hx => by
    have key : ∀ y, Live u st σ y → (y.li.id ≠ 0 → u'.G y.li.id = u.G y.li.id) → Cont u u' st σ y := fun y hy hi =>
      ⟨fun p hp => ⟨y, hy, p, hp, rfl, rfl, Nat.le_refl _⟩, (h.leaf y hy).lin, fun ho => ⟨y, hy, ho, rfl, rfl, rfl⟩, fun e => by rw [hi e]; exact (h.leaf y hy).name e⟩
    rcases hx with ⟨d, e, s, g1, g2, g3⟩ | ⟨k, c, s, g1, g2, g3⟩
    · rcases hslot d e s g1 g2 with ⟨k1, k2, k3, k4⟩ | ⟨_, _, k3⟩
      · rw [k3] at g3
        exact key x (.inl ⟨d, e, s, k1, k2, g3⟩) (k4 x g3).2.2
      · exact k3 x g3
    · obtain ⟨c0, s0, k1, k2, ⟨_, _, k3, k4⟩ | ⟨_, k3⟩⟩ := hvar k c s g1 g2
      · rw [k3] at g3
        exact key x (.inr ⟨k, c0, s0, k1, k2, g3⟩) (k4 x g3).2.2
      · exact k3 x g3
  have hown : ∀ (v : Value) (os : List (Nat × Nat)) (t : Nat), OwnRow w v os → (∀ ad n c, v = .slice (some ad) n c → u.S t ad.block) → OwnRow w' v os := fun v os t g2 hb => by
    rcases g2 with g2 | ⟨g, n, cap, cur, el, k1, k2, k3, k4, k5, s, r, k6, k7⟩
    · exact .inl g2
    · have hg := hb _ _ _ k1
      by_cases ht : t ∈ T
      · obtain ⟨cur', el', m1, m2⟩ := hw.mem t ht g hg cur el k2
        exact .inr ⟨g, n, cap, cur', el', k1, m1, k3, k4, k5, s, r, k6, by omega⟩
      · exact .inr ⟨g, n, cap, cur, el, k1, (hout t g ht hg).trans k2, k3, k4, k5, s, r, k6, k7⟩
  exact {
    slot := fun d e s g1 g2 => by
      rcases hslot d e s g1 g2 with ⟨k1, k2, k3, k4⟩ | ⟨k1, k2, _⟩
      · obtain ⟨m1, m2⟩ := h.slot d e s k1 k2
        rw [hβ, k3]
        exact ⟨m1, m2.frame fun x hx => hso x (.inl ⟨d, e, s, k1, k2, hx⟩) (k4 x hx).1 (k4 x hx).2.1⟩
      · rw [hβ]
        exact ⟨k1, k2⟩
    var := fun k c s g1 g2 => by
      rw [hβ]
      obtain ⟨c0, s0, k1, k2, ⟨rfl, rfl, k3, k4⟩ | ⟨k3, _⟩⟩ := hvar k c s g1 g2
      · obtain ⟨el, cur, m1, m2, m3, m4⟩ := h.var k c s k1 k2
        rw [k3]
        refine ⟨el, cur, (hvb k c s k1 k2).trans m1, m2, m3.frame fun q hq => ?_, m4⟩
        obtain ⟨m, hm1, hm2⟩ := List.mem_flatten.1 hq
        obtain ⟨x, hx, rfl⟩ := List.mem_map.1 hm1
        exact hso x (.inr ⟨k, c, s, k1, k2, hx⟩) (k4 x hx).1 (k4 x hx).2.1 q hm2
      · exact k3
    leaf := fun x hx => by
      have hc := live x hx
      refine ⟨fun p hp => by rw [hS]; exact (hc.rests p hp).inS h.leaf, hc.lin, fun ho => ?_, fun ho ad n c hv => ?_, hc.name⟩
      · obtain ⟨y, hy, e1, e2, e3, e4⟩ := hc.own ho
        obtain ⟨g1, g2⟩ := (h.leaf y hy).own e1
        rw [e2, e3]
        exact ⟨g1, (hown y.v y.os y.li.tag g2 fun ad n c hv => by
          obtain ⟨e, r, he⟩ := (h.leaf y hy).row e1 ad n c hv
          exact (h.leaf y hy).tag (y.li.tag, (ad.block, e)) (by simp [Lf.tq, he])).head e4⟩
      · obtain ⟨y, hy, e1, e2, e3, e4⟩ := hc.own ho
        obtain ⟨e, r, he⟩ := (h.leaf y hy).row e1 ad n c (e3 ▸ hv)
        rw [he] at e4
        cases hx : x.os with
        | nil => rw [hx] at e4; simp at e4
        | cons q r' => rw [hx] at e4; simp at e4; exact ⟨e, r', by rw [e4]⟩
    pair := fun x y hx hy ho p hp ht hh he1 he2 => by
      obtain ⟨x0, hx0, e1, e2, e3, e4⟩ := (live x hx).own ho
      obtain ⟨y0, hy0, p0, hp0, k1, k2, k3⟩ := (live y hy).rests p hp
      have := h.pair x0 y0 hx0 hy0 e1 p0 hp0 (by rw [k1, ht, e2]) hh (by
        unfold Lf.head at he1 ⊢
        rw [← e3, ← e4]; exact he1) (by rw [k2, he2])
      omega
    apart := fun t t' b hne => by rw [hS]; exact h.apart t t' b hne
    inW := fun t b ht => by rw [hS] at ht; exact Nat.lt_of_lt_of_le (h.inW t b ht) hw.size
    mine := fun t b hne ht => by rw [hS] at ht; exact h.mine t b hne ht
    mem := fun t b hne ht => by
      rw [hS] at ht
      by_cases e : t ∈ T
      · obtain ⟨cur, el, hc⟩ := h.mem t b hne ht
        obtain ⟨cur', el', m, _⟩ := hw.mem t e b ht cur el hc
        exact ⟨cur', el', m⟩
      · rw [hout t b e ht]; exact h.mem t b hne ht
    names := fun i hi => (hN i hi).trans (h.names i hi)
    old := fun b ht => by rw [hS] at ht; exact h.old b ht
    xmem := fun b hb => by
      obtain ⟨cur, el, c0, e0, hc, h2, h3⟩ := h.xmem b hb
      have hlt := (Array.getElem?_eq_some_iff.1 hc).1
      by_cases e : ∃ t ∈ T, u.S t b
      · obtain ⟨t, ht, hs⟩ := e
        obtain ⟨cur', el', m1, m2⟩ := hw.mem t ht b hs cur el hc
        exact ⟨cur', el', c0, e0, m1, h2, by omega⟩
      · rw [hw.block b hlt fun t ht hs => e ⟨t, ht, hs⟩]; exact ⟨cur, el, c0, e0, hc, h2, h3⟩
    varIn := fun k c s g1 g2 => by
      obtain ⟨c0, s0, k1, k2, _⟩ := hvar k c s g1 g2
      rw [hβ]; exact h.varIn k c0 s0 k1 k2
    varNot := fun k c s t g1 g2 => by
      obtain ⟨c0, s0, k1, k2, _⟩ := hvar k c s g1 g2
      rw [hβ, hS]; exact h.varNot k c0 s0 t k1 k2
    varInj := fun k k' c c' s s' g1 g2 g3 g4 => by
      obtain ⟨c0, s0, k1, k2, _⟩ := hvar k c s g1 g2
      obtain ⟨c1, s1, k3, k4, _⟩ := hvar k' c' s' g3 g4
      rw [hβ]; exact h.varInj k k' c0 c1 s0 s1 k1 k2 k3 k4
    frame := fun b hb hx => by
      rw [hw.block b (Nat.lt_of_lt_of_le hb h.size) fun t ht hb' => ?_]
      · exact h.frame b hb hx
      · rcases h.mine t b (fun e => h0 (e ▸ ht)) hb' with g | g
        · omega
        · exact hx g
    size := Nat.le_trans h.size hw.size
    os := hw.os.trans h.os
    tape := hw.tape.trans h.tape
    output := hw.output.trans h.output
    defers := h.defers
    tmps := h.tmps
    globs := fun g cs hg => by
      obtain ⟨vs, oss, g1, g2, g3, g4⟩ := h.globs g cs hg
      have hz : ∀ b, u.S 0 b → w'.heap[b]? = w.heap[b]? := fun b hb => hout 0 b h0 hb
      rw [hS]
      refine ⟨vs, oss, fun j v hj => ?_, g2.frame fun q hq j _ => cell_of_block (hz _ (g4 q hq)), g3, g4⟩
      rw [cell_of_block (hz _ g3)]
      exact g1 j v hj }

/-- A leaf that was there, of which no more is known. -/
structure Same (u : Wit) (st : St) (σ : SG) (x : Lf) : Prop where
  old : ∃ y, Live u st σ y ∧ x.v = y.v ∧ x.os = y.os ∧ x.li.tag = y.li.tag ∧ x.li.dt = y.li.dt ∧ (x.li.id ≠ 0 → x.li.id = y.li.id) ∧ (x.li.lin = true → y.li.lin = true) ∧ (x.li.own = true → y.li.own = true)

theorem Same.cont {f : Fix} {u u' : Wit} {st : St} {σ : SG} {a : Act} {w : World} (h : Rel f u st σ a w) (hG : u'.G = u.G) {x : Lf} (hx : Same u st σ x) : Cont u u' st σ x := by
  obtain ⟨y, hy, e1, e2, e3, e4, e5, e6, e7⟩ := hx.old
  refine ⟨fun p hp => ⟨y, hy, p, ?_, rfl, rfl, Nat.le_refl _⟩, fun hl => by rw [e2]; exact (h.leaf y hy).lin (e6 hl), fun ho => ⟨y, hy, e7 ho, e3, e1, by rw [e2]⟩, fun hi => ?_⟩
  · unfold Lf.tq at hp ⊢
    rw [← e2, ← e3, ← e4]; exact hp
  · rw [hG, e5 hi, e1, e2]
    exact (h.leaf y hy).name (by rw [← e5 hi]; exact hi)

theorem Rel.reread {f : Fix} {u u' : Wit} {st st' : St} {σ σ' : SG} {a : Act} {w w' : World} (h : Rel f u st σ a w) {T : List Nat} (h0 : 0 ∉ T) (hw : WroteIn u T w w') (hS : u'.S = u.S) (hβ : u'.β = u.β) (hG : u'.G = u.G)
    (hslot : ∀ d e s, lk d st'.env = some e → lk d σ'.slots = some s → (lk d st.env = some e ∧ lk d σ.slots = some s ∧ u'.LF d = u.LF d ∧ ∀ x ∈ u.LF d, x.li.tag ∉ T ∧ x.li.dt ∉ T) ∨
      (d < f.N ∧ EntOk f.Ty u.β w' (a.tmps.getD d undef) e s (u'.LF d) ∧ ∀ x ∈ u'.LF d, Same u st σ x))
    (hvar : ∀ k c s, lk k st'.vars = some c → lk k σ'.vars = some s → ∃ c0 s0, lk k st.vars = some c0 ∧ lk k σ.vars = some s0 ∧ ((c = c0 ∧ s = s0 ∧ u'.LV k = u.LV k ∧ ∀ x ∈ u.LV k, x.li.tag ∉ T ∧ x.li.dt ∉ T) ∨
      (VarOk f.Ty w' (u.β k) c s (u'.LV k) ∧ ∀ x ∈ u'.LV k, Same u st σ x))) : Rel f u' st' σ' a w' := by
  refine h.redo h0 hw hS hβ (fun i _ => by rw [hG]) (fun d e s g1 g2 => ?_) (fun k c s g1 g2 => ?_)
  · rcases hslot d e s g1 g2 with ⟨k1, k2, k3, k4⟩ | ⟨k1, k2, k3⟩
    · exact .inl ⟨k1, k2, k3, fun x hx => ⟨(k4 x hx).1, (k4 x hx).2, fun _ => by rw [hG]⟩⟩
    · exact .inr ⟨k1, k2, fun x hx => (k3 x hx).cont h hG⟩
  · obtain ⟨c0, s0, k1, k2, ⟨e1, e2, k3, k4⟩ | ⟨k3, k4⟩⟩ := hvar k c s g1 g2
    · exact ⟨c0, s0, k1, k2, .inl ⟨e1, e2, k3, fun x hx => ⟨(k4 x hx).1, (k4 x hx).2, fun _ => by rw [hG]⟩⟩⟩
    · exact ⟨c0, s0, k1, k2, .inr ⟨k3, fun x hx => (k4 x hx).cont h hG⟩⟩
end Go.Pm
