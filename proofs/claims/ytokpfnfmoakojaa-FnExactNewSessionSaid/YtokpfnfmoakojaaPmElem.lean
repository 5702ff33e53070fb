/-
  The elements of a row: one of them, a part of them.
-/
import Derived.Test.YtokpfnfmoakojaaPmOps
namespace Go.Pm
open Go
variable {Ty : Nat → TyK} {w : World}

theorem ElOk.len {i : TyI} (hi : i.ok) {p : PV} (h : ElOk i p) : (cellsOf p).length = i.leaves.length := by
  unfold ElOk at h
  cases ha : i.agg with
  | true => rw [ha] at h; obtain ⟨l, rfl, hl⟩ := h; exact hl
  | false => rw [ha] at h; rw [cellsOf_ne h, hi.2 ha]; rfl

theorem flat_cells_len {i : TyI} (hi : i.ok) : ∀ {ps : List PV}, (∀ p ∈ ps, ElOk i p) → (ps.flatMap cellsOf).length = ps.length * i.leaves.length
  | [], _ => by simp
  | p :: r, h => by
    rw [List.flatMap_cons, List.length_append, (h p (by simp)).len hi, flat_cells_len hi fun q hq => h q (by simp [hq]), List.length_cons, Nat.succ_mul]
    omega
theorem flat_cells_drop {i : TyI} (hi : i.ok) : ∀ {ps : List PV} {n : Nat}, (∀ p ∈ ps, ElOk i p) → n ≤ ps.length → (ps.flatMap cellsOf).drop (n * i.leaves.length) = (ps.drop n).flatMap cellsOf
  | ps, 0, _, _ => by simp
  | [], n + 1, _, h => by simp at h
  | p :: r, n + 1, h, hn => by
    have hl := (h p (by simp)).len hi
    rw [List.flatMap_cons, Nat.succ_mul, Nat.add_comm, List.drop_append, hl, List.drop_of_length_le (by omega), Nat.add_sub_cancel_left, List.nil_append, List.drop_succ_cons]
    exact flat_cells_drop hi (fun q hq => h q (by simp [hq])) (by simpa using hn)
theorem flat_cells_take {i : TyI} (hi : i.ok) : ∀ {ps : List PV} {n : Nat}, (∀ p ∈ ps, ElOk i p) → n ≤ ps.length → (ps.flatMap cellsOf).take (n * i.leaves.length) = (ps.take n).flatMap cellsOf
  | ps, 0, _, _ => by simp
  | [], n + 1, _, h => by simp at h
  | p :: r, n + 1, h, hn => by
    have hl := (h p (by simp)).len hi
    rw [List.flatMap_cons, Nat.succ_mul, Nat.add_comm, List.take_append, hl, List.take_of_length_le (by omega), Nat.add_sub_cancel_left, List.take_succ_cons, List.flatMap_cons]
    rw [flat_cells_take hi (fun q hq => h q (by simp [hq])) (by simpa using hn)]

theorem Rd.sliceInv {E : TypeId} {v : Value} {ps : List PV} {os : List (Nat × Nat)} (h : Rd Ty w (.slice E) v (.slice ps) os) :
    (v = .slice none 0 0 ∧ ps = [] ∧ os = []) ∨ ∃ i b o cap vs oss, v = .slice (some ⟨b, o, none⟩) ps.length cap ∧ os = (b, o + ps.length * i.leaves.length) :: oss.flatten ∧ Ty E = .val i ∧ i.ok ∧ ps.length ≤ cap ∧
      (∀ p ∈ ps, ElOk i p) ∧ w.rangeAt b o vs ∧ RdL Ty w (List.replicate ps.length i.leaves).flatten vs (ps.flatMap cellsOf) oss := by
  cases h with
  | nil => exact .inl ⟨rfl, rfl, rfl⟩
  | @slice E i b o len cap ps vs oss hE hi hl hc hp hr hv =>
    subst hl
    exact .inr ⟨i, b, o, cap, vs, oss, rfl, rfl, hE, hi, hc, hp, hr, hv⟩

theorem rangeAt_drop {b o : Nat} {vs : List Value} (h : w.rangeAt b o vs) (n : Nat) : w.rangeAt b (o + n) (vs.drop n) := fun j v hj => by
  rw [List.getElem?_drop] at hj
  rw [Nat.add_assoc]
  exact h _ v hj
theorem rangeAt_take {b o : Nat} {vs : List Value} (h : w.rangeAt b o vs) (n : Nat) : w.rangeAt b o (vs.take n) := fun j v hj => by
  rw [List.getElem?_take] at hj
  split at hj
  · exact h _ v hj
  · cases hj

theorem rep_split (n m : Nat) (l : List LK) : (List.replicate (n + m) l).flatten = (List.replicate n l).flatten ++ (List.replicate m l).flatten := by
  rw [← List.replicate_append_replicate, List.flatten_append]

/-- A part of a row's reading. -/
theorem RdL.part {i : TyI} (hi : i.ok) {ps : List PV} (hp : ∀ p ∈ ps, ElOk i p) {vs : List Value} {oss : List (List (Nat × Nat))} (h : RdL Ty w (List.replicate ps.length i.leaves).flatten vs (ps.flatMap cellsOf) oss) {a n : Nat} (hn : a + n ≤ ps.length) :
    RdL Ty w (List.replicate n i.leaves).flatten ((vs.drop (a * i.leaves.length)).take (n * i.leaves.length)) (((ps.drop a).take n).flatMap cellsOf) ((oss.drop (a * i.leaves.length)).take (n * i.leaves.length)) := by
  obtain ⟨m, hm⟩ : ∃ m, ps.length = a + (n + m) := ⟨ps.length - a - n, by omega⟩
  rw [hm, rep_split] at h
  have h1 := h.split.2
  rw [flat_len, flat_cells_drop hi hp (by omega), rep_split] at h1
  have h2 := h1.split.1
  rw [flat_len, flat_cells_take hi (fun p hq => hp p (List.mem_of_mem_drop hq)) (by simp; omega)] at h2
  exact h2

theorem mem_flatten_take_drop {α : Type} {l : List (List α)} {a n : Nat} {q : α} (h : q ∈ ((l.drop a).take n).flatten) : q ∈ l.flatten := by
  obtain ⟨m, h1, h2⟩ := List.mem_flatten.1 h
  exact List.mem_flatten.2 ⟨m, List.mem_of_mem_drop (List.mem_of_mem_take h1), h2⟩

/-- One element. -/
theorem RdL.elem {i : TyI} (hi : i.ok) {ps : List PV} (hp : ∀ p ∈ ps, ElOk i p) {vs : List Value} {oss : List (List (Nat × Nat))} (h : RdL Ty w (List.replicate ps.length i.leaves).flatten vs (ps.flatMap cellsOf) oss) {a : Nat} {e : PV} (he : ps[a]? = some e) :
    RdL Ty w i.leaves ((vs.drop (a * i.leaves.length)).take i.leaves.length) (cellsOf e) ((oss.drop (a * i.leaves.length)).take i.leaves.length) := by
  have hlt := (List.getElem?_eq_some_iff.1 he).1
  have := h.part hi hp (a := a) (n := 1) (by omega)
  have e1 : (ps.drop a).take 1 = [e] := by
    rw [List.take_one]
    simp [he]
  rw [e1] at this
  simpa using this

theorem flatten_sub {α : Type} {l m : List (List α)} (h : l.Sublist m) : l.flatten.Sublist m.flatten := by
  induction h with
  | slnil => exact .slnil
  | cons a _ ih => rw [List.flatten_cons]; exact ih.trans (List.sublist_append_right _ _)
  | cons_cons a _ ih => rw [List.flatten_cons, List.flatten_cons]; exact ih.append_left _
theorem sub_nodup {α : Type} {l : List (List α)} {a n : Nat} {f : α → Nat} (h : (l.flatten.map f).Nodup) : ((((l.drop a).take n).flatten).map f).Nodup := by
  refine h.sublist (List.Sublist.map f ?_)
  exact flatten_sub ((List.take_sublist _ _).trans (List.drop_sublist _ _))
theorem one_nodup {α : Type} {l : List (List α)} {m : List α} (hm : m ∈ l) {f : α → Nat} (h : (l.flatten.map f).Nodup) : (m.map f).Nodup := by
  refine h.sublist (List.Sublist.map f ?_)
  exact List.sublist_flatten_of_mem hm

theorem cut_eq {α : Type} : ∀ {off n : Nat} {l r : List α}, cut l off n = some r → r = (l.drop off).take n ∧ off + n ≤ l.length
  | 0, 0, l, r, h => by simp [cut] at h; subst h; simp
  | 0, n + 1, [], r, h => by simp [cut] at h
  | 0, n + 1, c :: l, r, h => by
    simp only [cut] at h
    split at h
    · rename_i m hm
      cases h
      obtain ⟨h1, h2⟩ := cut_eq hm
      subst h1
      simp at h2 ⊢
      omega
    · cases h
  | off + 1, n, [], r, h => by simp [cut] at h
  | off + 1, n, c :: l, r, h => by
    simp only [cut] at h
    obtain ⟨h1, h2⟩ := cut_eq h
    subst h1
    simp at h2 ⊢
    omega
theorem over_eq {α : Type} : ∀ {off : Nat} {xs l r : List α}, over l off xs = some r → r = l.take off ++ xs ++ l.drop (off + xs.length) ∧ off + xs.length ≤ l.length
  | 0, [], l, r, h => by simp [over] at h; subst h; simp
  | 0, x :: xs, [], r, h => by simp [over] at h
  | 0, x :: xs, c :: l, r, h => by
    simp only [over] at h
    split at h
    · rename_i m hm
      cases h
      obtain ⟨h1, h2⟩ := over_eq hm
      subst h1
      simp at h2 ⊢
      omega
    · cases h
  | off + 1, xs, [], r, h => by simp [over] at h
  | off + 1, xs, c :: l, r, h => by
    simp only [over] at h
    split at h
    · rename_i m hm
      cases h
      obtain ⟨h1, h2⟩ := over_eq hm
      subst h1
      simp [Nat.add_right_comm off 1] at h2 ⊢
      omega
    · cases h

theorem RdL.drop {ks : List LK} {vs : List Value} {ps : List PV} {oss : List (List (Nat × Nat))} (h : RdL Ty w ks vs ps oss) (n : Nat) : RdL Ty w (ks.drop n) (vs.drop n) (ps.drop n) (oss.drop n) := by
  rcases Nat.lt_or_ge ks.length n with hn | hn
  · have := h.len
    rw [List.drop_of_length_le (by omega), List.drop_of_length_le (by omega), List.drop_of_length_le (by omega), List.drop_of_length_le (by omega)]
    exact .nil
  · rw [← List.take_append_drop n ks] at h
    have := h.split.2
    rw [List.length_take, Nat.min_eq_left hn] at this
    exact this
theorem RdL.take {ks : List LK} {vs : List Value} {ps : List PV} {oss : List (List (Nat × Nat))} (h : RdL Ty w ks vs ps oss) (n : Nat) : RdL Ty w (ks.take n) (vs.take n) (ps.take n) (oss.take n) := by
  rcases Nat.lt_or_ge ks.length n with hn | hn
  · have := h.len
    rw [List.take_of_length_le (by omega), List.take_of_length_le (by omega), List.take_of_length_le (by omega), List.take_of_length_le (by omega)]
    exact h
  · rw [← List.take_append_drop n ks] at h
    have := h.split.1
    rw [List.length_take, Nat.min_eq_left hn] at this
    exact this

theorem TupOk.get : ∀ {parts : List (Bool × List LK × List LI)} {vs : List Value} {ps : List PV} {lfs : List Lf} {j : Nat} {agg : Bool} {ks : List LK} {ls : List LI}, TupOk Ty w parts vs ps lfs → parts[j]? = some (agg, ks, ls) →
    ∃ (v : Value) (p : PV) (lfs' : List Lf), vs[j]? = some v ∧ ps[j]? = some p ∧ RdV Ty w agg ks v p (lfs'.map (·.v)) (lfs'.map (·.os)) ∧ lfs'.map (·.li) = ls ∧ ∀ y ∈ lfs', y ∈ lfs
  | _, _, _, _, 0, _, _, _, .cons h hl r, hj => by
    simp at hj
    obtain ⟨rfl, rfl, rfl⟩ := hj
    exact ⟨_, _, _, rfl, rfl, h, hl, fun y hy => List.mem_append_left _ hy⟩
  | _, _, _, _, j + 1, _, _, _, .cons h hl r, hj => by
    simp only [List.getElem?_cons_succ] at hj
    obtain ⟨v, p, lfs', h1, h2, h3, h4, h5⟩ := r.get hj
    exact ⟨v, p, lfs', by simpa using h1, by simpa using h2, h3, h4, fun y hy => List.mem_append_right _ (h5 y hy)⟩
  | _, _, _, _, _, _, _, _, .nil, hj => by simp at hj
end Go.Pm
