/-
  A reading is determined by the memory.
-/
import Derived.Test.YtokpfnfmoakojaaPmStep
namespace Go.Pm
open Go

variable {Ty : Nat → TyK} {w : World}

theorem flat_inj {i : TyI} (hi : i.ok) : ∀ {l m : List PV}, (∀ p ∈ l, ElOk i p) → (∀ p ∈ m, ElOk i p) → l.length = m.length → l.flatMap cellsOf = m.flatMap cellsOf → l = m
  | [], [], _, _, _, _ => rfl
  | [], _ :: _, _, _, h, _ => by simp at h
  | _ :: _, [], _, _, h, _ => by simp at h
  | p :: l, q :: m, h1, h2, hl, he => by
    have e1 := (h1 p (by simp)).len hi
    have e2 := (h2 q (by simp)).len hi
    rw [List.flatMap_cons, List.flatMap_cons] at he
    obtain ⟨a1, a2⟩ := List.append_inj he (by omega)
    have := flat_inj hi (fun x hx => h1 x (List.mem_cons_of_mem _ hx)) (fun x hx => h2 x (List.mem_cons_of_mem _ hx)) (by simpa using hl) a2
    rw [this]
    congr 1
    have g1 := h1 p (by simp)
    have g2 := h2 q (by simp)
    obtain ⟨agg, leaves, fields, sizes⟩ := i
    cases agg with
    | true =>
      obtain ⟨l1, rfl, _⟩ := g1
      obtain ⟨l2, rfl, _⟩ := g2
      simp only [cellsOf] at a1
      rw [a1]
    | false =>
      rw [cellsOf_ne g1, cellsOf_ne g2] at a1
      simpa using a1

mutual
theorem Rd.func {k : LK} {v : Value} {p p' : PV} {os os' : List (Nat × Nat)} (h : Rd Ty w k v p os) (h' : Rd Ty w k v p' os') : p = p' ∧ os = os' :=
  match h, h' with
  | .int _ _, .int _ _ => ⟨rfl, rfl⟩
  | .bool _, .bool _ => ⟨rfl, rfl⟩
  | .str _, .str _ => ⟨rfl, rfl⟩
  | .nil _, .nil _ => ⟨rfl, rfl⟩
  | .slice (i := i) (vs := vs) (ps := ps) (len := len) hE hi hl hc hp hr hv, .slice (i := i') (vs := vs') (ps := ps') hE' hi' hl' hc' hp' hr' hv' => by
    rw [hE] at hE'
    cases hE'
    have e : vs = vs' := by
      have l1 := hv.len.1
      have l2 := hv'.len.1
      apply List.ext_getElem (by omega)
      intro j h1 h2
      have g1 := hr j _ (List.getElem?_eq_getElem h1)
      have g2 := hr' j _ (List.getElem?_eq_getElem h2)
      rw [g1] at g2
      exact Option.some.inj g2
    subst e
    obtain ⟨e1, e2⟩ := hv.func hv'
    rw [e2]
    exact ⟨by rw [flat_inj hi hp hp' (by omega) e1], rfl⟩
theorem RdL.func {ks : List LK} {vs : List Value} {ps ps' : List PV} {oss oss' : List (List (Nat × Nat))} (h : RdL Ty w ks vs ps oss) (h' : RdL Ty w ks vs ps' oss') : ps = ps' ∧ oss = oss' :=
  match h, h' with
  | .nil, .nil => ⟨rfl, rfl⟩
  | .cons a r, .cons a' r' => by
    obtain ⟨e1, e2⟩ := a.func a'
    obtain ⟨e3, e4⟩ := r.func r'
    rw [e1, e2, e3, e4]
    exact ⟨rfl, rfl⟩
end
end Go.Pm
