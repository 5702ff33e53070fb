/-
  An element of a row that is read alone is written.
-/
import Derived.Test.YtokpfnfmoakojaaPmPlace
namespace Go.Pm
open Go

variable {Ty : Nat → TyK} {w w' : World}

theorem three {α : Type} (l : List α) (a n : Nat) : l.take a ++ (l.drop a).take n ++ l.drop (a + n) = l := by
  rw [← List.drop_drop, List.append_assoc, List.take_append_drop, List.take_append_drop]

theorem flat_set {i : TyI} (hi : i.ok) {l : List PV} (hel : ∀ p ∈ l, ElOk i p) {ix : Nat} (hix : ix < l.length) (e : PV) :
    (l.set ix e).flatMap cellsOf = (l.flatMap cellsOf).take (ix * i.leaves.length) ++ cellsOf e ++ (l.flatMap cellsOf).drop (ix * i.leaves.length + i.leaves.length) := by
  rw [← flat_over hi hel hix, List.set_eq_take_append_cons_drop, if_pos hix]
  simp

theorem row_set {i : TyI} (hi : i.ok) {l : List PV} (hel : ∀ p ∈ l, ElOk i p) {vs : List Value} {oss osse : List (List (Nat × Nat))} (h : RdL Ty w (List.replicate l.length i.leaves).flatten vs (l.flatMap cellsOf) oss) {ix : Nat} (hix : ix < l.length) {e : PV} {vs' : List Value}
    (he : RdL Ty w' i.leaves vs' (cellsOf e) osse) (h1 : SameOn w w' (oss.take (ix * i.leaves.length)).flatten) (h2 : SameOn w w' (oss.drop (ix * i.leaves.length + i.leaves.length)).flatten) :
    RdL Ty w' (List.replicate l.length i.leaves).flatten (vs.take (ix * i.leaves.length) ++ vs' ++ vs.drop (ix * i.leaves.length + i.leaves.length)) ((l.set ix e).flatMap cellsOf)
      (oss.take (ix * i.leaves.length) ++ osse ++ oss.drop (ix * i.leaves.length + i.leaves.length)) := by
  have := (((h.take (ix * i.leaves.length)).frame h1).append he).append ((h.drop (ix * i.leaves.length + i.leaves.length)).frame h2)
  rw [flat_set hi hel hix]
  have ek := three (List.replicate l.length i.leaves).flatten (ix * i.leaves.length) i.leaves.length
  rw [rep_drop_take l.length i.leaves hix] at ek
  rwa [ek] at this

theorem noSl_nil : ∀ {ks : List LK} {vs : List Value} {ps : List PV} {oss : List (List (Nat × Nat))}, RdL Ty w ks vs ps oss → anySl ks = false → oss = ks.map fun _ => []
  | _, _, _, _, .nil, _ => rfl
  | k :: _, _, _, _, .cons h r, hk => by
    simp only [anySl] at hk
    cases hs : isSl k with
    | true => simp [hs] at hk
    | false =>
      simp only [hs] at hk
      rw [h.noSlice hs, noSl_nil r hk]
      rfl

theorem anySl_sub {ks : List LK} (h : anySl ks = false) (a n : Nat) : anySl ((ks.drop a).take n) = false := by
  have key : ∀ {l : List LK}, (∀ k ∈ l, isSl k = false) → anySl l = false := fun {l} => by
    induction l with
    | nil => intro _; rfl
    | cons k r ih => intro hl; simp [anySl, hl k, ih fun k' hk' => hl k' (List.mem_cons_of_mem _ hk')]
  exact key fun k hk => anySl_false h k (List.mem_of_mem_drop (List.mem_of_mem_take hk))

end Go.Pm
