/-
  A table of types, looked at by a closed test.
-/
import Derived.Test.YtokpfnfmoakojaaPmRun
import Derived.KernelRfl
namespace Go.Pm
open Go

def tyAt (tab : List (Nat × TyK)) (t : Nat) : TyK := match lk t tab with | some k => k | none => .other
def zeroIs : LK → Value → Bool
  | .int k, .int k' n => match sameKind k k', n with
    | true, .ofNat m => Nat.beq m 0
    | _, _ => false
  | .bool, .bool b => match b with | true => false | false => true
  | .str, .string s => match s with | ⟨⟨[]⟩⟩ => true | _ => false
  | .slice _, .slice none n m => match Nat.beq n 0 with | true => Nat.beq m 0 | false => false
  | _, _ => false
def zerosAre : List LK → List Value → Bool
  | [], [] => true
  | k :: ks, v :: vs => match zeroIs k v with | true => zerosAre ks vs | false => false
  | _, _ => false
def descIs : LK → TypeDesc → Bool
  | .int k, .int k' => sameKind k k'
  | .bool, .bool => true
  | .str, .string => true
  | .slice e, .slice e' => Nat.beq e e'
  | _, _ => false
def fieldsAre (P : Program) : List Nat → List Nat → List Field → Bool
  | [], [], [] => true
  | o :: os, s :: ss, f :: fs => match Nat.beq o f.offset, P.info? f.type with
    | true, some inf => match Nat.beq s inf.size, Nat.beq s 0 with
      | true, false => fieldsAre P os ss fs
      | _, _ => false
    | _, _ => false
  | _, _, _ => false
def tyCheck (P : Program) (t : Nat) (i : TyI) : Bool :=
  match P.info? t, P.underlying t with
  | some inf, some d => match Nat.beq inf.size i.leaves.length, Nat.ble inf.bytes 65536, Nat.beq i.leaves.length 0, inf.zero with
    | true, true, false, some z => match zerosAre i.leaves z.cells.toList with
      | true => match i.agg with
        | true => match d with
          | .struct fs => fieldsAre P i.fields i.sizes fs.toList
          | _ => false
        | false => match i.leaves with
          | [k] => descIs k d
          | _ => false
      | false => false
    | _, _, _, _ => false
  | _, _ => false
def tabCheck (P : Program) : List (Nat × TyK) → Bool
  | [] => true
  | (t, k) :: r => match k with
    | .val i => match tyCheck P t i with | true => tabCheck P r | false => false
    | _ => tabCheck P r

theorem zeroIs_ok {k : LK} {v : Value} (h : zeroIs k v = true) : v = k.zeroV := by
  unfold zeroIs at h
  split at h
  · split at h
    · rename_i hk
      have := sameKind_eq hk; subst this
      have := Nat.eq_of_beq_eq_true h; subst this
      rfl
    · cases h
  · split at h
    · cases h
    · rfl
  · split at h
    · rfl
    · cases h
  · split at h
    · rename_i h1
      have := Nat.eq_of_beq_eq_true h1; subst this
      have := Nat.eq_of_beq_eq_true h; subst this
      rfl
    · cases h
  · cases h
theorem zerosAre_ok : ∀ {ks : List LK} {vs : List Value}, zerosAre ks vs = true → vs = ks.map LK.zeroV
  | [], [], _ => rfl
  | [], _ :: _, h => by simp [zerosAre] at h
  | _ :: _, [], h => by simp [zerosAre] at h
  | k :: ks, v :: vs, h => by
    simp only [zerosAre] at h
    split at h
    · rename_i h1
      rw [List.map_cons, zeroIs_ok h1, ← zerosAre_ok h]
    · cases h
theorem descIs_ok {k : LK} {d : TypeDesc} (h : descIs k d = true) : d = k.desc := by
  unfold descIs at h
  split at h
  · rw [sameKind_eq h]; rfl
  · rfl
  · rfl
  · rw [Nat.eq_of_beq_eq_true h]; rfl
  · cases h
theorem fieldsAre_ok {P : Program} : ∀ {os ss : List Nat} {fs : List Field}, fieldsAre P os ss fs = true → os.length = fs.length ∧ ss.length = fs.length ∧ ∀ (j : Nat) (fl : Field), fs[j]? = some fl → os[j]? = some fl.offset ∧ ∃ inf, P.info? fl.type = some inf ∧ ss[j]? = some inf.size ∧ inf.size ≠ 0
  | [], [], [], _ => ⟨rfl, rfl, fun j fl h => by simp at h⟩
  | o :: os, s :: ss, f :: fs, h => by
    simp only [fieldsAre] at h
    split at h
    · rename_i inf h1 h2
      split at h
      · rename_i h3 h4
        obtain ⟨l1, l2, l3⟩ := fieldsAre_ok h
        have e1 := Nat.eq_of_beq_eq_true h1
        have e2 := Nat.eq_of_beq_eq_true h3
        refine ⟨by simp [l1], by simp [l2], fun j fl hj => ?_⟩
        cases j with
        | zero =>
          simp only [List.getElem?_cons_zero, Option.some.injEq] at hj
          subst hj
          exact ⟨by rw [e1]; rfl, inf, h2, by rw [e2]; rfl, by rw [← e2]; exact beq_ne.1 h4⟩
        | succ j =>
          simp only [List.getElem?_cons_succ] at hj ⊢
          exact l3 j fl hj
      · cases h
    · cases h
  | [], [], _ :: _, h | [], _ :: _, _, h | _ :: _, [], _, h | _ :: _, _ :: _, [], h => by simp [fieldsAre] at h
theorem tabCheck_at {P : Program} : ∀ {tab : List (Nat × TyK)}, tabCheck P tab = true → ∀ {t : Nat} {i : TyI}, lk t tab = some (.val i) → tyCheck P t i = true
  | [], _, _, _, h => by simp [lk] at h
  | (t', k) :: r, h, t, i, hl => by
    simp only [lk] at hl
    simp only [tabCheck] at h
    split at hl
    · rename_i hb
      have := Nat.eq_of_beq_eq_true hb; subst this
      cases hl
      simp only at h
      split at h
      · rename_i h1; exact h1
      · cases h
    · split at h
      · split at h
        · exact tabCheck_at h hl
        · cases h
      · exact tabCheck_at h hl
theorem tab_ok {P : Program} {tab : List (Nat × TyK)} (h : tabCheck P tab = true) : TabOk P (tyAt tab) := by
  have key : ∀ {t i}, tyAt tab t = .val i → tyCheck P t i = true := fun {t i} ht => by
    unfold tyAt at ht
    split at ht
    · rename_i k hk; subst ht; exact tabCheck_at h hk
    · cases ht
  have open_ : ∀ {t i}, tyAt tab t = .val i → ∃ inf d z, P.info? t = some inf ∧ P.underlying t = some d ∧ inf.size = i.leaves.length ∧ inf.bytes ≤ 65536 ∧ i.leaves.length ≠ 0 ∧ inf.zero = some z ∧ z.cells.toList = i.leaves.map LK.zeroV ∧
      ((i.agg = true ∧ ∃ fs, d = .struct fs ∧ fieldsAre P i.fields i.sizes fs.toList = true) ∨ (i.agg = false ∧ ∃ k, i.leaves = [k] ∧ d = k.desc)) := fun {t i} ht => by
    have hc := key ht
    unfold tyCheck at hc
    split at hc
    · rename_i inf d h1 h2
      split at hc
      · rename_i z q1 q2 q3 q4
        split at hc
        · rename_i hz
          refine ⟨inf, d, z, h1, h2, Nat.eq_of_beq_eq_true q1, Nat.ble_eq.mp q2, beq_ne.1 q3, q4, zerosAre_ok hz, ?_⟩
          split at hc
          · rename_i ha
            split at hc
            · rename_i fs
              exact .inl ⟨ha, fs, rfl, hc⟩
            · cases hc
          · rename_i ha
            split at hc
            · rename_i k hk
              exact .inr ⟨ha, k, hk, descIs_ok hc⟩
            · cases hc
        · cases hc
      · cases hc
    · cases hc
  refine ⟨fun t i ht => ?_, fun t i ht ha => ?_, fun t i ht ha => ?_⟩
  · obtain ⟨inf, d, z, h1, h2, h3, h4, h5, h6, h7, h8⟩ := open_ ht
    refine ⟨⟨by omega, fun ha => ?_⟩, inf, z, h1, h3, h4, h6, h7⟩
    rcases h8 with ⟨h8, _⟩ | ⟨_, k, hk, _⟩
    · rw [ha] at h8; cases h8
    · rw [hk]; rfl
  · obtain ⟨inf, d, z, h1, h2, h3, h4, h5, h6, h7, h8⟩ := open_ ht
    rcases h8 with ⟨_, fs, rfl, hf⟩ | ⟨h8, _⟩
    · obtain ⟨l1, l2, l3⟩ := fieldsAre_ok hf
      exact ⟨fs, h2, by simpa using l1, by simpa using l2, fun j fl hj => l3 j fl (by simpa using hj)⟩
    · rw [ha] at h8; cases h8
  · obtain ⟨inf, d, z, h1, h2, h3, h4, h5, h6, h7, h8⟩ := open_ ht
    rcases h8 with ⟨h8, _⟩ | ⟨_, k, hk, rfl⟩
    · rw [ha] at h8; cases h8
    · exact ⟨k, hk, h2⟩

/-! ### The functions -/
/-- A list of functions by numbers, each with its signature. -/
def sigsAt (l : List (Nat × GSig)) (g : Nat) : Option GSig := lk g l
def hintsAt (l : List (Nat × Hint)) (g : Nat) : Hint := match lk g l with | some h => h | none => ⟨[], [], [], []⟩
def ktab (tab : List (Nat × TyK)) (sigs : List (Nat × GSig)) (gks : Nat → Option (List LK)) : CEnv := ⟨tyAt tab, sigsAt sigs, gks⟩
def gtab (tab : List (Nat × TyK)) (hints : List (Nat × Hint)) (globs : Nat → Option (List PV)) (ext : Nat → Option (List Arg → Option Res)) : Env := ⟨tyAt tab, hintsAt hints, globs, ext⟩
theorem lk_mem {α : Type} {k : Nat} {a : α} : ∀ {l : List (Nat × α)}, lk k l = some a → (k, a) ∈ l
  | [], h => by simp [lk] at h
  | (j, b) :: r, h => by
    simp only [lk] at h
    split at h
    · rename_i hb
      have := Nat.eq_of_beq_eq_true hb; subst this
      cases h
      exact List.mem_cons_self
    · exact List.mem_cons_of_mem _ (lk_mem h)
/-- One function is looked at. -/
def FnOk (P : Program) (K : CEnv) (hints : Nat → Hint) (g : Nat) (sg : GSig) : Prop := ∃ fn, P.funcs[g]? = some fn ∧ cFn K (hints g) sg fn = true ∧ (fn.name == "runtime.NumGoroutine") = false
theorem FnOk.enters {P : Program} {K : CEnv} {hints : Nat → Hint} {g : Nat} {sg : GSig} (h : FnOk P K hints g sg) : Enters P g := by
  obtain ⟨fn, h1, h2, h3⟩ := h
  refine enters_of h1 ?_ h3
  unfold cFn at h2
  split at h2
  · cases h2
  · rename_i c hc; rw [hc]; rfl
inductive AllFn (P : Program) (K : CEnv) (hints : Nat → Hint) : List (Nat × GSig) → Prop
  | nil : AllFn P K hints []
  | cons {g : Nat} {sg : GSig} {r : List (Nat × GSig)} (h : FnOk P K hints g sg) (t : AllFn P K hints r) : AllFn P K hints ((g, sg) :: r)
theorem AllFn.at {P : Program} {K : CEnv} {hints : Nat → Hint} : ∀ {l : List (Nat × GSig)}, AllFn P K hints l → ∀ {g : Nat} {sg : GSig}, (g, sg) ∈ l → FnOk P K hints g sg
  | _, .nil, _, _, h => by cases h
  | _, .cons h t, g, sg, hm => by
    rcases List.mem_cons.1 hm with e | hm
    · cases e; exact h
    · exact t.at hm
def noGks : Nat → Option (List LK) := fun _ => none
def noExt : Nat → Option (List Arg → Option Res) := fun _ => none
def baseOf (P : Program) (tab : List (Nat × TyK)) : Base := ⟨P, tyAt tab, noGlobs, fun _ => []⟩
/-- A program without package variables that are read, and without functions from elsewhere. -/
theorem prog_ok {P : Program} {tab : List (Nat × TyK)} {sigs : List (Nat × GSig)} {hints : List (Nat × Hint)} (ht : tabCheck P tab = true) (hm : P.follows .mixedOrders = true) (hf : AllFn P (ktab tab sigs noGks) (hintsAt hints) sigs) :
    ProgOk (baseOf P tab) (gtab tab hints noGlobs noExt) (ktab tab sigs noGks) where
  tab := tab_ok ht
  kty := rfl
  gty := rfl
  gks := fun g ks h => by cases h
  globs := rfl
  mixed := hm
  enters := fun g sg h => (hf.at (lk_mem h)).enters
  fns := fun g sg h _ => by
    obtain ⟨fn, h1, h2, _⟩ := hf.at (lk_mem h)
    exact ⟨fn, h1, h2⟩
  ext := fun g sg F _ h => by cases h
end Go.Pm
