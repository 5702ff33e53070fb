/-
  Where ways meet: the checker's knowledge is joined; what is known fits a joined knowledge.
-/
import Derived.Test.YtokpfnfmoakojaaPmDrawOk
namespace Go.Pm
open Go

abbrev Pairs := List (Nat × Nat)
def pairLIs : List LK → List LI → List LI → Pairs
  | k :: ks, x :: r, y :: s => match isSl k with
    | true => (x.tag, y.tag) :: (x.dt, y.dt) :: pairLIs ks r s
    | false => pairLIs ks r s
  | _, _, _ => []
def pairParts : List (Bool × List LK × List LI) → List (Bool × List LK × List LI) → Pairs
  | x :: r, y :: s => pairLIs x.2.1 x.2.2 y.2.2 ++ pairParts r s
  | _, _ => []
def pairSI : SI → SI → Pairs
  | .val _ k l, .val _ _ l' => pairLIs k l l'
  | .tup l, .tup l' => pairParts l l'
  | .aelem _ l _, .aelem _ l' _ => [(l.tag, l'.tag), (l.dt, l'.dt)]
  | .velem _ _ l _ _, .velem _ _ l' _ _ => [(l.tag, l'.tag), (l.dt, l'.dt)]
  | _, _ => []
def pairSlots (τ : List (Nat × SI)) : List (Nat × SI) → Pairs
  | [] => []
  | (d, s) :: r => match lk d τ with
    | some s' => pairSI s s' ++ pairSlots τ r
    | none => pairSlots τ r
def pairVars (τ : List (Nat × (List LK × List LI))) : List (Nat × (List LK × List LI)) → Pairs
  | [] => []
  | (d, s) :: r => match lk d τ with
    | some s' => pairLIs s.1 s.2 s'.2 ++ pairVars τ r
    | none => pairVars τ r
/-- The names of groups that stand for one another in σ and in τ. -/
def pairSG (σ τ : SG) : Pairs := pairSlots τ.slots σ.slots ++ pairVars τ.vars σ.vars
def renN (a b x : Nat) : Nat := match Nat.beq x a with | true => b | false => x
def renP (a b : Nat) : Pairs → Pairs
  | [] => []
  | (x, y) :: r => (renN a b x, renN a b y) :: renP a b r
/-- Renamings that make the pairs equal, one behind the other. -/
def unify : Nat → Pairs → List Ren
  | 0, _ => []
  | _ + 1, [] => []
  | n + 1, (x, y) :: r => match Nat.beq x y with
    | true => unify n r
    | false => match Nat.ble x y with
      | true => ⟨[y], x, true⟩ :: unify n (renP y x r)
      | false => ⟨[x], y, true⟩ :: unify n (renP x y r)
def andB (a b : Bool) : Bool := match a with | true => b | false => false
def meetLI (x y : LI) : Option LI :=
  match Nat.beq x.tag y.tag, Nat.beq x.dt y.dt with
  | true, true => some ⟨x.tag, x.dt, andB x.own y.own, andB x.lin y.lin, match Nat.beq x.id y.id with | true => x.id | false => 0⟩
  | _, _ => none
def meetLIs : List LI → List LI → Option (List LI)
  | [], [] => some []
  | x :: r, y :: s => match meetLI x y, meetLIs r s with
    | some z, some l => some (z :: l)
    | _, _ => none
  | _, _ => none
def meetParts : List (Bool × List LK × List LI) → List (Bool × List LK × List LI) → Option (List (Bool × List LK × List LI))
  | [], [] => some []
  | x :: r, y :: s => match eqB x.1 y.1, eqLKs x.2.1 y.2.1, meetLIs x.2.2 y.2.2, meetParts r s with
    | true, true, some z, some l => some ((x.1, x.2.1, z) :: l)
    | _, _, _, _ => none
  | _, _ => none
def meetSI : SI → SI → Option SI
  | .val a k l, .val a' k' l' => match eqB a a', eqLKs k k', meetLIs l l' with
    | true, true, some z => some (.val a k z)
    | _, _, _ => none
  | .tup l, .tup l' => match meetParts l l' with | some z => some (.tup z) | none => none
  | .avar k o, .avar k' o' => match Nat.beq k k', Nat.beq o o' with | true, true => some (.avar k o) | _, _ => none
  | .aelem k l o, .aelem k' l' o' => match eqLKs k k', Nat.beq o o', meetLI l l' with | true, true, some z => some (.aelem k z o) | _, _, _ => none
  | .velem a k l z o, .velem a' k' l' z' o' => match eqB a a', eqLKs k k', Nat.beq z z', Nat.beq o o', meetLI l l' with | true, true, true, true, some y => some (.velem a k y z o) | _, _, _, _, _ => none
  | .glob g, .glob g' => match Nat.beq g g' with | true => some (.glob g) | false => none
  | _, _ => none
def meetSlots (τ : List (Nat × SI)) : List (Nat × SI) → List (Nat × SI)
  | [] => []
  | (d, s) :: r => match lk d τ with
    | some s' => match meetSI s s' with | some z => (d, z) :: meetSlots τ r | none => meetSlots τ r
    | none => meetSlots τ r
def meetVars (τ : List (Nat × (List LK × List LI))) : List (Nat × (List LK × List LI)) → List (Nat × (List LK × List LI))
  | [] => []
  | (d, s) :: r => match lk d τ with
    | some s' => match eqLKs s.1 s'.1, meetLIs s.2 s'.2 with | true, some z => (d, (s.1, z)) :: meetVars τ r | _, _ => meetVars τ r
    | none => meetVars τ r
def joinSG (σ τ : SG) : SG :=
  let p := pairSG σ τ
  let ρ := unify (p.length + 1) p
  let σ' := rens σ ρ
  let τ' := rens τ ρ
  ⟨meetSlots τ'.slots σ'.slots, meetVars τ'.vars σ'.vars⟩
def renTo : List Nat → Pairs → List Ren
  | _, [] => []
  | seen, (x, y) :: r => match Nat.beq x y with
    | true => renTo seen r
    | false => match memN x seen with
      | true => renTo seen r
      | false => ⟨[x], y, true⟩ :: renTo (x :: seen) r
/-- By way of names that are used nowhere. -/
def awayR (l : List Ren) : List Ren := match l with
  | [] => []
  | r :: l => ⟨r.A, r.m + 16777216, true⟩ :: awayR l
def backR (l : List Ren) : List Ren := match l with
  | [] => []
  | r :: l => ⟨[r.m + 16777216], r.m, true⟩ :: backR l
def fitBy (τ σ : SG) (ρ : List Ren) : Bool :=
  match rensOk ρ with
  | true => leSG τ (rens σ ρ)
  | false => false
/-- 'σ' may be told as 'τ'. -/
def fitSG (τ σ : SG) : Bool :=
  let ρ := renTo [] (pairSG σ τ)
  match fitBy τ σ ρ with
  | true => true
  | false => fitBy τ σ (awayR ρ ++ backR ρ)
theorem fitBy_ok {f : Fix} {u : Wit} {st : St} {σ τ : SG} {ρ : List Ren} {a : Act} {w : World} (h : Rel f u st σ a w) (hf : fitBy τ σ ρ = true) : ∃ u', Rel f u' st τ a w := by
  unfold fitBy at hf
  split at hf
  · rename_i hr
    obtain ⟨u1, h1⟩ := Rel.rens h (rensOk_ok hr)
    exact ⟨_, h1.weak hf⟩
  · cases hf
theorem fit_ok {f : Fix} {u : Wit} {st : St} {σ τ : SG} {a : Act} {w : World} (h : Rel f u st σ a w) (hf : fitSG τ σ = true) : ∃ u', Rel f u' st τ a w := by
  unfold fitSG at hf
  simp only at hf
  split at hf
  · rename_i hr
    exact fitBy_ok h hr
  · exact fitBy_ok h hf
end Go.Pm
