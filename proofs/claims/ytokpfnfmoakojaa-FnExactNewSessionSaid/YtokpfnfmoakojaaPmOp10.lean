/-
  make of a slice; a string of bytes.
-/
import Derived.Test.YtokpfnfmoakojaaPmOp9
import Derived.Laws.MakeOwn
import Derived.Laws.BytesArg
namespace Go.Pm
open Go

section
variable {P : Program} {G : Env} {K : CEnv} {f : Fix} {H : Hint} {u : Wit} {st st' : St} {σ σ' : SG} {a : Act} {w : World} {o : Oper}

theorem makeSl_ok (hS : Setting P G K f) (h : Rel f u st σ a w) {t : TypeId} {x y : Operand} {e : Eff} {ce : CE} (ho : o.op = .makeSlice t x y) (hp : pMake stdF (elemTy G t) (evV st.env x) (evV st.env y) = some e) (hp' : papply stdF H o.dst st e = some st')
    {n : Nat} (hn : n ≠ 0) (hc : cMake σ n (cElemTy K t) x y = some ce) (hc' : capply f.N o.dst σ ce = some σ') : Goal P f o a w st' σ' := by
  unfold cMake at hc
  split at hc
  · rename_i E i hei hx hy
    cases hc
    obtain ⟨hu, hE, hg⟩ := cElemTy_eq hS hei
    obtain ⟨kx, hkx⟩ := isInt_ok hx
    obtain ⟨ky, hky⟩ := isInt_ok hy
    rw [hg] at hp
    unfold pMake at hp
    split at hp
    · rename_i i' k n' k' m hi' hvx hvy
      cases hi'
      obtain ⟨_, g1⟩ := h.kind hkx hvx
      obtain ⟨nx, ex, e1⟩ := g1.asInt
      cases e1
      obtain ⟨_, g2⟩ := h.kind hky hvy
      obtain ⟨ny, ey, e2⟩ := g2.asInt
      cases e2
      split at hp
      · rename_i l hl
        simp only [putV, Option.some.injEq] at hp
        subst hp
        simp only [stdF, stdRep] at hl
        split at hl
        · rename_i hb
          obtain ⟨hb1, hb2, hb3⟩ := hb
          subst hb1
          simp only [Option.some.injEq] at hl
          subst hl
          obtain ⟨hi, inf, z, h1, h2, h2b, h3, h4⟩ := hS.tab.ty E i hE
          have hzs : z.cells.size = i.leaves.length := by rw [← Array.length_toList, h4]; simp
          have hzl : (madeCells z.cells (n'.toNat * inf.size)).toList = (List.replicate n'.toNat (i.leaves.map LK.zeroV)).flatten := by
            unfold madeCells
            rw [h2, ← hzs, zeros_list z.cells n'.toNat (by have := hi.1; omega), h4]
          have hsz : (madeCells z.cells (n'.toNat * inf.size)).size = n'.toNat * i.leaves.length := by rw [size_madeCells, h2]
          obtain ⟨u', hr⟩ := row_step h hE hi (cells := madeCells z.cells (n'.toNat * inf.size)) (cap := n'.toNat) (Grows.refl w) (A := []) (oss := List.replicate (n'.toNat * i.leaves.length) []) hp' hc' hn (fun hm => by simp [memN] at hm) rfl
            (fun p hp => by rw [(List.mem_replicate.1 hp).2]; exact (zeroOf_cells hi).2) (by simp) (by unfold maxLen; omega) (by simp) hsz
            (by rw [List.length_replicate, List.take_of_length_le (by rw [Array.length_toList, hsz]; exact Nat.le_refl _), hzl]; exact RdL.zerosN hi _) (fun q hq => by simp at hq) (fun _ => by simp)
          rw [List.length_replicate] at hr
          refine .value ?_ hr
          have := run_make (P := P) w t E inf z hu h1 h3 kx ky n' n' hb2 (Int.le_refl _) (by
            have := Int.mul_le_mul (show (inf.bytes : Int) ≤ 65536 by omega) hb3 hb2 (by omega)
            omega) (by omega)
          unfold execOp
          simp only [ho, ex, ey, Sem.run_bind, this]
          rfl
        · cases hl
      · cases hp
    · cases hp
  · cases hc

/-- A row of bytes. -/
theorem bytes_row {Ty : Nat → TyK} : ∀ {n : Nat} {vs : List Value} {ps : List PV} {oss : List (List (Nat × Nat))}, RdL Ty w (List.replicate n (.int .u8)) vs ps oss →
    ∃ ns : List Int, ns.length = n ∧ vs = ns.map (Value.int .u8) ∧ stdBts ps = some (ns.map fun n => UInt8.ofNat n.toNat)
  | 0, _, _, _, h => by
    cases h
    exact ⟨[], rfl, rfl, rfl⟩
  | n + 1, _, _, _, h => by
    rw [List.replicate_succ] at h
    cases h with
    | cons h r =>
      obtain ⟨ns, e1, e2, e3⟩ := bytes_row r
      obtain ⟨m, rfl, rfl⟩ := h.asInt
      exact ⟨m :: ns, by simp [e1], by simp [e2], by simp [stdBts, e3]⟩

theorem bts_ok (hS : Setting P G K f) (h : Rel f u st σ a w) {s t : TypeId} {x : Operand} {e : Eff} {ce : CE} (ho : o.op = .convert s t x) (hp : pConv stdF (tyOf G t) (evV st.env x) = some e) (hp' : papply stdF H o.dst st e = some st')
    (hc : cBts K σ (tyC K s) (tyC K t) x = some ce) (hc' : capply f.N o.dst σ ce = some σ') : Goal P f o a w st' σ' := by
  unfold cBts at hc
  split at hc
  · rename_i E fl sz fl' sz' E' li h1 h2 h3
    split at hc
    · rename_i ie q1 hE
      have := beq_eq.1 q1; subst this
      split at hc
      · rename_i hby
        have hty := tyC_eq hS h2
        have hsy := tyC_eq hS h1
        have hEy := tyC_eq hS hE
        obtain ⟨k2, e1, e2⟩ := hS.tab.one t _ hty rfl
        simp only [List.cons.injEq, and_true] at e1
        subst e1
        obtain ⟨k3, e3, e4⟩ := hS.tab.one s _ hsy rfl
        simp only [List.cons.injEq, and_true] at e3
        subst e3
        have hg : tyOf G t = some ⟨false, [.str], fl', sz'⟩ := by unfold tyOf; rw [hS.gty, hty]
        rw [hg] at hp
        simp only [pConv] at hp
        split at hp
        · rename_i v hv
          obtain ⟨lfs, g⟩ := h.val Nat.one_ne_zero h3 hv
          obtain ⟨os, hv1, ho1, rd⟩ := g.rd.isOne
          simp only [putS, Option.some.injEq] at hc
          subst hc
          obtain ⟨agg, leaves, fields, sizes⟩ := ie
          obtain ⟨rfl, rfl⟩ : agg = false ∧ leaves = [.int .u8] := by
            unfold isBytes at hby
            split at hby
            · rename_i heq; cases heq; exact ⟨rfl, rfl⟩
            · cases hby
          obtain ⟨k5, e5, e6⟩ := hS.tab.one E _ hEy rfl
          simp only [List.cons.injEq, and_true] at e5
          subst e5
          have hl : ∃ l, v = .slice l := by
            generalize a.eval x = z at rd
            cases rd <;> exact ⟨_, rfl⟩
          obtain ⟨l, rfl⟩ := hl
          simp only [convTo] at hp
          cases hb : stdF .bts l with
          | none => simp [hb, putV] at hp
          | some bs =>
            simp only [hb, putV, Option.some.injEq] at hp
            subst hp
            have hrun : (convert s t (a.eval x)).run P w = .ok (.string ⟨bs.toArray⟩) w := by
              rcases rd.sliceInv with ⟨hv', rfl, _⟩ | ⟨i', b, of, cap, vs, oss, hv', hos, hTy, hi, hcap, hel, hra, hrd⟩
              · have : bs = [] := by simpa [stdF, stdBts] using hb.symm
                subst this
                rw [hv', run_convert_bytes_nil w s E e4 e6 _ _ t e2]
                rfl
              · rw [hEy] at hTy
                cases hTy
                have hfl : l.flatMap cellsOf = l := by
                  have : ∀ m : List PV, (∀ p ∈ m, ElOk ⟨false, [.int .u8], fields, sizes⟩ p) → m.flatMap cellsOf = m := fun m => by
                    induction m with
                    | nil => intro _; rfl
                    | cons p r ih => intro hm; rw [List.flatMap_cons, ih fun q hq => hm q (List.mem_cons_of_mem _ hq), cellsOf_ne (hm p (by simp))]; rfl
                  exact this l hel
                have hrep : (List.replicate l.length ([.int .u8] : List LK)).flatten = List.replicate l.length (.int .u8) := by
                  generalize l.length = m
                  induction m with
                  | zero => rfl
                  | succ m ih => simp [List.replicate_succ, ih]
                rw [hfl, hrep] at hrd
                obtain ⟨ns, n1, n2, n3⟩ := bytes_row hrd
                have e7 : bs = ns.map fun n => UInt8.ofNat n.toNat := by
                  have : stdBts l = some bs := hb
                  rw [n3] at this
                  exact (Option.some.inj this).symm
                rw [hv', run_convert_bytes_arg w s E e4 e6 b of l.length cap ns n1 (fun i hi => by
                  have := hra i (.int .u8 (ns.getD i 0)) (by rw [n2]; simp [List.getD, List.getElem?_eq_getElem (show i < ns.length by omega)])
                  exact this) t e2, e7]
                rfl
            have hstr : Rd f.Ty w .str (.string ⟨bs.toArray⟩) (.str bs) [] := by
              have := Rd.str (Ty := f.Ty) (w := w) ⟨bs.toArray⟩
              simpa using this
            obtain ⟨u', hr⟩ := scal_put h hp' hc' hstr
            refine .value ?_ hr
            unfold execOp
            simp only [ho, Sem.run_bind, hrun]
            rfl
        · cases hp
      · cases hc
    · cases hc
  · cases hc
end
end Go.Pm
