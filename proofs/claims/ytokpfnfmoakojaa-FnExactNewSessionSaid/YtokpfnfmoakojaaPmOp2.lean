/-
  The operations that leave the memory as it is: the second part.
-/
import Derived.Test.YtokpfnfmoakojaaPmOp1
import Derived.Laws.Strings
namespace Go.Pm
open Go
section
variable {P : Program} {G : Env} {K : CEnv} {f : Fix} {H : Hint} {C : FuncId → List Arg → Option Res} {glob : Bool} {u : Wit} {st st' : St} {σ σ' : SG} {a : Act} {w : World} {o : Oper}

theorem binII_run {Ty : Nat → TyK} {op : BinOp} {T : TypeId} {k k' : IntKind} {x y : Int} {r : PV} {kr : LK} (hb : binII stdF op k k' x y = some r) (hk : binK op (some (.int k)) (some (.int k')) = some kr) :
    ∃ v, (binOp op T (.int k x) (.int k' y)).run P w = .ok v w ∧ Rd Ty w kr v r [] := by
  unfold binII at hb
  simp only [binK] at hk
  cases op <;> simp only [isShift, isCmp, isDiv] at hb hk
  case shl | shr =>
    simp only [stdF, stdShf] at hb
    simp only [binOp, Op.shift]
    split at hb
    · rename_i n hn
      cases hb
      cases hk
      split at hn
      · cases hn
      · rename_i hy
        cases hn
        rw [if_neg hy]
        exact ⟨_, rfl, .int _ _⟩
    · cases hb
  all_goals
    cases hs : sameKind k k' with
    | false => simp [hs] at hb
    | true =>
      have := sameKind_eq hs
      subst this
      simp only [hs] at hb
      first
      | (cases hb; cases hk; refine ⟨.int k (stdF .ar _ k x y), ?_, .int _ _⟩; simp [binOp, Op.intArith, Op.intBits, stdF, stdAr, bitsOf]; done)
      | (cases hb; cases hk; refine ⟨.bool (stdF .cmp _ x y), ?_, .bool _⟩; simp [binOp, Op.intCmp, stdF, stdCmp]; done)
      | (simp only [stdF, stdDv] at hb
         split at hb
         · rename_i n hn
           cases hb
           cases hk
           split at hn
           · cases hn
           · rename_i hy
             cases hn
             exact ⟨_, by simp [binOp, Op.intDiv, hy], .int _ _⟩
         · cases hb)

theorem binSS_run {Ty : Nat → TyK} {op : BinOp} {T : TypeId} {x y : ByteArray} {r : PV} {kr : LK} (hb : binSS stdF op x.data.toList y.data.toList = some r) (hk : binK op (some .str) (some .str) = some kr) :
    ∃ v, (binOp op T (.string x) (.string y)).run P w = .ok v w ∧ Rd Ty w kr v r [] := by
  unfold binSS at hb
  simp only [binK] at hk
  cases op <;> simp only [isCmp] at hb hk
  case add =>
    simp only [stdF, stdScat] at hb
    split at hb
    · rename_i s hs
      cases hb
      cases hk
      split at hs
      · rename_i hlen
        cases hs
        refine ⟨.string (x ++ y), ?_, ?_⟩
        · have : ¬ ((x.size + y.size : Nat) : Int) > 9223372036854775807 := by
            have h1 : x.size = x.data.toList.length := by simp
            have h2 : y.size = y.data.toList.length := by simp
            omega
          simp only [binOp, Op.stringOp, IntKind.max_i64]
          rw [if_neg this]
          rfl
        · have := Rd.str (Ty := Ty) (w := w) (x ++ y)
          simpa using this
      · cases hs
    · cases hb
  all_goals
    first
    | (cases hb; done)
    | (cases hb; cases hk; refine ⟨.bool (stdF .scmp _ x.data.toList y.data.toList), ?_, .bool _⟩; simp [binOp, Op.stringOp, stdF, stdScmp, ByteArray.toList_eq]; done)

theorem run_equalIn_bool {T : TypeId} {x y : Bool} (hT : P.underlying T = some .bool) (d : Nat) : (Op.equalIn (d + 1) T (.bool x) (.bool y)).run P w = .ok (x == y) w := by
  simp [Op.equalIn, run_underlying hT]
theorem tyC_eq (hS : Setting P G K f) {t : TypeId} {i : TyI} (h : tyC K t = some i) : f.Ty t = .val i := by
  unfold tyC at h
  rw [hS.kty] at h
  split at h
  · rename_i j hj; cases h; exact hj
  · cases h
theorem exOne_eq (hS : Setting P G K f) {t : TypeId} {k : LK} (h : exOne (tyC K t) = [k]) : P.underlying t = some k.desc := by
  unfold exOne at h
  split at h
  · rename_i i hi
    split at h
    · rename_i ha
      obtain ⟨k', h1, h2⟩ := hS.tab.one t i (tyC_eq hS hi) ha
      rw [h1] at h
      cases h
      exact h2
    · cases h
  · cases h
theorem binBB_run {Ty : Nat → TyK} {op : BinOp} {T : TypeId} {x y : Bool} {r : PV} {kr : LK} (hT : P.underlying T = some .bool) (hb : binBB stdF op x y = some r) (hk : binK op (some .bool) (some .bool) = some kr) :
    ∃ v, (binOp op T (.bool x) (.bool y)).run P w = .ok v w ∧ Rd Ty w kr v r [] := by
  unfold binBB at hb
  simp only [binK, Option.some.injEq] at hk
  subst hk
  have heq : (Op.equal T (.bool x) (.bool y)).run P w = .ok (x == y) w := run_equalIn_bool hT 9999
  cases op <;> simp only at hb
  case eql => cases hb; exact ⟨.bool (x == y), by simp [binOp, heq], .bool _⟩
  case neq => cases hb; exact ⟨.bool (!(x == y)), by simp [binOp, heq], .bool _⟩
  all_goals cases hb

theorem bin_ok (hS : Setting P G K f) (h : Rel f u st σ a w) {op : BinOp} {T T' : TypeId} {x y : Operand} {e : Eff} {ce : CE} (ho : o.op = .binOp op T x y T') (hp : pBin stdF op (evV st.env x) (evV st.env y) = some e) (hp' : papply stdF H o.dst st e = some st')
    (hc : cBin σ op (exOne (tyC K T)) x y = some ce) (hc' : capply f.N o.dst σ ce = some σ') : Goal P f o a w st' σ' := by
  unfold pBin at hp
  split at hp
  · rename_i p q hx hy
    unfold cBin at hc
    split at hc
    · rename_i k l1 k' l2 h1 h2
      obtain ⟨lf1, g1⟩ := h.val (by decide) h1 hx
      obtain ⟨lf2, g2⟩ := h.val (by decide) h2 hy
      obtain ⟨os1, _, _, r1⟩ := g1.rd.isOne
      obtain ⟨os2, _, _, r2⟩ := g2.rd.isOne
      have hpa : binA stdF op p q = bin stdF op p q := by
        have n1 := r1.notAgg
        cases p <;> first | rfl | exact absurd rfl (n1 _)
      rw [hpa] at hp
      have fin : ∀ {kr : LK} {r : PV}, (∃ v, (binOp op T (a.eval x) (a.eval y)).run P w = .ok v w ∧ Rd f.Ty w kr v r []) → (eqGuard op T x y (a.eval x) (a.eval y) = pure ()) → e = .put (.val r) → ce = .put [] (.val false [kr] [scal]) → Goal P f o a w st' σ' := by
        intro kr r hv hg he hce
        obtain ⟨v, hv, hr⟩ := hv
        subst he; subst hce
        obtain ⟨u', hr'⟩ := scal_put h hp' hc' hr
        refine .value (v := v) (w' := w) ?_ hr'
        unfold execOp
        simp only [ho, hg]
        simp [hv]
      cases hv : bin stdF op p q with
      | none => simp [hv, putV] at hp
      | some r =>
        simp only [hv, putV, Option.some.injEq] at hp
        have hce : ∃ kr, binK op (some k) (some k') = some kr ∧ ce = .put [] (.val false [kr] [scal]) := by
          split at hc
          · obtain ⟨kr, e1, _, e2⟩ := mustS_eq hc; exact ⟨kr, e1, e2⟩
          · cases hc
          · obtain ⟨kr, e1, _, e2⟩ := mustS_eq hc; exact ⟨kr, e1, e2⟩
        obtain ⟨kr, hk, rfl⟩ := hce
        generalize hvx : a.eval x = vx at r1 fin
        generalize hvy : a.eval y = vy at r2 fin
        cases r1 with
        | int k n =>
          cases r2 with
          | int k' m => exact fin (binII_run (by simpa [bin] using hv) hk) (eqGuard_at_int ..) hp.symm rfl
          | _ => simp [bin] at hv
        | bool b =>
          cases r2 with
          | bool c =>
            have hT : P.underlying T = some .bool := by
              have hl : exOne (tyC K T) = [.bool] := by
                split at hc
                · assumption
                · cases hc
                · simp_all
              exact exOne_eq hS hl
            exact fin (binBB_run hT (by simpa [bin] using hv) hk) (eqGuard_at_bool ..) hp.symm rfl
          | _ => simp [bin] at hv
        | str s =>
          cases r2 with
          | str t => exact fin (binSS_run (by simpa [bin] using hv) hk) (eqGuard_at_string ..) hp.symm rfl
          | _ => simp [bin] at hv
        | nil => cases r2 <;> simp [bin] at hv
        | slice => cases r2 <;> simp [bin] at hv
    · cases hc
  · cases hp

theorem un_ok (h : Rel f u st σ a w) {op : UnOp} {T : TypeId} {x : Operand} {e : Eff} {ce : CE} (ho : o.op = .unOp op T x) (hp : pUn stdF op (evV st.env x) = some e) (hp' : papply stdF H o.dst st e = some st')
    (hc : cUn σ op x = some ce) (hc' : capply f.N o.dst σ ce = some σ') : Goal P f o a w st' σ' := by
  unfold cUn at hc
  split at hc
  · rename_i hk
    simp only [pUn] at hp
    split at hp
    · rename_i b hb
      obtain ⟨os, g⟩ := h.kind hk hb
      obtain ⟨b', g1, g2⟩ := g.asBool
      cases g2
      simp only [putV, Option.some.injEq] at hp
      subst hp
      simp only [putS, Option.some.injEq] at hc
      subst hc
      obtain ⟨u', hr⟩ := scal_put h hp' hc' (.bool (!b))
      exact .value (by unfold execOp; simp [ho, g1, Op.unary]) hr
    · cases hp
  · rename_i k hk
    simp only [pUn] at hp
    split at hp
    · rename_i k' n hb
      obtain ⟨os, g⟩ := h.kind hk hb
      obtain ⟨n', g1, g2⟩ := g.asInt
      cases g2
      simp only [putV, Option.some.injEq] at hp
      subst hp
      simp only [putS, Option.some.injEq] at hc
      subst hc
      obtain ⟨u', hr⟩ := scal_put h hp' hc' (.int k (stdF .ar .sub k 0 n))
      exact .value (by unfold execOp; simp [ho, g1, Op.unary, Op.intArith, stdF, stdAr]) hr
    · cases hp
  · cases hc

theorem under_some (hS : Setting P G K f) {t : TypeId} {i : TyI} (h : tyC K t = some i) : ∃ d, P.underlying t = some d := by
  have hty := tyC_eq hS h
  cases ha : i.agg with
  | true => obtain ⟨fs, h1, _⟩ := hS.tab.agg t i hty ha; exact ⟨_, h1⟩
  | false => obtain ⟨k, _, h2⟩ := hS.tab.one t i hty ha; exact ⟨_, h2⟩

theorem conv_ok (hS : Setting P G K f) (h : Rel f u st σ a w) {s t : TypeId} {x : Operand} {e : Eff} {ce : CE} (ho : o.op = .convert s t x) (hp : pConv stdF (tyOf G t) (evV st.env x) = some e) (hp' : papply stdF H o.dst st e = some st')
    (hc : cConv σ (tyC K s) (tyC K t) x = some ce) (hc' : capply f.N o.dst σ ce = some σ') : Goal P f o a w st' σ' := by
  unfold cConv at hc
  split at hc
  · rename_i i0 k fl sz k' h1 h2 h3
    obtain ⟨ds, hds⟩ := under_some hS h1
    have hty := tyC_eq hS h2
    obtain ⟨k2, e1, e2⟩ := hS.tab.one t _ hty rfl
    simp only [List.cons.injEq, and_true] at e1
    subst e1
    have hg : tyOf G t = some ⟨false, [.int k], fl, sz⟩ := by unfold tyOf; rw [hS.gty, hty]
    rw [hg] at hp
    simp only [pConv] at hp
    split at hp
    · rename_i v hv
      obtain ⟨os, g⟩ := h.kind h3 hv
      obtain ⟨n, g1, g2⟩ := g.asInt
      subst g2
      simp only [convTo, putV, Option.some.injEq] at hp
      subst hp
      simp only [putS, Option.some.injEq] at hc
      subst hc
      obtain ⟨u', hr⟩ := scal_put h hp' hc' (.int k (stdF .conv k n))
      refine .value ?_ hr
      have hcv : (convert s t (.int k' n)).run P w = .ok (.int k (k.wrap n)) w := by
        simp only [convert, Sem.run_bind, run_underlying hds, run_underlying e2, Result.andThen_ok, LK.desc, Conv.intToInt]
        cases ds <;> rfl
      unfold execOp
      simp only [ho, g1, Sem.run_bind, hcv]
      rfl
    · cases hp
  · cases hc

/-- A pointer goes on to a place beside. -/
theorem addr_ok (h : Rel f u st σ a w) {x : Operand} {d : Nat} {en : Ent} {e : Eff} {ce : CE} (hx : evE st.env x = some en) (hp : (match en with | .avar k off => some (Eff.put (.avar k (off + d))) | .aelem j c off => some (.put (.aelem j c (off + d))) | _ => none) = some e)
    (hp' : papply stdF H o.dst st e = some st') (hc : cAddr σ d x = some ce) (hc' : capply f.N o.dst σ ce = some σ')
    (hrun : ∀ b off, a.eval x = .pointer (some ⟨b, off, none⟩) → (execOp a.eval o).run P w = .ok (.value (.pointer (some ⟨b, off + d, none⟩))) w) : Goal P f o a w st' σ' := by
  unfold cAddr at hc
  split at hc
  · rename_i t
    simp only [evE] at hx
    have hev : a.eval (.tmp t) = a.tmps.getD t undef := rfl
    split at hc
    · rename_i k off hs
      cases hc
      obtain ⟨h1, h2⟩ := h.entry hx hs
      obtain ⟨rfl, hv, _⟩ := h1.isVar
      simp only [Option.some.injEq] at hp
      subst hp
      obtain ⟨u', hr⟩ := put_step (v := .pointer (some ⟨u.β k, off + d, none⟩)) (lfs := []) rfl h hp' hc' .avar (fun y hy => by cases hy) (fun y hy => by cases hy)
      exact .value (hrun _ _ (by rw [hev, hv])) hr
    · rename_i ks li off hs
      cases hc
      obtain ⟨h1, h2⟩ := h.entry hx hs
      obtain ⟨b, o', j, cells, rest, row, rfl, hv, hl, g0, g1, g2, g3⟩ := h1.isElem
      simp only [Option.some.injEq] at hp
      subst hp
      obtain ⟨u', hr⟩ := put_step (v := .pointer (some ⟨b, o' + (off + d), none⟩)) rfl h hp' hc' (.aelem g0 g1 g2 g3) (fun y hy => .of_live (h2 y (hl ▸ hy))) (fun y hy => (h.leaf y (h2 y (hl ▸ hy))).lin)
      refine .value (w' := w) ?_ hr
      rw [← Nat.add_assoc]
      exact hrun _ _ (by rw [hev, hv])
    · cases hc
  · cases hc

theorem nil_ok (h : Rel f u st σ a w) {x : Operand} {e : Eff} {ce : CE} (ho : o.op = .nilCheck x) (hp : pAddr (evE st.env x) = some e) (hp' : papply stdF H o.dst st e = some st') (hc : cAddr σ 0 x = some ce) (hc' : capply f.N o.dst σ ce = some σ') :
    Goal P f o a w st' σ' := by
  cases hx : evE st.env x with
  | none => simp [hx, pAddr] at hp
  | some en =>
    rw [hx] at hp
    refine addr_ok h hx (e := e) ?_ hp' hc hc' fun b off hev => ?_
    · revert hp; cases en <;> simp [pAddr]
    · unfold execOp; simp [ho, hev]

theorem field_ok (hS : Setting P G K f) (h : Rel f u st σ a w) {t : TypeId} {x : Operand} {j : Nat} {e : Eff} {ce : CE} (ho : o.op = .fieldAddr t x j) (hp : pField (tyOf G t) j (evE st.env x) = some e) (hp' : papply stdF H o.dst st e = some st')
    (hc : cField σ (tyC K t) x j = some ce) (hc' : capply f.N o.dst σ ce = some σ') : Goal P f o a w st' σ' := by
  unfold cField at hc
  split at hc
  · rename_i i hi
    split at hc
    · rename_i d ha hd
      have hty := tyC_eq hS hi
      have hg : tyOf G t = some i := by unfold tyOf; rw [hS.gty, hty]
      simp only [hg, pField, hd] at hp
      obtain ⟨fs, g1, g2, _, g3⟩ := hS.tab.agg t i hty ha
      have hj : j < fs.size := by rw [← g2]; exact (List.getElem?_eq_some_iff.1 hd).1
      obtain ⟨q1, inf, q2, _, q3⟩ := g3 j fs[j] (Array.getElem?_eq_getElem hj)
      rw [hd] at q1
      have hdo : d = fs[j].offset := Option.some.inj q1
      cases hx : evE st.env x with
      | none => simp [hx] at hp
      | some en =>
        rw [hx] at hp
        refine addr_ok h hx (e := e) ?_ hp' hc hc' fun b off hev => ?_
        · revert hp; cases en <;> simp
        · unfold execOp
          simp only [ho, hev, Instr.fieldAt, Sem.run_bind, run_underlying g1]
          simp [Array.getElem?_eq_getElem hj, Instr.sureAddr, fieldPlace, sizeOf, typeInfo, q2, q3, Addr.add_mid, hdo]
    · cases hc
  · cases hc
end
end Go.Pm
