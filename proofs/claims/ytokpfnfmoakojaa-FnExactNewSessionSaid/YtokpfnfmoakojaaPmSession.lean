/- The law FnExactNewSession holds: its call hands back true for every world, with no conditions. The proof: the pure machine's run of the law's body is reckoned by the kernel; a proved checker tells that the program's call comes to what the run comes to. -/
import Derived.Test.YtokpfnfmoakojaaPmSb
import Derived.Test.YtokpfnfmoakojaaPmRow
import Derived.Test.YtokpfnfmoakojaaRows
namespace Go.Proofs.Ytokpfnfmoakojaa.Session
open Go Go.Pm Go.ChangeShapes Go.WideShapes Go.ChangeAt Go.RowKit
theorem own : ownKnob Try.prog.godebug = none := by kernel_rfl
theorem prog_is : ProgOk (baseOf Try.prog Try.tab) (gtab Try.tab Try.hints noGlobs noExt) (ktab Try.tab Try.sigs noGks) := Try.progOk
theorem walk (w : World) : Calls Try.prog 4 #[] w fun e w' => e = .returned (.bool true) ∧ Kept0 w w' :=
  law_calls (ps := []) (run_spec prog_is 12 4 (lawSig []) [] _ rfl Try.run4).1 (vals := []) (lfss := []) .nil
set_option maxRecDepth 100000 in
theorem lifted (os : Os) (started : os.Started) (H : Type) (enc : TypeId × Value → H) :
    ReturnsInHanded {} Try.checked os 4 .any (Rows.fnExactNewSessionSpec.pre6 enc Try.prog Try.f4 Rows.fnExactNewSessionRow.domain false) (Rows.fnExactNewSessionSpec.post enc Try.prog Try.f4 false true false false) := by
  refine returnsInHanded_of_change (C := Try.checked) own started (by kernel_rfl) Try.func4
    (ChangeSpec.witness6 (enc := enc) (C := Try.checked) false ⟨#[], #[], []⟩ 8 (by kernel_rfl) (by kernel_rfl) (by kernel_rfl) (by kernel_rfl)) ?_
  intro W base args ds gs before hval0 hW hcnd _
  have hW' := hW
  obtain ⟨p, q, hA0, hV, rfl, hfz, hnd⟩ := hW
  have hA : DataW.TrodAll enc Try.prog W 0 (fun _ => true) true Try.f4.params.toList args.toList ds p := hA0
  rw [Try.params4] at hA
  obtain ⟨rfl, rfl, rfl⟩ := trodAll_none hA
  obtain ⟨rfl, rfl⟩ := trodVars_none hV
  refine (walk W).mono fun e W' ⟨he, hk⟩ => ?_
  subst he
  exact ⟨_, rfl, post_of_kept (pa := []) (pv := []) hW' hk rfl (fun _ _ _ => trodAll_cons_mk (shut_bool Try.underlying4 _) trodAll_mk0) (fun sp _ => rfl) (fun _ _ => rfl)
    (ok_one (by kernel_rfl) rfl (okWide_bool_mk Try.underlying4 _))⟩

theorem over : Rows.fnExactNewSessionRow.holds Try.pinned (OpenSpec.ofChange Rows.fnExactNewSessionSpec) :=
  OpenClaim.holds_of_wide 4 Try.f4 rfl rfl rfl rfl rfl rfl rfl ⟨rfl, rfl, rfl, rfl, rfl⟩ rfl rfl rfl rfl rfl (by kernel_rfl) Try.func4 (by kernel_rfl)
    (of_decide_eq_true (by kernel_rfl)) (by unfold Func.isWrapper; first | (rw [if_pos (by decide +kernel)]; kernel_rfl) | (rw [if_neg (by decide +kernel)]; exact ⟨rfl, rfl⟩))
    (fun os started H enc _ => lifted os started H enc)
theorem proved : Rows.FnExactNewSessionSaid := over
end Go.Proofs.Ytokpfnfmoakojaa.Session
