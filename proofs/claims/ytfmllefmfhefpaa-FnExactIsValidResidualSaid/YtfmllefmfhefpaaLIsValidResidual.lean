/- FnExactIsValidResidual: the law, walked, and its row. Printed by law.py. -/
import Derived.Test.YtfmllefmfhefpaaRows
import Derived.Test.YtfmllefmfhefpaaAbV
import Derived.Test.YtfmllefmfhefpaaXe
import Derived.Test.YtfmllefmfhefpaaXp
import Derived.Test.YtfmllefmfhefpaaVz
import Derived.WalkKit
import Derived.ProofKit
import Derived.OpenShut
import Derived.ShutString
import Derived.ChangeOld
import Derived.Below
import Derived.SizedLaws
namespace Go.Proofs.Ytfmllefmfhefpaa
open Go Go.Ab
set_option linter.unusedVariables false
set_option linter.unusedSimpArgs false
set_option maxRecDepth 100000
set_option maxHeartbeats 4000000
theorem fnExactIsValidResidual_ct (x0 : TResidual) (hx0 : x0.ok) : Ct Try.prog 4 [.d x0.E] [] (fun _ : Unit => True) (fun _ => .bool true) (fun _ => []) := by
  refine ct_go tyOk Try.func4 rfl (by decide +kernel) Try.ntmps4 rfl (fun _ _ => by first | exact Nat.le_refl _ | exact Nat.zero_le _ | simp) ?_
  intro K hK
  simp -implicitDefEqProofs (maxSteps := 4000000) only [go_sem]
  refine call_int [x0.E, .int 1048576] (szResidual_ct x0 hx0 1048576 (by omega) (by omega)) rfl fun l1 e1 => ?_
  simp -implicitDefEqProofs (maxSteps := 4000000) only [go_sem]
  refine ⟨fun h => end_pure hK () trivial (by simp -implicitDefEqProofs (maxSteps := 4000000) only [go_sem]), fun h => ?_⟩
  have b1 := x0.sz_le 1048576 (by omega)
  have s1 : x0.sm := x0.sz_small 1048576 (by omega) (by omega) (by rw [← e1]; omega)
  have q1 : 0 ≤ x0.sz 1048576 := by rw [← e1]; omega
  rw [← e1] at b1
  obtain ⟨m1, a1, b1', c1⟩ := szSeq_small (B := 1048576) x0.sz_steps 1048576 (by omega) (by omega) q1 (TProgram.sz x0.program_) (by simp)
  have hn := Program_nd x0.program_ m1 a1 b1' c1
  obtain ⟨m2, a2, b2', c2⟩ := szSeq_small (B := 1048576) x0.sz_steps 1048576 (by omega) (by omega) q1 (szE x0.start_) (by simp)
  have hen : x0.start_.nd ≤ 4194304 := by have := szE_nd x0.start_ m2 a2 c2; omega
  repeat' (first
    | (with_reducible refine ⟨fun _ => ?_, fun _ => ?_⟩)
    | (with_reducible refine ⟨by omega, ?_⟩)
    | (with_reducible intro _ _)
    | (refine call_p (specVR_ct x0.program_ (by first | exact s1.1 | assumption) (by assumption) x0.start_ (by first | exact s1.2 | assumption) (by assumption)) rfl fun _ _ => ?_; simp -implicitDefEqProofs (maxSteps := 4000000) only [go_sem])
    | (refine calm_p (specVR_ct x0.program_ (by first | exact s1.1 | assumption) (by assumption) x0.start_ (by first | exact s1.2 | assumption) (by assumption)) rfl fun _ _ => ?_; simp -implicitDefEqProofs (maxSteps := 4000000) only [go_sem])
    | (refine call_p (implVR_ct x0.program_ (by first | exact s1.1 | assumption) (by assumption) x0.start_ (by first | exact s1.2 | assumption)) rfl fun _ _ => ?_; simp -implicitDefEqProofs (maxSteps := 4000000) only [go_sem])
    | (refine calm_p (implVR_ct x0.program_ (by first | exact s1.1 | assumption) (by assumption) x0.start_ (by first | exact s1.2 | assumption)) rfl fun _ _ => ?_; simp -implicitDefEqProofs (maxSteps := 4000000) only [go_sem])
    | (refine call_p (toResidual_ct _ (by assumption)) rfl fun _ _ => ?_; simp -implicitDefEqProofs (maxSteps := 4000000) only [go_sem])
    | (refine calm_p (toResidual_ct _ (by assumption)) rfl fun _ _ => ?_; simp -implicitDefEqProofs (maxSteps := 4000000) only [go_sem])
    | (refine call_p (eqResidual_ct _ (by assumption)) rfl fun _ _ => ?_; simp -implicitDefEqProofs (maxSteps := 4000000) only [go_sem])
    | (refine calm_p (eqResidual_ct _ (by assumption)) rfl fun _ _ => ?_; simp -implicitDefEqProofs (maxSteps := 4000000) only [go_sem])
    | (refine draw_rule tyOk (by kernel_rfl) [0, 1, 2, 3, 4] (by decide +kernel) ?_; simp -implicitDefEqProofs (maxSteps := 4000000) only [go_sem]))
  all_goals exact end_pure hK () trivial (by simp -implicitDefEqProofs (maxSteps := 4000000) only [go_sem])
end Go.Proofs.Ytfmllefmfhefpaa
namespace Go.Proofs.Ytfmllefmfhefpaa.fnExactIsValidResidual
open Go Go.Ab Go.ChangeShapes Go.WideShapes Go.ChangeAt Go.RowKit
set_option linter.unusedVariables false
theorem own : ownKnob Try.prog.godebug = none := by kernel_rfl
theorem laid : laidOutB Try.prog = true := by kernel_rfl
theorem plain : plainAll Try.prog [37, 24, 22, 136, 9, 53, 35, 33, 3] = true := by kernel_rfl
set_option maxRecDepth 100000 in
theorem lifted (os : Os) (started : os.Started) (H : Type) (enc : TypeId × Value → H) :
    ReturnsInHanded {} Try.checked os 4 .any (Rows.fnExactIsValidResidualSpec.pre6 enc Try.prog Try.f4 Rows.fnExactIsValidResidualRow.domain false) (Rows.fnExactIsValidResidualSpec.post enc Try.prog Try.f4 false true false false) := by
  refine returnsInHanded_of_change_sized (C := Try.checked) own started (by kernel_rfl) Try.func4
    (ChangeSpec.witness6 (enc := enc) (C := Try.checked) false ⟨#[], #[.agg #[.slice none 0 0, .int .i64 0, .string ⟨#[]⟩, .slice none 0 0]], []⟩ 8 (by kernel_rfl) (by kernel_rfl) (by kernel_rfl) (by kernel_rfl)) ?_
  intro W base args ds gs before hval0 hW hcnd hsz0 _
  have hval : ∀ (j : Nat) t v, Try.f4.params[j]? = some t → args[j]? = some v → Value.okWide Try.prog W .any base t v := hval0
  have hW' := hW
  obtain ⟨p, q, hA0, hV, rfl, hfz, hnd⟩ := hW
  have hA : DataW.TrodAll enc Try.prog W 0 (fun _ => true) true Try.f4.params.toList args.toList ds p := hA0
  rw [Try.params4] at hA hval
  obtain ⟨rfl, rfl⟩ := trodVars_none hV
  obtain ⟨l, hl, ht⟩ := open_args plain (by decide) (fun j t v h1 h2 => hval j t v (by simpa using h1) (by simpa using h2)) hA
  obtain ⟨yx0, l, rfl, tx0, ht⟩ := TDs.cons_ ht
  obtain rfl := ht.nil_
  obtain ⟨x0, rfl, hx0⟩ := of_Residual tx0
  refine (law_runs hl (fnExactIsValidResidual_ct x0 hx0)).mono fun e W' ⟨he, bel⟩ => ?_
  subst he
  have hlt : ∀ x ∈ p, x.block < W.heap.size := fun x hx => by simpa using hW'.lt x (by simpa using hx)
  obtain ⟨d1, rfl⟩ := list1 (trodAll_len hA)
  exact ⟨_, rfl, _, _, _, [], _, [], hW', trodAll_mk1 (shut_bool Try.underlying4 _), args_stay laid (by kernel_rfl) bel hlt hA, rfl, bel.frame _, fun h => by cases h⟩
theorem over : Rows.fnExactIsValidResidualRow.holds Try.pinned (OpenSpec.ofChange Rows.fnExactIsValidResidualSpec) :=
  OpenClaim.holds_of_wide 4 Try.f4 rfl rfl rfl rfl rfl rfl rfl ⟨rfl, rfl, rfl, rfl, rfl⟩ rfl rfl rfl rfl rfl (by kernel_rfl) Try.func4 (by kernel_rfl)
    (of_decide_eq_true (by kernel_rfl)) (by unfold Func.isWrapper; first | (rw [if_pos (by decide +kernel)]; kernel_rfl) | (rw [if_neg (by decide +kernel)]; exact ⟨rfl, rfl⟩))
    (fun os started H enc _ => lifted os started H enc)
theorem proved : Rows.FnExactIsValidResidualSaid := over
#print axioms proved
end Go.Proofs.Ytfmllefmfhefpaa.fnExactIsValidResidual
