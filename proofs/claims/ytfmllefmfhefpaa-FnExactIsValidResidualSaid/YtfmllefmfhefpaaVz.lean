/- Valid residuals, linear programs: both sides. -/
import Derived.Test.YtfmllefmfhefpaaVy
import Derived.Test.YtfmllefmfhefpaaRp
namespace Go.Proofs.Ytfmllefmfhefpaa
open Go Go.Ab
set_option linter.unusedVariables false
set_option linter.unusedSimpArgs false
set_option maxRecDepth 100000
set_option maxHeartbeats 4000000
theorem iExprFor_ct (p : TProgram) (h : p.sm) (e : Ex) (he : e.sm) : Ct Try.prog 113 [.d p.E, .d e.E] [] (fun _ : Unit => True) (fun _ => .bool (validB e && fitsB p.rules_ e)) (fun _ => []) := by
  refine ct_go tyOk Try.func113 rfl (by decide +kernel) Try.ntmps113 rfl (fun _ _ => by first | exact Nat.le_refl _ | exact Nat.zero_le _ | simp) ?_
  intro K hK
  simp -implicitDefEqProofs (maxSteps := 4000000) only [go_sem]
  refine draw_dt tyOk (by kernel_rfl) [7] (.take 0 (.alt 1 false (.take 2 (.take 3 (.take 4 (.take 6 (.alt 5 false (.alt 7 true (.take 8 (.take 9 .done)) .none) .none))))) .none)) (by decide +kernel) ?_
  simp -implicitDefEqProofs (maxSteps := 4000000) only [go_sem]
  refine calm_p (iValid_ct e he) rfl fun _ _ => ?_
  simp -implicitDefEqProofs (maxSteps := 4000000) only [go_sem]
  refine ⟨fun hv => ?_, fun hv => ?_⟩
  · refine calm_objs (arities_ct p h) (by simp -implicitDefEqProofs (maxSteps := 4000000) only [go_sem]) fun _ _ => ?_
    simp -implicitDefEqProofs (maxSteps := 4000000) only [go_sem]
    refine call_objs [2] (fits_ct p h e he) (by simp -implicitDefEqProofs (maxSteps := 4000000) only [go_sem, le_strM]; decide) fun _ _ => ?_
    simp -implicitDefEqProofs (maxSteps := 4000000) only [go_sem]
    exact end_pure hK () trivial (by (try simp -implicitDefEqProofs (maxSteps := 4000000) only [go_sem]); (try simp_all))
  · exact end_pure hK () trivial (by (try simp -implicitDefEqProofs (maxSteps := 4000000) only [go_sem]); (try simp_all))
theorem isGoal_ct (p : TProgram) (h : p.sm) (hn : ∀ r ∈ p.rules_, r.body_.nd ≤ 4194304) (e : Ex) (he : e.sm) : Ct Try.prog 52 [.d p.E, .d e.E] [] (fun _ : Unit => True) (fun _ => .bool (validP p.rules_ && (validB e && fitsB p.rules_ e))) (fun _ => []) := by
  refine ct_go tyOk Try.func52 rfl (by decide +kernel) Try.ntmps52 rfl (fun _ _ => by first | exact Nat.le_refl _ | exact Nat.zero_le _ | simp) ?_
  intro K hK
  simp -implicitDefEqProofs (maxSteps := 4000000) only [go_sem]
  repeat' (first
    | (with_reducible refine ⟨fun _ => ?_, fun _ => ?_⟩)
    | (with_reducible refine ⟨by omega, ?_⟩)
    | (with_reducible intro _ _)
    | (refine call_p (iProg_ct p h hn) rfl fun _ _ => ?_; simp -implicitDefEqProofs (maxSteps := 4000000) only [go_sem])
    | (refine calm_p (iProg_ct p h hn) rfl fun _ _ => ?_; simp -implicitDefEqProofs (maxSteps := 4000000) only [go_sem])
    | (refine call_p (iExprFor_ct p h e he) rfl fun _ _ => ?_; simp -implicitDefEqProofs (maxSteps := 4000000) only [go_sem])
    | (refine calm_p (iExprFor_ct p h e he) rfl fun _ _ => ?_; simp -implicitDefEqProofs (maxSteps := 4000000) only [go_sem]))
  all_goals exact end_pure hK () trivial (by (try simp -implicitDefEqProofs (maxSteps := 4000000) only [go_sem]); (try simp_all))
theorem specVR_ct (p : TProgram) (h : p.sm) (hn : ∀ r ∈ p.rules_, r.body_.nd ≤ 4194304) (e : Ex) (he : e.sm) (hen : e.nd ≤ 4194304) : Ct Try.prog 14 [.d (TResidual.mk p e).E] [] (fun _ : Unit => True) (fun _ => .bool (validP p.rules_ && (validB e && fitsB p.rules_ e))) (fun _ => []) := by
  refine ct_go tyOk Try.func14 rfl (by decide +kernel) Try.ntmps14 rfl (fun _ _ => by first | exact Nat.le_refl _ | exact Nat.zero_le _ | simp) ?_
  intro K hK
  simp -implicitDefEqProofs (maxSteps := 4000000) only [go_sem]
  repeat' (first
    | (with_reducible refine ⟨fun _ => ?_, fun _ => ?_⟩)
    | (with_reducible refine ⟨by omega, ?_⟩)
    | (with_reducible intro _ _)
    | (refine call_p (sProg_ct p h hn) rfl fun _ _ => ?_; simp -implicitDefEqProofs (maxSteps := 4000000) only [go_sem])
    | (refine calm_p (sProg_ct p h hn) rfl fun _ _ => ?_; simp -implicitDefEqProofs (maxSteps := 4000000) only [go_sem])
    | (refine call_p (exprFor_ct p h e he hen) rfl fun _ _ => ?_; simp -implicitDefEqProofs (maxSteps := 4000000) only [go_sem])
    | (refine calm_p (exprFor_ct p h e he hen) rfl fun _ _ => ?_; simp -implicitDefEqProofs (maxSteps := 4000000) only [go_sem]))
  all_goals exact end_pure hK () trivial (by (try simp -implicitDefEqProofs (maxSteps := 4000000) only [go_sem]); (try simp_all))
theorem implVR_ct (p : TProgram) (h : p.sm) (hn : ∀ r ∈ p.rules_, r.body_.nd ≤ 4194304) (e : Ex) (he : e.sm) : Ct Try.prog 16 [.d (TResidual.mk p e).E] [] (fun _ : Unit => True) (fun _ => .bool (validP p.rules_ && (validB e && fitsB p.rules_ e))) (fun _ => []) := by
  refine ct_go tyOk Try.func16 rfl (by decide +kernel) Try.ntmps16 rfl (fun _ _ => by first | exact Nat.le_refl _ | exact Nat.zero_le _ | simp) ?_
  intro K hK
  simp -implicitDefEqProofs (maxSteps := 4000000) only [go_sem]
  repeat' (first
    | (with_reducible refine ⟨fun _ => ?_, fun _ => ?_⟩)
    | (with_reducible refine ⟨by omega, ?_⟩)
    | (with_reducible intro _ _)
    | (refine call_p (isGoal_ct p h hn e he) rfl fun _ _ => ?_; simp -implicitDefEqProofs (maxSteps := 4000000) only [go_sem])
    | (refine calm_p (isGoal_ct p h hn e he) rfl fun _ _ => ?_; simp -implicitDefEqProofs (maxSteps := 4000000) only [go_sem]))
  all_goals exact end_pure hK () trivial (by (try simp -implicitDefEqProofs (maxSteps := 4000000) only [go_sem]); (try simp_all))
theorem specLP_ct (p : TProgram) (h : p.sm) (hn : ∀ r ∈ p.rules_, r.body_.nd ≤ 4194304) : Ct Try.prog 9 [.d p.E] [] (fun _ : Unit => True) (fun _ => .bool (validP p.rules_ && decide (((repOf p.rules_).length : Int) = 0))) (fun _ => []) := by
  refine ct_go tyOk Try.func9 rfl (by decide +kernel) Try.ntmps9 rfl (fun _ _ => by first | exact Nat.le_refl _ | exact Nat.zero_le _ | simp) ?_
  intro K hK
  have hl : p.rules_.length ≤ 1048576 := by first | exact h.1 | exact h
  have hlen := repOf_len p.rules_
  simp -implicitDefEqProofs (maxSteps := 4000000) only [go_sem]
  repeat' (first
    | (with_reducible refine ⟨fun _ => ?_, fun _ => ?_⟩)
    | (with_reducible refine ⟨by omega, ?_⟩)
    | (with_reducible intro _ _)
    | (refine call_p (sProg_ct p h hn) rfl fun _ _ => ?_; simp -implicitDefEqProofs (maxSteps := 4000000) only [go_sem])
    | (refine calm_p (sProg_ct p h hn) rfl fun _ _ => ?_; simp -implicitDefEqProofs (maxSteps := 4000000) only [go_sem])
    | (refine call_p (specRep_ct p h hn) rfl fun _ _ => ?_; simp -implicitDefEqProofs (maxSteps := 4000000) only [go_sem])
    | (refine calm_p (specRep_ct p h hn) rfl fun _ _ => ?_; simp -implicitDefEqProofs (maxSteps := 4000000) only [go_sem]))
  all_goals exact end_pure hK () trivial (by (try simp -implicitDefEqProofs (maxSteps := 4000000) only [go_sem]); (try simp_all))
theorem implLP_ct (p : TProgram) (h : p.sm) (hn : ∀ r ∈ p.rules_, r.body_.nd ≤ 4194304) : Ct Try.prog 11 [.d p.E] [] (fun _ : Unit => True) (fun _ => .bool (validP p.rules_ && decide (((repOf p.rules_).length : Int) = 0))) (fun _ => []) := by
  refine ct_go tyOk Try.func11 rfl (by decide +kernel) Try.ntmps11 rfl (fun _ _ => by first | exact Nat.le_refl _ | exact Nat.zero_le _ | simp) ?_
  intro K hK
  have hl : p.rules_.length ≤ 1048576 := by first | exact h.1 | exact h
  have hlen := repOf_len p.rules_
  simp -implicitDefEqProofs (maxSteps := 4000000) only [go_sem]
  repeat' (first
    | (with_reducible refine ⟨fun _ => ?_, fun _ => ?_⟩)
    | (with_reducible refine ⟨by omega, ?_⟩)
    | (with_reducible intro _ _)
    | (refine call_p (iProg_ct p h hn) rfl fun _ _ => ?_; simp -implicitDefEqProofs (maxSteps := 4000000) only [go_sem])
    | (refine calm_p (iProg_ct p h hn) rfl fun _ _ => ?_; simp -implicitDefEqProofs (maxSteps := 4000000) only [go_sem])
    | (refine call_p (Ct.dat (implRep_ct p h hn)) rfl fun _ _ => ?_; simp -implicitDefEqProofs (maxSteps := 4000000) only [go_sem])
    | (refine calm_p (Ct.dat (implRep_ct p h hn)) rfl fun _ _ => ?_; simp -implicitDefEqProofs (maxSteps := 4000000) only [go_sem]))
  all_goals exact end_pure hK () trivial (by (try simp -implicitDefEqProofs (maxSteps := 4000000) only [go_sem]); (try simp_all))
end Go.Proofs.Ytfmllefmfhefpaa
