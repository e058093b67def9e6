/- Equality of expressions: the walks. -/
import Derived.Test.YtdeabmjffccplaaFx
import Derived.Test.YtdeabmjffccplaaAbY
namespace Go.Proofs.Ytdeabmjffccplaa
open Go Go.Ab
set_option linter.unusedVariables false
set_option linter.unusedSimpArgs false
set_option maxRecDepth 100000
set_option maxHeartbeats 4000000
theorem specEqE_step (a b : Ex) (ha : a.sm) (ih : ∀ x ∈ a.a, ∀ y : Ex, Ct Try.prog 40 [.d x.E, .d y.E] [] (fun _ : Unit => True) (fun _ => .bool (dq x y)) (fun _ => [])) :
    Ct Try.prog 40 [.d a.E, .d b.E] [] (fun _ : Unit => True) (fun _ => .bool (dq a b)) (fun _ => []) := by
  refine ct_go tyOk Try.func40 rfl (by decide +kernel) Try.ntmps40 rfl (fun _ _ => by first | exact Nat.le_refl _ | exact Nat.zero_le _ | simp) ?_
  intro K hK
  have hl := (a.sm_def.1 ha).2.1
  simp -implicitDefEqProofs (maxSteps := 4000000) only [go_sem]
  repeat' (first
    | (with_reducible refine ⟨fun _ => ?_, fun _ => ?_⟩)
    | (with_reducible refine ⟨by omega, ?_⟩)
    | (with_reducible intro _ _))
  · exact end_pure hK () trivial (by simp -implicitDefEqProofs (maxSteps := 4000000) only [go_sem]; exact (dq_ne (by grind)).symm)
  · refine loop_st tyOk [4, 5, 27, 28, 29, 30, 31, 32, 33, 34, 35, 36, 37, 38, 39, 40, 41, 42, 43, 44, 45] (fun i : Nat => [(5, .int i)]) (fun i : Nat => i ≤ a.a.length ∧ a.a.take i = b.a.take i) (fun i : Nat => a.a.length - i) 0 ?_ ?_ ?_
    · exact ⟨by omega, rfl⟩
    · simp -implicitDefEqProofs (maxSteps := 4000000) only [go_sem]
    rintro i ⟨hi, he⟩ L hL
    simp -implicitDefEqProofs (maxSteps := 4000000) only [go_sem]
    repeat' (first
      | (with_reducible refine ⟨fun _ => ?_, fun _ => ?_⟩)
      | (with_reducible refine ⟨by omega, ?_⟩)
      | (with_reducible intro _ _))
    · refine draw_rule tyOk (by kernel_rfl) [0, 1, 2, 3, 4, 5, 6, 7, 8, 9, 10, 11] (by kernel_rfl) ?_
      simp -implicitDefEqProofs (maxSteps := 4000000) only [go_sem]
      refine ⟨by omega, fun x hx => ⟨by omega, fun y hy => ?_⟩⟩
      repeat' (first
        | (with_reducible refine ⟨fun _ => ?_, fun _ => ?_⟩)
        | (with_reducible refine ⟨by omega, ?_⟩)
        | (with_reducible intro _ _)
        | (refine call_p (ih _ (List.mem_of_getElem? hx) _) rfl fun _ _ => ?_; simp -implicitDefEqProofs (maxSteps := 4000000) only [go_sem])
        | (refine calm_p (ih _ (List.mem_of_getElem? hx) _) rfl fun _ _ => ?_; simp -implicitDefEqProofs (maxSteps := 4000000) only [go_sem]))
      · exact end_pure hK () trivial (by simp -implicitDefEqProofs (maxSteps := 4000000) only [go_sem]; exact (dq_ne fun h => by subst h; exact ne_of_at hx hy (by assumption) rfl).symm)
      · exact hL _ (i + 1) ⟨by omega, take_eq_more he hx hy (by assumption)⟩ (by omega) (by simp -implicitDefEqProofs (maxSteps := 4000000) only [go_sem, wr_succ (i := i) (by omega)])
    · exact end_pure hK () trivial (by simp -implicitDefEqProofs (maxSteps := 4000000) only [go_sem]; exact (dq_eq (Ex.ext_iff'.2 ⟨by assumption, by assumption, eq_of_take he (by omega) (by omega)⟩)).symm)
  · exact end_pure hK () trivial (by simp -implicitDefEqProofs (maxSteps := 4000000) only [go_sem]; exact (dq_ne (by grind)).symm)
  · exact end_pure hK () trivial (by simp -implicitDefEqProofs (maxSteps := 4000000) only [go_sem]; exact (dq_ne (by grind)).symm)
theorem specEqE_ct (a : Ex) (h : a.sm) : ∀ b : Ex, Ct Try.prog 40 [.d a.E, .d b.E] [] (fun _ : Unit => True) (fun _ => .bool (dq a b)) (fun _ => []) := by
  induction a using Ex.ind2 with
  | h a ih => exact fun b => specEqE_step a b h fun x hx y => ih x hx ((a.sm_def.1 h).2.2 x hx) y
theorem efExpr_ct (g : FuncId) (a b : List Ex) (hl : a.length ≤ 1048576) (hg : ∀ x ∈ a, ∀ y : Ex, Ct Try.prog g [.d (Ex.E x), .d (Ex.E y)] [] (fun _ : Unit => True) (fun _ => .bool (dq x y)) (fun _ => [])) :
    Ct Try.prog 91 [.d (.lst (a.map Ex.E)), .d (.lst (b.map Ex.E)), .fn g []] [] (fun _ : Unit => True) (fun _ => .bool (dq a b)) (fun _ => []) := by
  refine ct_go tyOk Try.func91 rfl (by decide +kernel) Try.ntmps91 rfl (fun _ _ => by first | exact Nat.le_refl _ | exact Nat.zero_le _ | simp) ?_
  intro K hK
  simp -implicitDefEqProofs (maxSteps := 4000000) only [go_sem]
  repeat' (first
    | (with_reducible refine ⟨fun _ => ?_, fun _ => ?_⟩)
    | (with_reducible refine ⟨by omega, ?_⟩)
    | (with_reducible intro _ _))
  · exact end_pure hK () trivial (by simp -implicitDefEqProofs (maxSteps := 4000000) only [go_sem]; exact (dq_ne fun h => by subst h; simp_all).symm)
  refine loop_st tyOk [6, 7, 8, 9, 17, 18, 19, 20, 21, 22, 23, 24, 25, 26, 27, 28, 29, 30, 31] (fun i : Nat => [(17, .int i)]) (fun i : Nat => i ≤ a.length ∧ a.take i = b.take i) (fun i : Nat => a.length - i) 0 ?_ ?_ ?_
  · exact ⟨by omega, rfl⟩
  · simp -implicitDefEqProofs (maxSteps := 4000000) only [go_sem]
  rintro i ⟨hi, he⟩ L hL
  simp -implicitDefEqProofs (maxSteps := 4000000) only [go_sem]
  refine ⟨fun _ => ⟨by omega, fun x hx => ⟨by omega, fun y hy => ?_⟩⟩, fun _ => ?_⟩
  · repeat' (first
      | (with_reducible refine ⟨fun _ => ?_, fun _ => ?_⟩)
      | (with_reducible refine ⟨by omega, ?_⟩)
      | (with_reducible intro _ _)
      | (refine call_p (hg _ (List.mem_of_getElem? hx) _) rfl fun _ _ => ?_; simp -implicitDefEqProofs (maxSteps := 4000000) only [go_sem])
      | (refine calm_p (hg _ (List.mem_of_getElem? hx) _) rfl fun _ _ => ?_; simp -implicitDefEqProofs (maxSteps := 4000000) only [go_sem]))
    · exact end_pure hK () trivial (by simp -implicitDefEqProofs (maxSteps := 4000000) only [go_sem]; exact (dq_ne (ne_of_at hx hy (by assumption))).symm)
    · exact hL _ (i + 1) ⟨by omega, take_eq_more he hx hy (by assumption)⟩ (by omega) (by simp -implicitDefEqProofs (maxSteps := 4000000) only [go_sem, wr_succ (i := i) (by omega)])
  · exact end_pure hK () trivial (by simp -implicitDefEqProofs (maxSteps := 4000000) only [go_sem]; exact (dq_eq (eq_of_take he (by omega) (by omega))).symm)
theorem implEqE_step (a b : Ex) (ha : a.sm) (ih : ∀ x ∈ a.a, ∀ y : Ex, Ct Try.prog 42 [.d x.E, .d y.E] [] (fun _ : Unit => True) (fun _ => .bool (dq x y)) (fun _ => [])) :
    Ct Try.prog 42 [.d a.E, .d b.E] [] (fun _ : Unit => True) (fun _ => .bool (dq a b)) (fun _ => []) := by
  refine ct_go tyOk Try.func42 rfl (by decide +kernel) Try.ntmps42 rfl (fun _ _ => by first | exact Nat.le_refl _ | exact Nat.zero_le _ | simp) ?_
  intro K hK
  have hl := (a.sm_def.1 ha).2.1
  simp -implicitDefEqProofs (maxSteps := 4000000) only [go_sem]
  repeat' (first
    | (with_reducible refine ⟨fun _ => ?_, fun _ => ?_⟩)
    | (with_reducible refine ⟨by omega, ?_⟩)
    | (with_reducible intro _ _))
  · refine call_pure (efExpr_ct 42 a.a b.a hl ih) (by simp -implicitDefEqProofs (maxSteps := 4000000) only [go_sem]) (by simp -implicitDefEqProofs (maxSteps := 4000000) only [go_sem]) fun _ _ => ?_
    simp -implicitDefEqProofs (maxSteps := 4000000) only [go_sem]
    exact end_pure hK () trivial (by simp -implicitDefEqProofs (maxSteps := 4000000) only [go_sem]; grind [dq, Ex.ext_iff'])
  · exact end_pure hK () trivial (by simp -implicitDefEqProofs (maxSteps := 4000000) only [go_sem]; exact (dq_ne (by grind)).symm)
  · exact end_pure hK () trivial (by simp -implicitDefEqProofs (maxSteps := 4000000) only [go_sem]; exact (dq_ne (by grind)).symm)
theorem implEqE_ct (a : Ex) (h : a.sm) : ∀ b : Ex, Ct Try.prog 42 [.d a.E, .d b.E] [] (fun _ : Unit => True) (fun _ => .bool (dq a b)) (fun _ => []) := by
  induction a using Ex.ind2 with
  | h a ih => exact fun b => implEqE_step a b h fun x hx y => ih x hx ((a.sm_def.1 h).2.2 x hx) y
end Go.Proofs.Ytdeabmjffccplaa
