/- Equality of rows, rules, programs, bindings: the walks. -/
import Derived.Test.YtdeabmjffccplaaEa
namespace Go.Proofs.Ytdeabmjffccplaa
open Go Go.Ab
set_option linter.unusedVariables false
set_option linter.unusedSimpArgs false
set_option maxRecDepth 100000
set_option maxHeartbeats 4000000
theorem specTexts_ct (a b : List ByteArray) (ha : a.length ≤ 1048576) : Ct Try.prog 48 [.d (.lst (a.map D.str)), .d (.lst (b.map D.str))] [] (fun _ : Unit => True) (fun _ => .bool (dq a b)) (fun _ => []) := by
  refine ct_go tyOk Try.func48 rfl (by decide +kernel) Try.ntmps48 rfl (fun _ _ => by first | exact Nat.le_refl _ | exact Nat.zero_le _ | simp) ?_
  intro K hK
  simp -implicitDefEqProofs (maxSteps := 4000000) only [go_sem]
  repeat' (first
    | (with_reducible refine ⟨fun _ => ?_, fun _ => ?_⟩)
    | (with_reducible refine ⟨by omega, ?_⟩)
    | (with_reducible intro _ _))
  · exact end_pure hK () trivial (by simp -implicitDefEqProofs (maxSteps := 4000000) only [go_sem]; exact (dq_ne fun h => by subst h; simp_all).symm)
  refine loop_st tyOk [4, 5, 11, 12, 13, 14, 15, 16, 17, 18, 19, 20, 21, 22, 23, 24, 25] (fun i : Nat => [(5, .int i)]) (fun i : Nat => i ≤ a.length ∧ a.take i = b.take i) (fun i : Nat => a.length - i) 0 ?_ ?_ ?_
  · exact ⟨by omega, rfl⟩
  · simp -implicitDefEqProofs (maxSteps := 4000000) only [go_sem]
  rintro i ⟨hi, he⟩ L hL
  simp -implicitDefEqProofs (maxSteps := 4000000) only [go_sem]
  repeat' (first
    | (with_reducible refine ⟨fun _ => ?_, fun _ => ?_⟩)
    | (with_reducible refine ⟨by omega, ?_⟩)
    | (with_reducible intro _ _)
    | (refine draw_rule tyOk (by kernel_rfl) [0, 1, 2, 3, 4, 5, 6, 7, 8] (by kernel_rfl) ?_; simp -implicitDefEqProofs (maxSteps := 4000000) only [go_sem]))
  · exact end_pure hK () trivial (by simp -implicitDefEqProofs (maxSteps := 4000000) only [go_sem]; exact (dq_ne (ne_of_at (by assumption) (by assumption) (by assumption))).symm)
  · exact hL _ (i + 1) ⟨by omega, take_eq_more he (by assumption) (by assumption) (by assumption)⟩ (by omega) (by simp -implicitDefEqProofs (maxSteps := 4000000) only [go_sem, wr_succ (i := i) (by omega)])
  · exact end_pure hK () trivial (by simp -implicitDefEqProofs (maxSteps := 4000000) only [go_sem]; exact (dq_eq (eq_of_take he (by omega) (by omega))).symm)
theorem sEqTexts_ct (a b : List ByteArray) (ha : a.length ≤ 1048576) : Ct Try.prog 96 [.d (.lst (a.map D.str)), .d (.lst (b.map D.str))] [] (fun _ : Unit => True) (fun _ => .bool (dq a b)) (fun _ => []) := by
  refine ct_go tyOk Try.func96 rfl (by decide +kernel) Try.ntmps96 rfl (fun _ _ => by first | exact Nat.le_refl _ | exact Nat.zero_le _ | simp) ?_
  intro K hK
  simp -implicitDefEqProofs (maxSteps := 4000000) only [go_sem]
  repeat' (first
    | (with_reducible refine ⟨fun _ => ?_, fun _ => ?_⟩)
    | (with_reducible refine ⟨by omega, ?_⟩)
    | (with_reducible intro _ _))
  · exact end_pure hK () trivial (by simp -implicitDefEqProofs (maxSteps := 4000000) only [go_sem]; exact (dq_ne fun h => by subst h; simp_all).symm)
  refine loop_st tyOk [4, 5, 13, 14, 15, 16, 17, 18, 19, 20, 21, 22, 23, 24, 25] (fun i : Nat => [(13, .int i)]) (fun i : Nat => i ≤ a.length ∧ a.take i = b.take i) (fun i : Nat => a.length - i) 0 ?_ ?_ ?_
  · exact ⟨by omega, rfl⟩
  · simp -implicitDefEqProofs (maxSteps := 4000000) only [go_sem]
  rintro i ⟨hi, he⟩ L hL
  simp -implicitDefEqProofs (maxSteps := 4000000) only [go_sem]
  repeat' (first
    | (with_reducible refine ⟨fun _ => ?_, fun _ => ?_⟩)
    | (with_reducible refine ⟨by omega, ?_⟩)
    | (with_reducible intro _ _)
    | (refine draw_rule tyOk (by kernel_rfl) [0, 1, 2, 3, 4, 5, 6, 7, 8] (by kernel_rfl) ?_; simp -implicitDefEqProofs (maxSteps := 4000000) only [go_sem]))
  · exact end_pure hK () trivial (by simp -implicitDefEqProofs (maxSteps := 4000000) only [go_sem]; exact (dq_ne (ne_of_at (by assumption) (by assumption) (by assumption))).symm)
  · exact hL _ (i + 1) ⟨by omega, take_eq_more he (by assumption) (by assumption) (by assumption)⟩ (by omega) (by simp -implicitDefEqProofs (maxSteps := 4000000) only [go_sem, wr_succ (i := i) (by omega)])
  · exact end_pure hK () trivial (by simp -implicitDefEqProofs (maxSteps := 4000000) only [go_sem]; exact (dq_eq (eq_of_take he (by omega) (by omega))).symm)
theorem efRule_ct (g : FuncId) (a b : List TRule) (hl : a.length ≤ 1048576) (hg : ∀ x ∈ a, ∀ y : TRule, Ct Try.prog g [.d (TRule.E x), .d (TRule.E y)] [] (fun _ : Unit => True) (fun _ => .bool (dq x y)) (fun _ => [])) :
    Ct Try.prog 89 [.d (.lst (a.map TRule.E)), .d (.lst (b.map TRule.E)), .fn g []] [] (fun _ : Unit => True) (fun _ => .bool (dq a b)) (fun _ => []) := by
  refine ct_go tyOk Try.func89 rfl (by decide +kernel) Try.ntmps89 rfl (fun _ _ => by first | exact Nat.le_refl _ | exact Nat.zero_le _ | simp) ?_
  intro K hK
  simp -implicitDefEqProofs (maxSteps := 4000000) only [go_sem]
  repeat' (first
    | (with_reducible refine ⟨fun _ => ?_, fun _ => ?_⟩)
    | (with_reducible refine ⟨by omega, ?_⟩)
    | (with_reducible intro _ _))
  · exact end_pure hK () trivial (by simp -implicitDefEqProofs (maxSteps := 4000000) only [go_sem]; exact (dq_ne fun h => by subst h; simp_all).symm)
  refine loop_st tyOk [6, 7, 8, 9, 17, 18, 19, 20, 21, 22, 23, 24, 25, 26, 27, 28, 29, 30, 31] (fun i : Nat => [(17, .int i)]) (fun i : Nat => i ≤ a.length ∧ a.take i = b.take i) (fun i : Nat => a.length - i) 0 ?_ ?_ ?_
  · exact ⟨by omega, rfl⟩
  · simp -implicitDefEqProofs (maxSteps := 4000000) only [go_sem]
  rintro i ⟨hi, he⟩ L hL
  simp -implicitDefEqProofs (maxSteps := 4000000) only [go_sem]
  refine ⟨fun _ => ⟨by omega, fun x hx => ⟨by omega, fun y hy => ?_⟩⟩, fun _ => ?_⟩
  · repeat' (first
      | (with_reducible refine ⟨fun _ => ?_, fun _ => ?_⟩)
      | (with_reducible refine ⟨by omega, ?_⟩)
      | (with_reducible intro _ _)
      | (refine call_p (hg _ (List.mem_of_getElem? hx) _) rfl fun _ _ => ?_; simp -implicitDefEqProofs (maxSteps := 4000000) only [go_sem])
      | (refine calm_p (hg _ (List.mem_of_getElem? hx) _) rfl fun _ _ => ?_; simp -implicitDefEqProofs (maxSteps := 4000000) only [go_sem]))
    · exact end_pure hK () trivial (by simp -implicitDefEqProofs (maxSteps := 4000000) only [go_sem]; exact (dq_ne (ne_of_at hx hy (by assumption))).symm)
    · exact hL _ (i + 1) ⟨by omega, take_eq_more he hx hy (by assumption)⟩ (by omega) (by simp -implicitDefEqProofs (maxSteps := 4000000) only [go_sem, wr_succ (i := i) (by omega)])
  · exact end_pure hK () trivial (by simp -implicitDefEqProofs (maxSteps := 4000000) only [go_sem]; exact (dq_eq (eq_of_take he (by omega) (by omega))).symm)
theorem implEqRule_ct (a b : TRule) (h : a.sm) : Ct Try.prog 90 [.d a.E, .d b.E] [] (fun _ : Unit => True) (fun _ => .bool (dq a b)) (fun _ => []) := by
  refine ct_go tyOk Try.func90 rfl (by decide +kernel) Try.ntmps90 rfl (fun _ _ => by first | exact Nat.le_refl _ | exact Nat.zero_le _ | simp) ?_
  intro K hK
  obtain ⟨h1, h2, h3, h4, h5⟩ := h
  simp -implicitDefEqProofs (maxSteps := 4000000) only [go_sem]
  repeat' (first
    | (with_reducible refine ⟨fun _ => ?_, fun _ => ?_⟩)
    | (with_reducible refine ⟨by omega, ?_⟩)
    | (with_reducible intro _ _)
    | (refine call_p (sEqTexts_ct _ _ h3.1) rfl fun _ _ => ?_; simp -implicitDefEqProofs (maxSteps := 4000000) only [go_sem])
    | (refine calm_p (sEqTexts_ct _ _ h3.1) rfl fun _ _ => ?_; simp -implicitDefEqProofs (maxSteps := 4000000) only [go_sem])
    | (refine call_p (sEqTexts_ct _ _ h4.1) rfl fun _ _ => ?_; simp -implicitDefEqProofs (maxSteps := 4000000) only [go_sem])
    | (refine calm_p (sEqTexts_ct _ _ h4.1) rfl fun _ _ => ?_; simp -implicitDefEqProofs (maxSteps := 4000000) only [go_sem])
    | (refine call_p (implEqE_ct _ h5 _) rfl fun _ _ => ?_; simp -implicitDefEqProofs (maxSteps := 4000000) only [go_sem])
    | (refine calm_p (implEqE_ct _ h5 _) rfl fun _ _ => ?_; simp -implicitDefEqProofs (maxSteps := 4000000) only [go_sem]))
  all_goals exact end_pure hK () trivial (by simp -implicitDefEqProofs (maxSteps := 4000000) only [go_sem]; grind [dq, TRule.ext_iff'])
theorem implEqProgram_ct (a b : TProgram) (h : a.sm) : Ct Try.prog 41 [.d a.E, .d b.E] [] (fun _ : Unit => True) (fun _ => .bool (dq a b)) (fun _ => []) := by
  refine ct_go tyOk Try.func41 rfl (by decide +kernel) Try.ntmps41 rfl (fun _ _ => by first | exact Nat.le_refl _ | exact Nat.zero_le _ | simp) ?_
  intro K hK
  simp -implicitDefEqProofs (maxSteps := 4000000) only [go_sem]
  refine call_pure (efRule_ct 90 a.rules_ b.rules_ h.1 fun x hx y => implEqRule_ct x y (h.2 x hx)) (by simp -implicitDefEqProofs (maxSteps := 4000000) only [go_sem]) (by simp -implicitDefEqProofs (maxSteps := 4000000) only [go_sem]) fun _ _ => ?_
  simp -implicitDefEqProofs (maxSteps := 4000000) only [go_sem]
  exact end_pure hK () trivial (by simp -implicitDefEqProofs (maxSteps := 4000000) only [go_sem]; grind [dq, TProgram.ext_iff'])
theorem specEqProgram_ct (a b : TProgram) (h : a.sm) : Ct Try.prog 39 [.d a.E, .d b.E] [] (fun _ : Unit => True) (fun _ => .bool (dq a b)) (fun _ => []) := by
  refine ct_go tyOk Try.func39 rfl (by decide +kernel) Try.ntmps39 rfl (fun _ _ => by first | exact Nat.le_refl _ | exact Nat.zero_le _ | simp) ?_
  intro K hK
  obtain ⟨h1, h2⟩ := h
  simp -implicitDefEqProofs (maxSteps := 4000000) only [go_sem]
  repeat' (first
    | (with_reducible refine ⟨fun _ => ?_, fun _ => ?_⟩)
    | (with_reducible refine ⟨by omega, ?_⟩)
    | (with_reducible intro _ _))
  · exact end_pure hK () trivial (by simp -implicitDefEqProofs (maxSteps := 4000000) only [go_sem]; exact (dq_ne fun h => by subst h; simp_all).symm)
  refine loop_st tyOk [4, 5, 6, 7, 15, 16, 17, 18, 19, 20, 21, 22, 23, 24, 25, 26, 27, 28, 29, 30, 31, 32, 33, 34, 35, 36, 37, 38, 39, 40, 41, 42, 43, 44, 45, 46, 47, 48, 49, 50, 51, 52, 53, 54, 55, 56, 57, 58, 59, 60, 61, 62, 63, 64, 65, 66, 67] (fun i : Nat => [(5, .int i)]) (fun i : Nat => i ≤ a.rules_.length ∧ a.rules_.take i = b.rules_.take i) (fun i : Nat => a.rules_.length - i) 0 ?_ ?_ ?_
  · exact ⟨by omega, rfl⟩
  · simp -implicitDefEqProofs (maxSteps := 4000000) only [go_sem]
  rintro i ⟨hi, he⟩ L hL
  simp -implicitDefEqProofs (maxSteps := 4000000) only [go_sem]
  refine ⟨fun _ => ⟨by omega, fun x hx => ⟨by omega, fun y hy => ?_⟩⟩, fun _ => ?_⟩
  · obtain ⟨k1, k2, k3, k4, k5⟩ := h2 x (List.mem_of_getElem? hx)
    have hne : x ≠ y → a ≠ b := fun h e => ne_of_at hx hy h (by rw [e])
    have hnx := fun e : x = y => take_eq_more he hx hy e
    repeat' (first
      | (with_reducible refine ⟨fun _ => ?_, fun _ => ?_⟩)
      | (with_reducible refine ⟨by omega, ?_⟩)
      | (with_reducible intro _ _)
      | (refine call_p (specTexts_ct _ _ k3.1) rfl fun _ _ => ?_; simp -implicitDefEqProofs (maxSteps := 4000000) only [go_sem])
      | (refine calm_p (specTexts_ct _ _ k3.1) rfl fun _ _ => ?_; simp -implicitDefEqProofs (maxSteps := 4000000) only [go_sem])
      | (refine call_p (specTexts_ct _ _ k4.1) rfl fun _ _ => ?_; simp -implicitDefEqProofs (maxSteps := 4000000) only [go_sem])
      | (refine calm_p (specTexts_ct _ _ k4.1) rfl fun _ _ => ?_; simp -implicitDefEqProofs (maxSteps := 4000000) only [go_sem])
      | (refine call_p (specEqE_ct _ k5 _) rfl fun _ _ => ?_; simp -implicitDefEqProofs (maxSteps := 4000000) only [go_sem])
      | (refine calm_p (specEqE_ct _ k5 _) rfl fun _ _ => ?_; simp -implicitDefEqProofs (maxSteps := 4000000) only [go_sem]))
    all_goals first
      | exact end_pure hK () trivial (by simp -implicitDefEqProofs (maxSteps := 4000000) only [go_sem]; exact (dq_ne (hne (by rw [ne_eq, TRule.ext_iff']; grind))).symm)
      | exact hL _ (i + 1) ⟨by omega, hnx (by rw [TRule.ext_iff']; grind)⟩ (by omega) (by simp -implicitDefEqProofs (maxSteps := 4000000) only [go_sem, wr_succ (i := i) (by omega)])
  · exact end_pure hK () trivial (by simp -implicitDefEqProofs (maxSteps := 4000000) only [go_sem]; exact (dq_eq (TProgram.ext_iff'.2 (eq_of_take he (by omega) (by omega)))).symm)
theorem implEqResidual_ct (a b : TResidual) (h : a.sm) : Ct Try.prog 12 [.d a.E, .d b.E] [] (fun _ : Unit => True) (fun _ => .bool (dq a b)) (fun _ => []) := by
  refine ct_go tyOk Try.func12 rfl (by decide +kernel) Try.ntmps12 rfl (fun _ _ => by first | exact Nat.le_refl _ | exact Nat.zero_le _ | simp) ?_
  intro K hK
  simp -implicitDefEqProofs (maxSteps := 4000000) only [go_sem]
  repeat' (first
    | (with_reducible refine ⟨fun _ => ?_, fun _ => ?_⟩)
    | (with_reducible refine ⟨by omega, ?_⟩)
    | (with_reducible intro _ _)
    | (refine call_p (implEqProgram_ct _ _ h.1) rfl fun _ _ => ?_; simp -implicitDefEqProofs (maxSteps := 4000000) only [go_sem])
    | (refine calm_p (implEqProgram_ct _ _ h.1) rfl fun _ _ => ?_; simp -implicitDefEqProofs (maxSteps := 4000000) only [go_sem])
    | (refine call_p (implEqE_ct _ h.2 _) rfl fun _ _ => ?_; simp -implicitDefEqProofs (maxSteps := 4000000) only [go_sem])
    | (refine calm_p (implEqE_ct _ h.2 _) rfl fun _ _ => ?_; simp -implicitDefEqProofs (maxSteps := 4000000) only [go_sem]))
  all_goals exact end_pure hK () trivial (by simp -implicitDefEqProofs (maxSteps := 4000000) only [go_sem]; grind [dq, TResidual.ext_iff'])
theorem specEqResidual_ct (a b : TResidual) (h : a.sm) : Ct Try.prog 10 [.d a.E, .d b.E] [] (fun _ : Unit => True) (fun _ => .bool (dq a b)) (fun _ => []) := by
  refine ct_go tyOk Try.func10 rfl (by decide +kernel) Try.ntmps10 rfl (fun _ _ => by first | exact Nat.le_refl _ | exact Nat.zero_le _ | simp) ?_
  intro K hK
  simp -implicitDefEqProofs (maxSteps := 4000000) only [go_sem]
  repeat' (first
    | (with_reducible refine ⟨fun _ => ?_, fun _ => ?_⟩)
    | (with_reducible refine ⟨by omega, ?_⟩)
    | (with_reducible intro _ _)
    | (refine call_p (specEqProgram_ct _ _ h.1) rfl fun _ _ => ?_; simp -implicitDefEqProofs (maxSteps := 4000000) only [go_sem])
    | (refine calm_p (specEqProgram_ct _ _ h.1) rfl fun _ _ => ?_; simp -implicitDefEqProofs (maxSteps := 4000000) only [go_sem])
    | (refine call_p (specEqE_ct _ h.2 _) rfl fun _ _ => ?_; simp -implicitDefEqProofs (maxSteps := 4000000) only [go_sem])
    | (refine calm_p (specEqE_ct _ h.2 _) rfl fun _ _ => ?_; simp -implicitDefEqProofs (maxSteps := 4000000) only [go_sem]))
  all_goals exact end_pure hK () trivial (by simp -implicitDefEqProofs (maxSteps := 4000000) only [go_sem]; grind [dq, TResidual.ext_iff'])
end Go.Proofs.Ytdeabmjffccplaa
