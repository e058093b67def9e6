/- Equality of bindings, nodes, trees: the walks. -/
import Derived.Test.YtdeabmjffccplaaEr
namespace Go.Proofs.Ytdeabmjffccplaa
open Go Go.Ab
set_option linter.unusedVariables false
set_option linter.unusedSimpArgs false
set_option maxRecDepth 100000
set_option maxHeartbeats 4000000
theorem efBinding_ct (g : FuncId) (a b : List TBinding) (hl : a.length ≤ 1048576) (hg : ∀ x ∈ a, ∀ y : TBinding, Ct Try.prog g [.d (TBinding.E x), .d (TBinding.E y)] [] (fun _ : Unit => True) (fun _ => .bool (dq x y)) (fun _ => [])) :
    Ct Try.prog 116 [.d (.lst (a.map TBinding.E)), .d (.lst (b.map TBinding.E)), .fn g []] [] (fun _ : Unit => True) (fun _ => .bool (dq a b)) (fun _ => []) := by
  refine ct_go tyOk Try.func116 rfl (by decide +kernel) Try.ntmps116 rfl (fun _ _ => by first | exact Nat.le_refl _ | exact Nat.zero_le _ | simp) ?_
  intro K hK
  simp -implicitDefEqProofs (maxSteps := 4000000) only [go_sem]
  repeat' (first
    | (with_reducible refine ⟨fun _ => ?_, fun _ => ?_⟩)
    | (with_reducible refine ⟨by omega, ?_⟩)
    | (with_reducible intro _ _))
  · exact end_pure hK () trivial (by simp -implicitDefEqProofs (maxSteps := 4000000) only [go_sem]; exact (dq_ne fun h => by subst h; simp_all).symm)
  refine loop_st tyOk [6, 7, 8, 9, 17, 18, 19, 20, 21, 22, 23, 24, 25, 26, 27, 28, 29, 30, 31] (fun i : Nat => [(17, .int i)]) (fun i : Nat => i ≤ a.length ∧ a.take i = b.take i) (fun i : Nat => a.length - i) 0 ?_ ?_ ?_
  · exact ⟨by omega, rfl⟩
  · simp -implicitDefEqProofs (maxSteps := 4000000) only [go_sem]
  rintro i ⟨hi, he⟩ L hL
  simp -implicitDefEqProofs (maxSteps := 4000000) only [go_sem]
  refine ⟨fun _ => ⟨by omega, fun x hx => ⟨by omega, fun y hy => ?_⟩⟩, fun _ => ?_⟩
  · repeat' (first
      | (with_reducible refine ⟨fun _ => ?_, fun _ => ?_⟩)
      | (with_reducible refine ⟨by omega, ?_⟩)
      | (with_reducible intro _ _)
      | (refine call_p (hg _ (List.mem_of_getElem? hx) _) rfl fun _ _ => ?_; simp -implicitDefEqProofs (maxSteps := 4000000) only [go_sem])
      | (refine calm_p (hg _ (List.mem_of_getElem? hx) _) rfl fun _ _ => ?_; simp -implicitDefEqProofs (maxSteps := 4000000) only [go_sem]))
    · exact end_pure hK () trivial (by simp -implicitDefEqProofs (maxSteps := 4000000) only [go_sem]; exact (dq_ne (ne_of_at hx hy (by assumption))).symm)
    · exact hL _ (i + 1) ⟨by omega, take_eq_more he hx hy (by assumption)⟩ (by omega) (by simp -implicitDefEqProofs (maxSteps := 4000000) only [go_sem, wr_succ (i := i) (by omega)])
  · exact end_pure hK () trivial (by simp -implicitDefEqProofs (maxSteps := 4000000) only [go_sem]; exact (dq_eq (eq_of_take he (by omega) (by omega))).symm)
theorem efNode_ct (g : FuncId) (a b : List TNode) (hl : a.length ≤ 1048576) (hg : ∀ x ∈ a, ∀ y : TNode, Ct Try.prog g [.d (TNode.E x), .d (TNode.E y)] [] (fun _ : Unit => True) (fun _ => .bool (dq x y)) (fun _ => [])) :
    Ct Try.prog 50 [.d (.lst (a.map TNode.E)), .d (.lst (b.map TNode.E)), .fn g []] [] (fun _ : Unit => True) (fun _ => .bool (dq a b)) (fun _ => []) := by
  refine ct_go tyOk Try.func50 rfl (by decide +kernel) Try.ntmps50 rfl (fun _ _ => by first | exact Nat.le_refl _ | exact Nat.zero_le _ | simp) ?_
  intro K hK
  simp -implicitDefEqProofs (maxSteps := 4000000) only [go_sem]
  repeat' (first
    | (with_reducible refine ⟨fun _ => ?_, fun _ => ?_⟩)
    | (with_reducible refine ⟨by omega, ?_⟩)
    | (with_reducible intro _ _))
  · exact end_pure hK () trivial (by simp -implicitDefEqProofs (maxSteps := 4000000) only [go_sem]; exact (dq_ne fun h => by subst h; simp_all).symm)
  refine loop_st tyOk [6, 7, 8, 9, 17, 18, 19, 20, 21, 22, 23, 24, 25, 26, 27, 28, 29, 30, 31] (fun i : Nat => [(17, .int i)]) (fun i : Nat => i ≤ a.length ∧ a.take i = b.take i) (fun i : Nat => a.length - i) 0 ?_ ?_ ?_
  · exact ⟨by omega, rfl⟩
  · simp -implicitDefEqProofs (maxSteps := 4000000) only [go_sem]
  rintro i ⟨hi, he⟩ L hL
  simp -implicitDefEqProofs (maxSteps := 4000000) only [go_sem]
  refine ⟨fun _ => ⟨by omega, fun x hx => ⟨by omega, fun y hy => ?_⟩⟩, fun _ => ?_⟩
  · repeat' (first
      | (with_reducible refine ⟨fun _ => ?_, fun _ => ?_⟩)
      | (with_reducible refine ⟨by omega, ?_⟩)
      | (with_reducible intro _ _)
      | (refine call_p (hg _ (List.mem_of_getElem? hx) _) rfl fun _ _ => ?_; simp -implicitDefEqProofs (maxSteps := 4000000) only [go_sem])
      | (refine calm_p (hg _ (List.mem_of_getElem? hx) _) rfl fun _ _ => ?_; simp -implicitDefEqProofs (maxSteps := 4000000) only [go_sem]))
    · exact end_pure hK () trivial (by simp -implicitDefEqProofs (maxSteps := 4000000) only [go_sem]; exact (dq_ne (ne_of_at hx hy (by assumption))).symm)
    · exact hL _ (i + 1) ⟨by omega, take_eq_more he hx hy (by assumption)⟩ (by omega) (by simp -implicitDefEqProofs (maxSteps := 4000000) only [go_sem, wr_succ (i := i) (by omega)])
  · exact end_pure hK () trivial (by simp -implicitDefEqProofs (maxSteps := 4000000) only [go_sem]; exact (dq_eq (eq_of_take he (by omega) (by omega))).symm)
theorem implEqBinding_ct (a b : TBinding) (h : a.sm) : Ct Try.prog 117 [.d a.E, .d b.E] [] (fun _ : Unit => True) (fun _ => .bool (dq a b)) (fun _ => []) := by
  refine ct_go tyOk Try.func117 rfl (by decide +kernel) Try.ntmps117 rfl (fun _ _ => by first | exact Nat.le_refl _ | exact Nat.zero_le _ | simp) ?_
  intro K hK
  simp -implicitDefEqProofs (maxSteps := 4000000) only [go_sem]
  repeat' (first
    | (with_reducible refine ⟨fun _ => ?_, fun _ => ?_⟩)
    | (with_reducible refine ⟨by omega, ?_⟩)
    | (with_reducible intro _ _)
    | (refine call_p (implEqE_ct _ h.2 _) rfl fun _ _ => ?_; simp -implicitDefEqProofs (maxSteps := 4000000) only [go_sem])
    | (refine calm_p (implEqE_ct _ h.2 _) rfl fun _ _ => ?_; simp -implicitDefEqProofs (maxSteps := 4000000) only [go_sem]))
  all_goals exact end_pure hK () trivial (by simp -implicitDefEqProofs (maxSteps := 4000000) only [go_sem]; grind [dq, TBinding.ext_iff'])
theorem implEqBindings_ct (a b : List TBinding) (h1 : a.length ≤ 1048576) (h2 : ∀ y ∈ a, y.sm) : Ct Try.prog 97 [.d (.lst (a.map TBinding.E)), .d (.lst (b.map TBinding.E))] [] (fun _ : Unit => True) (fun _ => .bool (dq a b)) (fun _ => []) := by
  refine ct_go tyOk Try.func97 rfl (by decide +kernel) Try.ntmps97 rfl (fun _ _ => by first | exact Nat.le_refl _ | exact Nat.zero_le _ | simp) ?_
  intro K hK
  simp -implicitDefEqProofs (maxSteps := 4000000) only [go_sem]
  refine call_pure (efBinding_ct 117 a b h1 fun x hx y => implEqBinding_ct x y (h2 x hx)) (by simp -implicitDefEqProofs (maxSteps := 4000000) only [go_sem]) (by simp -implicitDefEqProofs (maxSteps := 4000000) only [go_sem]) fun _ _ => ?_
  simp -implicitDefEqProofs (maxSteps := 4000000) only [go_sem]
  exact end_pure hK () trivial (by simp -implicitDefEqProofs (maxSteps := 4000000) only [go_sem])
theorem specEqBindings_ct (a b : List TBinding) (h1 : a.length ≤ 1048576) (h2 : ∀ y ∈ a, y.sm) : Ct Try.prog 49 [.d (.lst (a.map TBinding.E)), .d (.lst (b.map TBinding.E))] [] (fun _ : Unit => True) (fun _ => .bool (dq a b)) (fun _ => []) := by
  refine ct_go tyOk Try.func49 rfl (by decide +kernel) Try.ntmps49 rfl (fun _ _ => by first | exact Nat.le_refl _ | exact Nat.zero_le _ | simp) ?_
  intro K hK
  simp -implicitDefEqProofs (maxSteps := 4000000) only [go_sem]
  repeat' (first
    | (with_reducible refine ⟨fun _ => ?_, fun _ => ?_⟩)
    | (with_reducible refine ⟨by omega, ?_⟩)
    | (with_reducible intro _ _))
  · exact end_pure hK () trivial (by simp -implicitDefEqProofs (maxSteps := 4000000) only [go_sem]; exact (dq_ne fun h => by subst h; simp_all).symm)
  refine loop_st tyOk [4, 5, 11, 12, 13, 14, 15, 16, 17, 18, 19, 20, 21, 22, 23, 24, 25, 26, 27, 28, 29, 30, 31, 32, 33, 34, 35, 36, 37, 38, 39, 40, 41] (fun i : Nat => [(5, .int i)]) (fun i : Nat => i ≤ a.length ∧ a.take i = b.take i) (fun i : Nat => a.length - i) 0 ?_ ?_ ?_
  · exact ⟨by omega, rfl⟩
  · simp -implicitDefEqProofs (maxSteps := 4000000) only [go_sem]
  rintro i ⟨hi, he⟩ L hL
  simp -implicitDefEqProofs (maxSteps := 4000000) only [go_sem]
  refine ⟨fun _ => ?_, fun _ => ?_⟩
  · refine draw_rule tyOk (by kernel_rfl) [0, 1, 2, 3, 4, 5, 6, 7, 8, 9, 10, 11, 12, 13, 14, 15, 16, 17, 18, 19, 20, 21, 22, 23, 24] (by kernel_rfl) ?_
    simp -implicitDefEqProofs (maxSteps := 4000000) only [go_sem]
    refine ⟨by omega, fun x hx => ⟨by omega, fun y hy => ?_⟩⟩
    have hm := h2 x (List.mem_of_getElem? hx)
    have hne : x ≠ y → a ≠ b := fun h e => ne_of_at hx hy h (by rw [e])
    have hnx := fun e : x = y => take_eq_more he hx hy e
    simp -implicitDefEqProofs (maxSteps := 4000000) only [go_sem, hx, hy]
    repeat' (first
      | (with_reducible refine ⟨fun _ => ?_, fun _ => ?_⟩)
      | (with_reducible refine ⟨by omega, ?_⟩)
      | (with_reducible intro _ _)
      | (refine call_p (specEqE_ct _ hm.2 _) rfl fun _ _ => ?_; simp -implicitDefEqProofs (maxSteps := 4000000) only [go_sem, hx, hy])
      | (refine calm_p (specEqE_ct _ hm.2 _) rfl fun _ _ => ?_; simp -implicitDefEqProofs (maxSteps := 4000000) only [go_sem, hx, hy]))
    all_goals first
      | exact end_pure hK () trivial (by simp -implicitDefEqProofs (maxSteps := 4000000) only [go_sem]; exact (dq_ne (hne (by rw [ne_eq, TBinding.ext_iff']; grind))).symm)
      | exact hL _ (i + 1) ⟨by omega, hnx (by rw [TBinding.ext_iff']; grind)⟩ (by omega) (by simp -implicitDefEqProofs (maxSteps := 4000000) only [go_sem, wr_succ (i := i) (by omega)])
  · exact end_pure hK () trivial (by simp -implicitDefEqProofs (maxSteps := 4000000) only [go_sem]; exact (dq_eq (eq_of_take he (by omega) (by omega))).symm)
theorem implEqNode_ct (a b : TNode) (h : a.sm) : Ct Try.prog 51 [.d a.E, .d b.E] [] (fun _ : Unit => True) (fun _ => .bool (dq a b)) (fun _ => []) := by
  refine ct_go tyOk Try.func51 rfl (by decide +kernel) Try.ntmps51 rfl (fun _ _ => by first | exact Nat.le_refl _ | exact Nat.zero_le _ | simp) ?_
  intro K hK
  obtain ⟨h1, h2, h3, h4, h5, h6⟩ := h
  simp -implicitDefEqProofs (maxSteps := 4000000) only [go_sem]
  repeat' (first
    | (with_reducible refine ⟨fun _ => ?_, fun _ => ?_⟩)
    | (with_reducible refine ⟨by omega, ?_⟩)
    | (with_reducible intro _ _)
    | (refine call_p (implEqE_ct _ h1 _) rfl fun _ _ => ?_; simp -implicitDefEqProofs (maxSteps := 4000000) only [go_sem])
    | (refine calm_p (implEqE_ct _ h1 _) rfl fun _ _ => ?_; simp -implicitDefEqProofs (maxSteps := 4000000) only [go_sem])
    | (refine call_p (sEqInts_ct _ _ h2) rfl fun _ _ => ?_; simp -implicitDefEqProofs (maxSteps := 4000000) only [go_sem])
    | (refine calm_p (sEqInts_ct _ _ h2) rfl fun _ _ => ?_; simp -implicitDefEqProofs (maxSteps := 4000000) only [go_sem])
    | (refine call_p (sEqTexts_ct _ _ h5.1) rfl fun _ _ => ?_; simp -implicitDefEqProofs (maxSteps := 4000000) only [go_sem])
    | (refine calm_p (sEqTexts_ct _ _ h5.1) rfl fun _ _ => ?_; simp -implicitDefEqProofs (maxSteps := 4000000) only [go_sem])
    | (refine call_p (implEqBindings_ct _ _ h6.1 h6.2) rfl fun _ _ => ?_; simp -implicitDefEqProofs (maxSteps := 4000000) only [go_sem])
    | (refine calm_p (implEqBindings_ct _ _ h6.1 h6.2) rfl fun _ _ => ?_; simp -implicitDefEqProofs (maxSteps := 4000000) only [go_sem]))
  all_goals exact end_pure hK () trivial (by simp -implicitDefEqProofs (maxSteps := 4000000) only [go_sem]; grind [dq, TNode.ext_iff'])
theorem implEqTree_ct (a b : TTree) (h : a.sm) : Ct Try.prog 20 [.d a.E, .d b.E] [] (fun _ : Unit => True) (fun _ => .bool (dq a b)) (fun _ => []) := by
  refine ct_go tyOk Try.func20 rfl (by decide +kernel) Try.ntmps20 rfl (fun _ _ => by first | exact Nat.le_refl _ | exact Nat.zero_le _ | simp) ?_
  intro K hK
  simp -implicitDefEqProofs (maxSteps := 4000000) only [go_sem]
  refine call_pure (efNode_ct 51 a.nodes_ b.nodes_ h.1 fun x hx y => implEqNode_ct x y (h.2 x hx)) (by simp -implicitDefEqProofs (maxSteps := 4000000) only [go_sem]) (by simp -implicitDefEqProofs (maxSteps := 4000000) only [go_sem]) fun _ _ => ?_
  simp -implicitDefEqProofs (maxSteps := 4000000) only [go_sem]
  exact end_pure hK () trivial (by simp -implicitDefEqProofs (maxSteps := 4000000) only [go_sem]; grind [dq, TTree.ext_iff'])
theorem specEqTree_ct (a b : TTree) (h : a.sm) : Ct Try.prog 19 [.d a.E, .d b.E] [] (fun _ : Unit => True) (fun _ => .bool (dq a b)) (fun _ => []) := by
  refine ct_go tyOk Try.func19 rfl (by decide +kernel) Try.ntmps19 rfl (fun _ _ => by first | exact Nat.le_refl _ | exact Nat.zero_le _ | simp) ?_
  intro K hK
  obtain ⟨h1, h2⟩ := h
  simp -implicitDefEqProofs (maxSteps := 4000000) only [go_sem]
  repeat' (first
    | (with_reducible refine ⟨fun _ => ?_, fun _ => ?_⟩)
    | (with_reducible refine ⟨by omega, ?_⟩)
    | (with_reducible intro _ _))
  · exact end_pure hK () trivial (by simp -implicitDefEqProofs (maxSteps := 4000000) only [go_sem]; exact (dq_ne fun h => by subst h; simp_all).symm)
  refine loop_st tyOk [4, 5, 6, 7, 15, 16, 17, 18, 19, 20, 21, 22, 23, 24, 25, 26, 27, 28, 29, 30, 31, 32, 33, 34, 35, 36, 37, 38, 39, 40, 41, 42, 43, 44, 45, 46, 47, 48, 49, 50, 51, 52, 53, 54, 55, 56, 57, 58, 59, 60, 61, 62, 63, 64, 65, 66, 67, 68, 69, 70, 71, 72, 73, 74, 75, 76, 77, 78, 79, 80, 81, 82, 83, 84, 85, 86, 87, 88, 89, 90, 91, 92, 93, 94] (fun i : Nat => [(5, .int i)]) (fun i : Nat => i ≤ a.nodes_.length ∧ a.nodes_.take i = b.nodes_.take i) (fun i : Nat => a.nodes_.length - i) 0 ?_ ?_ ?_
  · exact ⟨by omega, rfl⟩
  · simp -implicitDefEqProofs (maxSteps := 4000000) only [go_sem]
  rintro i ⟨hi, he⟩ L hL
  simp -implicitDefEqProofs (maxSteps := 4000000) only [go_sem]
  refine ⟨fun _ => ⟨by omega, fun x hx => ⟨by omega, fun y hy => ?_⟩⟩, fun _ => ?_⟩
  · obtain ⟨k1, k2, k3, k4, k5, k6⟩ := h2 x (List.mem_of_getElem? hx)
    have hne : x ≠ y → a ≠ b := fun h e => ne_of_at hx hy h (by rw [e])
    have hnx := fun e : x = y => take_eq_more he hx hy e
    repeat' (first
      | (with_reducible refine ⟨fun _ => ?_, fun _ => ?_⟩)
      | (with_reducible refine ⟨by omega, ?_⟩)
      | (with_reducible intro _ _)
      | (refine call_p (specEqE_ct _ k1 _) rfl fun _ _ => ?_; simp -implicitDefEqProofs (maxSteps := 4000000) only [go_sem])
      | (refine calm_p (specEqE_ct _ k1 _) rfl fun _ _ => ?_; simp -implicitDefEqProofs (maxSteps := 4000000) only [go_sem])
      | (refine call_p (specInts_ct _ _ k2) rfl fun _ _ => ?_; simp -implicitDefEqProofs (maxSteps := 4000000) only [go_sem])
      | (refine calm_p (specInts_ct _ _ k2) rfl fun _ _ => ?_; simp -implicitDefEqProofs (maxSteps := 4000000) only [go_sem])
      | (refine call_p (specTexts_ct _ _ k5.1) rfl fun _ _ => ?_; simp -implicitDefEqProofs (maxSteps := 4000000) only [go_sem])
      | (refine calm_p (specTexts_ct _ _ k5.1) rfl fun _ _ => ?_; simp -implicitDefEqProofs (maxSteps := 4000000) only [go_sem])
      | (refine call_p (specEqBindings_ct _ _ k6.1 k6.2) rfl fun _ _ => ?_; simp -implicitDefEqProofs (maxSteps := 4000000) only [go_sem])
      | (refine calm_p (specEqBindings_ct _ _ k6.1 k6.2) rfl fun _ _ => ?_; simp -implicitDefEqProofs (maxSteps := 4000000) only [go_sem]))
    all_goals first
      | exact end_pure hK () trivial (by simp -implicitDefEqProofs (maxSteps := 4000000) only [go_sem]; exact (dq_ne (hne (by rw [ne_eq, TNode.ext_iff']; grind))).symm)
      | exact hL _ (i + 1) ⟨by omega, hnx (by rw [TNode.ext_iff']; grind)⟩ (by omega) (by simp -implicitDefEqProofs (maxSteps := 4000000) only [go_sem, wr_succ (i := i) (by omega)])
  · exact end_pure hK () trivial (by simp -implicitDefEqProofs (maxSteps := 4000000) only [go_sem]; exact (dq_eq (TTree.ext_iff'.2 (eq_of_take he (by omega) (by omega)))).symm)
end Go.Proofs.Ytdeabmjffccplaa
