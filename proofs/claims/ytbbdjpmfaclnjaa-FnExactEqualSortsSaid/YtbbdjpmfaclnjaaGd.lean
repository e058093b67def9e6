/- EqualSorts: the walks and the law. -/
import Derived.Test.YtbbdjpmfaclnjaaGc
namespace Go.Proofs.Ytbbdjpmfaclnjaa
open Go Go.Ab
set_option linter.unusedVariables false
set_option linter.unusedSimpArgs false
set_option maxRecDepth 100000
set_option maxHeartbeats 4000000
def sortsEq (a b : TSorts) : Bool := eqL dT a.cons_ b.cons_ && eqL dI a.of_ b.of_ && eqL dL a.args_ b.args_ && eqL dT a.funs_ b.funs_ && eqL dL a.params_ b.params_ && eqL dI a.results_ b.results_ && decide (a.count_ = b.count_)
theorem implEq_ct (a b : TSorts) (ha : a.sm) : Ct Try.prog 27 [.d a.E, .d b.E] [] (fun _ : Unit => True) (fun _ => .bool (sortsEq a b)) (fun _ => []) := by
  refine ct_go tyOk Try.func27 rfl (by decide +kernel) Try.ntmps27 rfl (fun _ _ => Nat.le_refl _) ?_
  intro K hK
  obtain ⟨k0, k1, k2, k3, k4, k5⟩ := ha
  simp -implicitDefEqProofs (maxSteps := 4000000) only [go_sem]
  refine call_data [.lst (a.cons_.map D.str), .lst (b.cons_.map D.str)] (eqTextS_ct a.cons_ b.cons_ k0.1) rfl fun _ _ => ?_
  simp -implicitDefEqProofs (maxSteps := 4000000) only [go_sem]
  refine ⟨fun h0 => ?_, fun h0 => end_pure hK () trivial (by simp -implicitDefEqProofs (maxSteps := 4000000) only [go_sem, sortsEq, h0, Bool.true_and, Bool.false_and])⟩
  refine call_data [.lst (a.of_.map D.int), .lst (b.of_.map D.int)] (eqIntSl_ct a.of_ b.of_ k1) rfl fun _ _ => ?_
  simp -implicitDefEqProofs (maxSteps := 4000000) only [go_sem]
  refine ⟨fun h1 => ?_, fun h1 => end_pure hK () trivial (by simp -implicitDefEqProofs (maxSteps := 4000000) only [go_sem, sortsEq, h0, h1, Bool.true_and, Bool.false_and])⟩
  refine call_pure (eqFun_ct a.args_ b.args_ k2.1 k2.2) (by simp -implicitDefEqProofs (maxSteps := 4000000) only [go_sem]) (by simp -implicitDefEqProofs (maxSteps := 4000000) only [go_sem]) fun _ _ => ?_
  simp -implicitDefEqProofs (maxSteps := 4000000) only [go_sem]
  refine ⟨fun h2 => ?_, fun h2 => end_pure hK () trivial (by simp -implicitDefEqProofs (maxSteps := 4000000) only [go_sem, sortsEq, h0, h1, h2, Bool.true_and, Bool.false_and])⟩
  refine call_data [.lst (a.funs_.map D.str), .lst (b.funs_.map D.str)] (eqTextS_ct a.funs_ b.funs_ k3.1) rfl fun _ _ => ?_
  simp -implicitDefEqProofs (maxSteps := 4000000) only [go_sem]
  refine ⟨fun h3 => ?_, fun h3 => end_pure hK () trivial (by simp -implicitDefEqProofs (maxSteps := 4000000) only [go_sem, sortsEq, h0, h1, h2, h3, Bool.true_and, Bool.false_and])⟩
  refine call_pure (eqFun_ct a.params_ b.params_ k4.1 k4.2) (by simp -implicitDefEqProofs (maxSteps := 4000000) only [go_sem]) (by simp -implicitDefEqProofs (maxSteps := 4000000) only [go_sem]) fun _ _ => ?_
  simp -implicitDefEqProofs (maxSteps := 4000000) only [go_sem]
  refine ⟨fun h4 => ?_, fun h4 => end_pure hK () trivial (by simp -implicitDefEqProofs (maxSteps := 4000000) only [go_sem, sortsEq, h0, h1, h2, h3, h4, Bool.true_and, Bool.false_and])⟩
  refine call_data [.lst (a.results_.map D.int), .lst (b.results_.map D.int)] (eqIntSl_ct a.results_ b.results_ k5) rfl fun _ _ => ?_
  simp -implicitDefEqProofs (maxSteps := 4000000) only [go_sem]
  refine ⟨fun h5 => ?_, fun h5 => end_pure hK () trivial (by simp -implicitDefEqProofs (maxSteps := 4000000) only [go_sem, sortsEq, h0, h1, h2, h3, h4, h5, Bool.true_and, Bool.false_and])⟩
  exact end_pure hK () trivial (by simp -implicitDefEqProofs (maxSteps := 4000000) only [go_sem, sortsEq, h0, h1, h2, h3, h4, h5, Bool.true_and])
theorem specEq_ct (a b : TSorts) (ha : a.sm) : Ct Try.prog 25 [.d a.E, .d b.E] [] (fun _ : Unit => True) (fun _ => .bool (sortsEq a b)) (fun _ => []) := by
  refine ct_go tyOk Try.func25 rfl (by decide +kernel) Try.ntmps25 rfl (fun _ _ => Nat.le_refl _) ?_
  intro K hK
  obtain ⟨k0, k1, k2, k3, k4, k5⟩ := ha
  simp -implicitDefEqProofs (maxSteps := 4000000) only [go_sem]
  refine call_data [.lst (a.cons_.map D.str), .lst (b.cons_.map D.str)] (texts_ct a.cons_ b.cons_ k0.1) rfl fun _ _ => ?_
  simp -implicitDefEqProofs (maxSteps := 4000000) only [go_sem]
  refine ⟨fun h0 => ?_, fun h0 => end_pure hK () trivial (by simp -implicitDefEqProofs (maxSteps := 4000000) only [go_sem, sortsEq, h0, Bool.true_and, Bool.false_and])⟩
  refine call_data [.lst (a.of_.map D.int), .lst (b.of_.map D.int)] (ints_ct a.of_ b.of_ k1) rfl fun _ _ => ?_
  simp -implicitDefEqProofs (maxSteps := 4000000) only [go_sem]
  refine ⟨fun h1 => ?_, fun h1 => end_pure hK () trivial (by simp -implicitDefEqProofs (maxSteps := 4000000) only [go_sem, sortsEq, h0, h1, Bool.true_and, Bool.false_and])⟩
  refine call_data [.lst (a.args_.map (fun r => D.lst (r.map D.int))), .lst (b.args_.map (fun r => D.lst (r.map D.int)))] (lists_ct a.args_ b.args_ k2.1 k2.2) rfl fun _ _ => ?_
  simp -implicitDefEqProofs (maxSteps := 4000000) only [go_sem]
  refine ⟨fun h2 => ?_, fun h2 => end_pure hK () trivial (by simp -implicitDefEqProofs (maxSteps := 4000000) only [go_sem, sortsEq, h0, h1, h2, Bool.true_and, Bool.false_and])⟩
  refine call_data [.lst (a.funs_.map D.str), .lst (b.funs_.map D.str)] (texts_ct a.funs_ b.funs_ k3.1) rfl fun _ _ => ?_
  simp -implicitDefEqProofs (maxSteps := 4000000) only [go_sem]
  refine ⟨fun h3 => ?_, fun h3 => end_pure hK () trivial (by simp -implicitDefEqProofs (maxSteps := 4000000) only [go_sem, sortsEq, h0, h1, h2, h3, Bool.true_and, Bool.false_and])⟩
  refine call_data [.lst (a.params_.map (fun r => D.lst (r.map D.int))), .lst (b.params_.map (fun r => D.lst (r.map D.int)))] (lists_ct a.params_ b.params_ k4.1 k4.2) rfl fun _ _ => ?_
  simp -implicitDefEqProofs (maxSteps := 4000000) only [go_sem]
  refine ⟨fun h4 => ?_, fun h4 => end_pure hK () trivial (by simp -implicitDefEqProofs (maxSteps := 4000000) only [go_sem, sortsEq, h0, h1, h2, h3, h4, Bool.true_and, Bool.false_and])⟩
  refine call_data [.lst (a.results_.map D.int), .lst (b.results_.map D.int)] (ints_ct a.results_ b.results_ k5) rfl fun _ _ => ?_
  simp -implicitDefEqProofs (maxSteps := 4000000) only [go_sem]
  refine ⟨fun h5 => ?_, fun h5 => end_pure hK () trivial (by simp -implicitDefEqProofs (maxSteps := 4000000) only [go_sem, sortsEq, h0, h1, h2, h3, h4, h5, Bool.true_and, Bool.false_and])⟩
  exact end_pure hK () trivial (by simp -implicitDefEqProofs (maxSteps := 4000000) only [go_sem, sortsEq, h0, h1, h2, h3, h4, h5, Bool.true_and])
theorem lawEqS_ct (a b : TSorts) (ha : a.ok) (hb : b.ok) : Ct Try.prog 7 [.d a.E, .d b.E] [] (fun _ : Unit => True) (fun _ => .bool true) (fun _ => []) := by
  refine ct_go tyOk Try.func7 rfl (by decide +kernel) Try.ntmps7 rfl (fun _ _ => Nat.le_refl _) ?_
  intro K hK
  simp -implicitDefEqProofs (maxSteps := 4000000) only [go_sem]
  refine call_int [a.E, .int 1048576] (szSorts_ct a ha 1048576 (by omega) (by omega)) rfl fun l1 e1 => ?_
  simp -implicitDefEqProofs (maxSteps := 4000000) only [go_sem]
  refine ⟨fun h => end_pure hK () trivial (by simp -implicitDefEqProofs (maxSteps := 4000000) only [go_sem]), fun h => ?_⟩
  have b1 := a.sz_le 1048576 (by omega)
  have sa : a.sm := a.sz_small 1048576 (by omega) (by omega) (by rw [← e1]; omega)
  rw [← e1] at b1
  refine call_int [b.E, .int l1] (szSorts_ct b hb l1 (by omega) (by omega)) rfl fun l2 e2 => ?_
  simp -implicitDefEqProofs (maxSteps := 4000000) only [go_sem]
  refine ⟨fun h => end_pure hK () trivial (by simp -implicitDefEqProofs (maxSteps := 4000000) only [go_sem]), fun h => ?_⟩
  have sb : b.sm := b.sz_small l1 (by omega) (by omega) (by rw [← e2]; omega)
  refine draw_rule tyOk (by kernel_rfl) [0, 2, 1, 3, 4, 5] (by kernel_rfl) ?_
  simp -implicitDefEqProofs (maxSteps := 4000000) only [go_sem]
  refine calm_data [a.E] (toSorts_ct a sa) rfl fun _ _ => ?_
  simp -implicitDefEqProofs (maxSteps := 4000000) only [go_sem]
  refine calm_data [b.E] (toSorts_ct b sb) rfl fun _ _ => ?_
  simp -implicitDefEqProofs (maxSteps := 4000000) only [go_sem]
  refine calm_data [a.E, b.E] (specEq_ct a b sa) rfl fun _ _ => ?_
  simp -implicitDefEqProofs (maxSteps := 4000000) only [go_sem]
  refine call_data [a.E] (toSorts_ct a sa) rfl fun _ _ => ?_
  simp -implicitDefEqProofs (maxSteps := 4000000) only [go_sem]
  refine call_data [b.E] (toSorts_ct b sb) rfl fun _ _ => ?_
  simp -implicitDefEqProofs (maxSteps := 4000000) only [go_sem]
  refine call_data [a.E, b.E] (implEq_ct a b sa) rfl fun _ _ => ?_
  simp -implicitDefEqProofs (maxSteps := 4000000) only [go_sem]
  refine draw_rule tyOk (by kernel_rfl) [0, 1, 2, 3, 4] (by kernel_rfl) ?_
  simp -implicitDefEqProofs (maxSteps := 4000000) only [go_sem]
  refine calm_data [a.E] (toSorts_ct a sa) rfl fun _ _ => ?_
  simp -implicitDefEqProofs (maxSteps := 4000000) only [go_sem]
  refine calm_data [a.E, a.E] (eqSorts_ct a sa) rfl fun _ _ => ?_
  simp -implicitDefEqProofs (maxSteps := 4000000) only [go_sem]
  refine draw_rule tyOk (by kernel_rfl) [0, 1, 2, 3, 4] (by kernel_rfl) ?_
  simp -implicitDefEqProofs (maxSteps := 4000000) only [go_sem]
  refine calm_data [b.E] (toSorts_ct b sb) rfl fun _ _ => ?_
  simp -implicitDefEqProofs (maxSteps := 4000000) only [go_sem]
  refine calm_data [b.E, b.E] (eqSorts_ct b sb) rfl fun _ _ => ?_
  simp -implicitDefEqProofs (maxSteps := 4000000) only [go_sem]
  exact end_pure hK () trivial (by simp -implicitDefEqProofs (maxSteps := 4000000) only [go_sem])
end Go.Proofs.Ytbbdjpmfaclnjaa
