/- FnExactUnusedIn: the law, walked. Printed by lawm.py. -/
import Derived.Test.YtamicpfjieandaaXe
import Derived.Test.YtamicpfjieandaaXp
import Derived.Test.YtamicpfjieandaaUn
import Derived.Test.YtamicpfjieandaaMr
import Derived.Test.YtamicpfjieandaaMg
namespace Go.Proofs.Ytamicpfjieandaa
open Go Go.Ab
set_option linter.unusedVariables false
set_option linter.unusedSimpArgs false
set_option maxRecDepth 100000
set_option maxHeartbeats 4000000
theorem fnExactUnusedIn_ct (x0 : TRule) (hx0 : x0.ok) : Ct Try.prog 4 [.d x0.E] [] (fun _ : Unit => True) (fun _ => .bool true) (fun _ => []) := by
  refine ct_go tyOk Try.func4 rfl (by decide +kernel) Try.ntmps4 rfl (fun _ _ => by first | exact Nat.le_refl _ | exact Nat.zero_le _ | simp) ?_
  intro K hK
  simp -implicitDefEqProofs (maxSteps := 4000000) only [go_sem]
  refine call_int [x0.E, .int 1048576] (szRule_ct x0 hx0 1048576 (by omega) (by omega)) rfl fun l0 e0 => ?_
  simp -implicitDefEqProofs (maxSteps := 4000000) only [go_sem]
  refine ⟨fun h => end_pure hK () trivial (by simp -implicitDefEqProofs (maxSteps := 4000000) only [go_sem]), fun h => ?_⟩
  have s0 : x0.sm := x0.sz_small 1048576 (by omega) (by omega) (by rw [← e0]; omega)
  have c0 := Rule_cns x0 1048576 (by omega) (by rw [← e0]; omega)
  rw [RuleCnt] at c0
  rw [← e0] at c0
  have hn : x0.body_.nd ≤ 4194304 := by have := Rule_nd x0 1048576 (by omega) (by omega) (by rw [← e0]; omega); omega
  have hres : (unused x0.body_ (x0.vars_ ++ x0.params_)).length ≤ 8388608 := by have := unused_len x0.body_ (x0.vars_ ++ x0.params_); rw [List.length_append] at this; have := s0.2.2.1.1; have := s0.2.2.2.1.1; omega
  refine call_p (toRule_dt x0 s0) rfl fun _ _ => ?_
  simp -implicitDefEqProofs (maxSteps := 4000000) only [go_sem]
  refine call_p (specUnused_ct x0 s0 hn) rfl fun _ _ => ?_
  simp -implicitDefEqProofs (maxSteps := 4000000) only [go_sem]
  refine call_objs [] (toRule_fr x0 s0) (by simp -implicitDefEqProofs (maxSteps := 4000000) only [go_sem]; simp [O.lel, O.rens, pick]) fun v0 _ => ?_
  simp -implicitDefEqProofs (maxSteps := 4000000) only [go_sem]
  refine call_new (q := 1) (Ct.tree (implUnused_ct x0 s0 hn)) rfl (by simp only [lendAs]; exact ⟨_, _, rfl, lendRule (by simp) (by simp) (by simp), rfl⟩) (fun _ => rfl) fun p _ => ?_
  obtain ⟨_, u⟩ := p
  generalize hnm : unused x0.body_ (x0.vars_ ++ x0.params_) = nm at *
  simp -implicitDefEqProofs (maxSteps := 4000000) only [go_sem]
  refine call_read (q := 1) (eqRowS_ct nm (by omega)) rfl (by simp [lendAs, lendOk]) (fun _ => rfl) fun _ _ => ?_
  simp -implicitDefEqProofs (maxSteps := 4000000) only [go_sem]
  refine draw_rule tyOk (by kernel_rfl) [0, 1, 2, 3, 4] (by decide +kernel) ?_
  simp -implicitDefEqProofs (maxSteps := 4000000) only [go_sem]
  refine calm_p (toRule_dt x0 s0) rfl fun _ _ => ?_
  simp -implicitDefEqProofs (maxSteps := 4000000) only [go_sem]
  refine calm_read (q := 1) (eqRule_ct x0 s0) rfl (by simp only [lendAs]; exact ⟨_, _, rfl, lendRule (by simp) (by simp) (by simp), _, _, rfl, by simp [lendOk], rfl⟩) (fun _ => rfl) fun _ _ => ?_
  simp -implicitDefEqProofs (maxSteps := 4000000) only [go_sem]
  refine call_trees (q := 1) (La := []) (lc := [(v0.1, .lst (x0.vars_.map D.str)), (v0.2.1, .lst (x0.params_.map D.str)), (v0.2.2, .lst (x0.body_.a.map Ex.E))]) (Lb := [(u, .lst (nm.map D.str))]) (markRule_ct x0 s0 (v0.1) (v0.2.1) (v0.2.2) (1) (by omega) (by omega)) rfl (by simp only [lendAs]; exact ⟨_, _, rfl, lendRuleR (x := x0), _, _, rfl, by simp [lendOk], rfl⟩) (fun _ => rfl) fun _ _ => ?_
  simp -implicitDefEqProofs (maxSteps := 4000000) only [go_sem]
  refine ⟨fun _ => ?_, fun g => absurd g (by omega)⟩
  refine call_read (q := 1) (eqRowS_ct nm (by omega)) rfl (by simp [lendAs, lendOk]) (fun _ => rfl) fun _ _ => ?_
  simp -implicitDefEqProofs (maxSteps := 4000000) only [go_sem]
  refine call_trees (q := 1) (La := [(v0.1, .lst (mkDs (x0.vars_.map D.str) (1))), (v0.2.1, .lst (mkDs (x0.params_.map D.str) (1 + (cnts (x0.vars_.map D.str) : Nat)))), (v0.2.2, .lst (mkDs (x0.body_.a.map Ex.E) (1 + (cnts (x0.vars_.map D.str) : Nat) + (cnts (x0.params_.map D.str) : Nat))))]) (lc := [(u, .lst (nm.map D.str))]) (Lb := []) (markStringS_ct nm u 1 (by omega) (by omega)) rfl (by simp [lendAs, lendOk]) (fun _ => rfl) fun _ _ => ?_
  simp -implicitDefEqProofs (maxSteps := 4000000) only [go_sem]
  refine call_read (q := 1) (heldStringS_ct nm 1 (by omega) (by omega)) rfl (by simp [lendAs, lendOk]) (fun _ => rfl) fun _ _ => ?_
  simp -implicitDefEqProofs (maxSteps := 4000000) only [go_sem]
  refine ⟨fun g => absurd g (by omega), fun _ => ?_⟩
  refine call_p (toRule_dt x0 s0) rfl fun _ _ => ?_
  simp -implicitDefEqProofs (maxSteps := 4000000) only [go_sem]
  refine call_p (Ct.dat (implUnused_ct x0 s0 hn)) rfl fun _ _ => ?_
  rw [hnm]
  simp -implicitDefEqProofs (maxSteps := 4000000) only [go_sem]
  refine call_p (eqRowS_ct nm (by omega)) rfl fun _ _ => ?_
  simp -implicitDefEqProofs (maxSteps := 4000000) only [go_sem]
  refine call_read (q := 1) (heldStringS_ct nm 1 (by omega) (by omega)) rfl (by simp [lendAs, lendOk]) (fun _ => rfl) fun _ _ => ?_
  simp -implicitDefEqProofs (maxSteps := 4000000) only [go_sem]
  refine ⟨fun g => absurd g (by omega), fun _ => ?_⟩
  exact end_pure hK () trivial (by simp -implicitDefEqProofs (maxSteps := 4000000) only [go_sem])
end Go.Proofs.Ytamicpfjieandaa
