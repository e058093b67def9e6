/- FnExactRepeatedIn: the law, walked. Printed by lawm.py. -/
import Derived.Test.YtamicpfjieandaaXe
import Derived.Test.YtamicpfjieandaaXp
import Derived.Test.YtamicpfjieandaaRp
import Derived.Test.YtamicpfjieandaaMr
import Derived.Test.YtamicpfjieandaaMn
namespace Go.Proofs.Ytamicpfjieandaa
open Go Go.Ab
set_option linter.unusedVariables false
set_option linter.unusedSimpArgs false
set_option maxRecDepth 100000
set_option maxHeartbeats 4000000
theorem fnExactRepeatedIn_ct (x0 : TProgram) (hx0 : x0.ok) : Ct Try.prog 3 [.d x0.E] [] (fun _ : Unit => True) (fun _ => .bool true) (fun _ => []) := by
  refine ct_go tyOk Try.func3 rfl (by decide +kernel) Try.ntmps3 rfl (fun _ _ => by first | exact Nat.le_refl _ | exact Nat.zero_le _ | simp) ?_
  intro K hK
  simp -implicitDefEqProofs (maxSteps := 4000000) only [go_sem]
  refine call_int [x0.E, .int 1048576] (szProgram_ct x0 hx0 1048576 (by omega) (by omega)) rfl fun l0 e0 => ?_
  simp -implicitDefEqProofs (maxSteps := 4000000) only [go_sem]
  refine ⟨fun h => end_pure hK () trivial (by simp -implicitDefEqProofs (maxSteps := 4000000) only [go_sem]), fun h => ?_⟩
  have s0 : x0.sm := x0.sz_small 1048576 (by omega) (by omega) (by rw [← e0]; omega)
  have c0 := Program_cns x0 1048576 (by omega) (by rw [← e0]; omega)
  rw [ProgramCnt] at c0
  rw [← e0] at c0
  have hn := Program_nd x0 1048576 (by omega) (by omega) (by rw [← e0]; omega)
  have hres : (repOf x0.rules_).length ≤ 1048576 := by have := repOf_len x0.rules_; have h2 : x0.rules_.length ≤ 1048576 := (by first | exact s0.1 | exact s0); omega
  refine call_p (toProgram_dt x0 s0) rfl fun _ _ => ?_
  simp -implicitDefEqProofs (maxSteps := 4000000) only [go_sem]
  refine call_p (specRep_ct x0 s0 hn) rfl fun _ _ => ?_
  simp -implicitDefEqProofs (maxSteps := 4000000) only [go_sem]
  refine call_objs [] (toProgram_fr x0 s0) (by simp -implicitDefEqProofs (maxSteps := 4000000) only [go_sem]; simp [O.lel, O.rens, pick]) fun v0 _ => ?_
  simp -implicitDefEqProofs (maxSteps := 4000000) only [go_sem]
  refine call_new (q := 1) (Ct.tree (implRep_ct x0 s0 hn)) rfl (by simp only [lendAs]; exact ⟨_, _, rfl, lendProgram (by simp), rfl⟩) (fun _ => rfl) fun p _ => ?_
  obtain ⟨_, u⟩ := p
  generalize hnm : repOf x0.rules_ = nm at *
  simp -implicitDefEqProofs (maxSteps := 4000000) only [go_sem]
  refine call_read (q := 1) (eqIntS_ct nm (by omega)) rfl (by simp [lendAs, lendOk]) (fun _ => rfl) fun _ _ => ?_
  simp -implicitDefEqProofs (maxSteps := 4000000) only [go_sem]
  refine draw_rule tyOk (by kernel_rfl) [0, 1, 2, 3, 4] (by decide +kernel) ?_
  simp -implicitDefEqProofs (maxSteps := 4000000) only [go_sem]
  refine calm_p (toProgram_dt x0 s0) rfl fun _ _ => ?_
  simp -implicitDefEqProofs (maxSteps := 4000000) only [go_sem]
  refine calm_read (q := 1) (eqProgram_ct x0 s0) rfl (by simp only [lendAs]; exact ⟨_, _, rfl, lendProgram (by simp), _, _, rfl, by simp [lendOk], rfl⟩) (fun _ => rfl) fun _ _ => ?_
  simp -implicitDefEqProofs (maxSteps := 4000000) only [go_sem]
  refine call_trees (q := 1) (La := []) (lc := [(v0, .lst (x0.rules_.map TRule.E))]) (Lb := [(u, .lst (nm.map D.int))]) (markProgram_ct x0 s0 v0 (1) (by omega) (by omega)) rfl (by simp only [lendAs]; exact ⟨_, _, rfl, lendProgramR (x := x0), _, _, rfl, by simp [lendOk], rfl⟩) (fun _ => rfl) fun _ _ => ?_
  simp -implicitDefEqProofs (maxSteps := 4000000) only [go_sem]
  refine ⟨fun _ => ?_, fun g => absurd g (by omega)⟩
  refine call_read (q := 1) (eqIntS_ct nm (by omega)) rfl (by simp [lendAs, lendOk]) (fun _ => rfl) fun _ _ => ?_
  simp -implicitDefEqProofs (maxSteps := 4000000) only [go_sem]
  refine call_trees (q := 1) (La := [(v0, .lst (mkDs (x0.rules_.map TRule.E) (1)))]) (lc := [(u, .lst (nm.map D.int))]) (Lb := []) (markIntS_ct nm u 1 (by omega) (by omega)) rfl (by simp [lendAs, lendOk]) (fun _ => rfl) fun _ _ => ?_
  simp -implicitDefEqProofs (maxSteps := 4000000) only [go_sem]
  refine call_read (q := 1) (heldIntS_ct nm 1 (by omega) (by omega)) rfl (by simp [lendAs, lendOk]) (fun _ => rfl) fun _ _ => ?_
  simp -implicitDefEqProofs (maxSteps := 4000000) only [go_sem]
  refine ⟨fun g => absurd g (by omega), fun _ => ?_⟩
  refine call_p (toProgram_dt x0 s0) rfl fun _ _ => ?_
  simp -implicitDefEqProofs (maxSteps := 4000000) only [go_sem]
  refine call_p (Ct.dat (implRep_ct x0 s0 hn)) rfl fun _ _ => ?_
  rw [hnm]
  simp -implicitDefEqProofs (maxSteps := 4000000) only [go_sem]
  refine call_p (eqIntS_ct nm (by omega)) rfl fun _ _ => ?_
  simp -implicitDefEqProofs (maxSteps := 4000000) only [go_sem]
  refine call_read (q := 1) (heldIntS_ct nm 1 (by omega) (by omega)) rfl (by simp [lendAs, lendOk]) (fun _ => rfl) fun _ _ => ?_
  simp -implicitDefEqProofs (maxSteps := 4000000) only [go_sem]
  refine ⟨fun g => absurd g (by omega), fun _ => ?_⟩
  exact end_pure hK () trivial (by simp -implicitDefEqProofs (maxSteps := 4000000) only [go_sem])
end Go.Proofs.Ytamicpfjieandaa
