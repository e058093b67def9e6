/- FnExactConsOfSort: the law, walked. Printed by lawm.py. -/
import Derived.Test.YtamicpfjieandaaXe
import Derived.Test.YtamicpfjieandaaXp
import Derived.Test.YtamicpfjieandaaCo
import Derived.Test.YtamicpfjieandaaMo
namespace Go.Proofs.Ytamicpfjieandaa
open Go Go.Ab
set_option linter.unusedVariables false
set_option linter.unusedSimpArgs false
set_option maxRecDepth 100000
set_option maxHeartbeats 4000000
theorem fnExactConsOfSort_ct (x0 : TSorts) (hx0 : x0.ok) (x1 : Int) : Ct Try.prog 6 [.d x0.E, .d (D.int x1)] [] (fun _ : Unit => True) (fun _ => .bool true) (fun _ => []) := by
  refine ct_go tyOk Try.func6 rfl (by decide +kernel) Try.ntmps6 rfl (fun _ _ => by first | exact Nat.le_refl _ | exact Nat.zero_le _ | simp) ?_
  intro K hK
  simp -implicitDefEqProofs (maxSteps := 4000000) only [go_sem]
  refine call_int [x0.E, .int 1048576] (szSorts_ct x0 hx0 1048576 (by omega) (by omega)) rfl fun l0 e0 => ?_
  simp -implicitDefEqProofs (maxSteps := 4000000) only [go_sem]
  refine ⟨fun h => end_pure hK () trivial (by simp -implicitDefEqProofs (maxSteps := 4000000) only [go_sem]), fun h => ?_⟩
  have s0 : x0.sm := x0.sz_small 1048576 (by omega) (by omega) (by rw [← e0]; omega)
  have c0 := Sorts_cns x0 1048576 (by omega) (by rw [← e0]; omega)
  rw [SortsCnt] at c0
  rw [← e0] at c0
  have hres : (consOf (x0.cons_.zip x0.of_) x1).length ≤ 1048576 := by have := consOf_len (x0.cons_.zip x0.of_) x1; rw [List.length_zip] at this; have := s0.1.1; omega
  refine call_p (toSorts_dt x0 s0) rfl fun _ _ => ?_
  simp -implicitDefEqProofs (maxSteps := 4000000) only [go_sem]
  refine call_p (specCons_ct x0 s0 x1) rfl fun _ _ => ?_
  simp -implicitDefEqProofs (maxSteps := 4000000) only [go_sem]
  refine call_objs [] (toSorts_fr x0 s0) (by simp -implicitDefEqProofs (maxSteps := 4000000) only [go_sem]; simp [O.lel, O.rens, pick]) fun v0 _ => ?_
  simp -implicitDefEqProofs (maxSteps := 4000000) only [go_sem]
  refine call_new (q := 1) (Ct.tree (implCons_ct x0 s0 x1)) rfl (by simp only [lendAs]; exact ⟨_, _, rfl, lendSorts (by simp) (by simp) (by simp) (by simp) (by simp) (by simp), _, _, rfl, (by simp [lendOk]), rfl⟩) (fun _ => rfl) fun p _ => ?_
  obtain ⟨_, u⟩ := p
  generalize hnm : consOf (x0.cons_.zip x0.of_) x1 = nm at *
  simp -implicitDefEqProofs (maxSteps := 4000000) only [go_sem]
  refine call_read (q := 1) (eqRowS_ct nm (by omega)) rfl (by simp [lendAs, lendOk]) (fun _ => rfl) fun _ _ => ?_
  simp -implicitDefEqProofs (maxSteps := 4000000) only [go_sem]
  refine draw_rule tyOk (by kernel_rfl) [0, 1, 2, 3, 4] (by decide +kernel) ?_
  simp -implicitDefEqProofs (maxSteps := 4000000) only [go_sem]
  refine calm_p (toSorts_dt x0 s0) rfl fun _ _ => ?_
  simp -implicitDefEqProofs (maxSteps := 4000000) only [go_sem]
  refine calm_read (q := 1) (eqSorts_ct x0 s0) rfl (by simp only [lendAs]; exact ⟨_, _, rfl, lendSorts (by simp) (by simp) (by simp) (by simp) (by simp) (by simp), _, _, rfl, by simp [lendOk], rfl⟩) (fun _ => rfl) fun _ _ => ?_
  simp -implicitDefEqProofs (maxSteps := 4000000) only [go_sem]
  refine call_trees (q := 1) (La := []) (lc := [(v0.1, .lst (x0.cons_.map D.str)), (v0.2.1, .lst (x0.of_.map D.int)), (v0.2.2.1, .lst (x0.args_.map (fun r => D.lst (r.map D.int)))), (v0.2.2.2.1, .lst (x0.funs_.map D.str)), (v0.2.2.2.2.1, .lst (x0.params_.map (fun r => D.lst (r.map D.int)))), (v0.2.2.2.2.2, .lst (x0.results_.map D.int))]) (Lb := [(u, .lst (nm.map D.str))]) (markSorts_ct x0 s0 (v0.1) (v0.2.1) (v0.2.2.1) (v0.2.2.2.1) (v0.2.2.2.2.1) (v0.2.2.2.2.2) (1) (by omega) (by omega)) rfl (by simp only [lendAs]; exact ⟨_, _, rfl, lendSortsR (x := x0), _, _, rfl, by simp [lendOk], rfl⟩) (fun _ => rfl) fun _ _ => ?_
  simp -implicitDefEqProofs (maxSteps := 4000000) only [go_sem]
  refine ⟨fun _ => ?_, fun g => absurd g (by omega)⟩
  refine call_read (q := 1) (eqRowS_ct nm (by omega)) rfl (by simp [lendAs, lendOk]) (fun _ => rfl) fun _ _ => ?_
  simp -implicitDefEqProofs (maxSteps := 4000000) only [go_sem]
  refine call_trees (q := 1) (La := [(v0.1, .lst (mkDs (x0.cons_.map D.str) (1))), (v0.2.1, .lst (mkDs (x0.of_.map D.int) (1 + (cnts (x0.cons_.map D.str) : Nat)))), (v0.2.2.1, .lst (mkDs (x0.args_.map (fun r => D.lst (r.map D.int))) (1 + (cnts (x0.cons_.map D.str) : Nat) + (cnts (x0.of_.map D.int) : Nat)))), (v0.2.2.2.1, .lst (mkDs (x0.funs_.map D.str) (1 + (cnts (x0.cons_.map D.str) : Nat) + (cnts (x0.of_.map D.int) : Nat) + (cnts (x0.args_.map (fun r => D.lst (r.map D.int))) : Nat)))), (v0.2.2.2.2.1, .lst (mkDs (x0.params_.map (fun r => D.lst (r.map D.int))) (1 + (cnts (x0.cons_.map D.str) : Nat) + (cnts (x0.of_.map D.int) : Nat) + (cnts (x0.args_.map (fun r => D.lst (r.map D.int))) : Nat) + (cnts (x0.funs_.map D.str) : Nat)))), (v0.2.2.2.2.2, .lst (mkDs (x0.results_.map D.int) (1 + (cnts (x0.cons_.map D.str) : Nat) + (cnts (x0.of_.map D.int) : Nat) + (cnts (x0.args_.map (fun r => D.lst (r.map D.int))) : Nat) + (cnts (x0.funs_.map D.str) : Nat) + (cnts (x0.params_.map (fun r => D.lst (r.map D.int))) : Nat))))]) (lc := [(u, .lst (nm.map D.str))]) (Lb := []) (markStringS_ct nm u 1 (by omega) (by omega)) rfl (by simp [lendAs, lendOk]) (fun _ => rfl) fun _ _ => ?_
  simp -implicitDefEqProofs (maxSteps := 4000000) only [go_sem]
  refine call_read (q := 1) (heldStringS_ct nm 1 (by omega) (by omega)) rfl (by simp [lendAs, lendOk]) (fun _ => rfl) fun _ _ => ?_
  simp -implicitDefEqProofs (maxSteps := 4000000) only [go_sem]
  refine ⟨fun g => absurd g (by omega), fun _ => ?_⟩
  refine call_p (toSorts_dt x0 s0) rfl fun _ _ => ?_
  simp -implicitDefEqProofs (maxSteps := 4000000) only [go_sem]
  refine call_p (Ct.dat (implCons_ct x0 s0 x1)) rfl fun _ _ => ?_
  rw [hnm]
  simp -implicitDefEqProofs (maxSteps := 4000000) only [go_sem]
  refine call_p (eqRowS_ct nm (by omega)) rfl fun _ _ => ?_
  simp -implicitDefEqProofs (maxSteps := 4000000) only [go_sem]
  refine call_read (q := 1) (heldStringS_ct nm 1 (by omega) (by omega)) rfl (by simp [lendAs, lendOk]) (fun _ => rfl) fun _ _ => ?_
  simp -implicitDefEqProofs (maxSteps := 4000000) only [go_sem]
  refine ⟨fun g => absurd g (by omega), fun _ => ?_⟩
  exact end_pure hK () trivial (by simp -implicitDefEqProofs (maxSteps := 4000000) only [go_sem])
end Go.Proofs.Ytamicpfjieandaa
