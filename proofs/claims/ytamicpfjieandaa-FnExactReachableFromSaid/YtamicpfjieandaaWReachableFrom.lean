/- FnExactReachableFrom: the law, walked. Printed by lawm.py. -/
import Derived.Test.YtamicpfjieandaaXe
import Derived.Test.YtamicpfjieandaaXp
import Derived.Test.YtamicpfjieandaaRd
import Derived.Test.YtamicpfjieandaaMr
import Derived.Test.YtamicpfjieandaaMg
namespace Go.Proofs.Ytamicpfjieandaa
open Go Go.Ab
set_option linter.unusedVariables false
set_option linter.unusedSimpArgs false
set_option maxRecDepth 100000
set_option maxHeartbeats 4000000
theorem fnExactReachableFrom_ct (x0 : TProgram) (hx0 : x0.ok) (x1 : List ByteArray) (hx1 : (x1.length ≤ 9223372036854775807 ∧ ∀ y ∈ x1, y.size ≤ 9223372036854775807)) : Ct Try.prog 8 [.d x0.E, .d (.lst (x1.map D.str))] [] (fun _ : Unit => True) (fun _ => .bool true) (fun _ => []) := by
  refine ct_go tyOk Try.func8 rfl (by decide +kernel) Try.ntmps8 rfl (fun _ _ => by first | exact Nat.le_refl _ | exact Nat.zero_le _ | simp) ?_
  intro K hK
  simp -implicitDefEqProofs (maxSteps := 4000000) only [go_sem]
  refine call_int [x0.E, .int 1048576] (szProgram_ct x0 hx0 1048576 (by omega) (by omega)) rfl fun l0 e0 => ?_
  simp -implicitDefEqProofs (maxSteps := 4000000) only [go_sem]
  refine ⟨fun h => end_pure hK () trivial (by simp -implicitDefEqProofs (maxSteps := 4000000) only [go_sem]), fun h => ?_⟩
  have s0 : x0.sm := x0.sz_small 1048576 (by omega) (by omega) (by rw [← e0]; omega)
  have c0 := Program_cns x0 1048576 (by omega) (by rw [← e0]; omega)
  rw [ProgramCnt] at c0
  rw [← e0] at c0
  refine call_int [(.lst (x1.map D.str)), .int l0] (szStringS_ct x1 hx1 l0 (by omega) (by omega)) rfl fun l1 e1 => ?_
  simp -implicitDefEqProofs (maxSteps := 4000000) only [go_sem]
  refine ⟨fun h => end_pure hK () trivial (by simp -implicitDefEqProofs (maxSteps := 4000000) only [go_sem]), fun h => ?_⟩
  have s1 := szL_small (f := (fun s l => l - (s.size : Int))) (sm := fun y => y.size ≤ 1048576) (a := x1) (fun y _ => (fun l h => szB_le y l)) (fun y _ => (fun l h0 h1 h2 => szB_small y l h1 h2)) l0 (by omega) (by omega) (by rw [← e1]; omega)
  have c1 := cn_rows (f := (fun s l => l - (s.size : Int))) (E := D.str) (a := x1) (fun y _ => cn_str y) l0 (by omega) (by rw [← e1]; omega)
  rw [← e1] at c1
  have hn := Program_nd x0 1048576 (by omega) (by omega) (by rw [← e0]; omega)
  have hb : bsum x0.rules_ ≤ 8388608 := by have := bsum_cnts x0.rules_; omega
  have hx1l : x1.length ≤ 8388608 := by have := s1.1; omega
  have hres : (keepB (reach x0.rules_ x1) (fnsOf x0.rules_)).length ≤ 8388608 := by have h1 := keepB_len (reach x0.rules_ x1) (fnsOf x0.rules_); have h2 := fnsOf_len x0.rules_ x0.rules_.length; rw [List.take_length] at h2; have h3 : x0.rules_.length ≤ 1048576 := (by first | exact s0.1 | exact s0); omega
  refine call_p (toProgram_dt x0 s0) rfl fun _ _ => ?_
  simp -implicitDefEqProofs (maxSteps := 4000000) only [go_sem]
  refine call_p (toStringS_ct x1 s1) rfl fun _ _ => ?_
  simp -implicitDefEqProofs (maxSteps := 4000000) only [go_sem]
  refine call_p (specReach_ct x0 s0 hb x1 hx1l) rfl fun _ _ => ?_
  simp -implicitDefEqProofs (maxSteps := 4000000) only [go_sem]
  refine call_objs [] (toProgram_fr x0 s0) (by simp -implicitDefEqProofs (maxSteps := 4000000) only [go_sem]; simp [O.lel, O.rens, pick]) fun v0 _ => ?_
  simp -implicitDefEqProofs (maxSteps := 4000000) only [go_sem]
  refine call_new (q := 1) (toStringS_fr x1 s1) rfl (by simp [lendAs, lendOk]) (fun _ => rfl) fun v1 _ => ?_
  simp -implicitDefEqProofs (maxSteps := 4000000) only [go_sem]
  refine call_new (q := 1) (implReach_ct x0 s0 hb hn x1 hx1l) rfl (by simp only [lendAs]; exact ⟨_, _, rfl, lendProgram (by simp), _, _, rfl, (by simp [lendOk]), rfl⟩) (fun _ => rfl) fun u _ => ?_
  generalize hnm : keepB (reach x0.rules_ x1) (fnsOf x0.rules_) = nm at *
  simp -implicitDefEqProofs (maxSteps := 4000000) only [go_sem]
  refine call_read (q := 1) (eqRowS_ct nm (by omega)) rfl (by simp [lendAs, lendOk]) (fun _ => rfl) fun _ _ => ?_
  simp -implicitDefEqProofs (maxSteps := 4000000) only [go_sem]
  refine draw_rule tyOk (by kernel_rfl) [0, 1, 2, 3, 4] (by decide +kernel) ?_
  simp -implicitDefEqProofs (maxSteps := 4000000) only [go_sem]
  refine calm_p (toProgram_dt x0 s0) rfl fun _ _ => ?_
  simp -implicitDefEqProofs (maxSteps := 4000000) only [go_sem]
  refine calm_read (q := 1) (eqProgram_ct x0 s0) rfl (by simp only [lendAs]; exact ⟨_, _, rfl, lendProgram (by simp), _, _, rfl, by simp [lendOk], rfl⟩) (fun _ => rfl) fun _ _ => ?_
  simp -implicitDefEqProofs (maxSteps := 4000000) only [go_sem]
  refine call_p (toStringS_ct x1 s1) rfl fun _ _ => ?_
  simp -implicitDefEqProofs (maxSteps := 4000000) only [go_sem]
  refine call_read (q := 1) (eqStringS_ct x1 s1) rfl (by simp only [lendAs]; exact ⟨_, _, rfl, (by simp [lendOk]), _, _, rfl, by simp [lendOk], rfl⟩) (fun _ => rfl) fun _ _ => ?_
  simp -implicitDefEqProofs (maxSteps := 4000000) only [go_sem]
  refine call_trees (q := 1) (La := []) (lc := [(v0, .lst (x0.rules_.map TRule.E))]) (Lb := [(v1, .lst (x1.map D.str)), (u, .lst (nm.map D.str))]) (markProgram_ct x0 s0 v0 (1) (by omega) (by omega)) rfl (by simp only [lendAs]; exact ⟨_, _, rfl, lendProgramR (x := x0), _, _, rfl, by simp [lendOk], rfl⟩) (fun _ => rfl) fun _ _ => ?_
  simp -implicitDefEqProofs (maxSteps := 4000000) only [go_sem]
  refine call_trees (q := 1) (La := [(v0, .lst (mkDs (x0.rules_.map TRule.E) (1)))]) (lc := [(v1, .lst (x1.map D.str))]) (Lb := [(u, .lst (nm.map D.str))]) (markStringS_cn x1 s1 v1 (1 + (cnts (x0.rules_.map TRule.E) : Nat)) (by omega) (by omega)) rfl (by simp only [lendAs]; exact ⟨_, _, rfl, (by simp [lendOk]), _, _, rfl, by simp [lendOk], rfl⟩) (fun _ => rfl) fun _ _ => ?_
  simp -implicitDefEqProofs (maxSteps := 4000000) only [go_sem]
  refine ⟨fun _ => ?_, fun g => absurd g (by omega)⟩
  refine call_read (q := 1) (eqRowS_ct nm (by omega)) rfl (by simp [lendAs, lendOk]) (fun _ => rfl) fun _ _ => ?_
  simp -implicitDefEqProofs (maxSteps := 4000000) only [go_sem]
  refine call_trees (q := 1) (La := [(v0, .lst (mkDs (x0.rules_.map TRule.E) (1))), (v1, .lst (mkDs (x1.map D.str) (1 + (cnts (x0.rules_.map TRule.E) : Nat))))]) (lc := [(u, .lst (nm.map D.str))]) (Lb := []) (markStringS_ct nm u 1 (by omega) (by omega)) rfl (by simp [lendAs, lendOk]) (fun _ => rfl) fun _ _ => ?_
  simp -implicitDefEqProofs (maxSteps := 4000000) only [go_sem]
  refine call_read (q := 1) (heldStringS_ct nm 1 (by omega) (by omega)) rfl (by simp [lendAs, lendOk]) (fun _ => rfl) fun _ _ => ?_
  simp -implicitDefEqProofs (maxSteps := 4000000) only [go_sem]
  refine ⟨fun g => absurd g (by omega), fun _ => ?_⟩
  refine call_p (toProgram_dt x0 s0) rfl fun _ _ => ?_
  simp -implicitDefEqProofs (maxSteps := 4000000) only [go_sem]
  refine call_p (toStringS_ct x1 s1) rfl fun _ _ => ?_
  simp -implicitDefEqProofs (maxSteps := 4000000) only [go_sem]
  refine call_p (Ct.datF (φ' := fun _ : Unit => True) (r := fun _ => .lst ((keepB (reach x0.rules_ x1) (fnsOf x0.rules_)).map D.str)) (fun _ => ()) (implReach_ct x0 s0 hb hn x1 hx1l) (fun _ _ => trivial) (fun _ _ => by simp [lendOk])) rfl fun _ _ => ?_
  rw [hnm]
  simp -implicitDefEqProofs (maxSteps := 4000000) only [go_sem]
  refine call_p (eqRowS_ct nm (by omega)) rfl fun _ _ => ?_
  simp -implicitDefEqProofs (maxSteps := 4000000) only [go_sem]
  refine call_read (q := 1) (heldStringS_ct nm 1 (by omega) (by omega)) rfl (by simp [lendAs, lendOk]) (fun _ => rfl) fun _ _ => ?_
  simp -implicitDefEqProofs (maxSteps := 4000000) only [go_sem]
  refine ⟨fun g => absurd g (by omega), fun _ => ?_⟩
  exact end_pure hK () trivial (by simp -implicitDefEqProofs (maxSteps := 4000000) only [go_sem])
end Go.Proofs.Ytamicpfjieandaa
