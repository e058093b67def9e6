/- Measures, copies, comparisons: the walks. Printed by gen.py. -/
import Derived.Test.YtbbdjpmfaclnjaaGa
import Derived.Test.YtbbdjpmfaclnjaaAbZ
namespace Go.Proofs.Ytbbdjpmfaclnjaa
open Go Go.Ab
set_option linter.unusedVariables false
set_option linter.unusedSimpArgs false
set_option maxRecDepth 100000
set_option maxHeartbeats 4000000
theorem szSorts_ct (a : TSorts) (hok : a.ok) (l : Int) (h0 : 0 ≤ l) (h1 : l ≤ 1048576) : Ct Try.prog 24 [.d a.E, .int l] [] (fun _ : Unit => True) (fun _ => .int (TSorts.sz a l)) (fun _ => []) := by
  refine ct_go tyOk Try.func24 rfl (by decide +kernel) Try.ntmps24 rfl (fun _ _ => Nat.le_refl _) ?_
  intro K hK
  obtain ⟨k0, k1, k2, k3, k4, k5⟩ := hok
  simp -implicitDefEqProofs (maxSteps := 4000000) only [go_sem]
  refine call_int [(.lst (a.cons_.map D.str)), .int l] (szStringS_ct a.cons_ k0 l (by omega) (by omega)) rfl fun l1 e0 => ?_
  have b0 := szL_le (a := a.cons_) (fun y _ => (fun l _ => szB_le y l)) l (by omega)
  rw [← e0] at b0
  simp -implicitDefEqProofs (maxSteps := 4000000) only [go_sem]
  refine ⟨fun p0 => end_pure hK () trivial (by simp -implicitDefEqProofs (maxSteps := 4000000) only [go_sem, TSorts.sz, szSeq, ← e0, if_pos p0]), fun n0 => ?_⟩
  refine call_int [(.lst (a.of_.map D.int)), .int l1] (szIntS_ct a.of_ k1 l1 (by omega) (by omega)) rfl fun l2 e1 => ?_
  have b1 := szI_le a.of_ l1 (by omega)
  rw [← e1] at b1
  simp -implicitDefEqProofs (maxSteps := 4000000) only [go_sem]
  refine ⟨fun p1 => end_pure hK () trivial (by simp -implicitDefEqProofs (maxSteps := 4000000) only [go_sem, TSorts.sz, szSeq, ← e0, if_neg n0, ← e1, if_pos p1]), fun n1 => ?_⟩
  refine call_int [(.lst (a.args_.map (fun r => D.lst (r.map D.int)))), .int l2] (szIntSS_ct a.args_ k2 l2 (by omega) (by omega)) rfl fun l3 e2 => ?_
  have b2 := szL_le (a := a.args_) (fun y _ => (fun l h => (szI_le y l h).2)) l2 (by omega)
  rw [← e2] at b2
  simp -implicitDefEqProofs (maxSteps := 4000000) only [go_sem]
  refine ⟨fun p2 => end_pure hK () trivial (by simp -implicitDefEqProofs (maxSteps := 4000000) only [go_sem, TSorts.sz, szSeq, ← e0, if_neg n0, ← e1, if_neg n1, ← e2, if_pos p2]), fun n2 => ?_⟩
  refine call_int [(.lst (a.funs_.map D.str)), .int l3] (szStringS_ct a.funs_ k3 l3 (by omega) (by omega)) rfl fun l4 e3 => ?_
  have b3 := szL_le (a := a.funs_) (fun y _ => (fun l _ => szB_le y l)) l3 (by omega)
  rw [← e3] at b3
  simp -implicitDefEqProofs (maxSteps := 4000000) only [go_sem]
  refine ⟨fun p3 => end_pure hK () trivial (by simp -implicitDefEqProofs (maxSteps := 4000000) only [go_sem, TSorts.sz, szSeq, ← e0, if_neg n0, ← e1, if_neg n1, ← e2, if_neg n2, ← e3, if_pos p3]), fun n3 => ?_⟩
  refine call_int [(.lst (a.params_.map (fun r => D.lst (r.map D.int)))), .int l4] (szIntSS_ct a.params_ k4 l4 (by omega) (by omega)) rfl fun l5 e4 => ?_
  have b4 := szL_le (a := a.params_) (fun y _ => (fun l h => (szI_le y l h).2)) l4 (by omega)
  rw [← e4] at b4
  simp -implicitDefEqProofs (maxSteps := 4000000) only [go_sem]
  refine ⟨fun p4 => end_pure hK () trivial (by simp -implicitDefEqProofs (maxSteps := 4000000) only [go_sem, TSorts.sz, szSeq, ← e0, if_neg n0, ← e1, if_neg n1, ← e2, if_neg n2, ← e3, if_neg n3, ← e4, if_pos p4]), fun n4 => ?_⟩
  refine call_int [(.lst (a.results_.map D.int)), .int l5] (szIntS_ct a.results_ k5 l5 (by omega) (by omega)) rfl fun l6 e5 => ?_
  have b5 := szI_le a.results_ l5 (by omega)
  rw [← e5] at b5
  simp -implicitDefEqProofs (maxSteps := 4000000) only [go_sem]
  refine ⟨fun p5 => end_pure hK () trivial (by simp -implicitDefEqProofs (maxSteps := 4000000) only [go_sem, TSorts.sz, szSeq, ← e0, if_neg n0, ← e1, if_neg n1, ← e2, if_neg n2, ← e3, if_neg n3, ← e4, if_neg n4, ← e5, if_pos p5]), fun n5 => ?_⟩
  exact end_pure hK () trivial (by simp -implicitDefEqProofs (maxSteps := 4000000) only [go_sem, TSorts.sz, szSeq, ← e0, if_neg n0, ← e1, if_neg n1, ← e2, if_neg n2, ← e3, if_neg n3, ← e4, if_neg n4, ← e5, if_neg n5])
end Go.Proofs.Ytbbdjpmfaclnjaa
