/- IsRecursive: the walks. -/
import Derived.Test.YtamicpfjieandaaRd
namespace Go.Proofs.Ytamicpfjieandaa
open Go Go.Ab
set_option linter.unusedVariables false
set_option linter.unusedSimpArgs false
set_option maxRecDepth 100000
set_option maxHeartbeats 4000000
def isRec (l : List TRule) (nm : ByteArray) : Bool := hasB nm (keepB (reach l (callsTo nm l)) (fnsOf l))
theorem recLen (p : TProgram) (h : p.sm) (fs : List ByteArray) : (keepB fs (fnsOf p.rules_)).length ≤ 1048576 := by
  have hl : p.rules_.length ≤ 1048576 := by first | exact h.1 | exact h
  have h1 := keepB_len fs (fnsOf p.rules_)
  have h2 := fnsOf_len p.rules_ p.rules_.length
  rw [List.take_length] at h2
  omega
theorem specRec_ct (p : TProgram) (h : p.sm) (hb : bsum p.rules_ ≤ 8388608) (nm : ByteArray) : Ct Try.prog 38 [.d p.E, .str nm] [] (fun _ : Unit => True) (fun _ => .bool (isRec p.rules_ nm)) (fun _ => []) := by
  refine ct_go tyOk Try.func38 rfl (by decide +kernel) Try.ntmps38 rfl (fun _ _ => by first | exact Nat.le_refl _ | exact Nat.zero_le _ | simp) ?_
  intro K hK
  have h1 := callsTo_len nm p.rules_
  have h2 := recLen p h (reach p.rules_ (callsTo nm p.rules_))
  simp -implicitDefEqProofs (maxSteps := 4000000) only [go_sem]
  refine draw_rule tyOk (by kernel_rfl) [0, 1, 2, 5, 3, 4, 6, 7, 8] (by decide +kernel) ?_
  simp -implicitDefEqProofs (maxSteps := 4000000) only [go_sem]
  refine calm_p (specBy_ct p h hb nm) rfl fun _ _ => ?_
  simp -implicitDefEqProofs (maxSteps := 4000000) only [go_sem]
  refine calm_p (specReach_ct p h hb (callsTo nm p.rules_) (by omega)) rfl fun _ _ => ?_
  simp -implicitDefEqProofs (maxSteps := 4000000) only [go_sem]
  refine calm_p (indexOf_ct (keepB (reach p.rules_ (callsTo nm p.rules_)) (fnsOf p.rules_)) (by omega) nm) rfl fun _ _ => ?_
  simp -implicitDefEqProofs (maxSteps := 4000000) only [go_sem]
  exact end_pure hK () trivial (by simp -implicitDefEqProofs (maxSteps := 4000000) only [go_sem, isRec, hasB_pos, Bool.decide_eq_true])
theorem implReachD_ct (p : TProgram) (h : p.sm) (hb : bsum p.rules_ ≤ 8388608) (hn : ∀ x ∈ p.rules_, x.body_.nd ≤ 4194304) (names : List ByteArray) (hnm : names.length ≤ 8388608) : Ct Try.prog 43 [.d p.E, .d (.lst (names.map D.str))] [] (fun _ : Unit => True) (fun _ => .d (.lst ((keepB (reach p.rules_ names) (fnsOf p.rules_)).map D.str))) (fun _ => []) :=
  Ct.datF (φ' := fun _ : Unit => True) (r := fun _ => .lst ((keepB (reach p.rules_ names) (fnsOf p.rules_)).map D.str)) (fun _ => ()) (implReach_ct p h hb hn names hnm) (fun _ _ => trivial) (fun _ _ => by simp [lendOk])
theorem implRec_ct (p : TProgram) (h : p.sm) (hb : bsum p.rules_ ≤ 8388608) (hn : ∀ x ∈ p.rules_, x.body_.nd ≤ 4194304) (nm : ByteArray) : Ct Try.prog 39 [.d p.E, .str nm] [] (fun _ : Unit => True) (fun _ => .bool (isRec p.rules_ nm)) (fun _ => []) := by
  refine ct_go tyOk Try.func39 rfl (by decide +kernel) Try.ntmps39 rfl (fun _ _ => by first | exact Nat.le_refl _ | exact Nat.zero_le _ | simp) ?_
  intro K hK
  have h1 := callsTo_len nm p.rules_
  have h2 := recLen p h (reach p.rules_ (callsTo nm p.rules_))
  simp -implicitDefEqProofs (maxSteps := 4000000) only [go_sem]
  refine draw_rule tyOk (by kernel_rfl) [0, 1, 2, 5, 3, 4, 6, 7] (by decide +kernel) ?_
  simp -implicitDefEqProofs (maxSteps := 4000000) only [go_sem]
  refine calm_p (implByD_ct p h hb hn nm) rfl fun _ _ => ?_
  simp -implicitDefEqProofs (maxSteps := 4000000) only [go_sem]
  refine calm_p (implReachD_ct p h hb hn (callsTo nm p.rules_) (by omega)) rfl fun _ _ => ?_
  simp -implicitDefEqProofs (maxSteps := 4000000) only [go_sem]
  refine calm_p (contains_ct (keepB (reach p.rules_ (callsTo nm p.rules_)) (fnsOf p.rules_)) (by omega) nm) rfl fun _ _ => ?_
  simp -implicitDefEqProofs (maxSteps := 4000000) only [go_sem]
  exact end_pure hK () trivial (by simp -implicitDefEqProofs (maxSteps := 4000000) only [go_sem, isRec])
end Go.Proofs.Ytamicpfjieandaa
