/- Equality of rows: the walks. -/
import Derived.Test.YtdeabmjffccplaaEa
namespace Go.Proofs.Ytdeabmjffccplaa
open Go Go.Ab
set_option linter.unusedVariables false
set_option linter.unusedSimpArgs false
set_option maxRecDepth 100000
set_option maxHeartbeats 4000000
theorem specTexts_ct (a b : List ByteArray) (ha : a.length ≤ 1048576) : Ct Try.prog 48 [.d (.lst (a.map D.str)), .d (.lst (b.map D.str))] [] (fun _ : Unit => True) (fun _ => .bool (dq a b)) (fun _ => []) := by
  refine ct_go tyOk Try.func48 rfl (by decide +kernel) Try.ntmps48 rfl (fun _ _ => by first | exact Nat.le_refl _ | exact Nat.zero_le _ | simp) ?_
  intro K hK
  simp -implicitDefEqProofs (maxSteps := 4000000) only [go_sem]
  repeat' (first
    | (with_reducible refine ⟨fun _ => ?_, fun _ => ?_⟩)
    | (with_reducible refine ⟨by omega, ?_⟩)
    | (with_reducible intro _ _))
  · exact end_pure hK () trivial (by simp -implicitDefEqProofs (maxSteps := 4000000) only [go_sem]; exact (dq_ne fun h => by subst h; simp_all).symm)
  refine loop_st tyOk [4, 5, 11, 12, 13, 14, 15, 16, 17, 18, 19, 20, 21, 22, 23, 24, 25] (fun i : Nat => [(5, .int i)]) (fun i : Nat => i ≤ a.length ∧ a.take i = b.take i) (fun i : Nat => a.length - i) 0 ?_ ?_ ?_
  · exact ⟨by omega, rfl⟩
  · simp -implicitDefEqProofs (maxSteps := 4000000) only [go_sem]
  rintro i ⟨hi, he⟩ L hL
  simp -implicitDefEqProofs (maxSteps := 4000000) only [go_sem]
  repeat' (first
    | (with_reducible refine ⟨fun _ => ?_, fun _ => ?_⟩)
    | (with_reducible refine ⟨by omega, ?_⟩)
    | (with_reducible intro _ _)
    | (refine draw_rule tyOk (by kernel_rfl) [0, 1, 2, 3, 4, 5, 6, 7, 8] (by decide +kernel) ?_; simp -implicitDefEqProofs (maxSteps := 4000000) only [go_sem]))
  · exact end_pure hK () trivial (by simp -implicitDefEqProofs (maxSteps := 4000000) only [go_sem]; exact (dq_ne (ne_of_at (by assumption) (by assumption) (by assumption))).symm)
  · exact hL _ (i + 1) ⟨by omega, take_eq_more he (by assumption) (by assumption) (by assumption)⟩ (by omega) (by simp -implicitDefEqProofs (maxSteps := 4000000) only [go_sem, wr_succ (i := i) (by omega)])
  · exact end_pure hK () trivial (by simp -implicitDefEqProofs (maxSteps := 4000000) only [go_sem]; exact (dq_eq (eq_of_take he (by omega) (by omega))).symm)
theorem sEqTexts_ct (a b : List ByteArray) (ha : a.length ≤ 1048576) : Ct Try.prog 96 [.d (.lst (a.map D.str)), .d (.lst (b.map D.str))] [] (fun _ : Unit => True) (fun _ => .bool (dq a b)) (fun _ => []) := by
  refine ct_go tyOk Try.func96 rfl (by decide +kernel) Try.ntmps96 rfl (fun _ _ => by first | exact Nat.le_refl _ | exact Nat.zero_le _ | simp) ?_
  intro K hK
  simp -implicitDefEqProofs (maxSteps := 4000000) only [go_sem]
  repeat' (first
    | (with_reducible refine ⟨fun _ => ?_, fun _ => ?_⟩)
    | (with_reducible refine ⟨by omega, ?_⟩)
    | (with_reducible intro _ _))
  · exact end_pure hK () trivial (by simp -implicitDefEqProofs (maxSteps := 4000000) only [go_sem]; exact (dq_ne fun h => by subst h; simp_all).symm)
  refine loop_st tyOk [4, 5, 13, 14, 15, 16, 17, 18, 19, 20, 21, 22, 23, 24, 25] (fun i : Nat => [(13, .int i)]) (fun i : Nat => i ≤ a.length ∧ a.take i = b.take i) (fun i : Nat => a.length - i) 0 ?_ ?_ ?_
  · exact ⟨by omega, rfl⟩
  · simp -implicitDefEqProofs (maxSteps := 4000000) only [go_sem]
  rintro i ⟨hi, he⟩ L hL
  simp -implicitDefEqProofs (maxSteps := 4000000) only [go_sem]
  repeat' (first
    | (with_reducible refine ⟨fun _ => ?_, fun _ => ?_⟩)
    | (with_reducible refine ⟨by omega, ?_⟩)
    | (with_reducible intro _ _)
    | (refine draw_rule tyOk (by kernel_rfl) [0, 1, 2, 3, 4, 5, 6, 7, 8] (by decide +kernel) ?_; simp -implicitDefEqProofs (maxSteps := 4000000) only [go_sem]))
  · exact end_pure hK () trivial (by simp -implicitDefEqProofs (maxSteps := 4000000) only [go_sem]; exact (dq_ne (ne_of_at (by assumption) (by assumption) (by assumption))).symm)
  · exact hL _ (i + 1) ⟨by omega, take_eq_more he (by assumption) (by assumption) (by assumption)⟩ (by omega) (by simp -implicitDefEqProofs (maxSteps := 4000000) only [go_sem, wr_succ (i := i) (by omega)])
  · exact end_pure hK () trivial (by simp -implicitDefEqProofs (maxSteps := 4000000) only [go_sem]; exact (dq_eq (eq_of_take he (by omega) (by omega))).symm)
theorem specInts_ct (a b : List Int) (ha : a.length ≤ 1048576) : Ct Try.prog 47 [.d (.lst (a.map D.int)), .d (.lst (b.map D.int))] [] (fun _ : Unit => True) (fun _ => .bool (dq a b)) (fun _ => []) := by
  refine ct_go tyOk Try.func47 rfl (by decide +kernel) Try.ntmps47 rfl (fun _ _ => by first | exact Nat.le_refl _ | exact Nat.zero_le _ | simp) ?_
  intro K hK
  simp -implicitDefEqProofs (maxSteps := 4000000) only [go_sem]
  repeat' (first
    | (with_reducible refine ⟨fun _ => ?_, fun _ => ?_⟩)
    | (with_reducible refine ⟨by omega, ?_⟩)
    | (with_reducible intro _ _))
  · exact end_pure hK () trivial (by simp -implicitDefEqProofs (maxSteps := 4000000) only [go_sem]; exact (dq_ne fun h => by subst h; simp_all).symm)
  refine loop_st tyOk [4, 5, 11, 12, 13, 14, 15, 16, 17, 18, 19, 20, 21, 22, 23, 24, 25] (fun i : Nat => [(5, .int i)]) (fun i : Nat => i ≤ a.length ∧ a.take i = b.take i) (fun i : Nat => a.length - i) 0 ?_ ?_ ?_
  · exact ⟨by omega, rfl⟩
  · simp -implicitDefEqProofs (maxSteps := 4000000) only [go_sem]
  rintro i ⟨hi, he⟩ L hL
  simp -implicitDefEqProofs (maxSteps := 4000000) only [go_sem]
  repeat' (first
    | (with_reducible refine ⟨fun _ => ?_, fun _ => ?_⟩)
    | (with_reducible refine ⟨by omega, ?_⟩)
    | (with_reducible intro _ _)
    | (refine draw_rule tyOk (by kernel_rfl) [0, 1, 2, 3, 4, 5, 6, 7, 8] (by decide +kernel) ?_; simp -implicitDefEqProofs (maxSteps := 4000000) only [go_sem]))
  · exact end_pure hK () trivial (by simp -implicitDefEqProofs (maxSteps := 4000000) only [go_sem]; exact (dq_ne (ne_of_at (by assumption) (by assumption) (by assumption))).symm)
  · exact hL _ (i + 1) ⟨by omega, take_eq_more he (by assumption) (by assumption) (by assumption)⟩ (by omega) (by simp -implicitDefEqProofs (maxSteps := 4000000) only [go_sem, wr_succ (i := i) (by omega)])
  · exact end_pure hK () trivial (by simp -implicitDefEqProofs (maxSteps := 4000000) only [go_sem]; exact (dq_eq (eq_of_take he (by omega) (by omega))).symm)
theorem sEqInts_ct (a b : List Int) (ha : a.length ≤ 1048576) : Ct Try.prog 95 [.d (.lst (a.map D.int)), .d (.lst (b.map D.int))] [] (fun _ : Unit => True) (fun _ => .bool (dq a b)) (fun _ => []) := by
  refine ct_go tyOk Try.func95 rfl (by decide +kernel) Try.ntmps95 rfl (fun _ _ => by first | exact Nat.le_refl _ | exact Nat.zero_le _ | simp) ?_
  intro K hK
  simp -implicitDefEqProofs (maxSteps := 4000000) only [go_sem]
  repeat' (first
    | (with_reducible refine ⟨fun _ => ?_, fun _ => ?_⟩)
    | (with_reducible refine ⟨by omega, ?_⟩)
    | (with_reducible intro _ _))
  · exact end_pure hK () trivial (by simp -implicitDefEqProofs (maxSteps := 4000000) only [go_sem]; exact (dq_ne fun h => by subst h; simp_all).symm)
  refine loop_st tyOk [4, 5, 13, 14, 15, 16, 17, 18, 19, 20, 21, 22, 23, 24, 25] (fun i : Nat => [(13, .int i)]) (fun i : Nat => i ≤ a.length ∧ a.take i = b.take i) (fun i : Nat => a.length - i) 0 ?_ ?_ ?_
  · exact ⟨by omega, rfl⟩
  · simp -implicitDefEqProofs (maxSteps := 4000000) only [go_sem]
  rintro i ⟨hi, he⟩ L hL
  simp -implicitDefEqProofs (maxSteps := 4000000) only [go_sem]
  repeat' (first
    | (with_reducible refine ⟨fun _ => ?_, fun _ => ?_⟩)
    | (with_reducible refine ⟨by omega, ?_⟩)
    | (with_reducible intro _ _)
    | (refine draw_rule tyOk (by kernel_rfl) [0, 1, 2, 3, 4, 5, 6, 7, 8] (by decide +kernel) ?_; simp -implicitDefEqProofs (maxSteps := 4000000) only [go_sem]))
  · exact end_pure hK () trivial (by simp -implicitDefEqProofs (maxSteps := 4000000) only [go_sem]; exact (dq_ne (ne_of_at (by assumption) (by assumption) (by assumption))).symm)
  · exact hL _ (i + 1) ⟨by omega, take_eq_more he (by assumption) (by assumption) (by assumption)⟩ (by omega) (by simp -implicitDefEqProofs (maxSteps := 4000000) only [go_sem, wr_succ (i := i) (by omega)])
  · exact end_pure hK () trivial (by simp -implicitDefEqProofs (maxSteps := 4000000) only [go_sem]; exact (dq_eq (eq_of_take he (by omega) (by omega))).symm)
end Go.Proofs.Ytdeabmjffccplaa
