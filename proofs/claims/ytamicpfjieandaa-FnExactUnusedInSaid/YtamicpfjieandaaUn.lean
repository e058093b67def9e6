/- What a rule does not use: the walks. -/
import Derived.Test.YtamicpfjieandaaFc
import Derived.Test.YtamicpfjieandaaGw
import Derived.Test.YtamicpfjieandaaAbTz
import Derived.Test.YtamicpfjieandaaAbTv
namespace Go.Proofs.Ytamicpfjieandaa
open Go Go.Ab
set_option linter.unusedVariables false
set_option linter.unusedSimpArgs false
set_option maxRecDepth 100000
set_option maxHeartbeats 4000000
def unused (e : Ex) (l : List ByteArray) : List ByteArray := l.filter fun s => decide (e.sum (isUse s) = 0)
theorem unused_nil (e : Ex) : unused e [] = [] := rfl
theorem unused_t {e : Ex} {l : List ByteArray} {i : Nat} {x : ByteArray} (h : l[i]? = some x) (hx : e.sum (isUse x) = 0) : unused e (l.take (i + 1)) = unused e (l.take i) ++ [x] := by
  rw [take_more h]; simp [unused, hx]
theorem unused_f {e : Ex} {l : List ByteArray} {i : Nat} {x : ByteArray} (h : l[i]? = some x) (hx : e.sum (isUse x) ≠ 0) : unused e (l.take (i + 1)) = unused e (l.take i) := by
  rw [take_more h]; simp [unused, hx]
theorem unused_len (e : Ex) (l : List ByteArray) : (unused e l).length ≤ l.length := List.length_filter_le _ _
theorem specUnused_ct (r : TRule) (h : r.sm) (hn : r.body_.nd ≤ 4194304) : Ct Try.prog 22 [.d r.E] [] (fun _ : Unit => True) (fun _ => .d (.lst ((unused r.body_ (r.vars_ ++ r.params_)).map D.str))) (fun _ => []) := by
  refine ct_go tyOk Try.func22 rfl (by decide +kernel) Try.ntmps22 rfl (fun _ _ => by first | exact Nat.le_refl _ | exact Nat.zero_le _ | simp) ?_
  intro K hK
  obtain ⟨_, _, hv, hp, hb⟩ := h
  have hv1 := hv.1
  have hp1 := hp.1
  simp -implicitDefEqProofs (maxSteps := 4000000) only [go_sem]
  refine draw_tree tyOk (by kernel_rfl) (.alt 0 (.alt 1 (.alt 2 (.alt 3 (.alt 4 (.alt 5 (.alt 6 (.alt 7 .done .none) .none) .none) .none) (.alt 4 (.alt 3 (.alt 5 (.alt 6 (.alt 7 .done .none) .none) .none) (.alt 5 (.alt 3 (.alt 6 (.alt 7 .done .none) .none) .none) .none)) .none)) (.alt 4 (.alt 2 (.alt 3 (.alt 5 (.alt 6 (.alt 7 .done .none) .none) .none) (.alt 5 (.alt 3 (.alt 6 (.alt 7 .done .none) .none) .none) .none)) (.alt 5 (.alt 2 (.alt 3 (.alt 6 (.alt 7 .done .none) .none) .none) .none) .none)) .none)) (.alt 4 (.alt 1 (.alt 2 (.alt 3 (.alt 5 (.alt 6 (.alt 7 .done .none) .none) .none) (.alt 5 (.alt 3 (.alt 6 (.alt 7 .done .none) .none) .none) .none)) (.alt 5 (.alt 2 (.alt 3 (.alt 6 (.alt 7 .done .none) .none) .none) .none) .none)) (.alt 5 (.alt 1 (.alt 2 (.alt 3 (.alt 6 (.alt 7 .done .none) .none) .none) .none) .none) .none)) .none)) (.alt 1 (.alt 0 (.alt 2 (.alt 3 (.alt 4 (.alt 5 (.alt 6 (.alt 7 .done .none) .none) .none) .none) (.alt 4 (.alt 3 (.alt 5 (.alt 6 (.alt 7 .done .none) .none) .none) (.alt 5 (.alt 3 (.alt 6 (.alt 7 .done .none) .none) .none) .none)) .none)) (.alt 4 (.alt 2 (.alt 3 (.alt 5 (.alt 6 (.alt 7 .done .none) .none) .none) (.alt 5 (.alt 3 (.alt 6 (.alt 7 .done .none) .none) .none) .none)) (.alt 5 (.alt 2 (.alt 3 (.alt 6 (.alt 7 .done .none) .none) .none) .none) .none)) .none)) (.alt 2 (.alt 0 (.alt 3 (.alt 4 (.alt 5 (.alt 6 (.alt 7 .done .none) .none) .none) .none) (.alt 4 (.alt 3 (.alt 5 (.alt 6 (.alt 7 .done .none) .none) .none) (.alt 5 (.alt 3 (.alt 6 (.alt 7 .done .none) .none) .none) .none)) .none)) (.alt 4 (.alt 0 (.alt 3 (.alt 5 (.alt 6 (.alt 7 .done .none) .none) .none) (.alt 5 (.alt 3 (.alt 6 (.alt 7 .done .none) .none) .none) .none)) (.alt 5 (.alt 0 (.alt 3 (.alt 6 (.alt 7 .done .none) .none) .none) .none) .none)) .none)) (.alt 4 (.alt 0 (.alt 2 (.alt 3 (.alt 5 (.alt 6 (.alt 7 .done .none) .none) .none) (.alt 5 (.alt 3 (.alt 6 (.alt 7 .done .none) .none) .none) .none)) (.alt 5 (.alt 2 (.alt 3 (.alt 6 (.alt 7 .done .none) .none) .none) .none) .none)) (.alt 2 (.alt 0 (.alt 3 (.alt 5 (.alt 6 (.alt 7 .done .none) .none) .none) (.alt 5 (.alt 3 (.alt 6 (.alt 7 .done .none) .none) .none) .none)) (.alt 5 (.alt 0 (.alt 3 (.alt 6 (.alt 7 .done .none) .none) .none) .none) .none)) (.alt 5 (.alt 0 (.alt 2 (.alt 3 (.alt 6 (.alt 7 .done .none) .none) .none) .none) (.alt 2 (.alt 0 (.alt 3 (.alt 6 (.alt 7 .done .none) .none) .none) .none) .none)) .none))) .none))) (.alt 4 (.alt 0 (.alt 1 (.alt 2 (.alt 3 (.alt 5 (.alt 6 (.alt 7 .done .none) .none) .none) (.alt 5 (.alt 3 (.alt 6 (.alt 7 .done .none) .none) .none) .none)) (.alt 5 (.alt 2 (.alt 3 (.alt 6 (.alt 7 .done .none) .none) .none) .none) .none)) (.alt 5 (.alt 1 (.alt 2 (.alt 3 (.alt 6 (.alt 7 .done .none) .none) .none) .none) .none) .none)) (.alt 1 (.alt 0 (.alt 2 (.alt 3 (.alt 5 (.alt 6 (.alt 7 .done .none) .none) .none) (.alt 5 (.alt 3 (.alt 6 (.alt 7 .done .none) .none) .none) .none)) (.alt 5 (.alt 2 (.alt 3 (.alt 6 (.alt 7 .done .none) .none) .none) .none) .none)) (.alt 2 (.alt 0 (.alt 3 (.alt 5 (.alt 6 (.alt 7 .done .none) .none) .none) (.alt 5 (.alt 3 (.alt 6 (.alt 7 .done .none) .none) .none) .none)) (.alt 5 (.alt 0 (.alt 3 (.alt 6 (.alt 7 .done .none) .none) .none) .none) .none)) (.alt 5 (.alt 0 (.alt 2 (.alt 3 (.alt 6 (.alt 7 .done .none) .none) .none) .none) (.alt 2 (.alt 0 (.alt 3 (.alt 6 (.alt 7 .done .none) .none) .none) .none) .none)) .none))) (.alt 5 (.alt 0 (.alt 1 (.alt 2 (.alt 3 (.alt 6 (.alt 7 .done .none) .none) .none) .none) .none) (.alt 1 (.alt 0 (.alt 2 (.alt 3 (.alt 6 (.alt 7 .done .none) .none) .none) .none) (.alt 2 (.alt 0 (.alt 3 (.alt 6 (.alt 7 .done .none) .none) .none) .none) .none)) .none)) .none))) .none))) (by decide +kernel) ?_
  simp -implicitDefEqProofs (maxSteps := 4000000) only [go_sem]
  refine ⟨by omega, by omega, ?_⟩
  have hul : ∀ i, (unused r.body_ ((r.vars_ ++ r.params_).take i)).length ≤ r.vars_.length + r.params_.length := fun i => by
    have h1 := unused_len r.body_ ((r.vars_ ++ r.params_).take i)
    rw [List.length_take, List.length_append] at h1
    omega
  rw [← List.map_append]
  generalize hl : r.vars_ ++ r.params_ = l at *
  have hll : l.length ≤ 2097152 := by rw [← hl, List.length_append]; omega
  refine loop_at tyOk [3, 5, 14, 15, 16, 17, 18, 19, 20, 21, 22, 23, 24, 25, 26, 27, 28, 29, 30, 31, 32, 33, 34] (fun i : Nat => [(3, .own 1 ((unused r.body_ (l.take i)).map D.str)), (4, .own 2 (l.map D.str)), (5, .int i), (6, .any), (7, .any), (10, .any), (13, .any)]) (fun i : Nat => [.box 49 [.d (.v (.string r.name_)), .d (.v (.string r.con_)), .d (.lst (r.vars_.map D.str)), .d (.lst (r.params_.map D.str)), .d (.v (.int .i64 r.body_.k)), .d (.v (.string r.body_.n)), .d (.lst (r.body_.a.map Ex.E))], .app 9 1 true, .app 9 1 true]) (fun i : Nat => i ≤ l.length) (fun i : Nat => l.length - i) 0 ?_ ?_ ?_
  · exact Nat.zero_le _
  · simp -implicitDefEqProofs (maxSteps := 4000000) only [go_sem, List.take_zero, unused_nil, List.map_nil]
  intro i hi L hL
  have hul := hul i
  have hw : wr .i64 ((i : Int) + 1) = ((i + 1 : Nat) : Int) := by rw [wr_in (by omega)]; omega
  simp -implicitDefEqProofs (maxSteps := 4000000) only [go_sem, hw]
  refine ⟨fun hlt => ?_, fun hlt => ?_⟩
  · refine draw_rule tyOk (by kernel_rfl) [0, 1, 2, 3, 4, 5, 6, 7] (by decide +kernel) ?_
    simp -implicitDefEqProofs (maxSteps := 4000000) only [go_sem]
    refine ⟨by omega, fun x hx => ?_⟩
    refine calm_p (specCount_ct x r.body_ hb hn) rfl fun _ _ => ?_
    simp -implicitDefEqProofs (maxSteps := 4000000) only [go_sem, hw]
    refine ⟨fun h2 => ⟨by omega, fun y hy => ?_⟩, fun h2 => ?_⟩
    · obtain rfl : x = y := by rw [hx] at hy; exact Option.some.inj hy
      refine ⟨by omega, ?_⟩
      exact hL _ (i + 1) (by omega) (by omega) (by simp -implicitDefEqProofs (maxSteps := 4000000) only [go_sem, unused_t (e := r.body_) hx (by omega), List.map_append])
    · exact hL _ (i + 1) (by omega) (by omega) (by simp -implicitDefEqProofs (maxSteps := 4000000) only [go_sem, unused_f (e := r.body_) hx (by omega)])
  · obtain rfl : i = l.length := by omega
    exact end_pure hK () trivial (by simp -implicitDefEqProofs (maxSteps := 4000000) only [go_sem, List.take_length])
theorem implUnused_ct (r : TRule) (h : r.sm) (hn : r.body_.nd ≤ 4194304) : Ct Try.prog 24 [.d r.E] [] (fun _ : Unit => True) (fun _ => .own 0 ((unused r.body_ (r.vars_ ++ r.params_)).map D.str)) (fun _ => [.app 9 1 true]) := by
  refine ct_go tyOk Try.func24 rfl (by decide +kernel) Try.ntmps24 rfl (fun _ _ => by first | exact Nat.le_refl _ | exact Nat.zero_le _ | simp) ?_
  intro K hK
  obtain ⟨_, _, hv, hp, hb⟩ := h
  have hv1 := hv.1
  have hp1 := hp.1
  simp -implicitDefEqProofs (maxSteps := 4000000) only [go_sem]
  refine call_objs [] (Ct.dat (concat_ct r.vars_ r.params_ (by omega))) (by simp -implicitDefEqProofs (maxSteps := 4000000) only [go_sem, A.le]; simp [O.lel, O.rens, pick]) fun _ _ => ?_
  have hul : ∀ i, (unused r.body_ ((r.vars_ ++ r.params_).take i)).length ≤ r.vars_.length + r.params_.length := fun i => by
    have h1 := unused_len r.body_ ((r.vars_ ++ r.params_).take i)
    rw [List.length_take, List.length_append] at h1
    omega
  generalize hl : r.vars_ ++ r.params_ = l at *
  have hll : l.length ≤ 2097152 := by rw [← hl, List.length_append]; omega
  simp -implicitDefEqProofs (maxSteps := 4000000) only [go_sem]
  refine loop_at tyOk [3, 5, 13, 14, 15, 16, 17, 18, 19, 20, 21, 22, 23, 24, 25, 26] (fun i : Nat => [(10, .any), (3, .own 2 ((unused r.body_ (l.take i)).map D.str)), (13, .int i)]) (fun i : Nat => [.box 49 [.d (.v (.string r.name_)), .d (.v (.string r.con_)), .d (.lst (r.vars_.map D.str)), .d (.lst (r.params_.map D.str)), .d (.v (.int .i64 r.body_.k)), .d (.v (.string r.body_.n)), .d (.lst (r.body_.a.map Ex.E))], .dead, .app 9 1 true]) (fun i : Nat => i ≤ l.length) (fun i : Nat => l.length - i) 0 ?_ ?_ ?_
  · exact Nat.zero_le _
  · simp -implicitDefEqProofs (maxSteps := 4000000) only [go_sem, List.take_zero, unused_nil, List.map_nil]
  intro i hi L hL
  have hul := hul i
  have hw : wr .i64 ((i : Int) + 1) = ((i + 1 : Nat) : Int) := by rw [wr_in (by omega)]; omega
  simp -implicitDefEqProofs (maxSteps := 4000000) only [go_sem, hw]
  refine ⟨fun hlt => ⟨by omega, fun x hx => ?_⟩, fun hlt => ?_⟩
  · refine call_p (implCount_ct x r.body_ hb hn) rfl fun _ _ => ?_
    simp -implicitDefEqProofs (maxSteps := 4000000) only [go_sem, hw]
    refine ⟨fun h2 => ⟨by omega, ?_⟩, fun h2 => ?_⟩
    · exact hL _ (i + 1) (by omega) (by omega) (by simp -implicitDefEqProofs (maxSteps := 4000000) only [go_sem, unused_t (e := r.body_) hx (by omega), List.map_append])
    · exact hL _ (i + 1) (by omega) (by omega) (by simp -implicitDefEqProofs (maxSteps := 4000000) only [go_sem, unused_f (e := r.body_) hx (by omega)])
  · obtain rfl : i = l.length := by omega
    exact end_own hK () [2] trivial (by simp -implicitDefEqProofs (maxSteps := 4000000) only [go_sem, List.take_length]; rfl) (by simp -implicitDefEqProofs (maxSteps := 4000000) only [go_sem]) (by rfl) (by decide)
end Go.Proofs.Ytamicpfjieandaa
