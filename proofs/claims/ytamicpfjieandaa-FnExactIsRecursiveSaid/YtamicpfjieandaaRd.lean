/- ReachableFrom: the walks. -/
import Derived.Test.YtamicpfjieandaaRc
namespace Go.Proofs.Ytamicpfjieandaa
open Go Go.Ab
set_option linter.unusedVariables false
set_option linter.unusedSimpArgs false
set_option maxRecDepth 100000
set_option maxHeartbeats 4000000
theorem seen_step {l : List TRule} {names : List ByteArray} {k : Nat} {x : ByteArray} (h : (seen l names k)[k]? = some x) : addAll [] (seen l names k ++ callsTo x l) = seen l names (k + 1) := by
  rw [addAll_app, seen_fix, seen_more h]
theorem specReach_ct (p : TProgram) (h : p.sm) (hb : bsum p.rules_ ≤ 8388608) (names : List ByteArray) (hnm : names.length ≤ 8388608) : Ct Try.prog 41 [.d p.E, .d (.lst (names.map D.str))] [] (fun _ : Unit => True) (fun _ => .d (.lst ((keepB (reach p.rules_ names) (fnsOf p.rules_)).map D.str))) (fun _ => []) := by
  refine ct_go tyOk Try.func41 rfl (by decide +kernel) Try.ntmps41 rfl (fun _ _ => by first | exact Nat.le_refl _ | exact Nat.zero_le _ | simp) ?_
  intro K hK
  have hl : p.rules_.length ≤ 1048576 := by first | exact h.1 | exact h
  simp -implicitDefEqProofs (maxSteps := 4000000) only [go_sem]
  refine call_objs [] (specUnite_ct names [] (by simp; omega)) (by simp -implicitDefEqProofs (maxSteps := 4000000) only [go_sem, A.le]; simp [O.lel, O.rens, pick]) fun _ _ => ?_
  simp -implicitDefEqProofs (maxSteps := 4000000) only [go_sem, List.append_nil]
  refine loop_at tyOk [5, 6, 13, 14, 15, 16, 17, 18, 19, 20, 21, 22, 23, 24, 25, 26] (fun k : Nat => [(11, .any), (12, .any), (5, .d (.lst ((seen p.rules_ names k).map D.str))), (6, .int k)]) (fun k : Nat => [.box 30 [.d (.lst (p.rules_.map TRule.E))], .dead]) (fun k : Nat => k ≤ names.length + bsum p.rules_) (fun k : Nat => names.length + bsum p.rules_ - k) 0 ?_ ?_ ?_
  · exact Nat.zero_le _
  · simp -implicitDefEqProofs (maxSteps := 4000000) only [go_sem, seen]
  · intro k hk L hL
    have hsl := seen_len p.rules_ names k
    have hw : wr .i64 ((k : Int) + 1) = ((k + 1 : Nat) : Int) := by rw [wr_in (by omega)]; omega
    simp -implicitDefEqProofs (maxSteps := 4000000) only [go_sem, hw]
    refine ⟨fun hlt => ?_, fun hlt => ?_⟩
    · refine draw_rule tyOk (by kernel_rfl) [0, 1, 2, 3, 4, 5, 6, 7, 8] (by decide +kernel) ?_
      simp -implicitDefEqProofs (maxSteps := 4000000) only [go_sem]
      refine ⟨by omega, fun x hx => ?_⟩
      have hcl := callsTo_len x p.rules_
      refine calm_p (specBy_ct p h hb x) rfl fun _ _ => ?_
      simp -implicitDefEqProofs (maxSteps := 4000000) only [go_sem]
      refine calm_p (specUnite_ct (seen p.rules_ names k) (callsTo x p.rules_) (by omega)) rfl fun _ _ => ?_
      rw [seen_step hx]
      simp -implicitDefEqProofs (maxSteps := 4000000) only [go_sem, hw]
      exact hL _ (k + 1) (by omega) (by omega) (by simp -implicitDefEqProofs (maxSteps := 4000000) only [go_sem])
    · rw [reach_at (by omega) hk]
      have hrl := seen_len p.rules_ names (names.length + bsum p.rules_)
      refine call_p (specFns_ct p h) rfl fun _ _ => ?_
      have hfl := fnsOf_len p.rules_ p.rules_.length
      rw [List.take_length] at hfl
      generalize hR : reach p.rules_ names = R at *
      have hRl : R.length ≤ 16777216 := by rw [← hR]; unfold reach; omega
      generalize fnsOf p.rules_ = fn at *
      simp -implicitDefEqProofs (maxSteps := 4000000) only [go_sem]
      refine loop_at tyOk [7, 9, 30, 31, 32, 33, 34, 35, 36, 37, 38, 39, 40, 41, 42, 43, 44, 45, 46, 47, 48, 49] (fun i : Nat => [(7, .own 2 ((keepB R (fn.take i)).map D.str)), (27, .any), (9, .int i)]) (fun i : Nat => [.box 30 [.d (.lst (p.rules_.map TRule.E))], .dead, .app 9 1 true]) (fun i : Nat => i ≤ fn.length) (fun i : Nat => fn.length - i) 0 ?_ ?_ ?_
      · exact Nat.zero_le _
      · simp -implicitDefEqProofs (maxSteps := 4000000) only [go_sem, List.take_zero, keepB_nil, List.map_nil]
      · intro i hi L hL
        have hkl := keepB_len R (fn.take i)
        rw [List.length_take] at hkl
        have hw : wr .i64 ((i : Int) + 1) = ((i + 1 : Nat) : Int) := by rw [wr_in (by omega)]; omega
        simp -implicitDefEqProofs (maxSteps := 4000000) only [go_sem, hw]
        refine ⟨fun hlt => ⟨by omega, fun x hx => ?_⟩, fun hlt => ?_⟩
        · refine call_p (indexOf_ct R (by omega) x) rfl fun _ _ => ?_
          simp -implicitDefEqProofs (maxSteps := 4000000) only [go_sem, hw]
          refine ⟨fun h2 => ⟨by omega, fun y hy => ?_⟩, fun h2 => ?_⟩
          · obtain rfl : x = y := by rw [hx] at hy; exact Option.some.inj hy
            refine ⟨by omega, ?_⟩
            exact hL _ (i + 1) (by omega) (by omega) (by simp -implicitDefEqProofs (maxSteps := 4000000) only [go_sem, keepB_t hx (hasB_pos.1 h2), List.map_append])
          · have hh : hasB x R = false := by cases hh : hasB x R with | false => rfl | true => have := hasB_pos.2 hh; omega
            exact hL _ (i + 1) (by omega) (by omega) (by simp -implicitDefEqProofs (maxSteps := 4000000) only [go_sem, keepB_f hx hh])
        · obtain rfl : i = fn.length := by omega
          exact end_pure hK () trivial (by simp -implicitDefEqProofs (maxSteps := 4000000) only [go_sem, List.take_length])
theorem implByD_ct (p : TProgram) (h : p.sm) (hb : bsum p.rules_ ≤ 8388608) (hn : ∀ x ∈ p.rules_, x.body_.nd ≤ 4194304) (nm : ByteArray) : Ct Try.prog 31 [.d p.E, .str nm] [] (fun _ : Unit => True) (fun _ => .d (.lst ((callsTo nm p.rules_).map D.str))) (fun _ => []) :=
  Ct.datF (φ' := fun _ : Unit => True) (r := fun _ => .lst ((callsTo nm p.rules_).map D.str)) (fun _ => ()) (implBy_ct p h hb hn nm) (fun _ _ => trivial) (fun _ _ => by simp [lendOk])
theorem implReach_ct (p : TProgram) (h : p.sm) (hb : bsum p.rules_ ≤ 8388608) (hn : ∀ x ∈ p.rules_, x.body_.nd ≤ 4194304) (names : List ByteArray) (hnm : names.length ≤ 8388608) : Ct Try.prog 43 [.d p.E, .d (.lst (names.map D.str))] [] (fun _ : Value => True) (fun w => .raw w) (fun w => [.forest [(w, .lst ((keepB (reach p.rules_ names) (fnsOf p.rules_)).map D.str))]]) := by
  refine ct_go tyOk Try.func43 rfl (by decide +kernel) Try.ntmps43 rfl (fun _ _ => by first | exact Nat.le_refl _ | exact Nat.zero_le _ | simp) ?_
  intro K hK
  have hl : p.rules_.length ≤ 1048576 := by first | exact h.1 | exact h
  simp -implicitDefEqProofs (maxSteps := 4000000) only [go_sem]
  refine call_objs [] (Ct.tree (implFns_ct p h)) (by simp -implicitDefEqProofs (maxSteps := 4000000) only [go_sem]; simp [O.lel, O.rens, pick]) fun u _ => ?_
  obtain ⟨_, v⟩ := u
  simp -implicitDefEqProofs (maxSteps := 4000000) only [go_sem]
  refine call_objs [] (Ct.dat (implUnite_ct names [] (by simp; omega))) (by simp -implicitDefEqProofs (maxSteps := 4000000) only [go_sem, A.le]; simp [O.lel, O.rens, pick]) fun _ _ => ?_
  simp -implicitDefEqProofs (maxSteps := 4000000) only [go_sem, List.append_nil]
  have hfl := fnsOf_len p.rules_ p.rules_.length
  rw [List.take_length] at hfl
  have hcn := @callsTo_none
  generalize hfn : fnsOf p.rules_ = fn at *
  refine loop_at tyOk [7, 12, 13, 14, 15, 16, 17, 18, 19, 20, 21, 22, 23, 24, 25, 26, 27, 28, 29, 30, 31] (fun k : Nat => [(11, .any), (7, .int k)]) (fun k : Nat => [.box 30 [.d (.lst (p.rules_.map TRule.E))], .forest [(v, .lst (fn.map D.str))], fdBox (seen p.rules_ names k)]) (fun k : Nat => k ≤ names.length + bsum p.rules_) (fun k : Nat => names.length + bsum p.rules_ - k) 0 ?_ ?_ ?_
  · exact Nat.zero_le _
  · simp -implicitDefEqProofs (maxSteps := 4000000) only [go_sem, seen]
  · intro k hk L hL
    have hsl := seen_len p.rules_ names k
    have hw : wr .i64 ((k : Int) + 1) = ((k + 1 : Nat) : Int) := by rw [wr_in (by omega)]; omega
    simp -implicitDefEqProofs (maxSteps := 4000000) only [go_sem, hw]
    refine ⟨fun hlt => ⟨by omega, fun x hx => ?_⟩, fun hlt => ?_⟩
    · have hcl := callsTo_len x p.rules_
      refine call_read (q := 1) (contains_ct fn (by omega) x) rfl (by simp [lendAs, lendOk]) (fun _ => rfl) fun _ _ => ?_
      simp -implicitDefEqProofs (maxSteps := 4000000) only [go_sem]
      refine ⟨fun h2 => ?_, fun h2 => ?_⟩
      · refine draw_rule tyOk (by kernel_rfl) [0, 1, 2, 3, 4, 5, 6, 7, 8] (by decide +kernel) ?_
        simp -implicitDefEqProofs (maxSteps := 4000000) only [go_sem]
        refine ⟨by omega, fun y hy => ?_⟩
        obtain rfl : x = y := by rw [hx] at hy; exact Option.some.inj hy
        refine calm_p (implByD_ct p h hb hn x) rfl fun _ _ => ?_
        simp -implicitDefEqProofs (maxSteps := 4000000) only [go_sem]
        refine calm_p (Ct.dat (implUnite_ct (seen p.rules_ names k) (callsTo x p.rules_) (by omega))) rfl fun _ _ => ?_
        rw [seen_step hx]
        simp -implicitDefEqProofs (maxSteps := 4000000) only [go_sem, hw]
        exact hL _ (k + 1) (by omega) (by omega) (by simp -implicitDefEqProofs (maxSteps := 4000000) only [go_sem])
      · have he : seen p.rules_ names (k + 1) = seen p.rules_ names k := by
          rw [seen_more hx, callsTo_none (by rw [hfn]; exact h2)]; rfl
        simp -implicitDefEqProofs (maxSteps := 4000000) only [go_sem, hw]
        exact hL _ (k + 1) (by omega) (by omega) (by simp -implicitDefEqProofs (maxSteps := 4000000) only [go_sem, he])
    · rw [reach_at (by omega) hk]
      have hrl := seen_len p.rules_ names (names.length + bsum p.rules_)
      generalize hR : reach p.rules_ names = R at *
      have hRl : R.length ≤ 16777216 := by rw [← hR]; unfold reach; omega
      refine call_objs [1, 2] (deleteFunc_ct R (by omega) v fn (by omega)) (by simp -implicitDefEqProofs (maxSteps := 4000000) only [go_sem]; decide) fun w _ => ?_
      simp -implicitDefEqProofs (maxSteps := 4000000) only [go_sem]
      exact end_own hK w [1] trivial (by simp -implicitDefEqProofs (maxSteps := 4000000) only [go_sem]) (by simp -implicitDefEqProofs (maxSteps := 4000000) only [go_sem]) (by rfl) (by decide)
end Go.Proofs.Ytamicpfjieandaa
