/- Valid heads of rules: the walks. -/
import Derived.Test.YtfmllefmfhefpaaVa
import Derived.Test.YtfmllefmfhefpaaGw
namespace Go.Proofs.Ytfmllefmfhefpaa
open Go Go.Ab
set_option linter.unusedVariables false
set_option linter.unusedSimpArgs false
set_option maxRecDepth 100000
set_option maxHeartbeats 4000000
theorem iDist_ct (l : List ByteArray) (hl : l.length ≤ 1073741823) : Ct Try.prog 147 [.d (.lst (l.map D.str))] [] (fun _ : Unit => True) (fun _ => .bool (distB l)) (fun _ => []) := by
  refine ct_go tyOk Try.func147 rfl (by decide +kernel) Try.ntmps147 rfl (fun _ _ => by first | exact Nat.le_refl _ | exact Nat.zero_le _ | simp) ?_
  intro K hK
  simp -implicitDefEqProofs (maxSteps := 4000000) only [go_sem]
  refine call_objs [] (Ct.dat (implUnite_ct l [] (by simp; omega))) (by simp -implicitDefEqProofs (maxSteps := 4000000) only [go_sem, A.le]; simp [O.lel, O.rens, pick]) fun _ _ => ?_
  simp -implicitDefEqProofs (maxSteps := 4000000) only [go_sem, List.append_nil]
  exact end_pure hK () trivial (by simp -implicitDefEqProofs (maxSteps := 4000000) only [go_sem]; unfold distB; exact decide_eq_decide.2 (by omega))
theorem sDist_ct (l : List ByteArray) (hl : l.length ≤ 1073741823) : Ct Try.prog 180 [.d (.lst (l.map D.str))] [] (fun _ : Unit => True) (fun _ => .bool (distB l)) (fun _ => []) := by
  refine ct_go tyOk Try.func180 rfl (by decide +kernel) Try.ntmps180 rfl (fun _ _ => by first | exact Nat.le_refl _ | exact Nat.zero_le _ | simp) ?_
  intro K hK
  simp -implicitDefEqProofs (maxSteps := 4000000) only [go_sem]
  refine loop_st tyOk [2, 3, 4, 5, 6, 7, 8, 9, 10, 11, 12, 13, 14, 15, 16, 17, 18] (fun k : Nat => [(3, .int k)]) (fun k : Nat => k ≤ l.length ∧ ∀ i x, i < k → l[i]? = some x → hasB x (l.take i) = false) (fun k : Nat => l.length - k) 0 ?_ ?_ ?_
  · exact ⟨Nat.zero_le _, fun i x h => absurd h (Nat.not_lt_zero _)⟩
  · simp -implicitDefEqProofs (maxSteps := 4000000) only [go_sem]
  rintro k ⟨hk, hb⟩ L hL
  have hw : wr .i64 ((k : Int) + 1) = ((k + 1 : Nat) : Int) := by rw [wr_in (by omega)]; omega
  simp -implicitDefEqProofs (maxSteps := 4000000) only [go_sem]
  refine ⟨fun hlt => ?_, fun hlt => ?_⟩
  · refine draw_rule tyOk (by kernel_rfl) [0, 1, 2, 3, 4, 5, 6, 7, 8] (by decide +kernel) ?_
    simp -implicitDefEqProofs (maxSteps := 4000000) only [go_sem]
    refine ⟨by omega, by omega, fun x hx => ?_⟩
    rw [← List.map_take]
    refine calm_p (indexOf_ct (l.take k) (by rw [List.length_take]; omega) x) rfl fun _ _ => ?_
    simp -implicitDefEqProofs (maxSteps := 4000000) only [go_sem, hw]
    refine ⟨fun h2 => end_pure hK () trivial (by simp -implicitDefEqProofs (maxSteps := 4000000) only [go_sem]; cases hd : distB l with | false => rfl | true => have := dist_spec.1 hd k x hx; rw [hasB_pos.1 h2] at this; cases this), fun h2 => ?_⟩
    have hh : hasB x (l.take k) = false := by cases hh : hasB x (l.take k) with | false => rfl | true => have := hasB_pos.2 hh; omega
    exact hL _ (k + 1) ⟨by omega, fun i y hi hy => by
      by_cases hik : i = k
      · subst hik
        rw [hx] at hy; cases hy; exact hh
      · exact hb i y (by omega) hy⟩ (by omega) (by simp -implicitDefEqProofs (maxSteps := 4000000) only [go_sem])
  · obtain rfl : k = l.length := by omega
    exact end_pure hK () trivial (by simp -implicitDefEqProofs (maxSteps := 4000000) only [go_sem]; exact (dist_spec.2 fun i x hx => hb i x (List.getElem?_eq_some_iff.1 hx).1 hx).symm)
theorem idxPure_ct {f : Nat} {q : ByteArray → Bool} (l : List ByteArray) (hf : ∀ s ∈ l, Ct Try.prog f [.str s] [] (fun _ : Unit => True) (fun _ => .bool (q s)) (fun _ => [])) (hl : l.length ≤ 1073741824) : Ct Try.prog 187 [.d (.lst (l.map D.str)), .fn f []] [] (fun _ : Unit => True)
    (fun _ => .int (firstAt q l)) (fun _ => []) := by
  refine ct_go tyOk Try.func187 rfl (by decide +kernel) Try.ntmps187 rfl (fun _ _ => by first | exact Nat.le_refl _ | exact Nat.zero_le _ | simp) ?_
  intro K hK
  simp -implicitDefEqProofs (maxSteps := 4000000) only [go_sem]
  refine loop_st tyOk [4, 5, 8, 9, 10, 11, 12, 13, 14, 15, 16, 17, 18] (fun i : Nat => [(8, .int i)]) (fun i : Nat => i ≤ l.length ∧ ∀ x ∈ l.take i, q x = false) (fun i : Nat => l.length - i) 0 ?_ ?_ ?_
  · exact ⟨Nat.zero_le _, fun x hx => by simp at hx⟩
  · simp -implicitDefEqProofs (maxSteps := 4000000) only [go_sem]
  rintro i ⟨hi, hb⟩ L hL
  have hw : i < l.length → wr .i64 ((i : Int) + 1) = ((i + 1 : Nat) : Int) := fun h => by rw [wr_in (by omega)]; omega
  simp -implicitDefEqProofs (maxSteps := 4000000) only [go_sem]
  refine ⟨fun h => ⟨by omega, fun x hx => ?_⟩, fun h => end_pure hK () trivial ?_⟩
  · refine call_p (hf x (List.mem_of_getElem? hx)) rfl fun _ _ => ?_
    simp -implicitDefEqProofs (maxSteps := 4000000) only [go_sem]
    refine ⟨fun h2 => end_pure hK () trivial ?_, fun h2 => ?_⟩
    · simp -implicitDefEqProofs (maxSteps := 4000000) only [go_sem, firstAt_at hx (p := q) h2 hb]
    · simp -implicitDefEqProofs (maxSteps := 4000000) only [go_sem, hw (by omega)]
      exact hL _ (i + 1) ⟨by omega, mem_take_more hx hb h2⟩ (by omega) (by simp -implicitDefEqProofs (maxSteps := 4000000) only [go_sem])
  · obtain rfl : i = l.length := by omega
    rw [List.take_length] at hb
    simp -implicitDefEqProofs (maxSteps := 4000000) only [go_sem, firstAt_nil hb]
theorem hasPure_ct {f : Nat} {q : ByteArray → Bool} (l : List ByteArray) (hf : ∀ s ∈ l, Ct Try.prog f [.str s] [] (fun _ : Unit => True) (fun _ => .bool (q s)) (fun _ => [])) (hl : l.length ≤ 1073741824) : Ct Try.prog 148 [.d (.lst (l.map D.str)), .fn f []] [] (fun _ : Unit => True)
    (fun _ => .bool (l.any q)) (fun _ => []) := by
  refine ct_go tyOk Try.func148 rfl (by decide +kernel) Try.ntmps148 rfl (fun _ _ => by first | exact Nat.le_refl _ | exact Nat.zero_le _ | simp) ?_
  intro K hK
  simp -implicitDefEqProofs (maxSteps := 4000000) only [go_sem]
  refine call_pure (idxPure_ct l hf hl) (by simp -implicitDefEqProofs (maxSteps := 4000000) only [go_sem]) (by simp -implicitDefEqProofs (maxSteps := 4000000) only [go_sem]) fun _ _ => ?_
  simp -implicitDefEqProofs (maxSteps := 4000000) only [go_sem]
  exact end_pure hK () trivial (by simp -implicitDefEqProofs (maxSteps := 4000000) only [go_sem, firstAt_pos, Bool.decide_eq_true])
theorem hdCl_ct (s : ByteArray) (hs : s.size ≤ 4611686018427387904) : Ct Try.prog 149 [.str s] [] (fun _ : Unit => True) (fun _ => .bool (!nameB s)) (fun _ => []) := by
  refine ct_go tyOk Try.func149 rfl (by decide +kernel) Try.ntmps149 rfl (fun _ _ => by first | exact Nat.le_refl _ | exact Nat.zero_le _ | simp) ?_
  intro K hK
  simp -implicitDefEqProofs (maxSteps := 4000000) only [go_sem]
  refine call_p (isName_ct s hs) rfl fun _ _ => ?_
  simp -implicitDefEqProofs (maxSteps := 4000000) only [go_sem]
  exact end_pure hK () trivial (by simp -implicitDefEqProofs (maxSteps := 4000000) only [go_sem])
theorem l5Names_ct (l : List ByteArray) (hl : l.length ≤ 1073741824) (hs : ∀ s ∈ l, s.size ≤ 4611686018427387904) : Ct Try.prog 181 [.d (.lst (l.map D.str))] [] (fun _ : Unit => True) (fun _ => .bool (l.all nameB)) (fun _ => []) := by
  refine ct_go tyOk Try.func181 rfl (by decide +kernel) Try.ntmps181 rfl (fun _ _ => by first | exact Nat.le_refl _ | exact Nat.zero_le _ | simp) ?_
  intro K hK
  simp -implicitDefEqProofs (maxSteps := 4000000) only [go_sem]
  refine loop_st tyOk [2, 3, 4, 5, 6, 7, 8, 9, 10, 11, 12, 13, 14, 15] (fun k : Nat => [(3, .int k)]) (fun k : Nat => k ≤ l.length ∧ (l.take k).all nameB = true) (fun k : Nat => l.length - k) 0 ?_ ?_ ?_
  · exact ⟨Nat.zero_le _, rfl⟩
  · simp -implicitDefEqProofs (maxSteps := 4000000) only [go_sem]
  rintro k ⟨hk, hb⟩ L hL
  have hw : wr .i64 ((k : Int) + 1) = ((k + 1 : Nat) : Int) := by rw [wr_in (by omega)]; omega
  simp -implicitDefEqProofs (maxSteps := 4000000) only [go_sem]
  refine ⟨fun hlt => ⟨by omega, fun x hx => ?_⟩, fun hlt => ?_⟩
  · refine call_p (sName_ct x (hs x (List.mem_of_getElem? hx))) rfl fun _ _ => ?_
    simp -implicitDefEqProofs (maxSteps := 4000000) only [go_sem, hw]
    refine ⟨fun h2 => end_pure hK () trivial (by simp -implicitDefEqProofs (maxSteps := 4000000) only [go_sem]; symm; rw [List.all_eq_false]; exact ⟨x, List.mem_of_getElem? hx, by simp [h2]⟩), fun h2 => ?_⟩
    exact hL _ (k + 1) ⟨by omega, by rw [take_more hx, List.all_append, hb]; simp [h2]⟩ (by omega) (by simp -implicitDefEqProofs (maxSteps := 4000000) only [go_sem])
  · obtain rfl : k = l.length := by omega
    rw [List.take_length] at hb
    exact end_pure hK () trivial (by simp -implicitDefEqProofs (maxSteps := 4000000) only [go_sem, hb])
def headB (r : TRule) : Bool :=
  if (r.con_ = ⟨#[]⟩ ∧ 0 < (r.vars_.length : Int)) ∨ (r.con_ ≠ ⟨#[]⟩ ∧ conB r.con_ = false) then false
  else nameB r.name_ && decide ((r.vars_.length : Int) ≤ 5) && decide ((r.params_.length : Int) ≤ 4) && distB (r.vars_ ++ r.params_) && (r.vars_ ++ r.params_).all nameB
theorem iHead_ct (r : TRule) (h : r.sm) : Ct Try.prog 99 [.d r.E] [] (fun _ : Unit => True) (fun _ => .bool (headB r)) (fun _ => []) := by
  refine ct_go tyOk Try.func99 rfl (by decide +kernel) Try.ntmps99 rfl (fun _ _ => by first | exact Nat.le_refl _ | exact Nat.zero_le _ | simp) ?_
  intro K hK
  obtain ⟨hnm, hcn, hv, hp, hb⟩ := h
  have hv1 := hv.1
  have hp1 := hp.1
  simp -implicitDefEqProofs (maxSteps := 4000000) only [go_sem]
  refine call_objs [] (Ct.dat (concat_ct r.vars_ r.params_ (by omega))) (by simp -implicitDefEqProofs (maxSteps := 4000000) only [go_sem, A.le]; simp [O.lel, O.rens, pick]) fun _ _ => ?_
  have hsz : ∀ s ∈ r.vars_ ++ r.params_, s.size ≤ 4611686018427387904 := fun s hs => by
    rcases List.mem_append.1 hs with hs | hs
    · have := hv.2 s hs; omega
    · have := hp.2 s hs; omega
  have hll : (r.vars_ ++ r.params_).length ≤ 2097152 := by rw [List.length_append]; omega
  have hany : (r.vars_ ++ r.params_).any (fun s => !nameB s) = !((r.vars_ ++ r.params_).all nameB) := by rw [List.not_all_eq_any_not]
  have hdef : headB r = (if (r.con_ = ⟨#[]⟩ ∧ 0 < (r.vars_.length : Int)) ∨ (r.con_ ≠ ⟨#[]⟩ ∧ conB r.con_ = false) then false
    else nameB r.name_ && decide ((r.vars_.length : Int) ≤ 5) && decide ((r.params_.length : Int) ≤ 4) && distB (r.vars_ ++ r.params_) && (r.vars_ ++ r.params_).all nameB) := rfl
  generalize r.vars_ ++ r.params_ = l at *
  simp -implicitDefEqProofs (maxSteps := 4000000) only [go_sem]
  repeat' (first
    | (with_reducible refine ⟨fun _ => ?_, fun _ => ?_⟩)
    | (with_reducible refine ⟨by omega, ?_⟩)
    | (with_reducible intro _ _)
    | (refine call_p (isCon_ct _ (by omega)) rfl fun _ _ => ?_; simp -implicitDefEqProofs (maxSteps := 4000000) only [go_sem])
    | (refine calm_p (isCon_ct _ (by omega)) rfl fun _ _ => ?_; simp -implicitDefEqProofs (maxSteps := 4000000) only [go_sem])
    | (refine call_p (isName_ct _ (by omega)) rfl fun _ _ => ?_; simp -implicitDefEqProofs (maxSteps := 4000000) only [go_sem])
    | (refine calm_p (isName_ct _ (by omega)) rfl fun _ _ => ?_; simp -implicitDefEqProofs (maxSteps := 4000000) only [go_sem])
    | (refine call_p (iDist_ct l (by omega)) rfl fun _ _ => ?_; simp -implicitDefEqProofs (maxSteps := 4000000) only [go_sem])
    | (refine calm_p (iDist_ct l (by omega)) rfl fun _ _ => ?_; simp -implicitDefEqProofs (maxSteps := 4000000) only [go_sem])
    | (refine call_pure (hasPure_ct l (fun s hs => hdCl_ct s (hsz s hs)) (by omega)) (by simp -implicitDefEqProofs (maxSteps := 4000000) only [go_sem]) (by simp -implicitDefEqProofs (maxSteps := 4000000) only [go_sem]) fun _ _ => ?_; simp -implicitDefEqProofs (maxSteps := 4000000) only [go_sem]))
  all_goals exact end_pure hK () trivial (by (try simp -implicitDefEqProofs (maxSteps := 4000000) only [go_sem]); rw [hdef]; (try simp_all); (try omega))
theorem sHead_ct (r : TRule) (h : r.sm) : Ct Try.prog 138 [.d r.E] [] (fun _ : Unit => True) (fun _ => .bool (headB r)) (fun _ => []) := by
  refine ct_go tyOk Try.func138 rfl (by decide +kernel) Try.ntmps138 rfl (fun _ _ => by first | exact Nat.le_refl _ | exact Nat.zero_le _ | simp) ?_
  intro K hK
  obtain ⟨hnm, hcn, hv, hp, hb⟩ := h
  have hv1 := hv.1
  have hp1 := hp.1
  simp -implicitDefEqProofs (maxSteps := 4000000) only [go_sem]
  refine draw_tree tyOk (by kernel_rfl) (.alt 0 (.alt 1 (.alt 2 (.alt 3 (.alt 4 (.alt 5 (.alt 6 (.alt 7 .done .none) .none) .none) .none) (.alt 4 (.alt 3 (.alt 5 (.alt 6 (.alt 7 .done .none) .none) .none) (.alt 5 (.alt 3 (.alt 6 (.alt 7 .done .none) .none) .none) .none)) .none)) (.alt 4 (.alt 2 (.alt 3 (.alt 5 (.alt 6 (.alt 7 .done .none) .none) .none) (.alt 5 (.alt 3 (.alt 6 (.alt 7 .done .none) .none) .none) .none)) (.alt 5 (.alt 2 (.alt 3 (.alt 6 (.alt 7 .done .none) .none) .none) .none) .none)) .none)) (.alt 4 (.alt 1 (.alt 2 (.alt 3 (.alt 5 (.alt 6 (.alt 7 .done .none) .none) .none) (.alt 5 (.alt 3 (.alt 6 (.alt 7 .done .none) .none) .none) .none)) (.alt 5 (.alt 2 (.alt 3 (.alt 6 (.alt 7 .done .none) .none) .none) .none) .none)) (.alt 5 (.alt 1 (.alt 2 (.alt 3 (.alt 6 (.alt 7 .done .none) .none) .none) .none) .none) .none)) .none)) (.alt 1 (.alt 0 (.alt 2 (.alt 3 (.alt 4 (.alt 5 (.alt 6 (.alt 7 .done .none) .none) .none) .none) (.alt 4 (.alt 3 (.alt 5 (.alt 6 (.alt 7 .done .none) .none) .none) (.alt 5 (.alt 3 (.alt 6 (.alt 7 .done .none) .none) .none) .none)) .none)) (.alt 4 (.alt 2 (.alt 3 (.alt 5 (.alt 6 (.alt 7 .done .none) .none) .none) (.alt 5 (.alt 3 (.alt 6 (.alt 7 .done .none) .none) .none) .none)) (.alt 5 (.alt 2 (.alt 3 (.alt 6 (.alt 7 .done .none) .none) .none) .none) .none)) .none)) (.alt 2 (.alt 0 (.alt 3 (.alt 4 (.alt 5 (.alt 6 (.alt 7 .done .none) .none) .none) .none) (.alt 4 (.alt 3 (.alt 5 (.alt 6 (.alt 7 .done .none) .none) .none) (.alt 5 (.alt 3 (.alt 6 (.alt 7 .done .none) .none) .none) .none)) .none)) (.alt 4 (.alt 0 (.alt 3 (.alt 5 (.alt 6 (.alt 7 .done .none) .none) .none) (.alt 5 (.alt 3 (.alt 6 (.alt 7 .done .none) .none) .none) .none)) (.alt 5 (.alt 0 (.alt 3 (.alt 6 (.alt 7 .done .none) .none) .none) .none) .none)) .none)) (.alt 4 (.alt 0 (.alt 2 (.alt 3 (.alt 5 (.alt 6 (.alt 7 .done .none) .none) .none) (.alt 5 (.alt 3 (.alt 6 (.alt 7 .done .none) .none) .none) .none)) (.alt 5 (.alt 2 (.alt 3 (.alt 6 (.alt 7 .done .none) .none) .none) .none) .none)) (.alt 2 (.alt 0 (.alt 3 (.alt 5 (.alt 6 (.alt 7 .done .none) .none) .none) (.alt 5 (.alt 3 (.alt 6 (.alt 7 .done .none) .none) .none) .none)) (.alt 5 (.alt 0 (.alt 3 (.alt 6 (.alt 7 .done .none) .none) .none) .none) .none)) (.alt 5 (.alt 0 (.alt 2 (.alt 3 (.alt 6 (.alt 7 .done .none) .none) .none) .none) (.alt 2 (.alt 0 (.alt 3 (.alt 6 (.alt 7 .done .none) .none) .none) .none) .none)) .none))) .none))) (.alt 4 (.alt 0 (.alt 1 (.alt 2 (.alt 3 (.alt 5 (.alt 6 (.alt 7 .done .none) .none) .none) (.alt 5 (.alt 3 (.alt 6 (.alt 7 .done .none) .none) .none) .none)) (.alt 5 (.alt 2 (.alt 3 (.alt 6 (.alt 7 .done .none) .none) .none) .none) .none)) (.alt 5 (.alt 1 (.alt 2 (.alt 3 (.alt 6 (.alt 7 .done .none) .none) .none) .none) .none) .none)) (.alt 1 (.alt 0 (.alt 2 (.alt 3 (.alt 5 (.alt 6 (.alt 7 .done .none) .none) .none) (.alt 5 (.alt 3 (.alt 6 (.alt 7 .done .none) .none) .none) .none)) (.alt 5 (.alt 2 (.alt 3 (.alt 6 (.alt 7 .done .none) .none) .none) .none) .none)) (.alt 2 (.alt 0 (.alt 3 (.alt 5 (.alt 6 (.alt 7 .done .none) .none) .none) (.alt 5 (.alt 3 (.alt 6 (.alt 7 .done .none) .none) .none) .none)) (.alt 5 (.alt 0 (.alt 3 (.alt 6 (.alt 7 .done .none) .none) .none) .none) .none)) (.alt 5 (.alt 0 (.alt 2 (.alt 3 (.alt 6 (.alt 7 .done .none) .none) .none) .none) (.alt 2 (.alt 0 (.alt 3 (.alt 6 (.alt 7 .done .none) .none) .none) .none) .none)) .none))) (.alt 5 (.alt 0 (.alt 1 (.alt 2 (.alt 3 (.alt 6 (.alt 7 .done .none) .none) .none) .none) .none) (.alt 1 (.alt 0 (.alt 2 (.alt 3 (.alt 6 (.alt 7 .done .none) .none) .none) .none) (.alt 2 (.alt 0 (.alt 3 (.alt 6 (.alt 7 .done .none) .none) .none) .none) .none)) .none)) .none))) .none))) (by decide +kernel) ?_
  simp -implicitDefEqProofs (maxSteps := 4000000) only [go_sem]
  have hsz : ∀ s ∈ r.vars_ ++ r.params_, s.size ≤ 4611686018427387904 := fun s hs => by
    rcases List.mem_append.1 hs with hs | hs
    · have := hv.2 s hs; omega
    · have := hp.2 s hs; omega
  have hll : (r.vars_ ++ r.params_).length ≤ 2097152 := by rw [List.length_append]; omega
  have hdef : headB r = (if (r.con_ = ⟨#[]⟩ ∧ 0 < (r.vars_.length : Int)) ∨ (r.con_ ≠ ⟨#[]⟩ ∧ conB r.con_ = false) then false
    else nameB r.name_ && decide ((r.vars_.length : Int) ≤ 5) && decide ((r.params_.length : Int) ≤ 4) && distB (r.vars_ ++ r.params_) && (r.vars_ ++ r.params_).all nameB) := rfl
  rw [← List.map_append]
  refine ⟨by omega, by omega, ?_⟩
  generalize r.vars_ ++ r.params_ = l at *
  repeat' (first
    | (with_reducible refine ⟨fun _ => ?_, fun _ => ?_⟩)
    | (with_reducible refine ⟨by omega, ?_⟩)
    | (with_reducible intro _ _)
    | (refine call_p (sCon_ct _ (by omega)) rfl fun _ _ => ?_; simp -implicitDefEqProofs (maxSteps := 4000000) only [go_sem])
    | (refine calm_p (sCon_ct _ (by omega)) rfl fun _ _ => ?_; simp -implicitDefEqProofs (maxSteps := 4000000) only [go_sem])
    | (refine call_p (sName_ct _ (by omega)) rfl fun _ _ => ?_; simp -implicitDefEqProofs (maxSteps := 4000000) only [go_sem])
    | (refine calm_p (sName_ct _ (by omega)) rfl fun _ _ => ?_; simp -implicitDefEqProofs (maxSteps := 4000000) only [go_sem])
    | (refine call_pure (sDist_ct l (by omega)) (by simp -implicitDefEqProofs (maxSteps := 4000000) only [go_sem]) (by simp -implicitDefEqProofs (maxSteps := 4000000) only [go_sem]) fun _ _ => ?_; simp -implicitDefEqProofs (maxSteps := 4000000) only [go_sem])
    | (refine call_pure (l5Names_ct l (by omega) hsz) (by simp -implicitDefEqProofs (maxSteps := 4000000) only [go_sem]) (by simp -implicitDefEqProofs (maxSteps := 4000000) only [go_sem]) fun _ _ => ?_; simp -implicitDefEqProofs (maxSteps := 4000000) only [go_sem]))
  all_goals exact end_pure hK () trivial (by (try simp -implicitDefEqProofs (maxSteps := 4000000) only [go_sem]); rw [hdef]; (try simp_all); (try omega))
end Go.Proofs.Ytfmllefmfhefpaa
