/- The sort of an expression: the walks. -/
import Derived.Test.YtdeabmjffccplaaSb
namespace Go.Proofs.Ytdeabmjffccplaa
open Go Go.Ab
set_option linter.unusedVariables false
set_option linter.unusedSimpArgs false
set_option maxRecDepth 100000
set_option maxHeartbeats 4000000
abbrev exBox (e : Ex) : O := .box 37 [.d (.v (.int .i64 e.k)), .d (.v (.string e.n)), .d (.lst (e.a.map Ex.E))]
theorem soClo_ct (e : Ex) (x : TTyping) : Ct Try.prog 82 [.d x.E, .ref 0 0] [exBox e] (fun _ : Unit => True) (fun _ => .bool (dq x.name_ e.n)) (fun _ => [exBox e]) := by
  refine ct_go tyOk Try.func82 rfl (by decide +kernel) Try.ntmps82 rfl (fun _ _ => by first | exact Nat.le_refl _ | exact Nat.zero_le _ | simp) ?_
  intro K hK
  simp -implicitDefEqProofs (maxSteps := 4000000) only [go_sem]
  exact end_gen hK () 1 trivial (by simp -implicitDefEqProofs (maxSteps := 4000000) only [go_sem, dec_dq])
theorem ixTyping_ct (e : Ex) (a : List TTyping) (ha : a.length ≤ 1048576) : Ct Try.prog 81 [.d (.lst (a.map TTyping.E)), .fn 82 [.ref 0 0]] [exBox e] (fun _ : Unit => True)
    (fun _ => .int (firstAt (fun y => dq y.name_ e.n) a)) (fun _ => [exBox e]) := by
  refine ct_go tyOk Try.func81 rfl (by decide +kernel) Try.ntmps81 rfl (fun _ _ => by first | exact Nat.le_refl _ | exact Nat.zero_le _ | simp) ?_
  intro K hK
  simp -implicitDefEqProofs (maxSteps := 4000000) only [go_sem]
  refine loop_st tyOk [4, 5, 8, 9, 10, 11, 12, 13, 14, 15, 16, 17, 18] (fun i : Nat => [(8, .int i)]) (fun i : Nat => i ≤ a.length ∧ ∀ y ∈ a.take i, dq y.name_ e.n = false) (fun i : Nat => a.length - i) 0 ?_ ?_ ?_
  · exact ⟨by omega, by simp⟩
  · simp -implicitDefEqProofs (maxSteps := 4000000) only [go_sem]
  rintro i ⟨hi, he⟩ L hL
  simp -implicitDefEqProofs (maxSteps := 4000000) only [go_sem]
  refine ⟨fun _ => ⟨by omega, fun x hx => ?_⟩, fun _ => end_gen hK () 1 trivial ?_⟩
  · refine call_objs [0] (soClo_ct e x) (by simp -implicitDefEqProofs (maxSteps := 4000000) only [go_sem]; decide) fun _ _ => ?_
    simp -implicitDefEqProofs (maxSteps := 4000000) only [go_sem]
    refine ⟨fun hq => end_gen hK () 1 trivial ?_, fun hq => ?_⟩
    · simp -implicitDefEqProofs (maxSteps := 4000000) only [go_sem, firstAt_at (p := fun y : TTyping => dq y.name_ e.n) hx (dq_t.2 hq) he]
    · exact hL _ (i + 1) ⟨by omega, mem_take_more hx he (dq_f.2 hq)⟩ (by omega) (by simp -implicitDefEqProofs (maxSteps := 4000000) only [go_sem, wr_succ (i := i) (by omega)])
  · have hh := firstAt_nil (p := fun y : TTyping => dq y.name_ e.n) fun y hy => he y (by rwa [List.take_of_length_le (by omega)])
    simp -implicitDefEqProofs (maxSteps := 4000000) only [go_sem, hh]
theorem max_neg {n : Int} : (if n < -1 then -1 else n) = if n < 0 then -1 else n := by split <;> split <;> omega
theorem specSort_step (s : TSorts) (vars : List TTyping) (e : Ex) (hs : s.sm) (he : e.sm) (hv : vars.length ≤ 1048576) (ih : ∀ x ∈ e.a, Ct Try.prog 31 [.d s.E, .d x.E, .d (.lst (vars.map TTyping.E))] [] (fun _ : Unit => True) (fun _ => .int (sortE s vars x)) (fun _ => [])) :
    Ct Try.prog 31 [.d s.E, .d e.E, .d (.lst (vars.map TTyping.E))] [] (fun _ : Unit => True) (fun _ => .int (sortE s vars e)) (fun _ => []) := by
  refine ct_go tyOk Try.func31 rfl (by decide +kernel) Try.ntmps31 rfl (fun _ _ => by first | exact Nat.le_refl _ | exact Nat.zero_le _ | simp) ?_
  intro K hK
  have hl := (e.sm_def.1 he).2.1
  simp -implicitDefEqProofs (maxSteps := 4000000) only [go_sem]
  refine ⟨fun h1 => ?_, fun h1 => ?_⟩
  · refine call_p (specVar_ct _ _ hv) rfl fun _ _ => ?_
    simp -implicitDefEqProofs (maxSteps := 4000000) only [go_sem]
    refine ⟨fun hq => end_pure hK () trivial ?_, fun hq => end_pure hK () trivial ?_⟩
    · simp -implicitDefEqProofs (maxSteps := 4000000) only [go_sem]
      rw [sortE_def, if_pos h1, vSort]
      split <;> simp_all
    · simp -implicitDefEqProofs (maxSteps := 4000000) only [go_sem]
      rw [sortE_def, if_pos h1, vSort]
      split <;> simp_all
      omega
  · refine call_p (specOwn_ct s e hs he) rfl fun _ _ => ?_
    rcases hq : sigOf s e.k e.n with _ | ⟨o, w⟩
    · simp -implicitDefEqProofs (maxSteps := 4000000) only [go_sem, ownR_none]
      exact end_pure hK () trivial (by simp -implicitDefEqProofs (maxSteps := 4000000) only [go_sem]; rw [sortE_def, if_neg h1, hq])
    · have hdef : sortE s vars e = if w.length = e.a.length ∧ sortsOk s vars e.a w = true then (if o < 0 then -1 else o) else -1 := by rw [sortE_def, if_neg h1, hq]
      simp -implicitDefEqProofs (maxSteps := 4000000) only [go_sem, ownR_some]
      refine ⟨fun hw => end_pure hK () trivial (by simp -implicitDefEqProofs (maxSteps := 4000000) only [go_sem]; rw [hdef, if_neg (by omega)]), fun hw => ?_⟩
      refine loop_st tyOk [6, 11, 12, 40, 41, 42, 43, 44, 45, 46, 47, 48, 49, 50, 51, 52, 53, 54, 55, 56, 57, 58, 59, 60, 61, 62, 63, 64, 65, 66, 67, 68, 69, 70, 71, 72, 73] (fun i : Nat => [(11, .int i)]) (fun i : Nat => i ≤ e.a.length ∧ sortsOk s vars (e.a.drop i) (w.drop i) = sortsOk s vars e.a w) (fun i : Nat => e.a.length - i) 0 ?_ ?_ ?_
      · exact ⟨by omega, rfl⟩
      · simp -implicitDefEqProofs (maxSteps := 4000000) only [go_sem]
      rintro i ⟨hi, hi2⟩ L hL
      simp -implicitDefEqProofs (maxSteps := 4000000) only [go_sem]
      refine ⟨fun _ => ?_, fun _ => ?_⟩
      · refine draw_rule tyOk (by kernel_rfl) [0, 1, 2, 3, 4, 5, 6, 7, 8] (by kernel_rfl) ?_
        simp -implicitDefEqProofs (maxSteps := 4000000) only [go_sem]
        refine ⟨by omega, fun x hx => ?_⟩
        refine calm_p (ih x (List.mem_of_getElem? hx)) rfl fun _ _ => ?_
        obtain ⟨y, hy⟩ : ∃ y, w[i]? = some y := ⟨_, List.getElem?_eq_getElem (by omega)⟩
        rw [drop_of hx, drop_of hy, sortsOk] at hi2
        simp -implicitDefEqProofs (maxSteps := 4000000) only [go_sem, hx]
        repeat' (first
          | (with_reducible refine ⟨fun _ => ?_, fun _ => ?_⟩)
          | (with_reducible refine ⟨by omega, ?_⟩)
          | (with_reducible intro _ _))
        all_goals first
          | exact end_pure hK () trivial (by simp -implicitDefEqProofs (maxSteps := 4000000) only [go_sem]; rw [hdef, if_neg (by clear hK hL ih; rw [← hi2]; grind)])
          | exact hL _ (i + 1) ⟨by omega, by clear hK hL ih; rw [← hi2]; grind⟩ (by omega) (by simp -implicitDefEqProofs (maxSteps := 4000000) only [go_sem, wr_succ (i := i) (by omega)])
      · have hok : sortsOk s vars e.a w = true := by rw [← hi2, List.drop_eq_nil_of_le (by omega)]; cases w.drop i <;> rfl
        refine ⟨fun ho => end_pure hK () trivial (by simp -implicitDefEqProofs (maxSteps := 4000000) only [go_sem]; rw [hdef, if_pos ⟨by omega, hok⟩, if_pos (by omega)]), fun ho => end_pure hK () trivial (by simp -implicitDefEqProofs (maxSteps := 4000000) only [go_sem]; rw [hdef, if_pos ⟨by omega, hok⟩, if_neg (by omega)])⟩
theorem specSort_ct (s : TSorts) (vars : List TTyping) (hs : s.sm) (hv : vars.length ≤ 1048576) (e : Ex) : e.sm → Ct Try.prog 31 [.d s.E, .d e.E, .d (.lst (vars.map TTyping.E))] [] (fun _ : Unit => True) (fun _ => .int (sortE s vars e)) (fun _ => []) := by
  induction e using Ex.ind2 with
  | h e ih => exact fun h => specSort_step s vars e hs h hv fun x hx => ih x hx ((e.sm_def.1 h).2.2 x hx)
theorem implSort_step (s : TSorts) (vars : List TTyping) (e : Ex) (hs : s.sm) (he : e.sm) (hv : vars.length ≤ 1048576) (ih : ∀ x ∈ e.a, Ct Try.prog 35 [.d s.E, .d x.E, .d (.lst (vars.map TTyping.E))] [] (fun _ : Unit => True) (fun _ => .int (sortE s vars x)) (fun _ => [])) :
    Ct Try.prog 35 [.d s.E, .d e.E, .d (.lst (vars.map TTyping.E))] [] (fun _ : Unit => True) (fun _ => .int (sortE s vars e)) (fun _ => []) := by
  refine ct_go tyOk Try.func35 rfl (by decide +kernel) Try.ntmps35 rfl (fun _ _ => by first | exact Nat.le_refl _ | exact Nat.zero_le _ | simp) ?_
  intro K hK
  have hl := (e.sm_def.1 he).2.1
  simp -implicitDefEqProofs (maxSteps := 4000000) only [go_sem]
  refine ⟨fun h1 => ?_, fun h1 => ?_⟩
  · refine call_objs [1] (ixTyping_ct e vars hv) (by simp -implicitDefEqProofs (maxSteps := 4000000) only [go_sem]; decide) fun _ _ => ?_
    simp -implicitDefEqProofs (maxSteps := 4000000) only [go_sem]
    refine ⟨fun hq => end_pure hK () trivial ?_, fun hq => ?_⟩
    · simp -implicitDefEqProofs (maxSteps := 4000000) only [go_sem]
      rw [sortE_def, if_pos h1, vSort, find_none_firstAt hq]
    · obtain ⟨j, hj, hj2⟩ := firstAt_ge hq
      simp -implicitDefEqProofs (maxSteps := 4000000) only [go_sem, hj]
      refine ⟨by omega, fun x hx => end_pure hK () trivial ?_⟩
      simp -implicitDefEqProofs (maxSteps := 4000000) only [go_sem, max_neg]
      rw [sortE_def, if_pos h1, vSort, find_firstAt hj, hx]
  · refine call_p (implSig_ct s e hs he) rfl fun _ _ => ?_
    have hdef : sortE s vars e = match sigC s e with | none => -1 | some q => if sortsOk s vars e.a q.2 = true then (if q.1 < 0 then -1 else q.1) else -1 := by
      rw [sortE_def, if_neg h1, sigC]
      rcases sigOf s e.k e.n with _ | q
      · rfl
      · simp only
        by_cases h : q.2.length = e.a.length <;> simp [h]
    rcases hq : sigC s e with _ | ⟨o, w⟩
    · simp -implicitDefEqProofs (maxSteps := 4000000) only [go_sem, ownR_none]
      exact end_pure hK () trivial (by simp -implicitDefEqProofs (maxSteps := 4000000) only [go_sem]; rw [hdef, hq])
    · rw [hq] at hdef
      have hw : w.length = e.a.length := by
        simp only [sigC] at hq
        split at hq
        · cases hq
        · split at hq
          · cases hq; assumption
          · cases hq
      simp only at hdef
      simp -implicitDefEqProofs (maxSteps := 4000000) only [go_sem, ownR_some]
      refine loop_st tyOk [6, 11, 12, 13, 40, 41, 42, 43, 44, 45, 46, 47, 48, 49, 50, 51, 52, 53, 54, 55, 56, 57, 58, 59, 60, 61, 62, 63, 64] (fun i : Nat => [(40, .int i)]) (fun i : Nat => i ≤ e.a.length ∧ sortsOk s vars (e.a.drop i) (w.drop i) = sortsOk s vars e.a w) (fun i : Nat => e.a.length - i) 0 ?_ ?_ ?_
      · exact ⟨by omega, rfl⟩
      · simp -implicitDefEqProofs (maxSteps := 4000000) only [go_sem]
      rintro i ⟨hi, hi2⟩ L hL
      simp -implicitDefEqProofs (maxSteps := 4000000) only [go_sem]
      refine ⟨fun _ => ⟨by omega, fun x hx => ?_⟩, fun _ => ?_⟩
      · refine call_p (ih x (List.mem_of_getElem? hx)) rfl fun _ _ => ?_
        obtain ⟨y, hy⟩ : ∃ y, w[i]? = some y := ⟨_, List.getElem?_eq_getElem (by omega)⟩
        rw [drop_of hx, drop_of hy, sortsOk] at hi2
        simp -implicitDefEqProofs (maxSteps := 4000000) only [go_sem, hy]
        repeat' (first
          | (with_reducible refine ⟨fun _ => ?_, fun _ => ?_⟩)
          | (with_reducible refine ⟨by omega, ?_⟩)
          | (with_reducible intro _ _))
        all_goals first
          | exact end_pure hK () trivial (by simp -implicitDefEqProofs (maxSteps := 4000000) only [go_sem]; rw [hdef, if_neg (by clear hK hL ih; rw [← hi2]; grind)])
          | exact hL _ (i + 1) ⟨by omega, by clear hK hL ih; rw [← hi2]; grind⟩ (by omega) (by simp -implicitDefEqProofs (maxSteps := 4000000) only [go_sem, wr_succ (i := i) (by omega)])
      · have hok : sortsOk s vars e.a w = true := by rw [← hi2, List.drop_eq_nil_of_le (by omega)]; cases w.drop i <;> rfl
        exact end_pure hK () trivial (by simp -implicitDefEqProofs (maxSteps := 4000000) only [go_sem, max_neg]; rw [hdef, if_pos hok])
theorem implSort_ct (s : TSorts) (vars : List TTyping) (hs : s.sm) (hv : vars.length ≤ 1048576) (e : Ex) : e.sm → Ct Try.prog 35 [.d s.E, .d e.E, .d (.lst (vars.map TTyping.E))] [] (fun _ : Unit => True) (fun _ => .int (sortE s vars e)) (fun _ => []) := by
  induction e using Ex.ind2 with
  | h e ih => exact fun h => implSort_step s vars e hs h hv fun x hx => ih x hx ((e.sm_def.1 h).2.2 x hx)
end Go.Proofs.Ytdeabmjffccplaa
