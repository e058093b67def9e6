/- The sort of an expression: signatures. -/
import Derived.Test.YtdeabmjffccplaaSa
namespace Go.Proofs.Ytdeabmjffccplaa
open Go Go.Ab
set_option linter.unusedVariables false
set_option linter.unusedSimpArgs false
set_option maxRecDepth 100000
set_option maxHeartbeats 4000000
def ownR (q : Option (Int × List Int)) : A := match q with
  | none => .tup [.int (-1), .d (.lst []), .bool false]
  | some q => .tup [.int q.1, .d (.lst (q.2.map D.int)), .bool true]
theorem ownR_none : ownR none = .tup [.int (-1), .d (.lst []), .bool false] := rfl
theorem ownR_some (o : Int) (w : List Int) : ownR (some (o, w)) = .tup [.int o, .d (.lst (w.map D.int)), .bool true] := rfl
theorem sigOf_out {s : TSorts} {k : Int} {n : ByteArray} (h2 : k ≠ 2) (h3 : k ≠ 3) : sigOf s k n = none := by rw [sigOf, if_neg h2, if_neg h3]
theorem sigOf_2 {s : TSorts} {k : Int} {n : ByteArray} (h : k = 2) : sigOf s k n = sigAt s.cons_ s.of_ s.args_ n := by rw [sigOf, if_pos h]
theorem sigOf_3 {s : TSorts} {k : Int} {n : ByteArray} (h : k = 3) : sigOf s k n = sigAt s.funs_ s.results_ s.params_ n := by rw [sigOf, if_neg (by omega), if_pos h]
theorem sigAt_y {names : List ByteArray} {own : List Int} {args : List (List Int)} {n : ByteArray} {o : Int} {w : List Int} (h : 0 ≤ firstAt (fun y => dq y n) names)
    (h1 : own[(firstAt (fun y => dq y n) names).toNat]? = some o) (h2 : args[(firstAt (fun y => dq y n) names).toNat]? = some w) : sigAt names own args n = some (o, w) := by
  rw [sigAt, if_neg (by omega), h1, h2]
theorem sigAt_n {names : List ByteArray} {own : List Int} {args : List (List Int)} {n : ByteArray} (h : ¬ 0 ≤ firstAt (fun y => dq y n) names ∨ ¬ firstAt (fun y => dq y n) names < own.length ∨ ¬ firstAt (fun y => dq y n) names < args.length) : sigAt names own args n = none := by
  rw [sigAt]
  split
  · rfl
  · by_cases h1 : own.length ≤ (firstAt (fun y => dq y n) names).toNat
    · rw [List.getElem?_eq_none h1]
    · rw [List.getElem?_eq_none (l := args) (by omega)]; split <;> simp_all
theorem sigAt_in {names : List ByteArray} {own : List Int} {args : List (List Int)} {n : ByteArray} {w : List Int} (h : ¬ firstAt (fun y => dq y n) names < 0) (h1 : ¬ (own.length : Int) ≤ firstAt (fun y => dq y n) names)
    (h2 : args[(firstAt (fun y => dq y n) names).toNat]? = some w) : ∃ o, sigAt names own args n = some (o, w) :=
  ⟨_, sigAt_y (by omega) (List.getElem?_eq_getElem (by omega)) h2⟩
theorem specOwn_ct (s : TSorts) (e : Ex) (hs : s.sm) (he : e.sm) : Ct Try.prog 75 [.d s.E, .d e.E] [] (fun _ : Unit => True) (fun _ => ownR (sigOf s e.k e.n)) (fun _ => []) := by
  refine ct_go tyOk Try.func75 rfl (by decide +kernel) Try.ntmps75 rfl (fun _ _ => by first | exact Nat.le_refl _ | exact Nat.zero_le _ | simp) ?_
  intro K hK
  obtain ⟨k0, k1, k2, k3, k4, k5⟩ := hs
  simp -implicitDefEqProofs (maxSteps := 4000000) only [go_sem]
  refine ⟨fun h => ?_, fun h => ?_⟩
  · refine call_p (specIndex_ct _ _ (by omega)) rfl fun _ _ => ?_
    simp -implicitDefEqProofs (maxSteps := 4000000) only [go_sem]
    repeat' (first
      | (with_reducible refine ⟨fun _ => ?_, fun _ => ?_⟩)
      | (with_reducible refine ⟨by omega, ?_⟩)
      | (with_reducible intro _ _)
      | (refine draw_rule tyOk (by kernel_rfl) [0, 1, 2, 3, 4, 5, 6, 7, 8, 9, 10, 11, 12] (by decide +kernel) ?_; simp -implicitDefEqProofs (maxSteps := 4000000) only [go_sem])
      | (refine draw_rule tyOk (by kernel_rfl) [0, 1, 2, 3, 4, 5, 6, 7, 8, 9, 10, 11, 12] (by decide +kernel) ?_; simp -implicitDefEqProofs (maxSteps := 4000000) only [go_sem]))
    · have hq : sigOf s e.k e.n = _ := (sigOf_2 h).trans (sigAt_y (by assumption) (by assumption) (by assumption))
      exact end_gen hK () 0 trivial (by simp -implicitDefEqProofs (maxSteps := 4000000) only [go_sem, hq, ownR_some])
    all_goals
      have hq : sigOf s e.k e.n = none := (sigOf_2 h).trans (sigAt_n (by omega))
      exact end_gen hK () 0 trivial (by simp -implicitDefEqProofs (maxSteps := 4000000) only [go_sem, hq, ownR_none])
  · refine call_p (specIndex_ct _ _ (by omega)) rfl fun _ _ => ?_
    simp -implicitDefEqProofs (maxSteps := 4000000) only [go_sem]
    refine ⟨fun h3 => ?_, fun h3 => ?_⟩
    · repeat' (first
        | (with_reducible refine ⟨fun _ => ?_, fun _ => ?_⟩)
        | (with_reducible refine ⟨by omega, ?_⟩)
        | (with_reducible intro _ _)
        | (refine draw_rule tyOk (by kernel_rfl) [0, 1, 2, 3, 4, 5, 6, 7, 8, 9, 10, 11, 12] (by decide +kernel) ?_; simp -implicitDefEqProofs (maxSteps := 4000000) only [go_sem])
        | (refine draw_rule tyOk (by kernel_rfl) [0, 1, 2, 3, 4, 5, 6, 7, 8, 9, 10, 11, 12] (by decide +kernel) ?_; simp -implicitDefEqProofs (maxSteps := 4000000) only [go_sem]))
      · have hq : sigOf s e.k e.n = _ := (sigOf_3 h3).trans (sigAt_y (by assumption) (by assumption) (by assumption))
        exact end_gen hK () 0 trivial (by simp -implicitDefEqProofs (maxSteps := 4000000) only [go_sem, hq, ownR_some])
      all_goals
        have hq : sigOf s e.k e.n = none := (sigOf_3 h3).trans (sigAt_n (by omega))
        exact end_gen hK () 0 trivial (by simp -implicitDefEqProofs (maxSteps := 4000000) only [go_sem, hq, ownR_none])
    · exact end_gen hK () 0 trivial (by simp -implicitDefEqProofs (maxSteps := 4000000) only [go_sem, sigOf_out (s := s) (n := e.n) h h3, ownR_none])
/-- What signature hands back. -/
noncomputable def sigC (s : TSorts) (e : Ex) : Option (Int × List Int) := match sigOf s e.k e.n with
  | none => none
  | some q => if q.2.length = e.a.length then some q else none
theorem sigC_no {s : TSorts} {e : Ex} (h : sigOf s e.k e.n = none) : sigC s e = none := by rw [sigC, h]
theorem sigC_len {s : TSorts} {e : Ex} {q : Int × List Int} (h : sigOf s e.k e.n = some q) (h2 : q.2.length ≠ e.a.length) : sigC s e = none := by rw [sigC, h]; simp only; rw [if_neg h2]
theorem sigC_yes {s : TSorts} {e : Ex} {q : Int × List Int} (h : sigOf s e.k e.n = some q) (h2 : q.2.length = e.a.length) : sigC s e = some q := by rw [sigC, h]; simp only; rw [if_pos h2]
theorem implSig_ct (s : TSorts) (e : Ex) (hs : s.sm) (he : e.sm) : Ct Try.prog 83 [.d s.E, .d e.E] [] (fun _ : Unit => True) (fun _ => ownR (sigC s e)) (fun _ => []) := by
  refine ct_go tyOk Try.func83 rfl (by decide +kernel) Try.ntmps83 rfl (fun _ _ => by first | exact Nat.le_refl _ | exact Nat.zero_le _ | simp) ?_
  intro K hK
  obtain ⟨k0, k1, k2, k3, k4, k5⟩ := hs
  simp -implicitDefEqProofs (maxSteps := 4000000) only [go_sem]
  refine draw_rule tyOk (by kernel_rfl) [0, 1, 2, 3, 4, 5, 6, 7, 8] (by kernel_rfl) ?_
  simp -implicitDefEqProofs (maxSteps := 4000000) only [go_sem]
  refine ⟨fun h2 => ?_, fun h2 => ⟨fun h3 => ?_, fun h3 => ?_⟩⟩
  · refine call_p (implIndex_ct _ _ (by omega)) rfl fun _ _ => ?_
    simp -implicitDefEqProofs (maxSteps := 4000000) only [go_sem]
    refine draw_rule tyOk (by kernel_rfl) [0, 1, 2, 3, 4, 5, 6, 7, 8, 9, 10, 11, 12, 13, 14, 15, 16, 17, 18, 19, 20, 21, 22, 23, 24] (by kernel_rfl) ?_
    simp -implicitDefEqProofs (maxSteps := 4000000) only [go_sem]
    repeat' (first
      | (with_reducible refine ⟨fun _ => ?_, fun _ => ?_⟩)
      | (with_reducible refine ⟨by omega, ?_⟩)
      | (with_reducible intro _ _)
      | (refine draw_rule tyOk (by kernel_rfl) [0, 1, 2, 3, 4, 5, 6, 7, 8] (by decide +kernel) ?_; simp -implicitDefEqProofs (maxSteps := 4000000) only [go_sem])
      | (refine draw_rule tyOk (by kernel_rfl) [0, 1, 2, 3, 4, 5, 6, 7, 8] (by decide +kernel) ?_; simp -implicitDefEqProofs (maxSteps := 4000000) only [go_sem])
      | (refine draw_rule tyOk (by kernel_rfl) [0, 1, 2, 3, 4, 5, 6, 7, 8, 9, 10, 11, 12, 13, 14, 15, 16, 17, 18, 19, 20, 21, 22, 23, 24] (by decide +kernel) ?_; simp -implicitDefEqProofs (maxSteps := 4000000) only [go_sem])
      | (refine draw_rule tyOk (by kernel_rfl) [0, 1, 2, 3, 4, 5, 6, 7, 8, 9, 10] (by decide +kernel) ?_; simp -implicitDefEqProofs (maxSteps := 4000000) only [go_sem]))
    · rename_i a1 a2 a3 w hw hn
      obtain ⟨o, ho⟩ := sigAt_in a1 a2 hw
      have hq := sigC_len ((sigOf_2 (s := s) (n := e.n) h2).trans ho) (by simp only; omega)
      exact end_gen hK () 0 trivial (by simp -implicitDefEqProofs (maxSteps := 4000000) only [go_sem, hq, ownR_none])
    · rename_i a1 a2 a3 w hw hn o ho w' hw'
      obtain rfl : w = w' := Option.some.inj (hw.symm.trans hw')
      have hq := sigC_yes ((sigOf_2 (s := s) (n := e.n) h2).trans (sigAt_y (by omega) ho hw)) (by simp only; omega)
      exact end_gen hK () 0 trivial (by simp -implicitDefEqProofs (maxSteps := 4000000) only [go_sem, hq, ownR_some])
    all_goals
      have hq := sigC_no ((sigOf_2 (s := s) (n := e.n) h2).trans (sigAt_n (by omega)))
      exact end_gen hK () 0 trivial (by simp -implicitDefEqProofs (maxSteps := 4000000) only [go_sem, hq, ownR_none])
  · refine draw_rule tyOk (by kernel_rfl) [0, 1, 2, 3, 4, 5, 6, 7, 8] (by kernel_rfl) ?_
    simp -implicitDefEqProofs (maxSteps := 4000000) only [go_sem]
    refine call_p (implIndex_ct _ _ (by omega)) rfl fun _ _ => ?_
    simp -implicitDefEqProofs (maxSteps := 4000000) only [go_sem]
    refine draw_rule tyOk (by kernel_rfl) [0, 1, 2, 3, 4, 5, 6, 7, 8, 9, 10, 11, 12, 13, 14, 15, 16, 17, 18, 19, 20, 21, 22, 23, 24] (by kernel_rfl) ?_
    simp -implicitDefEqProofs (maxSteps := 4000000) only [go_sem]
    repeat' (first
      | (with_reducible refine ⟨fun _ => ?_, fun _ => ?_⟩)
      | (with_reducible refine ⟨by omega, ?_⟩)
      | (with_reducible intro _ _)
      | (refine draw_rule tyOk (by kernel_rfl) [0, 1, 2, 3, 4, 5, 6, 7, 8] (by decide +kernel) ?_; simp -implicitDefEqProofs (maxSteps := 4000000) only [go_sem])
      | (refine draw_rule tyOk (by kernel_rfl) [0, 1, 2, 3, 4, 5, 6, 7, 8] (by decide +kernel) ?_; simp -implicitDefEqProofs (maxSteps := 4000000) only [go_sem])
      | (refine draw_rule tyOk (by kernel_rfl) [0, 1, 2, 3, 4, 5, 6, 7, 8, 9, 10, 11, 12, 13, 14, 15, 16, 17, 18, 19, 20, 21, 22, 23, 24] (by decide +kernel) ?_; simp -implicitDefEqProofs (maxSteps := 4000000) only [go_sem])
      | (refine draw_rule tyOk (by kernel_rfl) [0, 1, 2, 3, 4, 5, 6, 7, 8, 9, 10] (by decide +kernel) ?_; simp -implicitDefEqProofs (maxSteps := 4000000) only [go_sem]))
    · rename_i a1 a2 a3 w hw hn
      obtain ⟨o, ho⟩ := sigAt_in a1 a2 hw
      have hq := sigC_len ((sigOf_3 (s := s) (n := e.n) h3).trans ho) (by simp only; omega)
      exact end_gen hK () 0 trivial (by simp -implicitDefEqProofs (maxSteps := 4000000) only [go_sem, hq, ownR_none])
    · rename_i a1 a2 a3 w hw hn o ho w' hw'
      obtain rfl : w = w' := Option.some.inj (hw.symm.trans hw')
      have hq := sigC_yes ((sigOf_3 (s := s) (n := e.n) h3).trans (sigAt_y (by omega) ho hw)) (by simp only; omega)
      exact end_gen hK () 0 trivial (by simp -implicitDefEqProofs (maxSteps := 4000000) only [go_sem, hq, ownR_some])
    all_goals
      have hq := sigC_no ((sigOf_3 (s := s) (n := e.n) h3).trans (sigAt_n (by omega)))
      exact end_gen hK () 0 trivial (by simp -implicitDefEqProofs (maxSteps := 4000000) only [go_sem, hq, ownR_none])
  · have hq := sigC_no (sigOf_out (s := s) (n := e.n) h2 h3)
    exact end_gen hK () 0 trivial (by simp -implicitDefEqProofs (maxSteps := 4000000) only [go_sem, hq, ownR_none])
end Go.Proofs.Ytdeabmjffccplaa
