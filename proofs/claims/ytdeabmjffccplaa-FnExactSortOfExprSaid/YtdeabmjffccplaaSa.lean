/- The sort of an expression: the walks. -/
import Derived.Test.YtdeabmjffccplaaEa
import Derived.Test.YtdeabmjffccplaaAbYb
namespace Go.Proofs.Ytdeabmjffccplaa
open Go Go.Ab
set_option linter.unusedVariables false
set_option linter.unusedSimpArgs false
set_option maxRecDepth 100000
set_option maxHeartbeats 4000000
theorem specIndex_ct (a : List ByteArray) (s : ByteArray) (ha : a.length ≤ 1073741824) : Ct Try.prog 61 [.d (.lst (a.map D.str)), .d (D.str s)] [] (fun _ : Unit => True) (fun _ => .int (firstAt (fun y => dq y s) a)) (fun _ => []) := by
  refine ct_go tyOk Try.func61 rfl (by decide +kernel) Try.ntmps61 rfl (fun _ _ => by first | exact Nat.le_refl _ | exact Nat.zero_le _ | simp) ?_
  intro K hK
  simp -implicitDefEqProofs (maxSteps := 4000000) only [go_sem]
  refine loop_st tyOk [4, 5, 6, 7, 8, 9, 10, 11, 12, 13, 14, 15, 16, 17, 18] (fun i : Nat => [(5, .int i)]) (fun i : Nat => i ≤ a.length ∧ ∀ y ∈ a.take i, dq y s = false) (fun i : Nat => a.length - i) 0 ?_ ?_ ?_
  · exact ⟨by omega, by simp⟩
  · simp -implicitDefEqProofs (maxSteps := 4000000) only [go_sem]
  rintro i ⟨hi, he⟩ L hL
  simp -implicitDefEqProofs (maxSteps := 4000000) only [go_sem]
  repeat' (first
    | (with_reducible refine ⟨fun _ => ?_, fun _ => ?_⟩)
    | (with_reducible refine ⟨by omega, ?_⟩)
    | (with_reducible intro _ _))
  · rename_i hx hq
    exact end_pure hK () trivial (by simp -implicitDefEqProofs (maxSteps := 4000000) only [go_sem]; exact (firstAt_at (p := fun y => dq y s) hx (dq_t.2 (by first | exact hq | exact hq.symm)) he).symm)
  · rename_i hx hq
    exact hL _ (i + 1) ⟨by omega, mem_take_more hx he (dq_f.2 (fun e => hq (by first | exact e | exact e.symm)))⟩ (by omega) (by simp -implicitDefEqProofs (maxSteps := 4000000) only [go_sem, wr_succ (i := i) (by omega)])
  · exact end_pure hK () trivial (by simp -implicitDefEqProofs (maxSteps := 4000000) only [go_sem]; exact (firstAt_nil fun y hy => he y (by rwa [List.take_of_length_le (by omega)])).symm)
theorem sIndexT_ct (a : List ByteArray) (s : ByteArray) (ha : a.length ≤ 1073741824) : Ct Try.prog 105 [.d (.lst (a.map D.str)), .d (D.str s)] [] (fun _ : Unit => True) (fun _ => .int (firstAt (fun y => dq y s) a)) (fun _ => []) := by
  refine ct_go tyOk Try.func105 rfl (by decide +kernel) Try.ntmps105 rfl (fun _ _ => by first | exact Nat.le_refl _ | exact Nat.zero_le _ | simp) ?_
  intro K hK
  simp -implicitDefEqProofs (maxSteps := 4000000) only [go_sem]
  refine loop_st tyOk [4, 5, 8, 9, 10, 11, 12, 13, 14, 15, 16, 17, 18] (fun i : Nat => [(8, .int i)]) (fun i : Nat => i ≤ a.length ∧ ∀ y ∈ a.take i, dq y s = false) (fun i : Nat => a.length - i) 0 ?_ ?_ ?_
  · exact ⟨by omega, by simp⟩
  · simp -implicitDefEqProofs (maxSteps := 4000000) only [go_sem]
  rintro i ⟨hi, he⟩ L hL
  simp -implicitDefEqProofs (maxSteps := 4000000) only [go_sem]
  repeat' (first
    | (with_reducible refine ⟨fun _ => ?_, fun _ => ?_⟩)
    | (with_reducible refine ⟨by omega, ?_⟩)
    | (with_reducible intro _ _))
  · rename_i hx hq
    exact end_pure hK () trivial (by simp -implicitDefEqProofs (maxSteps := 4000000) only [go_sem]; exact (firstAt_at (p := fun y => dq y s) hx (dq_t.2 (by first | exact hq | exact hq.symm)) he).symm)
  · rename_i hx hq
    exact hL _ (i + 1) ⟨by omega, mem_take_more hx he (dq_f.2 (fun e => hq (by first | exact e | exact e.symm)))⟩ (by omega) (by simp -implicitDefEqProofs (maxSteps := 4000000) only [go_sem, wr_succ (i := i) (by omega)])
  · exact end_pure hK () trivial (by simp -implicitDefEqProofs (maxSteps := 4000000) only [go_sem]; exact (firstAt_nil fun y hy => he y (by rwa [List.take_of_length_le (by omega)])).symm)
theorem implIndex_ct (a : List ByteArray) (s : ByteArray) (ha : a.length ≤ 1073741824) : Ct Try.prog 112 [.d (.lst (a.map D.str)), .str s] [] (fun _ : Unit => True) (fun _ => .int (firstAt (fun y => dq y s) a)) (fun _ => []) := by
  refine ct_go tyOk Try.func112 rfl (by decide +kernel) Try.ntmps112 rfl (fun _ _ => by first | exact Nat.le_refl _ | exact Nat.zero_le _ | simp) ?_
  intro K hK
  simp -implicitDefEqProofs (maxSteps := 4000000) only [go_sem]
  repeat' (first
    | (with_reducible refine ⟨fun _ => ?_, fun _ => ?_⟩)
    | (with_reducible refine ⟨by omega, ?_⟩)
    | (with_reducible intro _ _)
    | (refine call_p (sIndexT_ct _ _ ha) rfl fun _ _ => ?_; simp -implicitDefEqProofs (maxSteps := 4000000) only [go_sem])
    | (refine calm_p (sIndexT_ct _ _ ha) rfl fun _ _ => ?_; simp -implicitDefEqProofs (maxSteps := 4000000) only [go_sem]))
  exact end_pure hK () trivial (by simp -implicitDefEqProofs (maxSteps := 4000000) only [go_sem])
/-- The sort of a name among typings. -/
noncomputable def vSort (vars : List TTyping) (n : ByteArray) : Int := match vars.find? (fun y => dq y.name_ n) with
  | none => -1
  | some t => if t.sort_ < 0 then -1 else t.sort_
/-- Own sort and the arguments' sorts, looked up. -/
noncomputable def sigAt (names : List ByteArray) (own : List Int) (args : List (List Int)) (n : ByteArray) : Option (Int × List Int) :=
  if firstAt (fun y => dq y n) names < 0 then none else match own[(firstAt (fun y => dq y n) names).toNat]?, args[(firstAt (fun y => dq y n) names).toNat]? with
    | some o, some w => some (o, w)
    | _, _ => none
noncomputable def sigOf (s : TSorts) (k : Int) (n : ByteArray) : Option (Int × List Int) :=
  if k = 2 then sigAt s.cons_ s.of_ s.args_ n else if k = 3 then sigAt s.funs_ s.results_ s.params_ n else none
mutual
noncomputable def sortE (s : TSorts) (vars : List TTyping) : Ex → Int
  | .mk k n a => if k = 1 then vSort vars n else match sigOf s k n with
    | none => -1
    | some q => if q.2.length = a.length ∧ sortsOk s vars a q.2 = true then (if q.1 < 0 then -1 else q.1) else -1
noncomputable def sortsOk (s : TSorts) (vars : List TTyping) : List Ex → List Int → Bool
  | e :: l, x :: w => (decide (e.k = 4) || decide (sortE s vars e = x ∧ ¬ sortE s vars e < 0)) && sortsOk s vars l w
  | _, _ => true
end
theorem sortE_def (s : TSorts) (vars : List TTyping) (e : Ex) : sortE s vars e = if e.k = 1 then vSort vars e.n else match sigOf s e.k e.n with
    | none => -1
    | some q => if q.2.length = e.a.length ∧ sortsOk s vars e.a q.2 = true then (if q.1 < 0 then -1 else q.1) else -1 := by
  cases e; rw [sortE]; rfl
theorem sigAt_no {names : List ByteArray} {own : List Int} {args : List (List Int)} {n : ByteArray} (h : firstAt (fun y => dq y n) names < 0) : sigAt names own args n = none := by rw [sigAt, if_pos h]
theorem sigAt_yes {names : List ByteArray} {own : List Int} {args : List (List Int)} {n : ByteArray} {i : Nat} (h : firstAt (fun y => dq y n) names = i) {o : Int} {w : List Int} (h1 : own[i]? = some o) (h2 : args[i]? = some w) : sigAt names own args n = some (o, w) := by
  have e : (firstAt (fun y => dq y n) names).toNat = i := by omega
  rw [sigAt, if_neg (by omega), e, h1, h2]
theorem sigAt_out {names : List ByteArray} {own : List Int} {args : List (List Int)} {n : ByteArray} {i : Nat} (h : firstAt (fun y => dq y n) names = i) (h1 : own.length ≤ i ∨ args.length ≤ i) : sigAt names own args n = none := by
  have e : (firstAt (fun y => dq y n) names).toNat = i := by omega
  rw [sigAt, if_neg (by omega), e]
  rcases h1 with h1 | h1
  · rw [List.getElem?_eq_none h1]
  · rw [List.getElem?_eq_none h1]; cases own[i]? <;> rfl
theorem specVar_ct (vars : List TTyping) (n : ByteArray) (h : vars.length ≤ 1048576) : Ct Try.prog 74 [.d (.lst (vars.map TTyping.E)), .str n] [] (fun _ : Unit => True) (fun _ => .int (match vars.find? (fun y => dq y.name_ n) with | none => -1 | some t => t.sort_)) (fun _ => []) := by
  refine ct_go tyOk Try.func74 rfl (by decide +kernel) Try.ntmps74 rfl (fun _ _ => by first | exact Nat.le_refl _ | exact Nat.zero_le _ | simp) ?_
  intro K hK
  simp -implicitDefEqProofs (maxSteps := 4000000) only [go_sem]
  refine loop_st tyOk [4, 5, 6, 7, 8, 9, 10, 11, 12, 13, 14, 15, 16, 17, 18, 19, 20, 21, 22, 23] (fun i : Nat => [(5, .int i)]) (fun i : Nat => i ≤ vars.length ∧ ∀ y ∈ vars.take i, dq y.name_ n = false) (fun i : Nat => vars.length - i) 0 ?_ ?_ ?_
  · exact ⟨by omega, by simp⟩
  · simp -implicitDefEqProofs (maxSteps := 4000000) only [go_sem]
  rintro i ⟨hi, he⟩ L hL
  simp -implicitDefEqProofs (maxSteps := 4000000) only [go_sem]
  refine ⟨fun _ => ⟨by omega, fun x hx => ⟨fun hq => ?_, fun hq => ?_⟩⟩, fun _ => end_pure hK () trivial ?_⟩
  · simp -implicitDefEqProofs (maxSteps := 4000000) only [go_sem, hx]
    refine ⟨by omega, end_pure hK () trivial ?_⟩
    simp -implicitDefEqProofs (maxSteps := 4000000) only [go_sem]
    rw [find_firstAt (firstAt_at (p := fun y : TTyping => dq y.name_ n) hx (dq_t.2 hq) he), hx]
  · exact hL _ (i + 1) ⟨by omega, mem_take_more hx he (dq_f.2 hq)⟩ (by omega) (by simp -implicitDefEqProofs (maxSteps := 4000000) only [go_sem, wr_succ (i := i) (by omega)])
  · simp -implicitDefEqProofs (maxSteps := 4000000) only [go_sem]
    rw [find_none_firstAt (p := fun y : TTyping => dq y.name_ n) (by rw [firstAt_nil fun y hy => he y (by rwa [List.take_of_length_le (by omega)])]; omega)]
end Go.Proofs.Ytdeabmjffccplaa
