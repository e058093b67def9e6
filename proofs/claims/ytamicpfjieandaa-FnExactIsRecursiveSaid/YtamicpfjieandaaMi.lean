/- The functions of a program: the walks. -/
import Derived.Test.YtamicpfjieandaaMf
import Derived.Test.YtamicpfjieandaaAbZ
import Derived.Test.YtamicpfjieandaaAbTy
namespace Go.Proofs.Ytamicpfjieandaa
open Go Go.Ab
set_option linter.unusedVariables false
set_option linter.unusedSimpArgs false
set_option maxRecDepth 100000
set_option maxHeartbeats 4000000
def addB (acc : List ByteArray) (s : ByteArray) : List ByteArray := if hasB s acc then acc else acc ++ [s]
theorem addB_t {acc : List ByteArray} {s : ByteArray} (h : hasB s acc = true) : addB acc s = acc := by rw [addB, if_pos h]
theorem addB_f {acc : List ByteArray} {s : ByteArray} (h : hasB s acc = false) : addB acc s = acc ++ [s] := by rw [addB, if_neg (by simp [h])]
theorem addB_len (acc : List ByteArray) (s : ByteArray) : (addB acc s).length ≤ acc.length + 1 := by
  unfold addB; split <;> simp
def fnsOf (l : List TRule) : List ByteArray := l.foldl (fun acc r => addB acc r.name_) []
theorem fnsOf_more {l : List TRule} {i : Nat} {x : TRule} (h : l[i]? = some x) : fnsOf (l.take (i + 1)) = addB (fnsOf (l.take i)) x.name_ := by rw [take_more h, fnsOf, List.foldl_append]; rfl
theorem fold_len (l : List TRule) : ∀ acc : List ByteArray, (l.foldl (fun acc r => addB acc r.name_) acc).length ≤ acc.length + l.length := by
  induction l with
  | nil => intro acc; simp
  | cons x l ih =>
    intro acc
    have h1 := ih (addB acc x.name_)
    have h2 := addB_len acc x.name_
    simp only [List.foldl_cons, List.length_cons]; omega
theorem fnsOf_len (l : List TRule) (i : Nat) : (fnsOf (l.take i)).length ≤ l.length := by
  have h1 := fold_len (l.take i) []
  have h2 : (l.take i).length ≤ l.length := by rw [List.length_take]; omega
  unfold fnsOf
  simp only [List.length_nil] at h1; omega
theorem specFns_ct (p : TProgram) (h : p.sm) : Ct Try.prog 86 [.d p.E] [] (fun _ : Unit => True) (fun _ => .d (.lst ((fnsOf p.rules_).map D.str))) (fun _ => []) := by
  refine ct_go tyOk Try.func86 rfl (by decide +kernel) Try.ntmps86 rfl (fun _ _ => by first | exact Nat.le_refl _ | exact Nat.zero_le _ | simp) ?_
  intro K hK
  have hl : p.rules_.length ≤ 1048576 := by first | exact h.1 | exact h
  simp -implicitDefEqProofs (maxSteps := 4000000) only [go_sem]
  refine loop_at tyOk [3, 4, 6, 7, 8, 9, 10, 11, 12, 13, 14, 15, 16, 17, 18, 19, 20, 21, 22, 23, 24, 25, 26, 27, 28, 29, 30] (fun i : Nat => [(3, .own 1 ((fnsOf (p.rules_.take i)).map D.str)), (4, .int i)]) (fun i : Nat => [.box 30 [.d (.lst (p.rules_.map TRule.E))], .app 9 1 true]) (fun i : Nat => i ≤ p.rules_.length) (fun i : Nat => p.rules_.length - i) 0 ?_ ?_ ?_
  · exact Nat.zero_le _
  · simp -implicitDefEqProofs (maxSteps := 4000000) only [go_sem, List.take_zero, fnsOf, List.foldl_nil]
  rintro i hi L hL
  have hfl := fnsOf_len p.rules_ i
  have hw : wr .i64 ((i : Int) + 1) = ((i + 1 : Nat) : Int) := by rw [wr_in (by omega)]; omega
  simp -implicitDefEqProofs (maxSteps := 4000000) only [go_sem, hw]
  refine ⟨fun hlt => ⟨by omega, fun x hx => ?_⟩, fun hlt => ?_⟩
  · refine call_pure (indexOf_ct (fnsOf (p.rules_.take i)) (by omega) x.name_) (by simp -implicitDefEqProofs (maxSteps := 4000000) only [go_sem]) (by simp -implicitDefEqProofs (maxSteps := 4000000) only [go_sem]) fun _ _ => ?_
    simp -implicitDefEqProofs (maxSteps := 4000000) only [go_sem, hw]
    refine ⟨fun h2 => ?_, fun h2 => ?_⟩
    · have hh : hasB x.name_ (fnsOf (p.rules_.take i)) = false := by cases hh : hasB x.name_ (fnsOf (p.rules_.take i)) with | false => rfl | true => have := hasB_pos.2 hh; omega
      have hm := fnsOf_more hx
      rw [addB_f hh] at hm
      refine ⟨by omega, fun y hy => ?_⟩
      obtain rfl : x = y := by rw [hx] at hy; exact Option.some.inj hy
      refine ⟨by omega, ?_⟩
      exact hL _ (i + 1) (by omega) (by omega) (by simp -implicitDefEqProofs (maxSteps := 4000000) only [go_sem, hm, List.map_append])
    · have hh : hasB x.name_ (fnsOf (p.rules_.take i)) = true := hasB_pos.1 (by omega)
      have hm := fnsOf_more hx
      rw [addB_t hh] at hm
      exact hL _ (i + 1) (by omega) (by omega) (by simp -implicitDefEqProofs (maxSteps := 4000000) only [go_sem, hm])
  · obtain rfl : i = p.rules_.length := by omega
    exact end_pure hK () trivial (by simp -implicitDefEqProofs (maxSteps := 4000000) only [go_sem, List.take_length])
theorem implFns_ct (p : TProgram) (h : p.sm) : Ct Try.prog 87 [.d p.E] [] (fun _ : Unit => True) (fun _ => .own 0 ((fnsOf p.rules_).map D.str)) (fun _ => [.app 9 1 true]) := by
  refine ct_go tyOk Try.func87 rfl (by decide +kernel) Try.ntmps87 rfl (fun _ _ => by first | exact Nat.le_refl _ | exact Nat.zero_le _ | simp) ?_
  intro K hK
  have hl : p.rules_.length ≤ 1048576 := by first | exact h.1 | exact h
  simp -implicitDefEqProofs (maxSteps := 4000000) only [go_sem]
  refine loop_at tyOk [3, 5, 9, 10, 11, 12, 13, 14, 15, 16, 17, 18, 19, 20, 21, 22, 23] (fun i : Nat => [(3, .own 1 ((fnsOf (p.rules_.take i)).map D.str)), (9, .int i)]) (fun i : Nat => [.box 30 [.d (.lst (p.rules_.map TRule.E))], .app 9 1 true]) (fun i : Nat => i ≤ p.rules_.length) (fun i : Nat => p.rules_.length - i) 0 ?_ ?_ ?_
  · exact Nat.zero_le _
  · simp -implicitDefEqProofs (maxSteps := 4000000) only [go_sem, List.take_zero, fnsOf, List.foldl_nil]
  rintro i hi L hL
  have hfl := fnsOf_len p.rules_ i
  have hw : wr .i64 ((i : Int) + 1) = ((i + 1 : Nat) : Int) := by rw [wr_in (by omega)]; omega
  simp -implicitDefEqProofs (maxSteps := 4000000) only [go_sem, hw]
  refine ⟨fun hlt => ⟨by omega, fun x hx => ?_⟩, fun hlt => ?_⟩
  · refine call_pure (contains_ct (fnsOf (p.rules_.take i)) (by omega) x.name_) (by simp -implicitDefEqProofs (maxSteps := 4000000) only [go_sem]) (by simp -implicitDefEqProofs (maxSteps := 4000000) only [go_sem]) fun _ _ => ?_
    simp -implicitDefEqProofs (maxSteps := 4000000) only [go_sem, hw]
    refine ⟨fun h2 => ?_, fun h2 => ?_⟩
    · have hh : hasB x.name_ (fnsOf (p.rules_.take i)) = false := by simpa using h2
      have hm := fnsOf_more hx
      rw [addB_f hh] at hm
      refine ⟨by omega, ?_⟩
      exact hL _ (i + 1) (by omega) (by omega) (by simp -implicitDefEqProofs (maxSteps := 4000000) only [go_sem, hm, List.map_append])
    · have hh : hasB x.name_ (fnsOf (p.rules_.take i)) = true := by simpa using h2
      have hm := fnsOf_more hx
      rw [addB_t hh] at hm
      exact hL _ (i + 1) (by omega) (by omega) (by simp -implicitDefEqProofs (maxSteps := 4000000) only [go_sem, hm])
  · obtain rfl : i = p.rules_.length := by omega
    exact end_own hK () [1] trivial (by simp -implicitDefEqProofs (maxSteps := 4000000) only [go_sem, List.take_length]; rfl) (by simp -implicitDefEqProofs (maxSteps := 4000000) only [go_sem]) (by rfl) (by decide)
end Go.Proofs.Ytamicpfjieandaa
