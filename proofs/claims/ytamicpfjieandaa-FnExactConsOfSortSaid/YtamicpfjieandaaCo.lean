/- The constructors of a sort: the walks. -/
import Derived.Test.YtamicpfjieandaaAbW
import Derived.Test.YtamicpfjieandaaAbZ
import Derived.Test.YtamicpfjieandaaAbTy
namespace Go.Proofs.Ytamicpfjieandaa
open Go Go.Ab
set_option linter.unusedVariables false
set_option linter.unusedSimpArgs false
set_option maxRecDepth 100000
set_option maxHeartbeats 4000000
def consOf (l : List (ByteArray × Int)) (n : Int) : List ByteArray := (l.filter fun p => decide (p.2 = n)).map Prod.fst
theorem consOf_nil (n : Int) : consOf [] n = [] := rfl
theorem consOf_t {l : List (ByteArray × Int)} {i : Nat} {x : ByteArray} {n : Int} (h : l[i]? = some (x, n)) : consOf (l.take (i + 1)) n = consOf (l.take i) n ++ [x] := by
  rw [take_more h]; simp [consOf]
theorem consOf_f {l : List (ByteArray × Int)} {i : Nat} {x : ByteArray} {y n : Int} (h : l[i]? = some (x, y)) (hn : y ≠ n) : consOf (l.take (i + 1)) n = consOf (l.take i) n := by
  rw [take_more h]; simp [consOf, hn]
theorem consOf_len (l : List (ByteArray × Int)) (n : Int) : (consOf l n).length ≤ l.length := by
  unfold consOf; rw [List.length_map]; exact List.length_filter_le _ _
theorem specCons_ct (s : TSorts) (h : s.sm) (n : Int) : Ct Try.prog 33 [.d s.E, .int n] [] (fun _ : Unit => True) (fun _ => .d (.lst ((consOf (s.cons_.zip s.of_) n).map D.str))) (fun _ => []) := by
  refine ct_go tyOk Try.func33 rfl (by decide +kernel) Try.ntmps33 rfl (fun _ _ => by first | exact Nat.le_refl _ | exact Nat.zero_le _ | simp) ?_
  intro K hK
  have hl : s.cons_.length ≤ 1048576 := h.1.1
  have hl2 : s.of_.length ≤ 1048576 := h.2.1
  simp -implicitDefEqProofs (maxSteps := 4000000) only [go_sem]
  refine loop_at tyOk [5, 6, 8, 9, 10, 11, 12, 13, 14, 15, 16, 17, 18, 19, 20, 21, 22, 23, 24, 25, 26, 27, 28, 29, 30, 31, 32, 33, 34, 35, 36] (fun i : Nat => [(1, .int n), (5, .own 1 ((consOf ((s.cons_.zip s.of_).take i) n).map D.str)), (6, .int i)]) (fun i : Nat => [.box 63 [.d (.lst (s.cons_.map D.str)), .d (.lst (s.of_.map D.int)), .d (.lst (s.args_.map fun r => .lst (r.map D.int))), .d (.lst (s.funs_.map D.str)), .d (.lst (s.params_.map fun r => .lst (r.map D.int))), .d (.lst (s.results_.map D.int)), .int s.count_], .app 9 1 true]) (fun i : Nat => i ≤ s.cons_.length ∧ i ≤ s.of_.length) (fun i : Nat => s.cons_.length - i) 0 ?_ ?_ ?_
  · exact ⟨Nat.zero_le _, Nat.zero_le _⟩
  · simp -implicitDefEqProofs (maxSteps := 4000000) only [go_sem, List.take_zero, consOf_nil, List.map_nil]
  rintro i ⟨hi, hi2⟩ L hL
  have hfl := consOf_len ((s.cons_.zip s.of_).take i) n
  rw [List.length_take] at hfl
  have hw : wr .i64 ((i : Int) + 1) = ((i + 1 : Nat) : Int) := by rw [wr_in (by omega)]; omega
  simp -implicitDefEqProofs (maxSteps := 4000000) only [go_sem, hw]
  have hlz : (s.cons_.zip s.of_).length = min s.cons_.length s.of_.length := List.length_zip
  have hend : ¬ ((i : Int) < (s.cons_.length : Int) ∧ (i : Int) < (s.of_.length : Int)) → (s.cons_.zip s.of_).take i = s.cons_.zip s.of_ := fun h => List.take_of_length_le (by omega)
  refine ⟨fun h1 => ⟨fun h2 => ⟨by omega, fun y hy => ?_⟩, fun h2 => end_pure hK () trivial (by simp -implicitDefEqProofs (maxSteps := 4000000) only [go_sem, hend (by omega)])⟩, fun h1 => end_pure hK () trivial (by simp -implicitDefEqProofs (maxSteps := 4000000) only [go_sem, hend (by omega)])⟩
  refine ⟨fun he => ⟨by omega, fun x hx => ⟨by omega, ?_⟩⟩, fun he => ?_⟩
  · subst he
    have hz : (s.cons_.zip s.of_)[i]? = some (x, y) := List.getElem?_zip_eq_some.2 ⟨hx, hy⟩
    exact hL _ (i + 1) ⟨by omega, by omega⟩ (by omega) (by simp -implicitDefEqProofs (maxSteps := 4000000) only [go_sem, consOf_t hz, List.map_append])
  · obtain ⟨x, hx⟩ : ∃ x, s.cons_[i]? = some x := ⟨_, List.getElem?_eq_getElem (by omega)⟩
    have hz : (s.cons_.zip s.of_)[i]? = some (x, y) := List.getElem?_zip_eq_some.2 ⟨hx, hy⟩
    exact hL _ (i + 1) ⟨by omega, by omega⟩ (by omega) (by simp -implicitDefEqProofs (maxSteps := 4000000) only [go_sem, consOf_f hz he])
theorem implCons_ct (s : TSorts) (h : s.sm) (n : Int) : Ct Try.prog 35 [.d s.E, .int n] [] (fun _ : Unit => True) (fun _ => .own 0 ((consOf (s.cons_.zip s.of_) n).map D.str)) (fun _ => [.app 9 1 true]) := by
  refine ct_go tyOk Try.func35 rfl (by decide +kernel) Try.ntmps35 rfl (fun _ _ => by first | exact Nat.le_refl _ | exact Nat.zero_le _ | simp) ?_
  intro K hK
  have hl : s.cons_.length ≤ 1048576 := h.1.1
  have hl2 : s.of_.length ≤ 1048576 := h.2.1
  simp -implicitDefEqProofs (maxSteps := 4000000) only [go_sem]
  refine loop_at tyOk [5, 6, 7, 11, 12, 13, 14, 15, 16, 17, 18, 19, 20, 21, 22, 23, 24, 25, 26, 27, 28, 29, 30, 31, 32, 33, 34] (fun i : Nat => [(1, .int n), (5, .own 1 ((consOf ((s.cons_.zip s.of_).take i) n).map D.str)), (11, .int i)]) (fun i : Nat => [.box 63 [.d (.lst (s.cons_.map D.str)), .d (.lst (s.of_.map D.int)), .d (.lst (s.args_.map fun r => .lst (r.map D.int))), .d (.lst (s.funs_.map D.str)), .d (.lst (s.params_.map fun r => .lst (r.map D.int))), .d (.lst (s.results_.map D.int)), .int s.count_], .app 9 1 true]) (fun i : Nat => i ≤ s.cons_.length) (fun i : Nat => s.cons_.length - i) 0 ?_ ?_ ?_
  · exact Nat.zero_le _
  · simp -implicitDefEqProofs (maxSteps := 4000000) only [go_sem, List.take_zero, consOf_nil, List.map_nil]
  rintro i hi L hL
  have hlz : (s.cons_.zip s.of_).length = min s.cons_.length s.of_.length := List.length_zip
  have hfl := consOf_len ((s.cons_.zip s.of_).take i) n
  rw [List.length_take] at hfl
  have hw : wr .i64 ((i : Int) + 1) = ((i + 1 : Nat) : Int) := by rw [wr_in (by omega)]; omega
  simp -implicitDefEqProofs (maxSteps := 4000000) only [go_sem, hw]
  refine ⟨fun h1 => ⟨by omega, fun x hx => ?_⟩, fun h1 => end_own hK () [1] trivial (by simp -implicitDefEqProofs (maxSteps := 4000000) only [go_sem, List.take_of_length_le (l := s.cons_.zip s.of_) (i := i) (by omega)]; rfl) (by simp -implicitDefEqProofs (maxSteps := 4000000) only [go_sem]) (by rfl) (by decide)⟩
  refine ⟨fun h2 => ⟨by omega, fun y hy => ?_⟩, fun h2 => ?_⟩
  · have hz : (s.cons_.zip s.of_)[i]? = some (x, y) := List.getElem?_zip_eq_some.2 ⟨hx, hy⟩
    refine ⟨fun he => ⟨by omega, ?_⟩, fun he => ?_⟩
    · subst he
      exact hL _ (i + 1) (by omega) (by omega) (by simp -implicitDefEqProofs (maxSteps := 4000000) only [go_sem, consOf_t hz, List.map_append])
    · exact hL _ (i + 1) (by omega) (by omega) (by simp -implicitDefEqProofs (maxSteps := 4000000) only [go_sem, consOf_f hz he])
  · have ht : (s.cons_.zip s.of_).take (i + 1) = (s.cons_.zip s.of_).take i := by rw [List.take_of_length_le (by omega), List.take_of_length_le (by omega)]
    exact hL _ (i + 1) (by omega) (by omega) (by simp -implicitDefEqProofs (maxSteps := 4000000) only [go_sem, ht])
end Go.Proofs.Ytamicpfjieandaa
