/- Names in a list: the walks. -/
import Derived.Test.YtfmllefmfhefpaaFb
namespace Go.Proofs.Ytfmllefmfhefpaa
open Go Go.Ab
set_option linter.unusedVariables false
set_option linter.unusedSimpArgs false
set_option maxRecDepth 100000
set_option maxHeartbeats 4000000
theorem indexOf_ct (l : List ByteArray) (hl : l.length ≤ 4611686018427387904) (s : ByteArray) : Ct Try.prog 53 [.d (.lst (l.map D.str)), .str s] [] (fun _ : Unit => True) (fun _ => .int (firstAt (fun x => decide (x = s)) l)) (fun _ => []) := by
  refine ct_go tyOk Try.func53 rfl (by decide +kernel) Try.ntmps53 rfl (fun _ _ => Nat.le_refl _) ?_
  intro K hK
  simp -implicitDefEqProofs (maxSteps := 4000000) only [go_sem]
  refine loop_go tyOk (fun i : Nat => ⟨fr 19 [(0, .d (.lst (l.map D.str))), (1, .str s), (5, .int i)], [], 0⟩)
    (fun i => i ≤ l.length ∧ ∀ x ∈ l.take i, decide (x = s) = false) (fun i => l.length - i) 0 0 ⟨Nat.zero_le _, fun x hx => by simp at hx⟩ (by simp -implicitDefEqProofs (maxSteps := 4000000) only [go_sem]) ?_
  rintro i ⟨hi, hb⟩ L hL
  have hw : i < l.length → wr .i64 ((i : Int) + 1) = ((i + 1 : Nat) : Int) := fun h => by rw [wr_in (by omega)]; omega
  simp -implicitDefEqProofs (maxSteps := 4000000) only [go_sem]
  refine ⟨fun h => ⟨by omega, fun x hx => ⟨fun h2 => end_pure hK () trivial ?_, fun h2 => ?_⟩⟩, fun h => end_pure hK () trivial ?_⟩
  · simp -implicitDefEqProofs (maxSteps := 4000000) only [go_sem, firstAt_at hx (p := fun x => decide (x = s)) (by simpa using h2) hb]
  · simp -implicitDefEqProofs (maxSteps := 4000000) only [go_sem, hw (by omega)]
    exact hL _ (i + 1) 0 ⟨by omega, mem_take_more hx hb (by simpa using h2)⟩ (by omega) (by simp -implicitDefEqProofs (maxSteps := 4000000) only [go_sem])
  · have : i = l.length := by omega
    subst this
    rw [List.take_length] at hb
    simp -implicitDefEqProofs (maxSteps := 4000000) only [go_sem, firstAt_nil hb]
theorem index_ct (l : List ByteArray) (hl : l.length ≤ 4611686018427387904) (s : ByteArray) : Ct Try.prog 160 [.d (.lst (l.map D.str)), .str s] [] (fun _ : Unit => True) (fun _ => .int (firstAt (fun x => decide (s = x)) l)) (fun _ => []) := by
  refine ct_go tyOk Try.func160 rfl (by decide +kernel) Try.ntmps160 rfl (fun _ _ => Nat.le_refl _) ?_
  intro K hK
  simp -implicitDefEqProofs (maxSteps := 4000000) only [go_sem]
  refine loop_go tyOk (fun i : Nat => ⟨fr 19 [(0, .d (.lst (l.map D.str))), (1, .str s), (7, .int l.length), (8, .int i)], [], 0⟩)
    (fun i => i ≤ l.length ∧ ∀ x ∈ l.take i, decide (s = x) = false) (fun i => l.length - i) 0 0 ⟨Nat.zero_le _, fun x hx => by simp at hx⟩ (by simp -implicitDefEqProofs (maxSteps := 4000000) only [go_sem]) ?_
  rintro i ⟨hi, hb⟩ L hL
  have hw : i < l.length → wr .i64 ((i : Int) + 1) = ((i + 1 : Nat) : Int) := fun h => by rw [wr_in (by omega)]; omega
  simp -implicitDefEqProofs (maxSteps := 4000000) only [go_sem]
  refine ⟨fun h => ⟨by omega, fun x hx => ⟨fun h2 => end_pure hK () trivial ?_, fun h2 => ?_⟩⟩, fun h => end_pure hK () trivial ?_⟩
  · simp -implicitDefEqProofs (maxSteps := 4000000) only [go_sem, firstAt_at hx (p := fun x => decide (s = x)) (by simpa using h2) hb]
  · simp -implicitDefEqProofs (maxSteps := 4000000) only [go_sem, hw (by omega)]
    exact hL _ (i + 1) 0 ⟨by omega, mem_take_more hx hb (by simpa using h2)⟩ (by omega) (by simp -implicitDefEqProofs (maxSteps := 4000000) only [go_sem])
  · have : i = l.length := by omega
    subst this
    rw [List.take_length] at hb
    simp -implicitDefEqProofs (maxSteps := 4000000) only [go_sem, firstAt_nil hb]
theorem contains_ct (l : List ByteArray) (hl : l.length ≤ 4611686018427387904) (s : ByteArray) : Ct Try.prog 108 [.d (.lst (l.map D.str)), .str s] [] (fun _ : Unit => True) (fun _ => .bool (hasB s l)) (fun _ => []) := by
  refine ct_go tyOk Try.func108 rfl (by decide +kernel) Try.ntmps108 rfl (fun _ _ => Nat.le_refl _) ?_
  intro K hK
  simp -implicitDefEqProofs (maxSteps := 4000000) only [go_sem]
  refine call_data [.lst (l.map D.str), .str s] (index_ct l hl s) rfl fun _ _ => ?_
  simp -implicitDefEqProofs (maxSteps := 4000000) only [go_sem]
  refine end_pure hK () trivial ?_
  simp -implicitDefEqProofs (maxSteps := 4000000) only [go_sem, hasB_pos', Bool.decide_eq_true]
end Go.Proofs.Ytfmllefmfhefpaa
