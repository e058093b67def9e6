/- Lists compared: the walks. -/
import Derived.Test.YtbbdjpmfaclnjaaGb
namespace Go.Proofs.Ytbbdjpmfaclnjaa
open Go Go.Ab
set_option linter.unusedVariables false
set_option linter.unusedSimpArgs false
set_option maxRecDepth 100000
set_option maxHeartbeats 4000000
def eqL {α : Type} (f : α → α → Bool) : List α → List α → Bool
  | [], [] => true
  | x :: a, y :: b => f x y && eqL f a b
  | _, _ => false
theorem eqL_len {α : Type} {f : α → α → Bool} : ∀ {a b : List α}, a.length ≠ b.length → eqL f a b = false
  | [], [], h => absurd rfl h
  | [], _ :: _, _ => rfl
  | _ :: _, [], _ => rfl
  | x :: a, y :: b, h => by simp only [eqL, eqL_len (a := a) (b := b) (by simpa using h), Bool.and_false]
theorem eqL_at {α : Type} {f : α → α → Bool} {a b : List α} {i : Nat} {x y : α} (hx : a[i]? = some x) (hy : b[i]? = some y) : eqL f (a.drop i) (b.drop i) = (f x y && eqL f (a.drop (i + 1)) (b.drop (i + 1))) := by
  rw [drop_of hx, drop_of hy]; rfl
theorem eqL_end {α : Type} {f : α → α → Bool} {a b : List α} {i : Nat} (h1 : a.length = i) (h2 : b.length = i) : eqL f (a.drop i) (b.drop i) = true := by
  rw [List.drop_eq_nil_of_le (by omega), List.drop_eq_nil_of_le (by omega)]; rfl
def dT (x y : ByteArray) : Bool := decide (x = y)
def dI (x y : Int) : Bool := decide (x = y)
def dL (x y : List Int) : Bool := eqL dI x y
theorem texts_ct (a b : List ByteArray) (ha : a.length ≤ 1048576) : Ct Try.prog 51 [.d (.lst (a.map D.str)), .d (.lst (b.map D.str))] [] (fun _ : Unit => True) (fun _ => .bool (eqL dT a b)) (fun _ => []) := by
  refine ct_go tyOk Try.func51 rfl (by decide +kernel) Try.ntmps51 rfl (fun _ _ => Nat.le_refl _) ?_
  intro K hK
  simp -implicitDefEqProofs (maxSteps := 4000000) only [go_sem]
  refine ⟨fun h => end_pure hK () trivial (by simp -implicitDefEqProofs (maxSteps := 4000000) only [go_sem, eqL_len (f := dT) (a := a) (b := b) (by omega)]), fun h => ?_⟩
  refine loop_go tyOk (fun i : Nat => ⟨fr 26 [(0, .d (.lst (a.map D.str))), (1, .d (.lst (b.map D.str))), (5, .int i)], [], 0⟩)
    (fun i => i ≤ a.length ∧ eqL dT (a.drop i) (b.drop i) = eqL dT a b) (fun i => a.length - i) 0 0 ⟨Nat.zero_le _, rfl⟩ (by simp -implicitDefEqProofs (maxSteps := 4000000) only [go_sem]) ?_
  rintro i ⟨hi, hv⟩ L hL
  simp -implicitDefEqProofs (maxSteps := 4000000) only [go_sem]
  refine ⟨fun h2 => ?_, fun h2 => end_pure hK () trivial ?_⟩
  · refine draw_rule tyOk (by kernel_rfl) [0, 1, 2, 3, 4, 5, 6, 7, 8] (by kernel_rfl) ?_
    simp -implicitDefEqProofs (maxSteps := 4000000) only [go_sem]
    refine ⟨by omega, fun x hx => ⟨by omega, fun y hy => ?_⟩⟩
    have hw : wr .i64 ((i : Int) + 1) = ((i + 1 : Nat) : Int) := by rw [wr_in (by omega)]; omega
    rw [eqL_at hx hy] at hv
    simp -implicitDefEqProofs (maxSteps := 4000000) only [go_sem, hw]
    refine ⟨fun h3 => end_pure hK () trivial ?_, fun h3 => ?_⟩
    · simp -implicitDefEqProofs (maxSteps := 4000000) only [go_sem]; rw [← hv]; simp [dT, h3]
    · exact hL _ (i + 1) 0 ⟨by omega, by rw [← hv]; simp [dT, h3]⟩ (by omega) (by simp -implicitDefEqProofs (maxSteps := 4000000) only [go_sem])
  · simp -implicitDefEqProofs (maxSteps := 4000000) only [go_sem]; rw [← hv, eqL_end (i := i) (by omega) (by omega)]
theorem ints_ct (a b : List Int) (ha : a.length ≤ 1048576) : Ct Try.prog 52 [.d (.lst (a.map D.int)), .d (.lst (b.map D.int))] [] (fun _ : Unit => True) (fun _ => .bool (eqL dI a b)) (fun _ => []) := by
  refine ct_go tyOk Try.func52 rfl (by decide +kernel) Try.ntmps52 rfl (fun _ _ => Nat.le_refl _) ?_
  intro K hK
  simp -implicitDefEqProofs (maxSteps := 4000000) only [go_sem]
  refine ⟨fun h => end_pure hK () trivial (by simp -implicitDefEqProofs (maxSteps := 4000000) only [go_sem, eqL_len (f := dI) (a := a) (b := b) (by omega)]), fun h => ?_⟩
  refine loop_go tyOk (fun i : Nat => ⟨fr 26 [(0, .d (.lst (a.map D.int))), (1, .d (.lst (b.map D.int))), (5, .int i)], [], 0⟩)
    (fun i => i ≤ a.length ∧ eqL dI (a.drop i) (b.drop i) = eqL dI a b) (fun i => a.length - i) 0 0 ⟨Nat.zero_le _, rfl⟩ (by simp -implicitDefEqProofs (maxSteps := 4000000) only [go_sem]) ?_
  rintro i ⟨hi, hv⟩ L hL
  simp -implicitDefEqProofs (maxSteps := 4000000) only [go_sem]
  refine ⟨fun h2 => ?_, fun h2 => end_pure hK () trivial ?_⟩
  · refine draw_rule tyOk (by kernel_rfl) [0, 1, 2, 3, 4, 5, 6, 7, 8] (by kernel_rfl) ?_
    simp -implicitDefEqProofs (maxSteps := 4000000) only [go_sem]
    refine ⟨by omega, fun x hx => ⟨by omega, fun y hy => ?_⟩⟩
    have hw : wr .i64 ((i : Int) + 1) = ((i + 1 : Nat) : Int) := by rw [wr_in (by omega)]; omega
    rw [eqL_at hx hy] at hv
    simp -implicitDefEqProofs (maxSteps := 4000000) only [go_sem, hw]
    refine ⟨fun h3 => end_pure hK () trivial ?_, fun h3 => ?_⟩
    · simp -implicitDefEqProofs (maxSteps := 4000000) only [go_sem]; rw [← hv]; simp [dI, h3]
    · exact hL _ (i + 1) 0 ⟨by omega, by rw [← hv]; simp [dI, h3]⟩ (by omega) (by simp -implicitDefEqProofs (maxSteps := 4000000) only [go_sem])
  · simp -implicitDefEqProofs (maxSteps := 4000000) only [go_sem]; rw [← hv, eqL_end (i := i) (by omega) (by omega)]
theorem lists_ct (a b : List (List Int)) (ha : a.length ≤ 1048576) (hel : ∀ x ∈ a, x.length ≤ 1048576) : Ct Try.prog 53 [.d (.lst (a.map (fun r => D.lst (r.map D.int)))), .d (.lst (b.map (fun r => D.lst (r.map D.int))))] [] (fun _ : Unit => True) (fun _ => .bool (eqL dL a b)) (fun _ => []) := by
  refine ct_go tyOk Try.func53 rfl (by decide +kernel) Try.ntmps53 rfl (fun _ _ => Nat.le_refl _) ?_
  intro K hK
  simp -implicitDefEqProofs (maxSteps := 4000000) only [go_sem]
  refine ⟨fun h => end_pure hK () trivial (by simp -implicitDefEqProofs (maxSteps := 4000000) only [go_sem, eqL_len (f := dL) (a := a) (b := b) (by omega)]), fun h => ?_⟩
  refine loop_go tyOk (fun i : Nat => ⟨fr 27 [(0, .d (.lst (a.map (fun r => D.lst (r.map D.int))))), (1, .d (.lst (b.map (fun r => D.lst (r.map D.int))))), (5, .int i)], [], 0⟩)
    (fun i => i ≤ a.length ∧ eqL dL (a.drop i) (b.drop i) = eqL dL a b) (fun i => a.length - i) 0 0 ⟨Nat.zero_le _, rfl⟩ (by simp -implicitDefEqProofs (maxSteps := 4000000) only [go_sem]) ?_
  rintro i ⟨hi, hv⟩ L hL
  simp -implicitDefEqProofs (maxSteps := 4000000) only [go_sem]
  refine ⟨fun h2 => ?_, fun h2 => end_pure hK () trivial ?_⟩
  · refine draw_rule tyOk (by kernel_rfl) [0, 1, 2, 3, 4, 5, 6, 7, 8, 9] (by kernel_rfl) ?_
    simp -implicitDefEqProofs (maxSteps := 4000000) only [go_sem]
    refine ⟨by omega, fun x hx => ⟨by omega, fun y hy => ?_⟩⟩
    have hw : wr .i64 ((i : Int) + 1) = ((i + 1 : Nat) : Int) := by rw [wr_in (by omega)]; omega
    rw [eqL_at hx hy] at hv
    refine calm_data [.lst (x.map D.int), .lst (y.map D.int)] (ints_ct x y (hel x (List.mem_of_getElem? hx))) rfl fun _ _ => ?_
    simp -implicitDefEqProofs (maxSteps := 4000000) only [go_sem, hw]
    refine ⟨fun h3 => end_pure hK () trivial ?_, fun h3 => ?_⟩
    · have h4 : eqL dI x y = false := by simpa using h3
      simp -implicitDefEqProofs (maxSteps := 4000000) only [go_sem]; rw [← hv]; simp [dL, h4]
    · have h4 : eqL dI x y = true := by simpa using h3
      exact hL _ (i + 1) 0 ⟨by omega, by rw [← hv]; simp [dL, h4]⟩ (by omega) (by simp -implicitDefEqProofs (maxSteps := 4000000) only [go_sem])
  · simp -implicitDefEqProofs (maxSteps := 4000000) only [go_sem]; rw [← hv, eqL_end (i := i) (by omega) (by omega)]
theorem eqTextS_ct (a b : List ByteArray) (ha : a.length ≤ 1048576) : Ct Try.prog 57 [.d (.lst (a.map D.str)), .d (.lst (b.map D.str))] [] (fun _ : Unit => True) (fun _ => .bool (eqL dT a b)) (fun _ => []) := by
  refine ct_go tyOk Try.func57 rfl (by decide +kernel) Try.ntmps57 rfl (fun _ _ => Nat.le_refl _) ?_
  intro K hK
  simp -implicitDefEqProofs (maxSteps := 4000000) only [go_sem]
  refine ⟨fun h => end_pure hK () trivial (by simp -implicitDefEqProofs (maxSteps := 4000000) only [go_sem, eqL_len (f := dT) (a := a) (b := b) (by omega)]), fun h => ?_⟩
  refine loop_go tyOk (fun i : Nat => ⟨fr 26 [(0, .d (.lst (a.map D.str))), (1, .d (.lst (b.map D.str))), (12, .int a.length), (13, .int i)], [], 0⟩)
    (fun i => i ≤ a.length ∧ eqL dT (a.drop i) (b.drop i) = eqL dT a b) (fun i => a.length - i) 0 0 ⟨Nat.zero_le _, rfl⟩ (by simp -implicitDefEqProofs (maxSteps := 4000000) only [go_sem]) ?_
  rintro i ⟨hi, hv⟩ L hL
  simp -implicitDefEqProofs (maxSteps := 4000000) only [go_sem]
  refine ⟨fun h2 => ?_, fun h2 => end_pure hK () trivial ?_⟩
  · refine draw_rule tyOk (by kernel_rfl) [0, 1, 2, 3, 4, 5, 6, 7, 8] (by kernel_rfl) ?_
    simp -implicitDefEqProofs (maxSteps := 4000000) only [go_sem]
    refine ⟨by omega, fun x hx => ⟨by omega, fun y hy => ?_⟩⟩
    have hw : wr .i64 ((i : Int) + 1) = ((i + 1 : Nat) : Int) := by rw [wr_in (by omega)]; omega
    rw [eqL_at hx hy] at hv
    simp -implicitDefEqProofs (maxSteps := 4000000) only [go_sem, hw]
    refine ⟨fun h3 => end_pure hK () trivial ?_, fun h3 => ?_⟩
    · simp -implicitDefEqProofs (maxSteps := 4000000) only [go_sem]; rw [← hv]; simp [dT, h3]
    · exact hL _ (i + 1) 0 ⟨by omega, by rw [← hv]; simp [dT, h3]⟩ (by omega) (by simp -implicitDefEqProofs (maxSteps := 4000000) only [go_sem])
  · simp -implicitDefEqProofs (maxSteps := 4000000) only [go_sem]; rw [← hv, eqL_end (i := i) (by omega) (by omega)]
theorem eqIntSl_ct (a b : List Int) (ha : a.length ≤ 1048576) : Ct Try.prog 58 [.d (.lst (a.map D.int)), .d (.lst (b.map D.int))] [] (fun _ : Unit => True) (fun _ => .bool (eqL dI a b)) (fun _ => []) := by
  refine ct_go tyOk Try.func58 rfl (by decide +kernel) Try.ntmps58 rfl (fun _ _ => Nat.le_refl _) ?_
  intro K hK
  simp -implicitDefEqProofs (maxSteps := 4000000) only [go_sem]
  refine ⟨fun h => end_pure hK () trivial (by simp -implicitDefEqProofs (maxSteps := 4000000) only [go_sem, eqL_len (f := dI) (a := a) (b := b) (by omega)]), fun h => ?_⟩
  refine loop_go tyOk (fun i : Nat => ⟨fr 26 [(0, .d (.lst (a.map D.int))), (1, .d (.lst (b.map D.int))), (12, .int a.length), (13, .int i)], [], 0⟩)
    (fun i => i ≤ a.length ∧ eqL dI (a.drop i) (b.drop i) = eqL dI a b) (fun i => a.length - i) 0 0 ⟨Nat.zero_le _, rfl⟩ (by simp -implicitDefEqProofs (maxSteps := 4000000) only [go_sem]) ?_
  rintro i ⟨hi, hv⟩ L hL
  simp -implicitDefEqProofs (maxSteps := 4000000) only [go_sem]
  refine ⟨fun h2 => ?_, fun h2 => end_pure hK () trivial ?_⟩
  · refine draw_rule tyOk (by kernel_rfl) [0, 1, 2, 3, 4, 5, 6, 7, 8] (by kernel_rfl) ?_
    simp -implicitDefEqProofs (maxSteps := 4000000) only [go_sem]
    refine ⟨by omega, fun x hx => ⟨by omega, fun y hy => ?_⟩⟩
    have hw : wr .i64 ((i : Int) + 1) = ((i + 1 : Nat) : Int) := by rw [wr_in (by omega)]; omega
    rw [eqL_at hx hy] at hv
    simp -implicitDefEqProofs (maxSteps := 4000000) only [go_sem, hw]
    refine ⟨fun h3 => end_pure hK () trivial ?_, fun h3 => ?_⟩
    · simp -implicitDefEqProofs (maxSteps := 4000000) only [go_sem]; rw [← hv]; simp [dI, h3]
    · exact hL _ (i + 1) 0 ⟨by omega, by rw [← hv]; simp [dI, h3]⟩ (by omega) (by simp -implicitDefEqProofs (maxSteps := 4000000) only [go_sem])
  · simp -implicitDefEqProofs (maxSteps := 4000000) only [go_sem]; rw [← hv, eqL_end (i := i) (by omega) (by omega)]
theorem eqFun_ct (a b : List (List Int)) (ha : a.length ≤ 1048576) (hel : ∀ x ∈ a, x.length ≤ 1048576) : Ct Try.prog 59 [.d (.lst (a.map (fun r => D.lst (r.map D.int)))), .d (.lst (b.map (fun r => D.lst (r.map D.int)))), .fn 58 []] [] (fun _ : Unit => True) (fun _ => .bool (eqL dL a b)) (fun _ => []) := by
  refine ct_go tyOk Try.func59 rfl (by decide +kernel) Try.ntmps59 rfl (fun _ _ => Nat.le_refl _) ?_
  intro K hK
  simp -implicitDefEqProofs (maxSteps := 4000000) only [go_sem]
  refine ⟨fun h => end_pure hK () trivial (by simp -implicitDefEqProofs (maxSteps := 4000000) only [go_sem, eqL_len (f := dL) (a := a) (b := b) (by omega)]), fun h => ?_⟩
  refine loop_go tyOk (fun i : Nat => ⟨fr 32 [(0, .d (.lst (a.map (fun r => D.lst (r.map D.int))))), (1, .d (.lst (b.map (fun r => D.lst (r.map D.int))))), (2, .fn 58 []), (15, .d (.lst (a.map (fun r => D.lst (r.map D.int))))), (16, .int a.length), (17, .int i)], [], 0⟩)
    (fun i => i ≤ a.length ∧ eqL dL (a.drop i) (b.drop i) = eqL dL a b) (fun i => a.length - i) 0 0 ⟨Nat.zero_le _, rfl⟩ (by simp -implicitDefEqProofs (maxSteps := 4000000) only [go_sem]) ?_
  rintro i ⟨hi, hv⟩ L hL
  simp -implicitDefEqProofs (maxSteps := 4000000) only [go_sem]
  refine ⟨fun h2 => ⟨by omega, fun x hx => ⟨by omega, fun y hy => ?_⟩⟩, fun h2 => end_pure hK () trivial ?_⟩
  · have hw : wr .i64 ((i : Int) + 1) = ((i + 1 : Nat) : Int) := by rw [wr_in (by omega)]; omega
    rw [eqL_at hx hy] at hv
    refine call_data [.lst (x.map D.int), .lst (y.map D.int)] (eqIntSl_ct x y (hel x (List.mem_of_getElem? hx))) rfl fun _ _ => ?_
    simp -implicitDefEqProofs (maxSteps := 4000000) only [go_sem, hw]
    refine ⟨fun h3 => end_pure hK () trivial ?_, fun h3 => ?_⟩
    · have h4 : eqL dI x y = false := by simpa using h3
      simp -implicitDefEqProofs (maxSteps := 4000000) only [go_sem]; rw [← hv]; simp [dL, h4]
    · have h4 : eqL dI x y = true := by simpa using h3
      exact hL _ (i + 1) 0 ⟨by omega, by rw [← hv]; simp [dL, h4]⟩ (by omega) (by simp -implicitDefEqProofs (maxSteps := 4000000) only [go_sem])
  · simp -implicitDefEqProofs (maxSteps := 4000000) only [go_sem]; rw [← hv, eqL_end (i := i) (by omega) (by omega)]
end Go.Proofs.Ytbbdjpmfaclnjaa
