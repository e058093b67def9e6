/- Uses of a name, counted: the walks. -/
import Derived.Test.YtfmllefmfhefpaaFb
namespace Go.Proofs.Ytfmllefmfhefpaa
open Go Go.Ab
set_option linter.unusedVariables false
set_option linter.unusedSimpArgs false
set_option maxRecDepth 100000
set_option maxHeartbeats 4000000
theorem bit_ct (b : Bool) : Ct Try.prog 170 [.bool b] [] (fun _ : Unit => True) (fun _ => .int (if b then 1 else 0)) (fun _ => []) := by
  refine ct_go tyOk Try.func170 rfl (by decide +kernel) Try.ntmps170 rfl (fun _ _ => Nat.le_refl _) ?_
  intro K hK
  simp -implicitDefEqProofs (maxSteps := 4000000) only [go_sem]
  exact ⟨fun h => end_pure hK () trivial (by subst h; simp -implicitDefEqProofs (maxSteps := 4000000) only [go_sem]), fun h => end_pure hK () trivial (by subst h; simp -implicitDefEqProofs (maxSteps := 4000000) only [go_sem])⟩
theorem specCount_step (nm : ByteArray) (e : Ex) (he : e.sm) (hn : e.nd ≤ 4194304) (ih : ∀ x ∈ e.a, Ct Try.prog 144 [.d x.E, .str nm] [] (fun _ : Unit => True) (fun _ => .int (x.sum (isUse nm))) (fun _ => [])) :
    Ct Try.prog 144 [.d e.E, .str nm] [] (fun _ : Unit => True) (fun _ => .int (e.sum (isUse nm))) (fun _ => []) := by
  refine ct_go tyOk Try.func144 rfl (by decide +kernel) Try.ntmps144 rfl (fun _ _ => Nat.le_refl _) ?_
  intro K hK
  have hlen := (e.sm_def.1 he).2.1
  have hsum : e.sum (isUse nm) = isUse nm e + Ex.sums (isUse nm) e.a := Ex.sum_def _ _
  have hle := Ex.sum_le (isUse_le nm) e
  simp -implicitDefEqProofs (maxSteps := 4000000) only [go_sem]
  refine ⟨fun h => ?_, fun h => ?_⟩ <;>
    (refine call_data [.bool _] (bit_ct _) rfl fun _ _ => ?_
     simp -implicitDefEqProofs (maxSteps := 4000000) only [go_sem]
     refine loop_go tyOk (fun i : Nat => ⟨fr 34 [(1, .str nm), (2, .ref 0 0), (5, .int (isUse nm e + Ex.sums (isUse nm) (e.a.take i) : Nat)), (6, .int i)],
         [.box 42 [.d (.v (.int .i64 e.k)), .d (.v (.string e.n)), .d (.lst (e.a.map Ex.E))]], 0⟩)
       (fun i => i ≤ e.a.length) (fun i => e.a.length - i) 0 1 (Nat.zero_le _) ?_ ?_
     · simp -implicitDefEqProofs (maxSteps := 4000000) only [go_sem, List.take_zero, Ex.sums, isUse, h]
       try (split <;> simp_all)
     · intro i hi L hL
       simp -implicitDefEqProofs (maxSteps := 4000000) only [go_sem]
       refine ⟨fun h => ⟨by omega, fun x hx => ?_⟩, fun h => end_pure hK () trivial ?_⟩
       · have hw : wr .i64 ((i : Int) + 1) = ((i + 1 : Nat) : Int) := by rw [wr_in (by omega)]; omega
         refine call_data [x.E, .str nm] (ih x (List.mem_of_getElem? hx)) rfl fun _ _ => ?_
         have h1 := Ex.sums_take (f := isUse nm) hx
         have h2 := Ex.sums_le (isUse_le nm) (e.a.take (i + 1))
         have h3 := Ex.nds_take_le e.a (i + 1)
         have h4 := e.nd_def
         have h5 := isUse_le nm e
         have hw2 : wr .i64 (((isUse nm e + Ex.sums (isUse nm) (e.a.take i) : Nat) : Int) + (x.sum (isUse nm) : Nat)) = ((isUse nm e + Ex.sums (isUse nm) (e.a.take (i + 1)) : Nat) : Int) := by
           rw [wr_in (by omega)]; omega
         simp -implicitDefEqProofs (maxSteps := 4000000) only [go_sem, hw, hw2]
         exact hL _ (i + 1) 1 (by omega) (by omega) (by simp -implicitDefEqProofs (maxSteps := 4000000) only [go_sem])
       · have : i = e.a.length := by omega
         subst this
         simp -implicitDefEqProofs (maxSteps := 4000000) only [go_sem, List.take_length, hsum])
theorem specCount_ct (nm : ByteArray) (e : Ex) : e.sm → e.nd ≤ 4194304 → Ct Try.prog 144 [.d e.E, .str nm] [] (fun _ : Unit => True) (fun _ => .int (e.sum (isUse nm))) (fun _ => []) := by
  induction e using Ex.ind2 with
  | h e ih =>
    intro h hn
    refine specCount_step nm e h hn fun x hx => ih x hx ((e.sm_def.1 h).2.2 x hx) ?_
    have h1 := Ex.nd_mem hx
    have h2 := e.nd_def
    omega
theorem useCl_ct (nm : ByteArray) (n : Nat) (hn : n ≤ 4611686018427387904) (e : Ex) : Ct Try.prog 191 [.d e.E, .ref 0 0, .ref 1 0] [.box 9 [.str nm], .box 3 [.int n]] (fun _ : Unit => True) (fun _ => .unit)
    (fun _ => [.box 9 [.str nm], .box 3 [.int (n + isUse nm e : Nat)]]) := by
  refine ct_go tyOk Try.func191 rfl (by decide +kernel) Try.ntmps191 rfl (fun _ _ => Nat.le_refl _) ?_
  intro K hK
  have hw : wr .i64 ((n : Int) + 1) = ((n + 1 : Nat) : Int) := by rw [wr_in (by omega)]; omega
  simp -implicitDefEqProofs (maxSteps := 4000000) only [go_sem, hw]
  refine ⟨fun h => ⟨fun h2 => end_gen hK () 2 trivial ?_, fun h2 => end_gen hK () 2 trivial ?_⟩, fun h => end_gen hK () 2 trivial ?_⟩
  · simp -implicitDefEqProofs (maxSteps := 4000000) only [go_sem, isUse, h, h2]
  · simp -implicitDefEqProofs (maxSteps := 4000000) only [go_sem, isUse, h, h2, and_false]
  · simp -implicitDefEqProofs (maxSteps := 4000000) only [go_sem, isUse, h, false_and]
theorem visitUse_step (nm : ByteArray) (e : Ex) (he : e.sm) (ih : ∀ x ∈ e.a, ∀ n : Nat, n + x.nd ≤ 4611686018427387904 → Ct Try.prog 154 [.d x.E, .fn 191 [.ref 0 0, .ref 1 0]] [.box 9 [.str nm], .box 3 [.int n]]
      (fun _ : Unit => True) (fun _ => .unit) (fun _ => [.box 9 [.str nm], .box 3 [.int (n + x.sum (isUse nm) : Nat)]])) (n : Nat) (hn : n + e.nd ≤ 4611686018427387904) :
    Ct Try.prog 154 [.d e.E, .fn 191 [.ref 0 0, .ref 1 0]] [.box 9 [.str nm], .box 3 [.int n]]
      (fun _ : Unit => True) (fun _ => .unit) (fun _ => [.box 9 [.str nm], .box 3 [.int (n + e.sum (isUse nm) : Nat)]]) := by
  refine ct_go tyOk Try.func154 rfl (by decide +kernel) Try.ntmps154 rfl (fun _ _ => Nat.le_refl _) ?_
  intro K hK
  have hlen := (e.sm_def.1 he).2.1
  have hsum : e.sum (isUse nm) = isUse nm e + Ex.sums (isUse nm) e.a := Ex.sum_def _ _
  have h4 := e.nd_def
  have h5 := isUse_le nm e
  simp -implicitDefEqProofs (maxSteps := 4000000) only [go_sem]
  refine call_objs [0, 1] (useCl_ct nm n (by omega) e) (by simp -implicitDefEqProofs (maxSteps := 4000000) only [go_sem]; decide) fun _ _ => ?_
  simp -implicitDefEqProofs (maxSteps := 4000000) only [go_sem]
  refine loop_go tyOk (fun i : Nat => ⟨fr 20 [(1, .fn 191 [.ref 0 0, .ref 1 0]), (2, .ref 2 0), (10, .d (.lst (e.a.map Ex.E))), (11, .int e.a.length), (12, .int i)],
         [.box 9 [.str nm], .box 3 [.int (n + isUse nm e + Ex.sums (isUse nm) (e.a.take i) : Nat)], .box 42 [.d (.v (.int .i64 e.k)), .d (.v (.string e.n)), .d (.lst (e.a.map Ex.E))]], 2⟩)
       (fun i => i ≤ e.a.length) (fun i => e.a.length - i) 0 3 (Nat.zero_le _) ?_ ?_
  · simp -implicitDefEqProofs (maxSteps := 4000000) only [go_sem, List.take_zero, Ex.sums]
  · intro i hi L hL
    simp -implicitDefEqProofs (maxSteps := 4000000) only [go_sem]
    refine ⟨fun h => ⟨by omega, fun x hx => ?_⟩, fun h => end_gen hK () 2 trivial ?_⟩
    · have hw : wr .i64 ((i : Int) + 1) = ((i + 1 : Nat) : Int) := by rw [wr_in (by omega)]; omega
      have h1 := Ex.sums_take (f := isUse nm) hx
      have h2 := Ex.nds_take hx
      have h3 := Ex.nds_take_le e.a (i + 1)
      have h6 := Ex.sums_le (isUse_le nm) (e.a.take i)
      refine call_objs [0, 1] (ih x (List.mem_of_getElem? hx) (n + isUse nm e + Ex.sums (isUse nm) (e.a.take i)) (by omega)) (by simp -implicitDefEqProofs (maxSteps := 4000000) only [go_sem]; decide) fun _ _ => ?_
      have he2 : n + isUse nm e + Ex.sums (isUse nm) (e.a.take i) + x.sum (isUse nm) = n + isUse nm e + Ex.sums (isUse nm) (e.a.take (i + 1)) := by omega
      simp -implicitDefEqProofs (maxSteps := 4000000) only [go_sem, hw, he2]
      exact hL _ (i + 1) 3 (by omega) (by omega) (by simp -implicitDefEqProofs (maxSteps := 4000000) only [go_sem])
    · have : i = e.a.length := by omega
      subst this
      simp -implicitDefEqProofs (maxSteps := 4000000) only [go_sem, List.take_length, hsum, Nat.add_assoc]
theorem visitUse_ct (nm : ByteArray) (e : Ex) : e.sm → ∀ n : Nat, n + e.nd ≤ 4611686018427387904 → Ct Try.prog 154 [.d e.E, .fn 191 [.ref 0 0, .ref 1 0]] [.box 9 [.str nm], .box 3 [.int n]]
      (fun _ : Unit => True) (fun _ => .unit) (fun _ => [.box 9 [.str nm], .box 3 [.int (n + e.sum (isUse nm) : Nat)]]) := by
  induction e using Ex.ind2 with
  | h e ih => exact fun h n hn => visitUse_step nm e h (fun x hx n hn => ih x hx ((e.sm_def.1 h).2.2 x hx) n hn) n hn
theorem implCount_ct (nm : ByteArray) (e : Ex) (he : e.sm) (hn : e.nd ≤ 4194304) : Ct Try.prog 162 [.d e.E, .str nm] [] (fun _ : Unit => True) (fun _ => .int (e.sum (isUse nm))) (fun _ => []) := by
  refine ct_go tyOk Try.func162 rfl (by decide +kernel) Try.ntmps162 rfl (fun _ _ => Nat.le_refl _) ?_
  intro K hK
  simp -implicitDefEqProofs (maxSteps := 4000000) only [go_sem]
  refine call_objs [1, 2] (visitUse_ct nm e he 0 (by omega)) (by simp -implicitDefEqProofs (maxSteps := 4000000) only [go_sem]; decide) fun _ _ => ?_
  simp -implicitDefEqProofs (maxSteps := 4000000) only [go_sem, Nat.zero_add]
  exact end_pure hK () trivial (by simp -implicitDefEqProofs (maxSteps := 4000000) only [go_sem])
end Go.Proofs.Ytfmllefmfhefpaa
