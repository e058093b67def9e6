/- What an expression calls: the walks. -/
import Derived.Test.YtamicpfjieandaaFd
import Derived.Test.YtamicpfjieandaaAbX
import Derived.Test.YtamicpfjieandaaAbPs
namespace Go.Proofs.Ytamicpfjieandaa
open Go Go.Ab
set_option linter.unusedVariables false
set_option linter.unusedSimpArgs false
set_option maxRecDepth 100000
set_option maxHeartbeats 4000000
theorem l22_step (e : Ex) (he : e.sm) (ih : ∀ x ∈ e.a, ∀ acc : List ByteArray, acc.length + x.nd ≤ 8388608 → Ct Try.prog 74 [.d x.E, .own 0 (acc.map D.str)] [.app 9 1 false] (fun _ : Unit => True) (fun _ => .own 0 ((nmE 3 x acc).map D.str)) (fun _ => [.app 9 1 false]))
    (acc : List ByteArray) (hacc : acc.length + e.nd ≤ 8388608) : Ct Try.prog 74 [.d e.E, .own 0 (acc.map D.str)] [.app 9 1 false] (fun _ : Unit => True) (fun _ => .own 0 ((nmE 3 e acc).map D.str)) (fun _ => [.app 9 1 false]) := by
  refine ct_go tyOk Try.func74 rfl (by decide +kernel) Try.ntmps74 rfl (fun _ _ => Nat.le_refl _) ?_
  intro K hK
  have hlen := (e.sm_def.1 he).2.1
  have hdef := nmE_def 3 e acc
  have hn1l := nm1_len 3 e acc
  have hnd := e.nd_def
  simp -implicitDefEqProofs (maxSteps := 4000000) only [go_sem]
  refine ⟨fun h => ?a, fun h => ?b⟩
  case' a =>
    refine call_pure (indexOf_ct acc (by omega) e.n) (by simp -implicitDefEqProofs (maxSteps := 4000000) only [go_sem]) (by simp -implicitDefEqProofs (maxSteps := 4000000) only [go_sem]) fun _ _ => ?_
    simp -implicitDefEqProofs (maxSteps := 4000000) only [go_sem]
    refine ⟨fun h2 => ?c, fun h2 => ?d⟩
    case' c =>
      have hn1 : nm1 3 e acc = acc ++ [e.n] := by
        have : hasB e.n acc = false := by cases hh : hasB e.n acc with | false => rfl | true => have := hasB_pos.2 hh; omega
        simp [nm1, h, this]
      refine ⟨by omega, ?_⟩
    case' d =>
      have hn1 : nm1 3 e acc = acc := by
        have : hasB e.n acc = true := hasB_pos.1 (by omega)
        simp [nm1, this]
  case' b =>
    have hn1 : nm1 3 e acc = acc := by simp [nm1, h]
  all_goals
    refine loop_go tyOk (fun i : Nat => ⟨fr 36 [(1, .own 0 ((nmS 3 (e.a.take i) (nm1 3 e acc)).map D.str)), (2, .ref 1 0), (5, .int i)],
         [.app 9 1 false, .box 47 [.d (.v (.int .i64 e.k)), .d (.v (.string e.n)), .d (.lst (e.a.map Ex.E))]], 1⟩)
       (fun i => i ≤ e.a.length) (fun i => e.a.length - i) 0 2 (Nat.zero_le _) ?_ ?_
    · simp -implicitDefEqProofs (maxSteps := 4000000) only [go_sem, List.take_zero, nmS, hn1, List.map_append]
    · intro i hi L hL
      simp -implicitDefEqProofs (maxSteps := 4000000) only [go_sem]
      refine ⟨fun h => ⟨by omega, fun x hx => ?_⟩, fun h => end_gen hK () 1 trivial ?_⟩
      · have hw : wr .i64 ((i : Int) + 1) = ((i + 1 : Nat) : Int) := by rw [wr_in (by omega)]; omega
        have h1 := nmS_take (q := 3) hx (nm1 3 e acc)
        have h2 := nmS_len 3 (e.a.take i) (nm1 3 e acc)
        have h3 := Ex.nds_take_le e.a (i + 1)
        have h4 := Ex.nds_take hx
        refine call_objs [0] (ih x (List.mem_of_getElem? hx) (nmS 3 (e.a.take i) (nm1 3 e acc)) (by omega)) (by simp -implicitDefEqProofs (maxSteps := 4000000) only [go_sem]; decide) fun _ _ => ?_
        simp -implicitDefEqProofs (maxSteps := 4000000) only [go_sem, hw]
        exact hL _ (i + 1) 2 (by omega) (by omega) (by simp -implicitDefEqProofs (maxSteps := 4000000) only [go_sem, h1])
      · have : i = e.a.length := by omega
        subst this
        simp -implicitDefEqProofs (maxSteps := 4000000) only [go_sem, List.take_length, hdef]
theorem l22_ct (e : Ex) : e.sm → ∀ acc : List ByteArray, acc.length + e.nd ≤ 8388608 → Ct Try.prog 74 [.d e.E, .own 0 (acc.map D.str)] [.app 9 1 false] (fun _ : Unit => True) (fun _ => .own 0 ((nmE 3 e acc).map D.str)) (fun _ => [.app 9 1 false]) := by
  induction e using Ex.ind2 with
  | h e ih => exact fun h acc hacc => l22_step e h (fun x hx acc ha => ih x hx ((e.sm_def.1 h).2.2 x hx) acc ha) acc hacc
abbrev nmObjT (q : Int) (acc : List ByteArray) : List O := [.box 3 [.int q], .box 37 [.own 2 (acc.map D.str)], .app 9 1 true]
attribute [go_sem] nmObjT
theorem nmClT_ct (q : Int) (acc : List ByteArray) (hacc : acc.length ≤ 8388608) (e : Ex) : Ct Try.prog 124 [.d e.E, .ref 0 0, .ref 1 0] (nmObjT q acc) (fun _ : Unit => True) (fun _ => .unit) (fun _ => nmObjT q (nm1 q e acc)) := by
  refine ct_go tyOk Try.func124 rfl (by decide +kernel) Try.ntmps124 rfl (fun _ _ => Nat.le_refl _) ?_
  intro K hK
  simp -implicitDefEqProofs (maxSteps := 4000000) only [go_sem]
  refine ⟨fun h => ?_, fun h => end_gen hK () 3 trivial ?_⟩
  · refine call_pure (contains_ct acc (by omega) e.n) (by simp -implicitDefEqProofs (maxSteps := 4000000) only [go_sem]) (by simp -implicitDefEqProofs (maxSteps := 4000000) only [go_sem]) fun _ _ => ?_
    simp -implicitDefEqProofs (maxSteps := 4000000) only [go_sem]
    refine ⟨fun h2 => ?_, fun h2 => end_gen hK () 3 trivial ?_⟩
    · have hh : hasB e.n acc = false := by simpa using h2
      have hn1 : nm1 q e acc = acc ++ [e.n] := by simp [nm1, h, hh]
      refine ⟨by omega, end_gen hK () 3 trivial ?_⟩
      simp -implicitDefEqProofs (maxSteps := 4000000) only [go_sem, hn1, List.map_append]
    · have hh : hasB e.n acc = true := by simpa using h2
      have hn1 : nm1 q e acc = acc := by simp [nm1, hh]
      simp -implicitDefEqProofs (maxSteps := 4000000) only [go_sem, hn1]
  · have hn1 : nm1 q e acc = acc := by simp [nm1, h]
    simp -implicitDefEqProofs (maxSteps := 4000000) only [go_sem, hn1]
theorem visitNmT_step (q : Int) (e : Ex) (he : e.sm) (ih : ∀ x ∈ e.a, ∀ acc : List ByteArray, acc.length + x.nd ≤ 8388608 → Ct Try.prog 110 [.d x.E, .fn 124 [.ref 0 0, .ref 1 0]] (nmObjT q acc) (fun _ : Unit => True) (fun _ => .unit) (fun _ => nmObjT q (nmE q x acc)))
    (acc : List ByteArray) (hacc : acc.length + e.nd ≤ 8388608) : Ct Try.prog 110 [.d e.E, .fn 124 [.ref 0 0, .ref 1 0]] (nmObjT q acc) (fun _ : Unit => True) (fun _ => .unit) (fun _ => nmObjT q (nmE q e acc)) := by
  refine ct_go tyOk Try.func110 rfl (by decide +kernel) Try.ntmps110 rfl (fun _ _ => Nat.le_refl _) ?_
  intro K hK
  have hlen := (e.sm_def.1 he).2.1
  have hdef := nmE_def q e acc
  have hn1l := nm1_len q e acc
  have hnd := e.nd_def
  simp -implicitDefEqProofs (maxSteps := 4000000) only [go_sem]
  refine call_objs [0, 1, 2] (nmClT_ct q acc (by omega) e) (by simp -implicitDefEqProofs (maxSteps := 4000000) only [go_sem]; decide) fun _ _ => ?_
  simp -implicitDefEqProofs (maxSteps := 4000000) only [go_sem]
  refine loop_go tyOk (fun i : Nat => ⟨fr 20 [(1, .fn 124 [.ref 0 0, .ref 1 0]), (2, .ref 3 0), (10, .d (.lst (e.a.map Ex.E))), (11, .int e.a.length), (12, .int i)],
         [.box 3 [.int q], .box 37 [.own 2 ((nmS q (e.a.take i) (nm1 q e acc)).map D.str)], .app 9 1 true, .box 47 [.d (.v (.int .i64 e.k)), .d (.v (.string e.n)), .d (.lst (e.a.map Ex.E))]], 3⟩)
       (fun i => i ≤ e.a.length) (fun i => e.a.length - i) 0 4 (Nat.zero_le _) ?_ ?_
  · simp -implicitDefEqProofs (maxSteps := 4000000) only [go_sem, List.take_zero, nmS]
  · intro i hi L hL
    simp -implicitDefEqProofs (maxSteps := 4000000) only [go_sem]
    refine ⟨fun h => ⟨by omega, fun x hx => ?_⟩, fun h => end_gen hK () 3 trivial ?_⟩
    · have hw : wr .i64 ((i : Int) + 1) = ((i + 1 : Nat) : Int) := by rw [wr_in (by omega)]; omega
      have h1 := nmS_take (q := q) hx (nm1 q e acc)
      have h2 := nmS_len q (e.a.take i) (nm1 q e acc)
      have h3 := Ex.nds_take_le e.a (i + 1)
      have h4 := Ex.nds_take hx
      refine call_objs [0, 1, 2] (ih x (List.mem_of_getElem? hx) (nmS q (e.a.take i) (nm1 q e acc)) (by omega)) (by simp -implicitDefEqProofs (maxSteps := 4000000) only [go_sem]; decide) fun _ _ => ?_
      simp -implicitDefEqProofs (maxSteps := 4000000) only [go_sem, hw]
      exact hL _ (i + 1) 4 (by omega) (by omega) (by simp -implicitDefEqProofs (maxSteps := 4000000) only [go_sem, h1])
    · have : i = e.a.length := by omega
      subst this
      simp -implicitDefEqProofs (maxSteps := 4000000) only [go_sem, List.take_length, hdef]
theorem visitNmT_ct (q : Int) (e : Ex) : e.sm → ∀ acc : List ByteArray, acc.length + e.nd ≤ 8388608 → Ct Try.prog 110 [.d e.E, .fn 124 [.ref 0 0, .ref 1 0]] (nmObjT q acc) (fun _ : Unit => True) (fun _ => .unit) (fun _ => nmObjT q (nmE q e acc)) := by
  induction e using Ex.ind2 with
  | h e ih => exact fun h acc hacc => visitNmT_step q e h (fun x hx acc ha => ih x hx ((e.sm_def.1 h).2.2 x hx) acc ha) acc hacc
theorem namesOfT_ct (q : Int) (e : Ex) (he : e.sm) (hn : e.nd ≤ 4194304) : Ct Try.prog 112 [.d e.E, .int q] [] (fun _ : Unit => True) (fun _ => .own 0 ((nmE q e []).map D.str)) (fun _ => [.app 9 1 true]) := by
  refine ct_go tyOk Try.func112 rfl (by decide +kernel) Try.ntmps112 rfl (fun _ _ => Nat.zero_le _) ?_
  intro K hK
  simp -implicitDefEqProofs (maxSteps := 4000000) only [go_sem]
  refine callVC_le (t' := fr 10 [(5, .ref 2 0)]) (h' := [.box 47 [.d (.v (.int .i64 e.k)), .d (.v (.string e.n)), .d (.lst (e.a.map Ex.E))], .box 3 [.int q], .box 37 [.own 3 []], .app 9 1 true])
    (args' := [.d e.E, .fn 124 [.ref 1 0, .ref 2 0]]) 3 (by simp -implicitDefEqProofs (maxSteps := 4000000) only [go_sem]) rfl ?_
  simp -implicitDefEqProofs (maxSteps := 4000000) only [go_sem]
  refine call_objs [1, 2, 3] (visitNmT_ct q e he [] (by simp; omega)) (by simp -implicitDefEqProofs (maxSteps := 4000000) only [go_sem]; decide) fun _ _ => ?_
  simp -implicitDefEqProofs (maxSteps := 4000000) only [go_sem]
  exact end_own hK () [3] trivial (by simp -implicitDefEqProofs (maxSteps := 4000000) only [go_sem]; rfl) (by simp -implicitDefEqProofs (maxSteps := 4000000) only [go_sem]) (by rfl) (by decide)
theorem implCalled_ct (e : Ex) (he : e.sm) (hn : e.nd ≤ 4194304) : Ct Try.prog 76 [.d e.E] [] (fun _ : Unit => True) (fun _ => .own 0 ((nmE 3 e []).map D.str)) (fun _ => [.app 9 1 true]) := by
  refine ct_go tyOk Try.func76 rfl (by decide +kernel) Try.ntmps76 rfl (fun _ _ => by first | exact Nat.le_refl _ | exact Nat.zero_le _ | simp) ?_
  intro K hK
  simp -implicitDefEqProofs (maxSteps := 4000000) only [go_sem]
  refine call_objs [] (namesOfT_ct 3 e he hn) (by simp -implicitDefEqProofs (maxSteps := 4000000) only [go_sem]; simp [O.lel, O.rens, pick]) fun _ _ => ?_
  simp -implicitDefEqProofs (maxSteps := 4000000) only [go_sem]
  exact end_own hK () [1] trivial (by simp -implicitDefEqProofs (maxSteps := 4000000) only [go_sem]; rfl) (by simp -implicitDefEqProofs (maxSteps := 4000000) only [go_sem]) (by rfl) (by decide)
end Go.Proofs.Ytamicpfjieandaa
