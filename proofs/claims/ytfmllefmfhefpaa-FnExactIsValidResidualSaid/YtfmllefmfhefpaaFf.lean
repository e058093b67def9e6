/- The program's names and IsLinear: the walks. -/
import Derived.Test.YtfmllefmfhefpaaFe
namespace Go.Proofs.Ytfmllefmfhefpaa
open Go Go.Ab
set_option linter.unusedVariables false
set_option linter.unusedSimpArgs false
set_option maxRecDepth 100000
set_option maxHeartbeats 4000000
abbrev nmObjs (q : Int) (acc : List ByteArray) : List O := [.box 3 [.int q], .box 53 [.own 2 (acc.map D.str)], .app 9 1 false]
attribute [go_sem] nmObjs
theorem nmCl_ct (q : Int) (acc : List ByteArray) (hacc : acc.length ≤ 8388608) (e : Ex) : Ct Try.prog 190 [.d e.E, .ref 0 0, .ref 1 0] (nmObjs q acc) (fun _ : Unit => True) (fun _ => .unit) (fun _ => nmObjs q (nm1 q e acc)) := by
  refine ct_go tyOk Try.func190 rfl (by decide +kernel) Try.ntmps190 rfl (fun _ _ => Nat.le_refl _) ?_
  intro K hK
  simp -implicitDefEqProofs (maxSteps := 4000000) only [go_sem]
  refine ⟨fun h => ?_, fun h => end_gen hK () 3 trivial ?_⟩
  · refine call_pure (contains_ct acc (by omega) e.n) (by simp -implicitDefEqProofs (maxSteps := 4000000) only [go_sem]) (by simp -implicitDefEqProofs (maxSteps := 4000000) only [go_sem]) fun _ _ => ?_
    simp -implicitDefEqProofs (maxSteps := 4000000) only [go_sem]
    refine ⟨fun h2 => ?_, fun h2 => end_gen hK () 3 trivial ?_⟩
    · have hh : hasB e.n acc = false := by simpa using h2
      have hn1 : nm1 q e acc = acc ++ [e.n] := by simp [nm1, h, hh]
      refine ⟨by omega, end_gen hK () 3 trivial ?_⟩
      simp -implicitDefEqProofs (maxSteps := 4000000) only [go_sem, hn1, List.map_append]
    · have hh : hasB e.n acc = true := by simpa using h2
      have hn1 : nm1 q e acc = acc := by simp [nm1, hh]
      simp -implicitDefEqProofs (maxSteps := 4000000) only [go_sem, hn1]
  · have hn1 : nm1 q e acc = acc := by simp [nm1, h]
    simp -implicitDefEqProofs (maxSteps := 4000000) only [go_sem, hn1]
theorem visitNm_step (q : Int) (e : Ex) (he : e.sm) (ih : ∀ x ∈ e.a, ∀ acc : List ByteArray, acc.length + x.nd ≤ 8388608 → Ct Try.prog 154 [.d x.E, .fn 190 [.ref 0 0, .ref 1 0]] (nmObjs q acc) (fun _ : Unit => True) (fun _ => .unit) (fun _ => nmObjs q (nmE q x acc)))
    (acc : List ByteArray) (hacc : acc.length + e.nd ≤ 8388608) : Ct Try.prog 154 [.d e.E, .fn 190 [.ref 0 0, .ref 1 0]] (nmObjs q acc) (fun _ : Unit => True) (fun _ => .unit) (fun _ => nmObjs q (nmE q e acc)) := by
  refine ct_go tyOk Try.func154 rfl (by decide +kernel) Try.ntmps154 rfl (fun _ _ => Nat.le_refl _) ?_
  intro K hK
  have hlen := (e.sm_def.1 he).2.1
  have hdef := nmE_def q e acc
  have hn1l := nm1_len q e acc
  have hnd := e.nd_def
  simp -implicitDefEqProofs (maxSteps := 4000000) only [go_sem]
  refine call_objs [0, 1, 2] (nmCl_ct q acc (by omega) e) (by simp -implicitDefEqProofs (maxSteps := 4000000) only [go_sem]; decide) fun _ _ => ?_
  simp -implicitDefEqProofs (maxSteps := 4000000) only [go_sem]
  refine loop_go tyOk (fun i : Nat => ⟨fr 20 [(1, .fn 190 [.ref 0 0, .ref 1 0]), (2, .ref 3 0), (10, .d (.lst (e.a.map Ex.E))), (11, .int e.a.length), (12, .int i)],
         [.box 3 [.int q], .box 53 [.own 2 ((nmS q (e.a.take i) (nm1 q e acc)).map D.str)], .app 9 1 false, .box 42 [.d (.v (.int .i64 e.k)), .d (.v (.string e.n)), .d (.lst (e.a.map Ex.E))]], 3⟩)
       (fun i => i ≤ e.a.length) (fun i => e.a.length - i) 0 4 (Nat.zero_le _) ?_ ?_
  · simp -implicitDefEqProofs (maxSteps := 4000000) only [go_sem, List.take_zero, nmS]
  · intro i hi L hL
    simp -implicitDefEqProofs (maxSteps := 4000000) only [go_sem]
    refine ⟨fun h => ⟨by omega, fun x hx => ?_⟩, fun h => end_gen hK () 3 trivial ?_⟩
    · have hw : wr .i64 ((i : Int) + 1) = ((i + 1 : Nat) : Int) := by rw [wr_in (by omega)]; omega
      have h1 := nmS_take (q := q) hx (nm1 q e acc)
      have h2 := nmS_len q (e.a.take i) (nm1 q e acc)
      have h3 := Ex.nds_take_le e.a (i + 1)
      have h4 := Ex.nds_take hx
      refine call_objs [0, 1, 2] (ih x (List.mem_of_getElem? hx) (nmS q (e.a.take i) (nm1 q e acc)) (by omega)) (by simp -implicitDefEqProofs (maxSteps := 4000000) only [go_sem]; decide) fun _ _ => ?_
      simp -implicitDefEqProofs (maxSteps := 4000000) only [go_sem, hw]
      exact hL _ (i + 1) 4 (by omega) (by omega) (by simp -implicitDefEqProofs (maxSteps := 4000000) only [go_sem, h1])
    · have : i = e.a.length := by omega
      subst this
      simp -implicitDefEqProofs (maxSteps := 4000000) only [go_sem, List.take_length, hdef]
theorem visitNm_ct (q : Int) (e : Ex) : e.sm → ∀ acc : List ByteArray, acc.length + e.nd ≤ 8388608 → Ct Try.prog 154 [.d e.E, .fn 190 [.ref 0 0, .ref 1 0]] (nmObjs q acc) (fun _ : Unit => True) (fun _ => .unit) (fun _ => nmObjs q (nmE q e acc)) := by
  induction e using Ex.ind2 with
  | h e ih => exact fun h acc hacc => visitNm_step q e h (fun x hx acc ha => ih x hx ((e.sm_def.1 h).2.2 x hx) acc ha) acc hacc
theorem namesOf_ct (q : Int) (e : Ex) (he : e.sm) (hn : e.nd ≤ 4194304) : Ct Try.prog 159 [.d e.E, .int q] [] (fun _ : Unit => True) (fun _ => .d (.lst ((nmE q e []).map D.str))) (fun _ => []) := by
  refine ct_go tyOk Try.func159 rfl (by decide +kernel) Try.ntmps159 rfl (fun _ _ => Nat.zero_le _) ?_
  intro K hK
  simp -implicitDefEqProofs (maxSteps := 4000000) only [go_sem]
  refine callVC_le (t' := fr 10 [(5, .ref 2 0)]) (h' := [.box 42 [.d (.v (.int .i64 e.k)), .d (.v (.string e.n)), .d (.lst (e.a.map Ex.E))], .box 3 [.int q], .box 53 [.own 3 []], .app 9 1 false])
    (args' := [.d e.E, .fn 190 [.ref 1 0, .ref 2 0]]) 3 (by simp -implicitDefEqProofs (maxSteps := 4000000) only [go_sem]) rfl ?_
  simp -implicitDefEqProofs (maxSteps := 4000000) only [go_sem]
  refine call_objs [1, 2, 3] (visitNm_ct q e he [] (by simp; omega)) (by simp -implicitDefEqProofs (maxSteps := 4000000) only [go_sem]; decide) fun _ _ => ?_
  simp -implicitDefEqProofs (maxSteps := 4000000) only [go_sem]
  exact end_pure hK () trivial (by simp -implicitDefEqProofs (maxSteps := 4000000) only [go_sem])
theorem implVars_ct (e : Ex) (he : e.sm) (hn : e.nd ≤ 4194304) : Ct Try.prog 107 [.d e.E] [] (fun _ : Unit => True) (fun _ => .d (.lst ((nmE 1 e []).map D.str))) (fun _ => []) := by
  refine ct_go tyOk Try.func107 rfl (by decide +kernel) Try.ntmps107 rfl (fun _ _ => Nat.zero_le _) ?_
  intro K hK
  simp -implicitDefEqProofs (maxSteps := 4000000) only [go_sem]
  refine call_data [e.E, .int 1] (namesOf_ct 1 e he hn) rfl fun _ _ => ?_
  simp -implicitDefEqProofs (maxSteps := 4000000) only [go_sem]
  exact end_pure hK () trivial (by simp -implicitDefEqProofs (maxSteps := 4000000) only [go_sem])
end Go.Proofs.Ytfmllefmfhefpaa
