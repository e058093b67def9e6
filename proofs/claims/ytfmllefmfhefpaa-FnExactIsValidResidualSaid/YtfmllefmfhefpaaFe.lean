/- The names of an expression: the walks. -/
import Derived.Test.YtfmllefmfhefpaaFc
import Derived.Test.YtfmllefmfhefpaaFd
import Derived.Test.YtfmllefmfhefpaaAbX
namespace Go.Proofs.Ytfmllefmfhefpaa
open Go Go.Ab
set_option linter.unusedVariables false
set_option linter.unusedSimpArgs false
set_option maxRecDepth 100000
set_option maxHeartbeats 4000000
theorem l3_step (e : Ex) (he : e.sm) (ih : ∀ x ∈ e.a, ∀ acc : List ByteArray, acc.length + x.nd ≤ 8388608 → Ct Try.prog 182 [.d x.E, .own 0 (acc.map D.str)] [.app 9 1 false] (fun _ : Unit => True) (fun _ => .own 0 ((nmE 1 x acc).map D.str)) (fun _ => [.app 9 1 false]))
    (acc : List ByteArray) (hacc : acc.length + e.nd ≤ 8388608) : Ct Try.prog 182 [.d e.E, .own 0 (acc.map D.str)] [.app 9 1 false] (fun _ : Unit => True) (fun _ => .own 0 ((nmE 1 e acc).map D.str)) (fun _ => [.app 9 1 false]) := by
  refine ct_go tyOk Try.func182 rfl (by decide +kernel) Try.ntmps182 rfl (fun _ _ => Nat.le_refl _) ?_
  intro K hK
  have hlen := (e.sm_def.1 he).2.1
  have hdef := nmE_def 1 e acc
  have hn1l := nm1_len 1 e acc
  have hnd := e.nd_def
  simp -implicitDefEqProofs (maxSteps := 4000000) only [go_sem]
  refine ⟨fun h => ?a, fun h => ?b⟩
  case' a =>
    refine call_pure (indexOf_ct acc (by omega) e.n) (by simp -implicitDefEqProofs (maxSteps := 4000000) only [go_sem]) (by simp -implicitDefEqProofs (maxSteps := 4000000) only [go_sem]) fun _ _ => ?_
    simp -implicitDefEqProofs (maxSteps := 4000000) only [go_sem]
    refine ⟨fun h2 => ?c, fun h2 => ?d⟩
    case' c =>
      have hn1 : nm1 1 e acc = acc ++ [e.n] := by
        have : hasB e.n acc = false := by cases hh : hasB e.n acc with | false => rfl | true => have := hasB_pos.2 hh; omega
        simp [nm1, h, this]
      refine ⟨by omega, ?_⟩
    case' d =>
      have hn1 : nm1 1 e acc = acc := by
        have : hasB e.n acc = true := hasB_pos.1 (by omega)
        simp [nm1, this]
  case' b =>
    have hn1 : nm1 1 e acc = acc := by simp [nm1, h]
  all_goals
    refine loop_go tyOk (fun i : Nat => ⟨fr 36 [(1, .own 0 ((nmS 1 (e.a.take i) (nm1 1 e acc)).map D.str)), (2, .ref 1 0), (5, .int i)],
         [.app 9 1 false, .box 42 [.d (.v (.int .i64 e.k)), .d (.v (.string e.n)), .d (.lst (e.a.map Ex.E))]], 1⟩)
       (fun i => i ≤ e.a.length) (fun i => e.a.length - i) 0 2 (Nat.zero_le _) ?_ ?_
    · simp -implicitDefEqProofs (maxSteps := 4000000) only [go_sem, List.take_zero, nmS, hn1, List.map_append]
    · intro i hi L hL
      simp -implicitDefEqProofs (maxSteps := 4000000) only [go_sem]
      refine ⟨fun h => ⟨by omega, fun x hx => ?_⟩, fun h => end_gen hK () 1 trivial ?_⟩
      · have hw : wr .i64 ((i : Int) + 1) = ((i + 1 : Nat) : Int) := by rw [wr_in (by omega)]; omega
        have h1 := nmS_take (q := 1) hx (nm1 1 e acc)
        have h2 := nmS_len 1 (e.a.take i) (nm1 1 e acc)
        have h3 := Ex.nds_take_le e.a (i + 1)
        have h4 := Ex.nds_take hx
        refine call_objs [0] (ih x (List.mem_of_getElem? hx) (nmS 1 (e.a.take i) (nm1 1 e acc)) (by omega)) (by simp -implicitDefEqProofs (maxSteps := 4000000) only [go_sem]; decide) fun _ _ => ?_
        simp -implicitDefEqProofs (maxSteps := 4000000) only [go_sem, hw]
        exact hL _ (i + 1) 2 (by omega) (by omega) (by simp -implicitDefEqProofs (maxSteps := 4000000) only [go_sem, h1])
      · have : i = e.a.length := by omega
        subst this
        simp -implicitDefEqProofs (maxSteps := 4000000) only [go_sem, List.take_length, hdef]
theorem l3_ct (e : Ex) : e.sm → ∀ acc : List ByteArray, acc.length + e.nd ≤ 8388608 → Ct Try.prog 182 [.d e.E, .own 0 (acc.map D.str)] [.app 9 1 false] (fun _ : Unit => True) (fun _ => .own 0 ((nmE 1 e acc).map D.str)) (fun _ => [.app 9 1 false]) := by
  induction e using Ex.ind2 with
  | h e ih => exact fun h acc hacc => l3_step e h (fun x hx acc ha => ih x hx ((e.sm_def.1 h).2.2 x hx) acc ha) acc hacc
theorem specVars_ct (e : Ex) (he : e.sm) (hn : e.nd ≤ 4194304) : Ct Try.prog 140 [.d e.E] [] (fun _ : Unit => True) (fun _ => .d (.lst ((nmE 1 e []).map D.str))) (fun _ => []) := by
  refine ct_go tyOk Try.func140 rfl (by decide +kernel) Try.ntmps140 rfl (fun _ _ => Nat.zero_le _) ?_
  intro K hK
  simp -implicitDefEqProofs (maxSteps := 4000000) only [go_sem]
  refine call_objs [1] (l3_ct e he [] (by simp; omega)) (by simp -implicitDefEqProofs (maxSteps := 4000000) only [go_sem]; decide) fun _ _ => ?_
  simp -implicitDefEqProofs (maxSteps := 4000000) only [go_sem]
  exact end_pure hK () trivial (by simp -implicitDefEqProofs (maxSteps := 4000000) only [go_sem])
/-- The specification's IsLinear. -/
def linE (e : Ex) : Bool := (nmE 1 e []).all fun s => decide (e.sum (isUse s) ≤ 1)
theorem specLin_ct (e : Ex) (he : e.sm) (hn : e.nd ≤ 4194304) : Ct Try.prog 97 [.d e.E] [] (fun _ : Unit => True) (fun _ => .bool (linE e)) (fun _ => []) := by
  refine ct_go tyOk Try.func97 rfl (by decide +kernel) Try.ntmps97 rfl (fun _ _ => Nat.zero_le _) ?_
  intro K hK
  simp -implicitDefEqProofs (maxSteps := 4000000) only [go_sem]
  refine call_data [e.E] (specVars_ct e he hn) rfl fun _ _ => ?_
  have hlen := nmE_len 1 e []
  generalize hl : nmE 1 e [] = l at *
  simp -implicitDefEqProofs (maxSteps := 4000000) only [go_sem]
  refine loop_go tyOk (fun i : Nat => ⟨fr 20 [(1, .ref 0 0), (3, .d (.lst (l.map D.str))), (4, .int i)],
         [.box 42 [.d (.v (.int .i64 e.k)), .d (.v (.string e.n)), .d (.lst (e.a.map Ex.E))]], 0⟩)
       (fun i => i ≤ l.length ∧ ∀ s ∈ l.take i, e.sum (isUse s) ≤ 1) (fun i => l.length - i) 0 1 ⟨Nat.zero_le _, fun x hx => by simp at hx⟩ (by simp -implicitDefEqProofs (maxSteps := 4000000) only [go_sem]) ?_
  rintro i ⟨hi, hb⟩ L hL
  simp -implicitDefEqProofs (maxSteps := 4000000) only [go_sem]
  refine ⟨fun h => ?_, fun h => end_pure hK () trivial ?_⟩
  · have hw : wr .i64 ((i : Int) + 1) = ((i + 1 : Nat) : Int) := by rw [wr_in (by simp at hlen; omega)]; omega
    refine draw_rule tyOk (by kernel_rfl) [0, 1, 2, 3, 4, 5, 6] (by kernel_rfl) ?_
    simp -implicitDefEqProofs (maxSteps := 4000000) only [go_sem]
    refine ⟨by omega, fun s hs => ?_⟩
    refine calm_data [e.E, .str s] (specCount_ct s e he hn) rfl fun _ _ => ?_
    simp -implicitDefEqProofs (maxSteps := 4000000) only [go_sem, hw]
    refine ⟨fun h2 => end_pure hK () trivial ?_, fun h2 => ?_⟩
    · have : linE e = false := by
        unfold linE; rw [hl, List.all_eq_false]
        exact ⟨s, List.mem_of_getElem? hs, by simp; omega⟩
      simp -implicitDefEqProofs (maxSteps := 4000000) only [go_sem, this]
    · exact hL _ (i + 1) 1 ⟨by omega, fun y hy => by
        rw [take_more hs] at hy
        rcases List.mem_append.1 hy with hy | hy
        · exact hb y hy
        · rw [List.mem_singleton.1 hy]; omega⟩ (by omega) (by simp -implicitDefEqProofs (maxSteps := 4000000) only [go_sem])
  · have : i = l.length := by omega
    subst this
    have : linE e = true := by
      unfold linE; rw [hl, List.all_eq_true]
      intro s hs
      rw [List.take_length] at hb
      exact decide_eq_true (hb s hs)
    simp -implicitDefEqProofs (maxSteps := 4000000) only [go_sem, this]
end Go.Proofs.Ytfmllefmfhefpaa
