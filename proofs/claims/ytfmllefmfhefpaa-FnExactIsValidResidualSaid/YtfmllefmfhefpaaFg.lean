/- IsLinear: the walks. -/
import Derived.Test.YtfmllefmfhefpaaFf
namespace Go.Proofs.Ytfmllefmfhefpaa
open Go Go.Ab
set_option linter.unusedVariables false
set_option linter.unusedSimpArgs false
set_option maxRecDepth 100000
set_option maxHeartbeats 4000000
abbrev exBox (e : Ex) : O := .box 42 [.d (.v (.int .i64 e.k)), .d (.v (.string e.n)), .d (.lst (e.a.map Ex.E))]
attribute [go_sem] exBox
theorem linCl_ct (e : Ex) (he : e.sm) (hn : e.nd ≤ 4194304) (s : ByteArray) : Ct Try.prog 161 [.str s, .ref 0 0] [exBox e] (fun _ : Unit => True) (fun _ => .bool (decide (1 < e.sum (isUse s)))) (fun _ => [exBox e]) := by
  refine ct_go tyOk Try.func161 rfl (by decide +kernel) Try.ntmps161 rfl (fun _ _ => Nat.le_refl _) ?_
  intro K hK
  simp -implicitDefEqProofs (maxSteps := 4000000) only [go_sem]
  refine call_data [e.E, .str s] (implCount_ct s e he hn) rfl fun _ _ => ?_
  simp -implicitDefEqProofs (maxSteps := 4000000) only [go_sem]
  refine end_gen hK () 1 trivial ?_
  have hd : decide ((1 : Int) < ((e.sum (isUse s) : Nat) : Int)) = decide (1 < e.sum (isUse s)) := decide_eq_decide.2 (by omega)
  simp -implicitDefEqProofs (maxSteps := 4000000) only [go_sem, hd]
theorem linIdx_ct (e : Ex) (he : e.sm) (hn : e.nd ≤ 4194304) (l : List ByteArray) (hl : l.length ≤ 8388608) : Ct Try.prog 187 [.d (.lst (l.map D.str)), .fn 161 [.ref 0 0]] [exBox e] (fun _ : Unit => True)
    (fun _ => .int (firstAt (fun s => decide (1 < e.sum (isUse s))) l)) (fun _ => [exBox e]) := by
  refine ct_go tyOk Try.func187 rfl (by decide +kernel) Try.ntmps187 rfl (fun _ _ => Nat.le_refl _) ?_
  intro K hK
  simp -implicitDefEqProofs (maxSteps := 4000000) only [go_sem]
  refine loop_go tyOk (fun i : Nat => ⟨fr 19 [(0, .d (.lst (l.map D.str))), (1, .fn 161 [.ref 0 0]), (7, .int l.length), (8, .int i)], [exBox e], 1⟩)
    (fun i => i ≤ l.length ∧ ∀ x ∈ l.take i, decide (1 < e.sum (isUse x)) = false) (fun i => l.length - i) 0 1 ⟨Nat.zero_le _, fun x hx => by simp at hx⟩ (by simp -implicitDefEqProofs (maxSteps := 4000000) only [go_sem]) ?_
  rintro i ⟨hi, hb⟩ L hL
  have hw : i < l.length → wr .i64 ((i : Int) + 1) = ((i + 1 : Nat) : Int) := fun h => by rw [wr_in (by omega)]; omega
  simp -implicitDefEqProofs (maxSteps := 4000000) only [go_sem]
  refine ⟨fun h => ⟨by omega, fun x hx => ?_⟩, fun h => end_gen hK () 1 trivial ?_⟩
  · refine call_objs [0] (linCl_ct e he hn x) (by simp -implicitDefEqProofs (maxSteps := 4000000) only [go_sem]; decide) fun _ _ => ?_
    simp -implicitDefEqProofs (maxSteps := 4000000) only [go_sem]
    refine ⟨fun h2 => end_gen hK () 1 trivial ?_, fun h2 => ?_⟩
    · simp -implicitDefEqProofs (maxSteps := 4000000) only [go_sem, firstAt_at hx (p := fun s => decide (1 < e.sum (isUse s))) (by simpa using h2) hb]
    · simp -implicitDefEqProofs (maxSteps := 4000000) only [go_sem, hw (by omega)]
      exact hL _ (i + 1) 1 ⟨by omega, mem_take_more hx hb (by simpa using h2)⟩ (by omega) (by simp -implicitDefEqProofs (maxSteps := 4000000) only [go_sem])
  · have : i = l.length := by omega
    subst this
    rw [List.take_length] at hb
    simp -implicitDefEqProofs (maxSteps := 4000000) only [go_sem, firstAt_nil hb]
theorem linHas_ct (e : Ex) (he : e.sm) (hn : e.nd ≤ 4194304) (l : List ByteArray) (hl : l.length ≤ 8388608) : Ct Try.prog 148 [.d (.lst (l.map D.str)), .fn 161 [.ref 0 0]] [exBox e] (fun _ : Unit => True)
    (fun _ => .bool (l.any fun s => decide (1 < e.sum (isUse s)))) (fun _ => [exBox e]) := by
  refine ct_go tyOk Try.func148 rfl (by decide +kernel) Try.ntmps148 rfl (fun _ _ => Nat.le_refl _) ?_
  intro K hK
  simp -implicitDefEqProofs (maxSteps := 4000000) only [go_sem]
  refine call_objs [0] (linIdx_ct e he hn l hl) (by simp -implicitDefEqProofs (maxSteps := 4000000) only [go_sem]; decide) fun _ _ => ?_
  simp -implicitDefEqProofs (maxSteps := 4000000) only [go_sem]
  refine end_gen hK () 1 trivial ?_
  simp -implicitDefEqProofs (maxSteps := 4000000) only [go_sem, firstAt_pos, Bool.decide_eq_true]
theorem implLin_ct (e : Ex) (he : e.sm) (hn : e.nd ≤ 4194304) : Ct Try.prog 109 [.d e.E] [] (fun _ : Unit => True) (fun _ => .bool (linE e)) (fun _ => []) := by
  refine ct_go tyOk Try.func109 rfl (by decide +kernel) Try.ntmps109 rfl (fun _ _ => Nat.zero_le _) ?_
  intro K hK
  have hlen := nmE_len 1 e []
  simp -implicitDefEqProofs (maxSteps := 4000000) only [go_sem]
  refine call_data [e.E] (implVars_ct e he hn) rfl fun _ _ => ?_
  simp -implicitDefEqProofs (maxSteps := 4000000) only [go_sem]
  refine call_objs [0] (linHas_ct e he hn (nmE 1 e []) (by simp at hlen; omega)) (by simp -implicitDefEqProofs (maxSteps := 4000000) only [go_sem]; decide) fun _ _ => ?_
  simp -implicitDefEqProofs (maxSteps := 4000000) only [go_sem]
  refine end_pure hK () trivial ?_
  simp -implicitDefEqProofs (maxSteps := 4000000) only [go_sem]
  unfold linE
  generalize nmE 1 e [] = l
  induction l with
  | nil => rfl
  | cons x l ih =>
    simp only [List.any_cons, List.all_cons, Bool.not_or, ih]
    congr 1
    rw [← decide_not]
    exact decide_eq_decide.2 (by omega)
end Go.Proofs.Ytfmllefmfhefpaa
