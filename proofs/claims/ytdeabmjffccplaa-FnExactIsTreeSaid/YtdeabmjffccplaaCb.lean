/- Nodes of a kind, counted: the walks. -/
import Derived.Test.YtdeabmjffccplaaEc
namespace Go.Proofs.Ytdeabmjffccplaa
open Go Go.Ab
set_option linter.unusedVariables false
set_option linter.unusedSimpArgs false
set_option maxRecDepth 100000
set_option maxHeartbeats 4000000
theorem bit_ct (b : Bool) : Ct Try.prog 44 [.bool b] [] (fun _ : Unit => True) (fun _ => .int (if b then 1 else 0)) (fun _ => []) := by
  refine ct_go tyOk Try.func44 rfl (by decide +kernel) Try.ntmps44 rfl (fun _ _ => by first | exact Nat.le_refl _ | exact Nat.zero_le _ | simp) ?_
  intro K hK
  simp -implicitDefEqProofs (maxSteps := 4000000) only [go_sem]
  exact ⟨fun h => end_pure hK () trivial (by subst h; simp -implicitDefEqProofs (maxSteps := 4000000) only [go_sem]), fun h => end_pure hK () trivial (by subst h; simp -implicitDefEqProofs (maxSteps := 4000000) only [go_sem])⟩
theorem countP_more {α : Type} {l : List α} {i : Nat} {x : α} (p : α → Bool) (h : l[i]? = some x) : (l.take (i + 1)).countP p = (l.take i).countP p + (if p x then 1 else 0) := by
  rw [take_more h, List.countP_append]; simp [List.countP_cons]
theorem countP_lt {α : Type} {l : List α} {i : Nat} (p : α → Bool) : (l.take i).countP p ≤ l.length :=
  Nat.le_trans List.countP_le_length (by rw [List.length_take]; omega)
theorem specCountKind_ct (t : TTree) (q : Int) (h : t.sm) : Ct Try.prog 15 [.d t.E, .int q] [] (fun _ : Unit => True) (fun _ => .int (t.nodes_.countP fun x => dq x.kind_ q)) (fun _ => []) := by
  refine ct_go tyOk Try.func15 rfl (by decide +kernel) Try.ntmps15 rfl (fun _ _ => by first | exact Nat.le_refl _ | exact Nat.zero_le _ | simp) ?_
  intro K hK
  have h1 := h.1
  simp -implicitDefEqProofs (maxSteps := 4000000) only [go_sem]
  refine loop_st tyOk [5, 6, 7, 8, 9, 10, 11, 12, 13, 14, 15, 16, 17, 18, 19, 20, 21, 22, 23, 24] (fun i : Nat => [(6, .int i), (5, .int ((t.nodes_.take i).countP fun x => dq x.kind_ q))]) (fun i : Nat => i ≤ t.nodes_.length) (fun i : Nat => t.nodes_.length - i) 0 ?_ ?_ ?_
  · omega
  · simp -implicitDefEqProofs (maxSteps := 4000000) only [go_sem]; simp
  intro i hi L hL
  simp -implicitDefEqProofs (maxSteps := 4000000) only [go_sem]
  refine ⟨fun _ => ⟨by omega, fun x hx => ?_⟩, fun _ => end_pure hK () trivial (by simp -implicitDefEqProofs (maxSteps := 4000000) only [go_sem]; rw [List.take_of_length_le (by omega)])⟩
  refine call_p (bit_ct _) rfl fun _ _ => ?_
  have hc := countP_more (fun x : TNode => dq x.kind_ q) hx
  have hb := countP_lt (l := t.nodes_) (i := i) fun x : TNode => dq x.kind_ q
  have hw : wr .i64 (((t.nodes_.take i).countP (fun x => dq x.kind_ q) : Nat) + (if decide (x.kind_ = q) = true then 1 else 0)) = (((t.nodes_.take (i + 1)).countP fun x => dq x.kind_ q : Nat) : Int) := by
    rw [dec_dq]
    rw [wr_in (by split <;> omega), hc]; split <;> simp
  simp -implicitDefEqProofs (maxSteps := 4000000) only [go_sem, hw]
  exact hL _ (i + 1) (by omega) (by omega) (by simp -implicitDefEqProofs (maxSteps := 4000000) only [go_sem, wr_succ (i := i) (by omega)])
theorem implCountKind_ct (t : TTree) (q : Int) (h : t.sm) : Ct Try.prog 17 [.d t.E, .int q] [] (fun _ : Unit => True) (fun _ => .int (t.nodes_.countP fun x => dq x.kind_ q)) (fun _ => []) := by
  refine ct_go tyOk Try.func17 rfl (by decide +kernel) Try.ntmps17 rfl (fun _ _ => by first | exact Nat.le_refl _ | exact Nat.zero_le _ | simp) ?_
  intro K hK
  have h1 := h.1
  simp -implicitDefEqProofs (maxSteps := 4000000) only [go_sem]
  refine loop_st tyOk [5, 7, 11, 12, 13, 14, 15, 16, 17, 18, 19, 20, 21] (fun i : Nat => [(11, .int i), (5, .int ((t.nodes_.take i).countP fun x => dq x.kind_ q))]) (fun i : Nat => i ≤ t.nodes_.length) (fun i : Nat => t.nodes_.length - i) 0 ?_ ?_ ?_
  · omega
  · simp -implicitDefEqProofs (maxSteps := 4000000) only [go_sem]; simp
  intro i hi L hL
  simp -implicitDefEqProofs (maxSteps := 4000000) only [go_sem]
  refine ⟨fun _ => ⟨by omega, fun x hx => ?_⟩, fun _ => end_pure hK () trivial (by simp -implicitDefEqProofs (maxSteps := 4000000) only [go_sem]; rw [List.take_of_length_le (by omega)])⟩
  have hc := countP_more (fun x : TNode => dq x.kind_ q) hx
  have hb := countP_lt (l := t.nodes_) (i := i) fun x : TNode => dq x.kind_ q
  refine ⟨fun he => ?_, fun he => ?_⟩
  · rw [dq_eq he] at hc
    exact hL _ (i + 1) (by omega) (by omega) (by simp -implicitDefEqProofs (maxSteps := 4000000) only [go_sem, wr_succ (i := i) (by omega), wr_succ (i := (t.nodes_.take i).countP fun x => dq x.kind_ q) (by omega), hc])
  · rw [dq_ne he] at hc
    exact hL _ (i + 1) (by omega) (by omega) (by simp -implicitDefEqProofs (maxSteps := 4000000) only [go_sem, wr_succ (i := i) (by omega), hc])
end Go.Proofs.Ytdeabmjffccplaa
