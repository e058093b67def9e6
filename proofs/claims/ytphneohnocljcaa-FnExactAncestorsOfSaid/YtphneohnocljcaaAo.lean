/- Ancestors: the walks. -/
import Derived.Test.YtphneohnocljcaaAbW
import Derived.Test.YtphneohnocljcaaAbZ
import Derived.Test.YtphneohnocljcaaFd
import Derived.Test.YtphneohnocljcaaAbPs
namespace Go.Proofs.Ytphneohnocljcaa
open Go Go.Ab
set_option linter.unusedVariables false
set_option linter.unusedSimpArgs false
set_option maxRecDepth 100000
set_option maxHeartbeats 4000000
theorem specIn_ct (x lo hi : Int) : Ct Try.prog 81 [.int x, .int lo, .int hi] [] (fun _ : Unit => True) (fun _ => .bool (decide (lo ≤ x ∧ x ≤ hi))) (fun _ => []) := by
  refine ct_go tyOk Try.func81 rfl (by decide +kernel) Try.ntmps81 rfl (fun _ _ => by first | exact Nat.le_refl _ | exact Nat.zero_le _ | simp) ?_
  intro K hK
  simp -implicitDefEqProofs (maxSteps := 4000000) only [go_sem]
  repeat' (first
    | (with_reducible refine ⟨fun _ => ?_, fun _ => ?_⟩)
    | (with_reducible refine ⟨by omega, ?_⟩)
    | (with_reducible intro _ _))
  all_goals exact end_pure hK () trivial (by simp -implicitDefEqProofs (maxSteps := 4000000) only [go_sem]; grind)
theorem implIn_ct (x lo hi : Int) : Ct Try.prog 100 [.int x, .int lo, .int hi] [] (fun _ : Unit => True) (fun _ => .bool (decide (lo ≤ x ∧ x ≤ hi))) (fun _ => []) := by
  refine ct_go tyOk Try.func100 rfl (by decide +kernel) Try.ntmps100 rfl (fun _ _ => by first | exact Nat.le_refl _ | exact Nat.zero_le _ | simp) ?_
  intro K hK
  simp -implicitDefEqProofs (maxSteps := 4000000) only [go_sem]
  repeat' (first
    | (with_reducible refine ⟨fun _ => ?_, fun _ => ?_⟩)
    | (with_reducible refine ⟨by omega, ?_⟩)
    | (with_reducible intro _ _))
  all_goals exact end_pure hK () trivial (by simp -implicitDefEqProofs (maxSteps := 4000000) only [go_sem]; grind)
theorem implIsNode_ct (t : TTree) (k : Int) (h : t.sm) : Ct Try.prog 83 [.d t.E, .int k] [] (fun _ : Unit => True) (fun _ => .bool (decide (0 ≤ k ∧ k ≤ t.nodes_.length - 1))) (fun _ => []) := by
  refine ct_go tyOk Try.func83 rfl (by decide +kernel) Try.ntmps83 rfl (fun _ _ => by first | exact Nat.le_refl _ | exact Nat.zero_le _ | simp) ?_
  intro K hK
  have h1 := h.1
  have hw : wr .i64 ((t.nodes_.length : Int) - 1) = t.nodes_.length - 1 := wr_in (by omega)
  simp -implicitDefEqProofs (maxSteps := 4000000) only [go_sem, hw]
  repeat' (first
    | (with_reducible refine ⟨fun _ => ?_, fun _ => ?_⟩)
    | (with_reducible refine ⟨by omega, ?_⟩)
    | (with_reducible intro _ _)
    | (refine call_p (implIn_ct _ _ _) rfl fun _ _ => ?_; simp -implicitDefEqProofs (maxSteps := 4000000) only [go_sem])
    | (refine calm_p (implIn_ct _ _ _) rfl fun _ _ => ?_; simp -implicitDefEqProofs (maxSteps := 4000000) only [go_sem]))
  exact end_pure hK () trivial (by simp -implicitDefEqProofs (maxSteps := 4000000) only [go_sem])
def par (t : TTree) (k : Int) : Int := match t.nodes_[k.toNat]? with | some x => x.parent_ | none => -1
theorem par_at {t : TTree} {k : Int} {x : TNode} (h : t.nodes_[k.toNat]? = some x) : par t k = x.parent_ := by rw [par, h]
def ancF (t : TTree) : Nat → Int → List Int
  | 0, _ => []
  | n + 1, k => if 0 ≤ par t k ∧ par t k < k then par t k :: ancF t n (par t k) else []
theorem ancF_more (t : TTree) : ∀ (n m : Nat) (k : Int), 0 ≤ k → k < n → k < m → ancF t n k = ancF t m k
  | 0, _, k, h0, h1, _ => by omega
  | _, 0, k, h0, _, h2 => by omega
  | n + 1, m + 1, k, h0, h1, h2 => by
    simp only [ancF]
    split
    · rename_i h
      rw [ancF_more t n m (par t k) h.1 (by omega) (by omega)]
    · rfl
/-- The ancestors of a node. -/
def anc (t : TTree) (k : Int) : List Int := ancF t (k.toNat + 1) k
theorem anc_go {t : TTree} {k : Int} (h0 : 0 ≤ k) (h1 : 0 ≤ par t k) (h2 : par t k < k) : anc t k = par t k :: anc t (par t k) := by
  rw [anc, ancF, if_pos ⟨h1, h2⟩, anc, ancF_more t k.toNat ((par t k).toNat + 1) (par t k) h1 (by omega) (by omega)]
theorem anc_end {t : TTree} {k : Int} (h : ¬ (0 ≤ par t k ∧ par t k < k)) : anc t k = [] := by rw [anc, ancF, if_neg h]
theorem ancF_len (t : TTree) : ∀ (n : Nat) (k : Int), (ancF t n k).length ≤ n
  | 0, _ => by simp [ancF]
  | n + 1, k => by
    simp only [ancF]
    split
    · have := ancF_len t n (par t k); simp only [List.length_cons]; omega
    · simp
theorem anc_len (t : TTree) (k : Int) : (anc t k).length ≤ k.toNat + 1 := ancF_len t _ k
/-- What AncestorsOf hands back. -/
def ancR (t : TTree) (k : Int) : List Int := if 0 ≤ k ∧ k ≤ t.nodes_.length - 1 then anc t k else []
theorem specAnc_ct (t : TTree) (k : Int) (h : t.sm) : Ct Try.prog 46 [.d t.E, .int k] [] (fun _ : Unit => True) (fun _ => .d (.lst ((ancR t k).map D.int))) (fun _ => []) := by
  refine ct_go tyOk Try.func46 rfl (by decide +kernel) Try.ntmps46 rfl (fun _ _ => by first | exact Nat.le_refl _ | exact Nat.zero_le _ | simp) ?_
  intro K hK
  have h1 := h.1
  have hw : wr .i64 ((t.nodes_.length : Int) - 1) = t.nodes_.length - 1 := wr_in (by omega)
  simp -implicitDefEqProofs (maxSteps := 4000000) only [go_sem, hw]
  repeat' (first
    | (with_reducible refine ⟨fun _ => ?_, fun _ => ?_⟩)
    | (with_reducible refine ⟨by omega, ?_⟩)
    | (with_reducible intro _ _)
    | (refine call_p (specIn_ct _ _ _) rfl fun _ _ => ?_; simp -implicitDefEqProofs (maxSteps := 4000000) only [go_sem])
    | (refine calm_p (specIn_ct _ _ _) rfl fun _ _ => ?_; simp -implicitDefEqProofs (maxSteps := 4000000) only [go_sem]))
  · rename_i hk
    have hR : ancR t k = [] := by rw [ancR, if_neg hk]
    exact end_pure hK () trivial (by simp -implicitDefEqProofs (maxSteps := 4000000) only [go_sem, hR])
  · rename_i hk x hx
    have hR : ancR t k = anc t k := by rw [ancR, if_pos hk]
    refine loop_at tyOk [1, 5, 6, 22, 23, 24, 25, 26, 27, 28, 29, 30, 31, 32, 33, 34, 35, 36, 37, 38, 39] (fun q : Int × List Int => [(1, .int q.1), (6, .int (par t q.1)), (5, .own 1 (q.2.map D.int))]) (fun q : Int × List Int => [.box 82 [.d (.lst (t.nodes_.map TNode.E))], .app 3 1 true]) (fun q : Int × List Int => (0 ≤ q.1 ∧ q.1 ≤ t.nodes_.length - 1) ∧ q.2 ++ anc t q.1 = ancR t k) (fun q : Int × List Int => q.1.toNat) (k, []) ?_ ?_ ?_
    · exact ⟨hk, by rw [hR]; rfl⟩
    · simp -implicitDefEqProofs (maxSteps := 4000000) only [go_sem, par_at hx]
    rintro ⟨cur, out⟩ ⟨hc, ho⟩ L hL
    simp only at hc ho
    have hl := congrArg List.length ho
    rw [hR, List.length_append] at hl
    have hl2 := anc_len t k
    simp -implicitDefEqProofs (maxSteps := 4000000) only [go_sem]
    refine ⟨fun g1 => ⟨fun g2 => ?_, fun g2 => ?_⟩, fun g1 => ?_⟩
    · refine ⟨by omega, by omega, fun y hy => ?_⟩
      refine hL _ (par t cur, out ++ [par t cur]) ⟨⟨g1, by omega⟩, ?_⟩ (by simp only; omega) (by simp -implicitDefEqProofs (maxSteps := 4000000) only [go_sem, par_at hy, List.map_append])
      rw [← ho, anc_go hc.1 g1 g2, List.append_assoc]; rfl
    · exact end_pure hK () trivial (by simp -implicitDefEqProofs (maxSteps := 4000000) only [go_sem]; rw [← ho, anc_end (by omega), List.append_nil])
    · exact end_pure hK () trivial (by simp -implicitDefEqProofs (maxSteps := 4000000) only [go_sem]; rw [← ho, anc_end (by omega), List.append_nil])
theorem implAnc_ct (t : TTree) (k : Int) (h : t.sm) : Ct Try.prog 48 [.d t.E, .int k] [] (fun _ : Unit => True) (fun _ => .own 0 ((ancR t k).map D.int)) (fun _ => [.app 3 1 true]) := by
  refine ct_go tyOk Try.func48 rfl (by decide +kernel) Try.ntmps48 rfl (fun _ _ => by first | exact Nat.le_refl _ | exact Nat.zero_le _ | simp) ?_
  intro K hK
  have h1 := h.1
  simp -implicitDefEqProofs (maxSteps := 4000000) only [go_sem]
  repeat' (first
    | (with_reducible refine ⟨fun _ => ?_, fun _ => ?_⟩)
    | (with_reducible refine ⟨by omega, ?_⟩)
    | (with_reducible intro _ _)
    | (refine call_p (implIsNode_ct _ _ h) rfl fun _ _ => ?_; simp -implicitDefEqProofs (maxSteps := 4000000) only [go_sem])
    | (refine calm_p (implIsNode_ct _ _ h) rfl fun _ _ => ?_; simp -implicitDefEqProofs (maxSteps := 4000000) only [go_sem]))
  · rename_i hk
    have hR : ancR t k = [] := by rw [ancR, if_neg hk]
    exact end_gen hK () 0 trivial (by simp -implicitDefEqProofs (maxSteps := 4000000) only [go_sem, hR])
  · rename_i hk x hx
    have hR : ancR t k = anc t k := by rw [ancR, if_pos hk]
    refine loop_at tyOk [1, 5, 6, 17, 18, 19, 20, 21, 22, 23, 24, 25, 26, 27, 28, 29, 30, 31, 32, 33, 34] (fun q : Int × List Int => [(1, .int q.1), (6, .int (par t q.1)), (5, .own 1 (q.2.map D.int))]) (fun q : Int × List Int => [.box 82 [.d (.lst (t.nodes_.map TNode.E))], .app 3 1 true]) (fun q : Int × List Int => (0 ≤ q.1 ∧ q.1 ≤ t.nodes_.length - 1) ∧ q.2 ++ anc t q.1 = ancR t k) (fun q : Int × List Int => q.1.toNat) (k, []) ?_ ?_ ?_
    · exact ⟨hk, by rw [hR]; rfl⟩
    · simp -implicitDefEqProofs (maxSteps := 4000000) only [go_sem, par_at hx]
    rintro ⟨cur, out⟩ ⟨hc, ho⟩ L hL
    simp only at hc ho
    have hl := congrArg List.length ho
    rw [hR, List.length_append] at hl
    have hl2 := anc_len t k
    simp -implicitDefEqProofs (maxSteps := 4000000) only [go_sem]
    refine ⟨fun g1 => ⟨fun g2 => ?_, fun g2 => ?_⟩, fun g1 => ?_⟩
    · refine ⟨by omega, by omega, fun y hy => ?_⟩
      refine hL _ (par t cur, out ++ [par t cur]) ⟨⟨g1, by omega⟩, ?_⟩ (by simp only; omega) (by simp -implicitDefEqProofs (maxSteps := 4000000) only [go_sem, par_at hy, List.map_append])
      rw [← ho, anc_go hc.1 g1 g2, List.append_assoc]; rfl
    · rw [anc_end (by omega), List.append_nil] at ho
      exact end_own hK () [1] trivial (by simp -implicitDefEqProofs (maxSteps := 4000000) only [go_sem, ho]; rfl) (by simp -implicitDefEqProofs (maxSteps := 4000000) only [go_sem]) (by rfl) (by decide)
    · rw [anc_end (by omega), List.append_nil] at ho
      exact end_own hK () [1] trivial (by simp -implicitDefEqProofs (maxSteps := 4000000) only [go_sem, ho]; rfl) (by simp -implicitDefEqProofs (maxSteps := 4000000) only [go_sem]) (by rfl) (by decide)
end Go.Proofs.Ytphneohnocljcaa
