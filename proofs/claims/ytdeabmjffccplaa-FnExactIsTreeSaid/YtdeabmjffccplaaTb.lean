/- Trees: the reference's walk. -/
import Derived.Test.YtdeabmjffccplaaTa
namespace Go.Proofs.Ytdeabmjffccplaa
open Go Go.Ab
set_option linter.unusedVariables false
set_option linter.unusedSimpArgs false
set_option maxRecDepth 100000
set_option maxHeartbeats 4000000
def backOk (t : TTree) (k : Nat) (x : TNode) : Prop := (x.kind_ ≠ 7 → x.back_ = -1) ∧ (x.kind_ = 7 → x.back_ ∈ ancR t k)
def nodeS (t : TTree) (k : Nat) (x : TNode) : Prop :=
  (0 < k → (0 ≤ x.parent_ ∧ x.parent_ ≤ (k : Int) - 1) ∧ (timesT t k : Int) = 1 ∧ ∀ p, t.nodes_[x.parent_.toNat]? = some p → (k : Int) ∈ p.children_) ∧ kidsOk 0 (t.nodes_.length - 1) x.children_ ∧ backOk t k x
def specTree (t : TTree) : Prop := t.nodes_.length ≠ 0 ∧ (∀ x, t.nodes_[0]? = some x → x.parent_ = -1) ∧ (timesT t 0 : Int) = 0 ∧ ∀ k x, t.nodes_[k]? = some x → nodeS t k x
theorem dp_tt {p : Prop} : dp p = true ↔ p := by simp [dp]
theorem dp_ff {p : Prop} : dp p = false ↔ ¬ p := by simp [dp]
attribute [go_sem] dp_tt dp_ff
theorem specIsTree_ct (t : TTree) (h : t.sm) : Ct Try.prog 21 [.d t.E] [] (fun _ : Unit => True) (fun _ => .bool (dp (specTree t))) (fun _ => []) := by
  refine ct_go tyOk Try.func21 rfl (by decide +kernel) Try.ntmps21 rfl (fun _ _ => by first | exact Nat.le_refl _ | exact Nat.zero_le _ | simp) ?_
  intro K hK
  have h1 := h.1
  simp -implicitDefEqProofs (maxSteps := 4000000) only [go_sem]
  repeat' (first
    | (with_reducible refine ⟨fun _ => ?_, fun _ => ?_⟩)
    | (with_reducible refine ⟨by omega, ?_⟩)
    | (with_reducible intro _ _)
    | (refine call_p (specTimes_ct _ _ h) rfl fun _ _ => ?_; simp -implicitDefEqProofs (maxSteps := 4000000) only [go_sem])
    | (refine calm_p (specTimes_ct _ _ h) rfl fun _ _ => ?_; simp -implicitDefEqProofs (maxSteps := 4000000) only [go_sem]))
  · exact end_pure hK () trivial (by simp -implicitDefEqProofs (maxSteps := 4000000) only [go_sem]; exact (dp_f fun hk => by have := hk.2.2.1; omega).symm)
  · rename_i g0 z hz gz _ _ gt
    refine loop_st tyOk [2, 3, 4, 22, 23, 24, 25, 26, 27, 28, 29, 30, 31, 32, 33, 34, 35, 36, 37, 38, 39, 40, 41, 42, 43, 44, 45, 46, 47, 48, 49, 50, 51, 52, 53, 54, 55, 56, 57, 58, 59, 60, 61, 62, 63, 64, 65, 66, 67, 68, 69, 70, 71, 72, 73, 74, 75, 76, 77, 78, 79, 80, 81, 82, 83, 84, 85, 86, 87, 88, 89, 90] (fun k : Nat => [(3, .int k)]) (fun k : Nat => k ≤ t.nodes_.length ∧ ∀ (j : Nat) x, j < k → t.nodes_[j]? = some x → nodeS t j x) (fun k : Nat => t.nodes_.length - k) 0 ?_ ?_ ?_
    · exact ⟨by omega, fun j x hj => by omega⟩
    · simp -implicitDefEqProofs (maxSteps := 4000000) only [go_sem]
    rintro k ⟨hk, hb⟩ L hL
    simp -implicitDefEqProofs (maxSteps := 4000000) only [go_sem]
    refine ⟨fun _ => ?_, fun _ => end_pure hK () trivial (by simp -implicitDefEqProofs (maxSteps := 4000000) only [go_sem]; exact (dp_t ⟨by omega, fun x hx => by rw [hz] at hx; cases hx; exact gz, gt, fun j x hj => hb j x (by have := (List.getElem?_eq_some_iff.1 hj).1; omega) hj⟩).symm)⟩
    refine ⟨by omega, fun x hx => ?_⟩
    have hs := h.2 x (List.mem_of_getElem? hx)
    have hc := hs.2.1
    have hno : ¬ nodeS t k x → ¬ specTree t := fun a b => a (b.2.2.2 k x hx)
    have hyes : nodeS t k x → ∀ (j : Nat) z, j < k + 1 → t.nodes_[j]? = some z → nodeS t j z := fun a j z hj hz => by
      rcases Nat.lt_or_ge j k with g | g
      · exact hb j z g hz
      · obtain rfl : j = k := by omega
        obtain rfl : x = z := by rw [hx] at hz; exact Option.some.inj hz
        exact a
    have hw1 : wr .i64 ((k : Int) - 1) = (k : Int) - 1 := wr_in (by omega)
    simp -implicitDefEqProofs (maxSteps := 4000000) only [go_sem, hw1, hx]
    have hkid : ∀ (i : Nat) (p : TNode), t.nodes_[i]? = some p → p.children_.length ≤ 1073741824 := fun i p hp => by have := (h.2 p (List.mem_of_getElem? hp)).2.1; omega
    have hanc : (ancR t k).length ≤ 1073741824 := by rw [ancR]; split; have := anc_len t k; omega; simp
    repeat' (first
      | (with_reducible refine ⟨fun _ => ?_, fun _ => ?_⟩)
      | (with_reducible refine ⟨by omega, ?_⟩)
      | (with_reducible intro _ _)
      | (refine call_p (specIn_ct _ _ _) rfl fun _ _ => ?_; simp -implicitDefEqProofs (maxSteps := 4000000) only [go_sem, hw1, hx])
      | (refine calm_p (specIn_ct _ _ _) rfl fun _ _ => ?_; simp -implicitDefEqProofs (maxSteps := 4000000) only [go_sem, hw1, hx])
      | (refine call_p (specTimes_ct _ _ h) rfl fun _ _ => ?_; simp -implicitDefEqProofs (maxSteps := 4000000) only [go_sem, hw1, hx])
      | (refine calm_p (specTimes_ct _ _ h) rfl fun _ _ => ?_; simp -implicitDefEqProofs (maxSteps := 4000000) only [go_sem, hw1, hx])
      | (refine call_p (specHas_ct _ _ (hkid _ _ (by assumption))) rfl fun _ _ => ?_; simp -implicitDefEqProofs (maxSteps := 4000000) only [go_sem, hw1, hx])
      | (refine calm_p (specHas_ct _ _ (hkid _ _ (by assumption))) rfl fun _ _ => ?_; simp -implicitDefEqProofs (maxSteps := 4000000) only [go_sem, hw1, hx])
      | (refine call_p (specChildren_ct _ _ h hc) rfl fun _ _ => ?_; simp -implicitDefEqProofs (maxSteps := 4000000) only [go_sem, hw1, hx])
      | (refine calm_p (specChildren_ct _ _ h hc) rfl fun _ _ => ?_; simp -implicitDefEqProofs (maxSteps := 4000000) only [go_sem, hw1, hx])
      | (refine call_p (specAnc_ct _ _ h) rfl fun _ _ => ?_; simp -implicitDefEqProofs (maxSteps := 4000000) only [go_sem, hw1, hx])
      | (refine calm_p (specAnc_ct _ _ h) rfl fun _ _ => ?_; simp -implicitDefEqProofs (maxSteps := 4000000) only [go_sem, hw1, hx])
      | (refine call_p (specHas_ct _ _ hanc) rfl fun _ _ => ?_; simp -implicitDefEqProofs (maxSteps := 4000000) only [go_sem, hw1, hx])
      | (refine calm_p (specHas_ct _ _ hanc) rfl fun _ _ => ?_; simp -implicitDefEqProofs (maxSteps := 4000000) only [go_sem, hw1, hx])
      | (refine draw_rule tyOk (by kernel_rfl) [0, 1, 2, 3, 4, 5, 6, 7, 8, 9, 10, 11, 12, 13, 14, 15, 16, 17, 18, 19, 20, 21, 23, 24, 22, 25, 26, 27, 28] (by decide +kernel) ?_; simp -implicitDefEqProofs (maxSteps := 4000000) only [go_sem, hw1, hx]))
    all_goals first
      | omega
      | exact end_pure hK () trivial (by simp -implicitDefEqProofs (maxSteps := 4000000) only [go_sem]; exact (dp_f (hno (by clear hK hL hyes hno hb hkid hanc; simp only [nodeS, backOk]; grind))).symm)
      | exact hL _ (k + 1) ⟨by omega, hyes (by clear hK hL hyes hno hb hkid hanc; simp only [nodeS, backOk]; grind)⟩ (by omega) (by simp -implicitDefEqProofs (maxSteps := 4000000) only [go_sem, wr_succ (i := k) (by omega)])
  · rename_i g0 z hz gz
    exact end_pure hK () trivial (by simp -implicitDefEqProofs (maxSteps := 4000000) only [go_sem]; exact (dp_f fun hk => gz (hk.2.1 z hz)).symm)
  · exact end_pure hK () trivial (by simp -implicitDefEqProofs (maxSteps := 4000000) only [go_sem]; exact (dp_f fun hk => by have := hk.1; omega).symm)
end Go.Proofs.Ytdeabmjffccplaa
