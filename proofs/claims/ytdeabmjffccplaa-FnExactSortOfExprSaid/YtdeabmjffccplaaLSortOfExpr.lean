/- FnExactSortOfExpr: the law, walked, and its row. Printed by law.py. -/
import Derived.Test.YtdeabmjffccplaaRows
import Derived.Test.YtdeabmjffccplaaAbV
import Derived.Test.YtdeabmjffccplaaXa
import Derived.Test.YtdeabmjffccplaaXc
import Derived.Test.YtdeabmjffccplaaSc
import Derived.WalkKit
import Derived.ProofKit
import Derived.OpenShut
import Derived.ShutString
import Derived.ChangeOld
import Derived.Below
import Derived.SizedLaws
namespace Go.Proofs.Ytdeabmjffccplaa
open Go Go.Ab
set_option linter.unusedVariables false
set_option linter.unusedSimpArgs false
set_option maxRecDepth 100000
set_option maxHeartbeats 4000000
theorem fnExactSortOfExpr_ct (x0 : TSorts) (hx0 : x0.ok) (x1 : Ex) (hx1 : x1.ok) (x2 : List TTyping) (hx2 : (x2.length ≤ 9223372036854775807 ∧ ∀ y ∈ x2, y.ok)) : Ct Try.prog 8 [.d x0.E, .d x1.E, .d (.lst (x2.map TTyping.E))] [] (fun _ : Unit => True) (fun _ => .bool true) (fun _ => []) := by
  refine ct_go tyOk Try.func8 rfl (by decide +kernel) Try.ntmps8 rfl (fun _ _ => by first | exact Nat.le_refl _ | exact Nat.zero_le _ | simp) ?_
  intro K hK
  simp -implicitDefEqProofs (maxSteps := 4000000) only [go_sem]
  refine call_int [x0.E, .int 1048576] (szSorts_ct x0 hx0 1048576 (by omega) (by omega)) rfl fun l1 e1 => ?_
  simp -implicitDefEqProofs (maxSteps := 4000000) only [go_sem]
  refine ⟨fun h => end_pure hK () trivial (by simp -implicitDefEqProofs (maxSteps := 4000000) only [go_sem]), fun h => ?_⟩
  have b1 := x0.sz_le 1048576 (by omega)
  have s1 : x0.sm := x0.sz_small 1048576 (by omega) (by omega) (by rw [← e1]; omega)
  have q1 : 0 ≤ x0.sz 1048576 := by rw [← e1]; omega
  rw [← e1] at b1
  refine call_int [x1.E, .int l1] (szExpr_ct x1 hx1 l1 (by omega) (by omega)) rfl fun l2 e2 => ?_
  simp -implicitDefEqProofs (maxSteps := 4000000) only [go_sem]
  refine ⟨fun h => end_pure hK () trivial (by simp -implicitDefEqProofs (maxSteps := 4000000) only [go_sem]), fun h => ?_⟩
  have b2 := szE_le x1 l1 (by omega)
  have s2 : x1.sm := szE_sm x1 l1 (by omega) (by omega) (by rw [← e2]; omega)
  have n2 := szE_nd x1 l1 (by omega) (by rw [← e2]; omega)
  rw [← e2] at b2 n2
  refine call_int [(.lst (x2.map TTyping.E)), .int l2] (szTypingS_ct x2 hx2 l2 (by omega) (by omega)) rfl fun l3 e3 => ?_
  simp -implicitDefEqProofs (maxSteps := 4000000) only [go_sem]
  refine ⟨fun h => end_pure hK () trivial (by simp -implicitDefEqProofs (maxSteps := 4000000) only [go_sem]), fun h => ?_⟩
  have b3 := szL_le (f := TTyping.sz) (a := x2) (fun y _ => (fun l h => (y.sz_le l h).2)) l2 (by omega)
  have s3 := szL_small (f := TTyping.sz) (sm := fun y => y.sm) (a := x2) (fun y _ => (fun l h => (y.sz_le l h).2)) (fun y _ => (fun l h0 h1 h2 => y.sz_small l h0 h1 h2)) l2 (by omega) (by omega) (by rw [← e3]; omega)
  rw [← e3] at b3
  repeat' (first
    | (with_reducible refine ⟨fun _ => ?_, fun _ => ?_⟩)
    | (with_reducible refine ⟨by omega, ?_⟩)
    | (with_reducible intro _ _)
    | (refine call_p (specSort_ct _ _ s1 s3.1 _ s2) rfl fun _ _ => ?_; simp -implicitDefEqProofs (maxSteps := 4000000) only [go_sem])
    | (refine calm_p (specSort_ct _ _ s1 s3.1 _ s2) rfl fun _ _ => ?_; simp -implicitDefEqProofs (maxSteps := 4000000) only [go_sem])
    | (refine call_p (implSort_ct _ _ s1 s3.1 _ s2) rfl fun _ _ => ?_; simp -implicitDefEqProofs (maxSteps := 4000000) only [go_sem])
    | (refine calm_p (implSort_ct _ _ s1 s3.1 _ s2) rfl fun _ _ => ?_; simp -implicitDefEqProofs (maxSteps := 4000000) only [go_sem])
    | (refine call_p (toExpr_ct _ (by assumption)) rfl fun _ _ => ?_; simp -implicitDefEqProofs (maxSteps := 4000000) only [go_sem])
    | (refine calm_p (toExpr_ct _ (by assumption)) rfl fun _ _ => ?_; simp -implicitDefEqProofs (maxSteps := 4000000) only [go_sem])
    | (refine call_p (toSorts_ct _ (by assumption)) rfl fun _ _ => ?_; simp -implicitDefEqProofs (maxSteps := 4000000) only [go_sem])
    | (refine calm_p (toSorts_ct _ (by assumption)) rfl fun _ _ => ?_; simp -implicitDefEqProofs (maxSteps := 4000000) only [go_sem])
    | (refine call_p (toTypingS_ct _ (by assumption)) rfl fun _ _ => ?_; simp -implicitDefEqProofs (maxSteps := 4000000) only [go_sem])
    | (refine calm_p (toTypingS_ct _ (by assumption)) rfl fun _ _ => ?_; simp -implicitDefEqProofs (maxSteps := 4000000) only [go_sem])
    | (refine call_p (eqExpr_ct _ (by assumption)) rfl fun _ _ => ?_; simp -implicitDefEqProofs (maxSteps := 4000000) only [go_sem])
    | (refine calm_p (eqExpr_ct _ (by assumption)) rfl fun _ _ => ?_; simp -implicitDefEqProofs (maxSteps := 4000000) only [go_sem])
    | (refine call_p (eqSorts_ct _ (by assumption)) rfl fun _ _ => ?_; simp -implicitDefEqProofs (maxSteps := 4000000) only [go_sem])
    | (refine calm_p (eqSorts_ct _ (by assumption)) rfl fun _ _ => ?_; simp -implicitDefEqProofs (maxSteps := 4000000) only [go_sem])
    | (refine call_p (eqTypingS_ct _ (by assumption)) rfl fun _ _ => ?_; simp -implicitDefEqProofs (maxSteps := 4000000) only [go_sem])
    | (refine calm_p (eqTypingS_ct _ (by assumption)) rfl fun _ _ => ?_; simp -implicitDefEqProofs (maxSteps := 4000000) only [go_sem])
    | (refine draw_rule tyOk (by kernel_rfl) [0, 2, 4, 1, 3, 5, 6, 7] (by decide +kernel) ?_; simp -implicitDefEqProofs (maxSteps := 4000000) only [go_sem])
    | (refine draw_rule tyOk (by kernel_rfl) [0, 1, 2, 3, 4] (by decide +kernel) ?_; simp -implicitDefEqProofs (maxSteps := 4000000) only [go_sem])
    | (refine draw_rule tyOk (by kernel_rfl) [0, 1, 2, 3, 4] (by decide +kernel) ?_; simp -implicitDefEqProofs (maxSteps := 4000000) only [go_sem]))
  all_goals exact end_pure hK () trivial (by simp -implicitDefEqProofs (maxSteps := 4000000) only [go_sem])
end Go.Proofs.Ytdeabmjffccplaa
namespace Go.Proofs.Ytdeabmjffccplaa.fnExactSortOfExpr
open Go Go.Ab Go.ChangeShapes Go.WideShapes Go.ChangeAt Go.RowKit
set_option linter.unusedVariables false
theorem own : ownKnob Try.prog.godebug = none := by kernel_rfl
theorem laid : laidOutB Try.prog = true := by kernel_rfl
theorem plain : plainAll Try.prog [65, 61, 9, 62, 3, 63, 27, 25, 66, 109] = true := by kernel_rfl
set_option maxRecDepth 100000 in
theorem lifted (os : Os) (started : os.Started) (H : Type) (enc : TypeId × Value → H) :
    ReturnsInHanded {} Try.checked os 8 .any (Rows.fnExactSortOfExprSpec.pre6 enc Try.prog Try.f8 Rows.fnExactSortOfExprRow.domain false) (Rows.fnExactSortOfExprSpec.post enc Try.prog Try.f8 false true false false) := by
  refine returnsInHanded_of_change_sized (C := Try.checked) own started (by kernel_rfl) Try.func8
    (ChangeSpec.witness6 (enc := enc) (C := Try.checked) false ⟨#[], #[.agg #[.slice none 0 0, .slice none 0 0, .slice none 0 0, .slice none 0 0, .slice none 0 0, .slice none 0 0, .int .i64 0], .agg #[.int .i64 0, .string ⟨#[]⟩, .slice none 0 0], .slice none 0 0], []⟩ 8 (by kernel_rfl) (by kernel_rfl) (by kernel_rfl) (by kernel_rfl)) ?_
  intro W base args ds gs before hval0 hW hcnd hsz0 _
  have hval : ∀ (j : Nat) t v, Try.f8.params[j]? = some t → args[j]? = some v → Value.okWide Try.prog W .any base t v := hval0
  have hW' := hW
  obtain ⟨p, q, hA0, hV, rfl, hfz, hnd⟩ := hW
  have hA : DataW.TrodAll enc Try.prog W 0 (fun _ => true) true Try.f8.params.toList args.toList ds p := hA0
  rw [Try.params8] at hA hval
  obtain ⟨rfl, rfl⟩ := trodVars_none hV
  obtain ⟨l, hl, ht⟩ := open_args plain (by decide) (fun j t v h1 h2 => hval j t v (by simpa using h1) (by simpa using h2)) hA
  obtain ⟨yx0, l, rfl, tx0, ht⟩ := TDs.cons_ ht
  obtain ⟨yx1, l, rfl, tx1, ht⟩ := TDs.cons_ ht
  obtain ⟨yx2, l, rfl, tx2, ht⟩ := TDs.cons_ ht
  obtain rfl := ht.nil_
  obtain ⟨x0, rfl, hx0⟩ := of_Sorts tx0
  obtain ⟨x1, rfl, hx1⟩ := of_Expr tx1
  obtain ⟨mx2, rfl, nx2, ex2⟩ := tx2.slc_ Try.underlying66
  obtain ⟨x2, rfl, sx2⟩ := sl_Typing ex2
  refine (law_runs hl (fnExactSortOfExpr_ct x0 hx0 x1 hx1 x2 ⟨by simpa [maxLen] using nx2, sx2⟩)).mono fun e W' ⟨he, bel⟩ => ?_
  subst he
  have hlt : ∀ x ∈ p, x.block < W.heap.size := fun x hx => by simpa using hW'.lt x (by simpa using hx)
  obtain ⟨d1, d2, d3, rfl⟩ := list3 (trodAll_len hA)
  exact ⟨_, rfl, _, _, _, [], _, [], hW', trodAll_mk1 (shut_bool Try.underlying4 _), args_stay laid (by kernel_rfl) bel hlt hA, rfl, bel.frame _, fun h => by cases h⟩
theorem over : Rows.fnExactSortOfExprRow.holds Try.pinned (OpenSpec.ofChange Rows.fnExactSortOfExprSpec) :=
  OpenClaim.holds_of_wide 8 Try.f8 rfl rfl rfl rfl rfl rfl rfl ⟨rfl, rfl, rfl, rfl, rfl⟩ rfl rfl rfl rfl rfl (by kernel_rfl) Try.func8 (by kernel_rfl)
    (of_decide_eq_true (by kernel_rfl)) (by unfold Func.isWrapper; first | (rw [if_pos (by decide +kernel)]; kernel_rfl) | (rw [if_neg (by decide +kernel)]; exact ⟨rfl, rfl⟩))
    (fun os started H enc _ => lifted os started H enc)
theorem proved : Rows.FnExactSortOfExprSaid := over
#print axioms proved
end Go.Proofs.Ytdeabmjffccplaa.fnExactSortOfExpr
