/- FnExactAncestorsOf: the law, walked, and its row. Printed by law.py. -/
import Derived.Test.YtphneohnocljcaaRows
import Derived.Test.YtphneohnocljcaaAbV
import Derived.Test.YtphneohnocljcaaXe
import Derived.Test.YtphneohnocljcaaXt
import Derived.Test.YtphneohnocljcaaAo
import Derived.Test.YtphneohnocljcaaMu
import Derived.WalkKit
import Derived.ProofKit
import Derived.OpenShut
import Derived.ShutString
import Derived.ChangeOld
import Derived.Below
import Derived.SizedLaws
namespace Go.Proofs.Ytphneohnocljcaa
open Go Go.Ab
set_option linter.unusedVariables false
set_option linter.unusedSimpArgs false
set_option maxRecDepth 100000
set_option maxHeartbeats 4000000
theorem fnExactAncestorsOf_ct (x0 : TTree) (hx0 : x0.ok) (x1 : Int) : Ct Try.prog 9 [.d x0.E, .d (D.int x1)] [] (fun _ : Unit => True) (fun _ => .bool true) (fun _ => []) := by
  refine ct_go tyOk Try.func9 rfl (by decide +kernel) Try.ntmps9 rfl (fun _ _ => by first | exact Nat.le_refl _ | exact Nat.zero_le _ | simp) ?_
  intro K hK
  simp -implicitDefEqProofs (maxSteps := 4000000) only [go_sem]
  refine call_int [x0.E, .int 1048576] (szTree_ct x0 hx0 1048576 (by omega) (by omega)) rfl fun l1 e1 => ?_
  simp -implicitDefEqProofs (maxSteps := 4000000) only [go_sem]
  refine ⟨fun h => end_pure hK () trivial (by simp -implicitDefEqProofs (maxSteps := 4000000) only [go_sem]), fun h => ?_⟩
  have b1 := x0.sz_le 1048576 (by omega)
  have s1 : x0.sm := x0.sz_small 1048576 (by omega) (by omega) (by rw [← e1]; omega)
  have q1 : 0 ≤ x0.sz 1048576 := by rw [← e1]; omega
  rw [← e1] at b1
  have hc := Tree_cnt8 x0 1048576 (by omega) q1
  have hrl : x0.nodes_.length ≤ 1048576 := by first | exact s1.1 | exact s1
  have hlen : (ancR x0 x1).length ≤ 1048576 := by
    unfold ancR
    split
    · rename_i hk; have := anc_len x0 x1; omega
    · simp
  refine call_p (toTree_dt x0 s1) rfl fun _ _ => ?_
  simp -implicitDefEqProofs (maxSteps := 4000000) only [go_sem]
  refine call_p (specAnc_ct x0 x1 s1) rfl fun _ _ => ?_
  simp -implicitDefEqProofs (maxSteps := 4000000) only [go_sem]
  refine call_objs [] (toTree_fr x0 s1) (by simp -implicitDefEqProofs (maxSteps := 4000000) only [go_sem]; simp [O.lel, O.rens, pick]) fun v _ => ?_
  simp -implicitDefEqProofs (maxSteps := 4000000) only [go_sem]
  refine call_new (q := 1) (Ct.tree (implAnc_ct x0 x1 s1)) rfl (by simp only [lendAs]; exact ⟨_, _, rfl, lendTree (by simp), _, _, rfl, by simp [lendOk], rfl⟩) (fun _ => rfl) fun p _ => ?_
  obtain ⟨_, u⟩ := p
  generalize hnm : ancR x0 x1 = nm at *
  simp -implicitDefEqProofs (maxSteps := 4000000) only [go_sem]
  refine call_read (q := 1) (eqIntS_ct nm (by omega)) rfl (by simp [lendAs, lendOk]) (fun _ => rfl) fun _ _ => ?_
  simp -implicitDefEqProofs (maxSteps := 4000000) only [go_sem]
  refine draw_rule tyOk (by kernel_rfl) [0, 1, 2, 3, 4] (by kernel_rfl) ?_
  simp -implicitDefEqProofs (maxSteps := 4000000) only [go_sem]
  refine calm_p (toTree_dt x0 s1) rfl fun _ _ => ?_
  simp -implicitDefEqProofs (maxSteps := 4000000) only [go_sem]
  refine calm_read (q := 1) (eqTree_ct x0 s1) rfl (by simp only [lendAs]; exact ⟨_, _, rfl, lendTree (by simp), _, _, rfl, by simp [lendOk], rfl⟩) (fun _ => rfl) fun _ _ => ?_
  simp -implicitDefEqProofs (maxSteps := 4000000) only [go_sem]
  refine call_trees (q := 1) (La := []) (lc := [(v, .lst (x0.nodes_.map TNode.E))]) (Lb := [(u, .lst (nm.map D.int))]) (markTree_ct x0 s1 v 1 (by omega) (by omega)) rfl (by simp only [lendAs]; exact ⟨_, _, rfl, lendTreeR (x := x0), _, _, rfl, by simp [lendOk], rfl⟩) (fun _ => rfl) fun _ _ => ?_
  simp -implicitDefEqProofs (maxSteps := 4000000) only [go_sem]
  refine ⟨fun _ => ?_, fun g => absurd g (by omega)⟩
  refine call_read (q := 1) (eqIntS_ct nm (by omega)) rfl (by simp [lendAs, lendOk]) (fun _ => rfl) fun _ _ => ?_
  simp -implicitDefEqProofs (maxSteps := 4000000) only [go_sem]
  refine call_trees (q := 1) (La := [(v, .lst (mkDs (x0.nodes_.map TNode.E) 1))]) (lc := [(u, .lst (nm.map D.int))]) (Lb := []) (markIntS_ct nm u 1 (by omega) (by omega)) rfl (by simp [lendAs, lendOk]) (fun _ => rfl) fun _ _ => ?_
  simp -implicitDefEqProofs (maxSteps := 4000000) only [go_sem]
  refine call_read (q := 1) (heldIntS_ct nm 1 (by omega) (by omega)) rfl (by simp [lendAs, lendOk]) (fun _ => rfl) fun _ _ => ?_
  simp -implicitDefEqProofs (maxSteps := 4000000) only [go_sem]
  refine ⟨fun g => absurd g (by omega), fun _ => ?_⟩
  refine call_p (toTree_dt x0 s1) rfl fun _ _ => ?_
  simp -implicitDefEqProofs (maxSteps := 4000000) only [go_sem]
  refine call_p (Ct.dat (implAnc_ct x0 x1 s1)) rfl fun _ _ => ?_
  rw [hnm]
  simp -implicitDefEqProofs (maxSteps := 4000000) only [go_sem]
  refine call_p (eqIntS_ct nm (by omega)) rfl fun _ _ => ?_
  simp -implicitDefEqProofs (maxSteps := 4000000) only [go_sem]
  refine call_read (q := 1) (heldIntS_ct nm 1 (by omega) (by omega)) rfl (by simp [lendAs, lendOk]) (fun _ => rfl) fun _ _ => ?_
  simp -implicitDefEqProofs (maxSteps := 4000000) only [go_sem]
  refine ⟨fun g => absurd g (by omega), fun _ => ?_⟩
  exact end_pure hK () trivial (by simp -implicitDefEqProofs (maxSteps := 4000000) only [go_sem])
end Go.Proofs.Ytphneohnocljcaa
namespace Go.Proofs.Ytphneohnocljcaa.fnExactAncestorsOf
open Go Go.Ab Go.ChangeShapes Go.WideShapes Go.ChangeAt Go.RowKit
set_option linter.unusedVariables false
theorem own : ownKnob Try.prog.godebug = none := by kernel_rfl
theorem laid : laidOutB Try.prog = true := by kernel_rfl
theorem plain : plainAll Try.prog [77, 75, 131, 3, 24, 22, 9, 61, 26, 129, 144] = true := by kernel_rfl
set_option maxRecDepth 100000 in
theorem lifted (os : Os) (started : os.Started) (H : Type) (enc : TypeId × Value → H) :
    ReturnsInHanded {} Try.checked os 9 .any (Rows.fnExactAncestorsOfSpec.pre6 enc Try.prog Try.f9 Rows.fnExactAncestorsOfRow.domain false) (Rows.fnExactAncestorsOfSpec.post enc Try.prog Try.f9 false true false false) := by
  refine returnsInHanded_of_change_sized (C := Try.checked) own started (by kernel_rfl) Try.func9
    (ChangeSpec.witness6 (enc := enc) (C := Try.checked) false ⟨#[], #[.agg #[.slice none 0 0], .int .i64 0], []⟩ 8 (by kernel_rfl) (by kernel_rfl) (by kernel_rfl) (by kernel_rfl)) ?_
  intro W base args ds gs before hval0 hW hcnd hsz0 _
  have hval : ∀ (j : Nat) t v, Try.f9.params[j]? = some t → args[j]? = some v → Value.okWide Try.prog W .any base t v := hval0
  have hW' := hW
  obtain ⟨p, q, hA0, hV, rfl, hfz, hnd⟩ := hW
  have hA : DataW.TrodAll enc Try.prog W 0 (fun _ => true) true Try.f9.params.toList args.toList ds p := hA0
  rw [Try.params9] at hA hval
  obtain ⟨rfl, rfl⟩ := trodVars_none hV
  obtain ⟨l, hl, ht⟩ := open_args plain (by decide) (fun j t v h1 h2 => hval j t v (by simpa using h1) (by simpa using h2)) hA
  obtain ⟨yx0, l, rfl, tx0, ht⟩ := TDs.cons_ ht
  obtain ⟨yx1, l, rfl, tx1, ht⟩ := TDs.cons_ ht
  obtain rfl := ht.nil_
  obtain ⟨x0, rfl, hx0⟩ := of_Tree tx0
  obtain ⟨x1, rfl, _⟩ := tx1.int_ Try.underlying3
  refine (law_runs hl (fnExactAncestorsOf_ct x0 hx0 x1)).mono fun e W' ⟨he, bel⟩ => ?_
  subst he
  have hlt : ∀ x ∈ p, x.block < W.heap.size := fun x hx => by simpa using hW'.lt x (by simpa using hx)
  obtain ⟨d1, d2, rfl⟩ := list2 (trodAll_len hA)
  exact ⟨_, rfl, _, _, _, [], _, [], hW', trodAll_mk1 (shut_bool Try.underlying4 _), args_stay laid (by kernel_rfl) bel hlt hA, rfl, bel.frame _, fun h => by cases h⟩
theorem over : Rows.fnExactAncestorsOfRow.holds Try.pinned (OpenSpec.ofChange Rows.fnExactAncestorsOfSpec) :=
  OpenClaim.holds_of_wide 9 Try.f9 rfl rfl rfl rfl rfl rfl rfl ⟨rfl, rfl, rfl, rfl, rfl⟩ rfl rfl rfl rfl rfl (by kernel_rfl) Try.func9 (by kernel_rfl)
    (of_decide_eq_true (by kernel_rfl)) (by unfold Func.isWrapper; first | (rw [if_pos (by decide +kernel)]; kernel_rfl) | (rw [if_neg (by decide +kernel)]; exact ⟨rfl, rfl⟩))
    (fun os started H enc _ => lifted os started H enc)
theorem proved : Rows.FnExactAncestorsOfSaid := over
#print axioms proved
end Go.Proofs.Ytphneohnocljcaa.fnExactAncestorsOf
