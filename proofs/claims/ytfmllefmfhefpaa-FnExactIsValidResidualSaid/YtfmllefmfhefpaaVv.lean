/- Valid programs: the specification's walk. -/
import Derived.Test.YtfmllefmfhefpaaVn
import Derived.Test.YtfmllefmfhefpaaFf
namespace Go.Proofs.Ytfmllefmfhefpaa
open Go Go.Ab
set_option linter.unusedVariables false
set_option linter.unusedSimpArgs false
set_option maxRecDepth 100000
set_option maxHeartbeats 4000000
theorem within_ct (l all : List ByteArray) (hl : l.length ≤ 1073741824) (ha : all.length ≤ 1073741824) : Ct Try.prog 139 [.d (.lst (l.map D.str)), .d (.lst (all.map D.str))] [] (fun _ : Unit => True) (fun _ => .bool (l.all fun v => hasB v all)) (fun _ => []) := by
  refine ct_go tyOk Try.func139 rfl (by decide +kernel) Try.ntmps139 rfl (fun _ _ => by first | exact Nat.le_refl _ | exact Nat.zero_le _ | simp) ?_
  intro K hK
  simp -implicitDefEqProofs (maxSteps := 4000000) only [go_sem]
  refine loop_st tyOk [4, 5, 6, 7, 8, 9, 10, 11, 12, 13, 14, 15, 16, 17, 18] (fun k : Nat => [(5, .int k)]) (fun k : Nat => k ≤ l.length ∧ ((l.take k).all fun v => hasB v all) = true) (fun k : Nat => l.length - k) 0 ?_ ?_ ?_
  · exact ⟨Nat.zero_le _, rfl⟩
  · simp -implicitDefEqProofs (maxSteps := 4000000) only [go_sem]
  rintro k ⟨hk, hb⟩ L hL
  have hw : wr .i64 ((k : Int) + 1) = ((k + 1 : Nat) : Int) := by rw [wr_in (by omega)]; omega
  simp -implicitDefEqProofs (maxSteps := 4000000) only [go_sem]
  refine ⟨fun hlt => ⟨by omega, fun x hx => ?_⟩, fun hlt => ?_⟩
  · refine call_p (indexOf_ct all (by omega) x) rfl fun _ _ => ?_
    simp -implicitDefEqProofs (maxSteps := 4000000) only [go_sem, hw]
    refine ⟨fun h2 => end_pure hK () trivial (by simp -implicitDefEqProofs (maxSteps := 4000000) only [go_sem]; symm; rw [List.all_eq_false]; exact ⟨x, List.mem_of_getElem? hx, by cases hh : hasB x all with | false => simp | true => have := hasB_pos.2 hh; omega⟩), fun h2 => ?_⟩
    exact hL _ (k + 1) ⟨by omega, by rw [take_more hx, List.all_append, hb]; simp [hasB_pos.1 (by omega : 0 ≤ firstAt (fun y => decide (y = x)) all)]⟩ (by omega) (by simp -implicitDefEqProofs (maxSteps := 4000000) only [go_sem])
  · obtain rfl : k = l.length := by omega
    rw [List.take_length] at hb
    exact end_pure hK () trivial (by simp -implicitDefEqProofs (maxSteps := 4000000) only [go_sem, hb])
def withB (r : TRule) : Bool := (nmE 1 r.body_ []).all fun v => hasB v (r.vars_ ++ r.params_)
/-- What a rule owes to the first of its function. -/
def firstB (l : List TRule) (r f : TRule) : Bool := ((decide (f.con_ = ⟨#[]⟩) == decide (r.con_ = ⟨#[]⟩)) && decide ((f.params_.length : Int) = (r.params_.length : Int))) && (decide (r.con_ = ⟨#[]⟩) || decide (conI (conAr r.con_ l) = (r.vars_.length : Int)))
def ruleS (l : List TRule) (k : Nat) (r : TRule) : Bool := headB r && (validB r.body_ && fitsB l r.body_) && withB r && decide (findR r.name_ r.con_ l = (k : Int)) && (match rule1 r.name_ l with | some f => firstB l r f | none => false)
theorem ruleS_def {l : List TRule} {k : Nat} {r f : TRule} (hf : rule1 r.name_ l = some f) : ruleS l k r = (headB r && (validB r.body_ && fitsB l r.body_) && withB r && decide (findR r.name_ r.con_ l = (k : Int)) && firstB l r f) := by rw [ruleS, hf]
theorem l5Rule_ct (p : TProgram) (h : p.sm) (k : Nat) (r : TRule) (hk : p.rules_[k]? = some r) (hn : r.body_.nd ≤ 4194304) : Ct Try.prog 96 [.d p.E, .int k] [] (fun _ : Unit => True) (fun _ => .bool (ruleS p.rules_ k r)) (fun _ => []) := by
  refine ct_go tyOk Try.func96 rfl (by decide +kernel) Try.ntmps96 rfl (fun _ _ => by first | exact Nat.le_refl _ | exact Nat.zero_le _ | simp) ?_
  intro K hK
  have hl : p.rules_.length ≤ 1048576 := by first | exact h.1 | exact h
  have hx : ∀ x ∈ p.rules_, x.sm := by first | exact h.2 | exact h
  have hs : r.sm := hx r (List.mem_of_getElem? hk)
  have hkl := (List.getElem?_eq_some_iff.1 hk).1
  have hbs : r.body_.sm := hs.2.2.2.2
  have hv1 := hs.2.2.1.1
  have hp1 := hs.2.2.2.1.1
  have hnl := nmE_len 1 r.body_ []
  simp only [List.length_nil] at hnl
  obtain ⟨f, i, hfi, hf1, hf2⟩ : ∃ (f : TRule) (i : Nat), firstR r.name_ p.rules_ = i ∧ p.rules_[i]? = some f ∧ rule1 r.name_ p.rules_ = some f := by
    rcases firstR_cases r.name_ p.rules_ with ⟨e1, e2⟩ | ⟨i, x, e1, e2, e3, e4⟩
    · exact absurd (List.find?_eq_none.1 e2 r (List.mem_of_getElem? hk)) (by simp)
    · exact ⟨x, i, e1, e2, e3⟩
  have hil := (List.getElem?_eq_some_iff.1 hf1).1
  have hrd := ruleS_def (k := k) hf2
  simp -implicitDefEqProofs (maxSteps := 4000000) only [go_sem, hk, Option.some.injEq, forall_eq']
  refine ⟨by omega, ?_⟩
  refine draw_tree tyOk (by kernel_rfl) (.alt 0 (.alt 1 (.alt 2 (.alt 3 (.alt 4 (.alt 5 (.alt 6 (.alt 7 .done .none) .none) .none) .none) (.alt 4 (.alt 3 (.alt 5 (.alt 6 (.alt 7 .done .none) .none) .none) (.alt 5 (.alt 3 (.alt 6 (.alt 7 .done .none) .none) .none) .none)) .none)) (.alt 4 (.alt 2 (.alt 3 (.alt 5 (.alt 6 (.alt 7 .done .none) .none) .none) (.alt 5 (.alt 3 (.alt 6 (.alt 7 .done .none) .none) .none) .none)) (.alt 5 (.alt 2 (.alt 3 (.alt 6 (.alt 7 .done .none) .none) .none) .none) .none)) .none)) (.alt 4 (.alt 1 (.alt 2 (.alt 3 (.alt 5 (.alt 6 (.alt 7 .done .none) .none) .none) (.alt 5 (.alt 3 (.alt 6 (.alt 7 .done .none) .none) .none) .none)) (.alt 5 (.alt 2 (.alt 3 (.alt 6 (.alt 7 .done .none) .none) .none) .none) .none)) (.alt 5 (.alt 1 (.alt 2 (.alt 3 (.alt 6 (.alt 7 .done .none) .none) .none) .none) .none) .none)) .none)) (.alt 1 (.alt 0 (.alt 2 (.alt 3 (.alt 4 (.alt 5 (.alt 6 (.alt 7 .done .none) .none) .none) .none) (.alt 4 (.alt 3 (.alt 5 (.alt 6 (.alt 7 .done .none) .none) .none) (.alt 5 (.alt 3 (.alt 6 (.alt 7 .done .none) .none) .none) .none)) .none)) (.alt 4 (.alt 2 (.alt 3 (.alt 5 (.alt 6 (.alt 7 .done .none) .none) .none) (.alt 5 (.alt 3 (.alt 6 (.alt 7 .done .none) .none) .none) .none)) (.alt 5 (.alt 2 (.alt 3 (.alt 6 (.alt 7 .done .none) .none) .none) .none) .none)) .none)) (.alt 2 (.alt 0 (.alt 3 (.alt 4 (.alt 5 (.alt 6 (.alt 7 .done .none) .none) .none) .none) (.alt 4 (.alt 3 (.alt 5 (.alt 6 (.alt 7 .done .none) .none) .none) (.alt 5 (.alt 3 (.alt 6 (.alt 7 .done .none) .none) .none) .none)) .none)) (.alt 4 (.alt 0 (.alt 3 (.alt 5 (.alt 6 (.alt 7 .done .none) .none) .none) (.alt 5 (.alt 3 (.alt 6 (.alt 7 .done .none) .none) .none) .none)) (.alt 5 (.alt 0 (.alt 3 (.alt 6 (.alt 7 .done .none) .none) .none) .none) .none)) .none)) (.alt 4 (.alt 0 (.alt 2 (.alt 3 (.alt 5 (.alt 6 (.alt 7 .done .none) .none) .none) (.alt 5 (.alt 3 (.alt 6 (.alt 7 .done .none) .none) .none) .none)) (.alt 5 (.alt 2 (.alt 3 (.alt 6 (.alt 7 .done .none) .none) .none) .none) .none)) (.alt 2 (.alt 0 (.alt 3 (.alt 5 (.alt 6 (.alt 7 .done .none) .none) .none) (.alt 5 (.alt 3 (.alt 6 (.alt 7 .done .none) .none) .none) .none)) (.alt 5 (.alt 0 (.alt 3 (.alt 6 (.alt 7 .done .none) .none) .none) .none) .none)) (.alt 5 (.alt 0 (.alt 2 (.alt 3 (.alt 6 (.alt 7 .done .none) .none) .none) .none) (.alt 2 (.alt 0 (.alt 3 (.alt 6 (.alt 7 .done .none) .none) .none) .none) .none)) .none))) .none))) (.alt 4 (.alt 0 (.alt 1 (.alt 2 (.alt 3 (.alt 5 (.alt 6 (.alt 7 .done .none) .none) .none) (.alt 5 (.alt 3 (.alt 6 (.alt 7 .done .none) .none) .none) .none)) (.alt 5 (.alt 2 (.alt 3 (.alt 6 (.alt 7 .done .none) .none) .none) .none) .none)) (.alt 5 (.alt 1 (.alt 2 (.alt 3 (.alt 6 (.alt 7 .done .none) .none) .none) .none) .none) .none)) (.alt 1 (.alt 0 (.alt 2 (.alt 3 (.alt 5 (.alt 6 (.alt 7 .done .none) .none) .none) (.alt 5 (.alt 3 (.alt 6 (.alt 7 .done .none) .none) .none) .none)) (.alt 5 (.alt 2 (.alt 3 (.alt 6 (.alt 7 .done .none) .none) .none) .none) .none)) (.alt 2 (.alt 0 (.alt 3 (.alt 5 (.alt 6 (.alt 7 .done .none) .none) .none) (.alt 5 (.alt 3 (.alt 6 (.alt 7 .done .none) .none) .none) .none)) (.alt 5 (.alt 0 (.alt 3 (.alt 6 (.alt 7 .done .none) .none) .none) .none) .none)) (.alt 5 (.alt 0 (.alt 2 (.alt 3 (.alt 6 (.alt 7 .done .none) .none) .none) .none) (.alt 2 (.alt 0 (.alt 3 (.alt 6 (.alt 7 .done .none) .none) .none) .none) .none)) .none))) (.alt 5 (.alt 0 (.alt 1 (.alt 2 (.alt 3 (.alt 6 (.alt 7 .done .none) .none) .none) .none) .none) (.alt 1 (.alt 0 (.alt 2 (.alt 3 (.alt 6 (.alt 7 .done .none) .none) .none) .none) (.alt 2 (.alt 0 (.alt 3 (.alt 6 (.alt 7 .done .none) .none) .none) .none) .none)) .none)) .none))) .none))) (by decide +kernel) ?_
  simp -implicitDefEqProofs (maxSteps := 4000000) only [go_sem]
  refine ⟨by omega, by omega, ?_⟩
  rw [← List.map_append]
  have hall : (r.vars_ ++ r.params_).length ≤ 2097152 := by rw [List.length_append]; omega
  repeat' (first
    | (with_reducible refine ⟨fun _ => ?_, fun _ => ?_⟩)
    | (with_reducible refine ⟨by omega, ?_⟩)
    | (with_reducible intro _ _)
    | (refine call_p (sHead_ct r hs) rfl fun _ _ => ?_; simp -implicitDefEqProofs (maxSteps := 4000000) only [go_sem])
    | (refine calm_p (sHead_ct r hs) rfl fun _ _ => ?_; simp -implicitDefEqProofs (maxSteps := 4000000) only [go_sem])
    | (refine call_p (exprFor_ct p h r.body_ hbs hn) rfl fun _ _ => ?_; simp -implicitDefEqProofs (maxSteps := 4000000) only [go_sem])
    | (refine calm_p (exprFor_ct p h r.body_ hbs hn) rfl fun _ _ => ?_; simp -implicitDefEqProofs (maxSteps := 4000000) only [go_sem])
    | (refine call_p (specVars_ct r.body_ hbs hn) rfl fun _ _ => ?_; simp -implicitDefEqProofs (maxSteps := 4000000) only [go_sem])
    | (refine calm_p (specVars_ct r.body_ hbs hn) rfl fun _ _ => ?_; simp -implicitDefEqProofs (maxSteps := 4000000) only [go_sem])
    | (refine call_pure (within_ct (nmE 1 r.body_ []) (r.vars_ ++ r.params_) (by omega) (by omega)) (by simp -implicitDefEqProofs (maxSteps := 4000000) only [go_sem]) (by simp -implicitDefEqProofs (maxSteps := 4000000) only [go_sem]) fun _ _ => ?_; simp -implicitDefEqProofs (maxSteps := 4000000) only [go_sem])
    | (refine call_p (sFind_ct p h _ _) rfl fun _ _ => ?_; simp -implicitDefEqProofs (maxSteps := 4000000) only [go_sem])
    | (refine calm_p (sFind_ct p h _ _) rfl fun _ _ => ?_; simp -implicitDefEqProofs (maxSteps := 4000000) only [go_sem]))
  all_goals first
    | exact end_pure hK () trivial (by
        have hno : ruleS p.rules_ k r = false := by
          rw [hrd]
          first
            | (rw [show headB r = false by assumption]; simp)
            | (rw [show (validB r.body_ && fitsB p.rules_ r.body_) = false by assumption]; simp)
            | (rw [show withB r = false by unfold withB; assumption]; simp)
            | (rw [show decide (findR r.name_ r.con_ p.rules_ = (k : Int)) = false from decide_eq_false (by assumption)]; simp)
        simp -implicitDefEqProofs (maxSteps := 4000000) only [go_sem, hno])
    | skip
  have hpre : headB r = true ∧ (validB r.body_ && fitsB p.rules_ r.body_) = true ∧ withB r = true ∧ findR r.name_ r.con_ p.rules_ = (k : Int) := ⟨by assumption, by assumption, by unfold withB; assumption, by first | assumption | (apply Classical.byContradiction; intro hh; contradiction)⟩
  have hrd2 : ruleS p.rules_ k r = firstB p.rules_ r f := by rw [hrd, hpre.1, hpre.2.1, hpre.2.2.1, decide_eq_true hpre.2.2.2]; rfl
  rw [hrd2] at hK
  refine draw_dt tyOk (by kernel_rfl) [] (.take 0 (.take 1 (.take 2 (.take 3 (.take 4 (.alt 5 false (.take 6 (.take 7 (.alt 8 false (.alt 9 false .done .none) .none))) (.alt 8 false (.alt 5 false (.take 6 (.take 7 (.alt 9 false .done .none))) .none) .none))))))) (by decide +kernel) ?_
  simp -implicitDefEqProofs (maxSteps := 4000000) only [go_sem]
  refine ⟨?_, ?_⟩
  all_goals
    refine calm_p (sFirst_ct p h _) rfl fun _ _ => ?_
    rw [hfi]
    simp -implicitDefEqProofs (maxSteps := 4000000) only [go_sem, hf1, Option.some.injEq, forall_eq']
    refine ⟨by omega, ?_⟩
    refine draw_rule tyOk (by kernel_rfl) [0, 1, 2, 3, 4, 5, 6, 7, 8, 9, 10, 11, 12, 13, 14, 15, 16, 17, 18, 19, 20, 21, 22, 23, 25, 26, 27, 24, 28, 29, 30, 31] (by decide +kernel) ?_
    simp -implicitDefEqProofs (maxSteps := 4000000) only [go_sem]
    repeat' (first
      | (with_reducible refine ⟨fun _ => ?_, fun _ => ?_⟩)
      | (with_reducible refine ⟨by omega, ?_⟩)
      | (with_reducible intro _ _)
      | (refine call_p (conArity_ct p h _) rfl fun _ _ => ?_; simp -implicitDefEqProofs (maxSteps := 4000000) only [go_sem])
      | (refine calm_p (conArity_ct p h _) rfl fun _ _ => ?_; simp -implicitDefEqProofs (maxSteps := 4000000) only [go_sem]))
    all_goals exact end_pure hK () trivial (by (try simp -implicitDefEqProofs (maxSteps := 4000000) only [go_sem]); (try simp_all [firstB]))
end Go.Proofs.Ytfmllefmfhefpaa
