/- Valid programs: the program's side. -/
import Derived.Test.YtfmllefmfhefpaaVw
namespace Go.Proofs.Ytfmllefmfhefpaa
open Go Go.Ab
set_option linter.unusedVariables false
set_option linter.unusedSimpArgs false
set_option maxRecDepth 100000
set_option maxHeartbeats 4000000
theorem iProg_ct (p : TProgram) (h : p.sm) (hn : ∀ r ∈ p.rules_, r.body_.nd ≤ 4194304) : Ct Try.prog 48 [.d p.E] [] (fun _ : Unit => True) (fun _ => .bool (validP p.rules_)) (fun _ => []) := by
  refine ct_go tyOk Try.func48 rfl (by decide +kernel) Try.ntmps48 rfl (fun _ _ => by first | exact Nat.le_refl _ | exact Nat.zero_le _ | simp) ?_
  intro K hK
  have hl : p.rules_.length ≤ 1048576 := by first | exact h.1 | exact h
  have hx : ∀ x ∈ p.rules_, x.sm := by first | exact h.2 | exact h
  obtain ⟨ie, hie, hz⟩ := intInfo
  simp -implicitDefEqProofs (maxSteps := 4000000) only [go_sem]
  refine ⟨fun hbig => end_pure hK () trivial (by simp -implicitDefEqProofs (maxSteps := 4000000) only [go_sem, validP, decide_eq_false (show ¬ (p.rules_.length : Int) ≤ 24 by omega), Bool.and_false]), fun hbig => ?_⟩
  refine loop_at tyOk [2, 4, 19, 20, 21, 22, 23, 24, 25, 26, 27, 28, 29, 30, 31, 32] (fun k : Nat => [(19, .int k)]) (fun k : Nat => [.box 29 [.d (.lst (p.rules_.map TRule.E))]]) (fun k : Nat => k ≤ p.rules_.length ∧ ∀ x ∈ p.rules_.take k, headB x = true ∧ validB x.body_ = true) (fun k : Nat => p.rules_.length - k) 0 ?_ ?_ ?_
  · exact ⟨Nat.zero_le _, fun x hx => by simp at hx⟩
  · simp -implicitDefEqProofs (maxSteps := 4000000) only [go_sem]
  rintro k ⟨hk, hb⟩ L hL
  have hw : wr .i64 ((k : Int) + 1) = ((k + 1 : Nat) : Int) := by rw [wr_in (by omega)]; omega
  simp -implicitDefEqProofs (maxSteps := 4000000) only [go_sem]
  refine ⟨fun hlt => ⟨by omega, fun r hr => ?_⟩, fun hlt => ?_⟩
  · have hrs := hx r (List.mem_of_getElem? hr)
    refine call_p (iHead_ct r hrs) rfl fun _ _ => ?_
    simp -implicitDefEqProofs (maxSteps := 4000000) only [go_sem, hw]
    repeat' (first
      | (with_reducible refine ⟨fun _ => ?_, fun _ => ?_⟩)
      | (with_reducible refine ⟨by omega, ?_⟩)
      | (with_reducible intro _ _)
      | (refine call_p (iValid_ct r.body_ hrs.2.2.2.2) rfl fun _ _ => ?_; simp -implicitDefEqProofs (maxSteps := 4000000) only [go_sem, hw])
      | (refine calm_p (iValid_ct r.body_ hrs.2.2.2.2) rfl fun _ _ => ?_; simp -implicitDefEqProofs (maxSteps := 4000000) only [go_sem, hw]))
    all_goals first
      | exact end_pure hK () trivial (by have hf := validP_false (k := k) hr (by unfold ruleS; rw [show headB r = false by assumption]; rfl); simp -implicitDefEqProofs (maxSteps := 4000000) only [go_sem, hf])
      | exact end_pure hK () trivial (by have hf := validP_false (k := k) hr (by unfold ruleS; rw [show validB r.body_ = false by assumption]; simp); simp -implicitDefEqProofs (maxSteps := 4000000) only [go_sem, hf])
      | exact hL _ (k + 1) ⟨by omega, fun x hx => by rw [take_more hr] at hx; rcases List.mem_append.1 hx with hx | hx; exact hb x hx; rw [List.mem_singleton.1 hx]; exact ⟨by assumption, by assumption⟩⟩ (by omega) (by simp -implicitDefEqProofs (maxSteps := 4000000) only [go_sem])
      | skip
  obtain rfl : k = p.rules_.length := by omega
  rw [List.take_length] at hb
  refine call_objs [] (arities_ct p h) (by simp -implicitDefEqProofs (maxSteps := 4000000) only [go_sem]; decide) fun _ _ => ?_
  simp -implicitDefEqProofs (maxSteps := 4000000) only [go_sem]
  refine loop_at tyOk [2, 6, 7, 8, 9, 11, 38, 39, 40, 41, 42, 43, 44, 45, 46, 47, 48, 49, 50, 51, 52, 53, 54, 55, 56, 57, 58, 59, 60, 61, 62, 63, 64, 65, 66, 67, 68, 69, 70, 71, 72, 73, 74, 75, 76, 77, 78, 79, 80, 81, 82, 83, 84, 85, 86, 87, 88, 89, 90, 91, 92, 93, 94, 95, 96, 97, 98, 99, 100, 101, 102, 103, 104, 105, 106, 107, 108, 109, 110, 111, 112, 113, 114, 115] (fun k : Nat => [(38, .int k)]) (fun k : Nat => [.box 29 [.d (.lst (p.rules_.map TRule.E))], mapO (arit [] p.rules_)]) (fun k : Nat => k ≤ p.rules_.length ∧ rulesS p.rules_ k = true) (fun k : Nat => p.rules_.length - k) 0 ?_ ?_ ?_
  · exact ⟨Nat.zero_le _, rulesS_zero _⟩
  · simp -implicitDefEqProofs (maxSteps := 4000000) only [go_sem, le_strM]
  rintro k ⟨hk, hbk⟩ L hL
  have hw : wr .i64 ((k : Int) + 1) = ((k + 1 : Nat) : Int) := by rw [wr_in (by omega)]; omega
  simp -implicitDefEqProofs (maxSteps := 4000000) only [go_sem]
  refine ⟨fun hlt => ⟨by omega, fun r hr => ?_⟩, fun hlt => ?_⟩
  · have hs := hx r (List.mem_of_getElem? hr)
    have hbs : r.body_.sm := hs.2.2.2.2
    have hbn := hn r (List.mem_of_getElem? hr)
    obtain ⟨f, i, hfi, hf1, hf2⟩ : ∃ (f : TRule) (i : Nat), firstR r.name_ p.rules_ = i ∧ p.rules_[i]? = some f ∧ rule1 r.name_ p.rules_ = some f := by
      rcases firstR_cases r.name_ p.rules_ with ⟨e1, e2⟩ | ⟨i, x, e1, e2, e3, e4⟩
      · exact absurd (List.find?_eq_none.1 e2 r (List.mem_of_getElem? hr)) (by simp)
      · exact ⟨x, i, e1, e2, e3⟩
    have hil := (List.getElem?_eq_some_iff.1 hf1).1
    have hfs := hx f (List.mem_of_getElem? hf1)
    have hrd := ruleS_def (k := k) hf2
    refine draw_dt tyOk (by kernel_rfl) [] (.take 0 (.take 1 (.take 2 (.take 3 (.take 4 (.alt 5 false (.take 6 (.take 7 (.alt 8 false (.alt 9 false .done .none) .none))) (.alt 8 false (.alt 5 false (.take 6 (.take 7 (.alt 9 false .done .none))) .none) .none))))))) (by decide +kernel) ?_
    simp -implicitDefEqProofs (maxSteps := 4000000) only [go_sem]
    refine ⟨?_, ?_⟩
    all_goals
      refine calm_p (iFirst_ct p h _) rfl fun _ _ => ?_
      rw [hfi]
      simp -implicitDefEqProofs (maxSteps := 4000000) only [go_sem, hf1, Option.some.injEq, forall_eq']
      refine ⟨by omega, ?_⟩
      refine draw_dt tyOk (by kernel_rfl) [4] (.take 0 (.take 1 (.take 2 (.take 3 (.alt 4 true (.take 5 (.take 6 (.take 7 (.take 8 (.take 9 (.take 10 (.take 11 (.take 13 (.alt 12 false (.take 14 (.take 15 (.take 16 (.take 17 (.take 19 (.alt 18 false (.alt 20 false (.take 21 (.take 22 (.take 23 (.take 24 (.take 25 (.take 26 (.take 27 (.take 28 (.take 29 (.take 30 (.take 31 .done))))))))))) .none) .none)))))) .none))))))))) .none))))) (by decide +kernel) ?_
      simp -implicitDefEqProofs (maxSteps := 4000000) only [go_sem]
      refine call_objs [1] (fits_ct p h r.body_ hbs) (by simp -implicitDefEqProofs (maxSteps := 4000000) only [go_sem, le_strM]; decide) fun _ _ => ?_
      simp -implicitDefEqProofs (maxSteps := 4000000) only [go_sem]
      repeat' (first
        | (with_reducible refine ⟨fun _ => ?_, fun _ => ?_⟩)
        | (with_reducible refine ⟨by omega, ?_⟩)
        | (with_reducible intro _ _)
        | (refine call_p (iFind_ct p h _ _) rfl fun _ _ => ?_; simp -implicitDefEqProofs (maxSteps := 4000000) only [go_sem])
        | (refine calm_p (iFind_ct p h _ _) rfl fun _ _ => ?_; simp -implicitDefEqProofs (maxSteps := 4000000) only [go_sem])
        | (refine call_p (kind_ct f hfs) rfl fun _ _ => ?_; simp -implicitDefEqProofs (maxSteps := 4000000) only [go_sem])
        | (refine calm_p (kind_ct f hfs) rfl fun _ _ => ?_; simp -implicitDefEqProofs (maxSteps := 4000000) only [go_sem])
        | (refine call_p (kind_ct r hs) rfl fun _ _ => ?_; simp -implicitDefEqProofs (maxSteps := 4000000) only [go_sem])
        | (refine calm_p (kind_ct r hs) rfl fun _ _ => ?_; simp -implicitDefEqProofs (maxSteps := 4000000) only [go_sem]))
      all_goals try (refine sem_lookup (k := 1) (m := arit [] p.rules_) (s := r.con_) Try.underlying141 Try.underlying9 hie hz rfl rfl rfl ?_; simp -implicitDefEqProofs (maxSteps := 4000000) only [go_sem]; refine ⟨fun hc => ?_, fun hc => ?_⟩)
      all_goals try rw [map_con (List.mem_of_getElem? hr) (by assumption)] at hc
      all_goals first
        | exact end_pure hK () trivial (by
            have hno : ruleS p.rules_ k r = false := by
              rw [hrd]
              first
                | (rw [show fitsB p.rules_ r.body_ = false by assumption]; simp; done)
                | (rw [show decide (findR r.name_ r.con_ p.rules_ = (k : Int)) = false from decide_eq_false (by assumption)]; simp; done)
                | (rw [show firstB p.rules_ r f = false by
                    rw [firstB, ← kind_eq]
                    first
                      | (rw [decide_eq_false (show ¬ kindI f.con_ = kindI r.con_ by assumption)]; rfl)
                      | (rw [decide_eq_false (show ¬ (f.params_.length : Int) = r.params_.length by assumption)]; simp; done)
                      | (rw [decide_eq_false (show ¬ r.con_ = ⟨#[]⟩ by assumption), decide_eq_false hc]; simp; done)]; simp; done)
            have hf := validP_false hr hno
            simp -implicitDefEqProofs (maxSteps := 4000000) only [go_sem, hf])
        | skip
      all_goals
        have hfb : firstB p.rules_ r f = true := by
          rw [firstB, ← kind_eq, decide_eq_true (show kindI f.con_ = kindI r.con_ by assumption), decide_eq_true (show (f.params_.length : Int) = r.params_.length by assumption)]
          first
            | (rw [decide_eq_true (show r.con_ = ⟨#[]⟩ by assumption)]; rfl)
            | (rw [decide_eq_false (show ¬ r.con_ = ⟨#[]⟩ by assumption), decide_eq_true (Classical.not_not.1 hc)]; rfl)
            | (rw [decide_eq_false (show ¬ r.con_ = ⟨#[]⟩ by assumption), decide_eq_true hc]; rfl)
        have hhb : headB r = true ∧ validB r.body_ = true := hb r (List.mem_of_getElem? hr)
        have hwb : ruleS p.rules_ k r = withB r := by
          rw [hrd, hhb.1, hhb.2, hfb, decide_eq_true (show findR r.name_ r.con_ p.rules_ = (k : Int) by assumption), show fitsB p.rules_ r.body_ = true by assumption]; simp
        have hv1 := hs.2.2.1.1
        have hp1 := hs.2.2.2.1.1
        have hal : (r.vars_ ++ r.params_).length ≤ 2097152 := by rw [List.length_append]; omega
        have hnl := nmE_len 1 r.body_ []
        simp only [List.length_nil] at hnl
        refine call_objs [] (Ct.dat (concat_ct r.vars_ r.params_ (by omega))) (by simp -implicitDefEqProofs (maxSteps := 4000000) only [go_sem, A.le]; simp [O.lel, O.rens, pick]) fun _ _ => ?_
        simp -implicitDefEqProofs (maxSteps := 4000000) only [go_sem]
        refine call_p (implVars_ct r.body_ hbs hbn) rfl fun _ _ => ?_
        simp -implicitDefEqProofs (maxSteps := 4000000) only [go_sem]
        generalize hall : r.vars_ ++ r.params_ = all at *
        generalize hvs : nmE 1 r.body_ [] = vs at *
        refine loop_at tyOk [2, 11, 106, 107, 108, 109, 110, 111, 112, 113, 114] (fun j : Nat => [(106, .int j)]) (fun j : Nat => [.box 29 [.d (.lst (p.rules_.map TRule.E))], mapO (arit [] p.rules_), .box 91 [.d (.v (.string r.name_)), .d (.v (.string r.con_)), .d (.lst (r.vars_.map D.str)), .d (.lst (r.params_.map D.str)), .d (.v (.int .i64 r.body_.k)), .d (.v (.string r.body_.n)), .d (.lst (r.body_.a.map Ex.E))], .dead, .dead]) (fun j : Nat => j ≤ vs.length ∧ ((vs.take j).all fun v => hasB v all) = true) (fun j : Nat => vs.length - j) 0 ?_ ?_ ?_
        · exact ⟨Nat.zero_le _, rfl⟩
        · simp -implicitDefEqProofs (maxSteps := 4000000) only [go_sem, le_strM]
        rintro j ⟨hj, hjb⟩ L2 hL2
        have hw2 : wr .i64 ((j : Int) + 1) = ((j + 1 : Nat) : Int) := by rw [wr_in (by omega)]; omega
        simp -implicitDefEqProofs (maxSteps := 4000000) only [go_sem]
        refine ⟨fun hlt2 => ⟨by omega, fun v hv => ?_⟩, fun hlt2 => ?_⟩
        · refine call_p (contains_ct all (by omega) v) rfl fun _ _ => ?_
          simp -implicitDefEqProofs (maxSteps := 4000000) only [go_sem, hw2]
          refine ⟨fun h2 => end_pure hK () trivial (by
            have hno : ruleS p.rules_ k r = false := by
              rw [hwb, withB, hall, hvs, List.all_eq_false]
              exact ⟨v, List.mem_of_getElem? hv, by rw [h2]; decide⟩
            have hf := validP_false hr hno
            simp -implicitDefEqProofs (maxSteps := 4000000) only [go_sem, hf]), fun h2 => ?_⟩
          refine hL2 _ (j + 1) ⟨by omega, by rw [take_more hv, List.all_append, hjb]; simp [h2]⟩ (by omega) ?_
          simp -implicitDefEqProofs (maxSteps := 4000000) only [go_sem, le_strM]
        · obtain rfl : j = vs.length := by omega
          rw [List.take_length] at hjb
          simp -implicitDefEqProofs (maxSteps := 4000000) only [go_sem, hw]
          exact hL _ (k + 1) ⟨by omega, by rw [rulesS_succ hr, hbk, hwb, withB, hall, hvs, hjb]; rfl⟩ (by omega) (by simp -implicitDefEqProofs (maxSteps := 4000000) only [go_sem, le_strM])
  · obtain rfl : k = p.rules_.length := by omega
    have hv : validP p.rules_ = true := by unfold validP; rw [hbk, decide_eq_true (by omega)]; rfl
    exact end_pure hK () trivial (by simp -implicitDefEqProofs (maxSteps := 4000000) only [go_sem, hv])
end Go.Proofs.Ytfmllefmfhefpaa
