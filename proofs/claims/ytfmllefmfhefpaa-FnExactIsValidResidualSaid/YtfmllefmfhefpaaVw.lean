/- Valid programs: both sides. -/
import Derived.Test.YtfmllefmfhefpaaVv
import Derived.Test.YtfmllefmfhefpaaVa
import Derived.Test.YtfmllefmfhefpaaGw
namespace Go.Proofs.Ytfmllefmfhefpaa
open Go Go.Ab
set_option linter.unusedVariables false
set_option linter.unusedSimpArgs false
set_option maxRecDepth 100000
set_option maxHeartbeats 4000000
def rulesS (l : List TRule) (n : Nat) : Bool := (List.range n).all fun k => match l[k]? with | some r => ruleS l k r | none => true
def validP (l : List TRule) : Bool := rulesS l l.length && decide ((l.length : Int) ≤ 24)
theorem rulesS_succ {l : List TRule} {k : Nat} {r : TRule} (h : l[k]? = some r) : rulesS l (k + 1) = (rulesS l k && ruleS l k r) := by
  unfold rulesS
  rw [List.range_succ, List.all_append, List.all_cons, List.all_nil, Bool.and_true, h]
theorem rulesS_zero (l : List TRule) : rulesS l 0 = true := rfl
theorem rulesS_false {l : List TRule} {k : Nat} {r : TRule} (h : l[k]? = some r) (hr : ruleS l k r = false) : rulesS l l.length = false := by
  unfold rulesS
  rw [List.all_eq_false]
  exact ⟨k, List.mem_range.2 (List.getElem?_eq_some_iff.1 h).1, by rw [h]; simp [hr]⟩
theorem validP_false {l : List TRule} {k : Nat} {r : TRule} (h : l[k]? = some r) (hr : ruleS l k r = false) : validP l = false := by
  unfold validP; rw [rulesS_false h hr]; rfl
theorem sProg_ct (p : TProgram) (h : p.sm) (hn : ∀ r ∈ p.rules_, r.body_.nd ≤ 4194304) : Ct Try.prog 45 [.d p.E] [] (fun _ : Unit => True) (fun _ => .bool (validP p.rules_)) (fun _ => []) := by
  refine ct_go tyOk Try.func45 rfl (by decide +kernel) Try.ntmps45 rfl (fun _ _ => by first | exact Nat.le_refl _ | exact Nat.zero_le _ | simp) ?_
  intro K hK
  have hl : p.rules_.length ≤ 1048576 := by first | exact h.1 | exact h
  simp -implicitDefEqProofs (maxSteps := 4000000) only [go_sem]
  refine loop_at tyOk [2, 3, 4, 5, 6, 7, 8, 9, 10, 11, 12, 13, 14] (fun k : Nat => [(3, .int k)]) (fun k : Nat => [.box 29 [.d (.lst (p.rules_.map TRule.E))]]) (fun k : Nat => k ≤ p.rules_.length ∧ rulesS p.rules_ k = true) (fun k : Nat => p.rules_.length - k) 0 ?_ ?_ ?_
  · exact ⟨Nat.zero_le _, rulesS_zero _⟩
  · simp -implicitDefEqProofs (maxSteps := 4000000) only [go_sem]
  rintro k ⟨hk, hb⟩ L hL
  have hw : wr .i64 ((k : Int) + 1) = ((k + 1 : Nat) : Int) := by rw [wr_in (by omega)]; omega
  simp -implicitDefEqProofs (maxSteps := 4000000) only [go_sem]
  refine ⟨fun hlt => ?_, fun hlt => ?_⟩
  · obtain ⟨r, hr⟩ : ∃ r, p.rules_[k]? = some r := ⟨_, List.getElem?_eq_getElem (by omega : k < p.rules_.length)⟩
    refine call_p (l5Rule_ct p h k r hr (hn r (List.mem_of_getElem? hr))) rfl fun _ _ => ?_
    simp -implicitDefEqProofs (maxSteps := 4000000) only [go_sem, hw]
    refine ⟨fun h2 => end_pure hK () trivial (by simp -implicitDefEqProofs (maxSteps := 4000000) only [go_sem, validP_false hr h2]), fun h2 => ?_⟩
    exact hL _ (k + 1) ⟨by omega, by rw [rulesS_succ hr, hb, h2]; rfl⟩ (by omega) (by simp -implicitDefEqProofs (maxSteps := 4000000) only [go_sem])
  · obtain rfl : k = p.rules_.length := by omega
    exact end_pure hK () trivial (by simp -implicitDefEqProofs (maxSteps := 4000000) only [go_sem, validP, hb, Bool.true_and])
theorem conAr_some {c : ByteArray} (hc : c ≠ ⟨#[]⟩) : ∀ {l : List TRule} {r : TRule}, r ∈ l → r.con_ = c → ∃ v, conAr c l = some v
  | x :: l, r, hm, he => by
    rw [conAr]
    by_cases h : x.con_ = c ∧ c ≠ ⟨#[]⟩
    · rw [if_pos h]; exact ⟨_, rfl⟩
    · rw [if_neg h]
      cases conE c x.body_ with
      | some v => exact ⟨v, rfl⟩
      | none =>
        rcases List.mem_cons.1 hm with rfl | hm
        · exact absurd ⟨he, hc⟩ h
        · exact conAr_some hc hm he
  | [], r, hm, _ => by cases hm
theorem map_con {l : List TRule} {r : TRule} (hm : r ∈ l) (hc : r.con_ ≠ ⟨#[]⟩) : (mget (arit [] l) r.con_).getD 0 = conI (conAr r.con_ l) := by
  obtain ⟨v, hv⟩ := conAr_some hc hm rfl
  rw [mget_arit, hv]; rfl
def kindI (a : ByteArray) : Int := if a = ⟨#[]⟩ then 1 else 2
theorem kind_eq (a b : ByteArray) : decide (kindI a = kindI b) = (decide (a = ⟨#[]⟩) == decide (b = ⟨#[]⟩)) := by
  unfold kindI
  by_cases ha : a = ⟨#[]⟩ <;> by_cases hb : b = ⟨#[]⟩ <;> simp [ha, hb]
theorem kind_ct (r : TRule) (h : r.sm) : Ct Try.prog 105 [.d r.E] [] (fun _ : Unit => True) (fun _ => .int (kindI r.con_)) (fun _ => []) := kindOf_ct r h
end Go.Proofs.Ytfmllefmfhefpaa
