/- Rules that repeat a variable: the walks. -/
import Derived.Test.YtfmllefmfhefpaaFg
import Derived.Test.YtfmllefmfhefpaaAbTz
import Derived.Test.YtfmllefmfhefpaaAbPs
namespace Go.Proofs.Ytfmllefmfhefpaa
open Go Go.Ab
set_option linter.unusedVariables false
set_option linter.unusedSimpArgs false
set_option maxRecDepth 100000
set_option maxHeartbeats 4000000
/-- Where the rules are that are not linear. -/
def repOf (l : List TRule) : List Int := ((List.range l.length).filter fun i => match l[i]? with | some x => !linE x.body_ | none => false).map fun i : Nat => (i : Int)
theorem repOf_nil : repOf [] = [] := rfl
theorem repOf_more {l : List TRule} {i : Nat} {x : TRule} (h : l[i]? = some x) : repOf (l.take (i + 1)) = repOf (l.take i) ++ (if linE x.body_ = true then [] else [(i : Int)]) := by
  have hi : i < l.length := (List.getElem?_eq_some_iff.1 h).1
  have h1 : (l.take (i + 1)).length = i + 1 := by rw [List.length_take]; omega
  have h2 : (l.take i).length = i := by rw [List.length_take]; omega
  unfold repOf
  rw [h1, h2, List.range_succ, List.filter_append, List.map_append]
  congr 1
  · congr 1
    refine List.filter_congr fun j hj => ?_
    have hj := List.mem_range.1 hj
    rw [List.getElem?_take_of_lt (by omega), List.getElem?_take_of_lt (by omega)]
  · simp only [List.filter_cons, List.filter_nil]
    rw [List.getElem?_take_of_lt (by omega), h]
    cases hh : linE x.body_ <;> simp [hh]
theorem repOf_len (l : List TRule) : (repOf l).length ≤ l.length := by
  unfold repOf
  rw [List.length_map]
  have := List.length_filter_le (fun i => match l[i]? with | some x => !linE x.body_ | none => false) (List.range l.length)
  rw [List.length_range] at this
  exact this
theorem repOf_t {l : List TRule} {i : Nat} {x : TRule} (h : l[i]? = some x) (hx : linE x.body_ = true) : repOf (l.take (i + 1)) = repOf (l.take i) := by rw [repOf_more h, if_pos hx, List.append_nil]
theorem repOf_f {l : List TRule} {i : Nat} {x : TRule} (h : l[i]? = some x) (hx : linE x.body_ = false) : repOf (l.take (i + 1)) = repOf (l.take i) ++ [(i : Int)] := by rw [repOf_more h, if_neg (by simp [hx])]
abbrev prBox (p : TProgram) : O := .box 29 [.d (.lst (p.rules_.map TRule.E))]
attribute [go_sem] prBox
theorem specRep_ct (p : TProgram) (h : p.sm) (hn : ∀ x ∈ p.rules_, x.body_.nd ≤ 4194304) : Ct Try.prog 46 [.d p.E] [] (fun _ : Unit => True) (fun _ => .d (.lst ((repOf p.rules_).map D.int))) (fun _ => []) := by
  refine ct_go tyOk Try.func46 rfl (by decide +kernel) Try.ntmps46 rfl (fun _ _ => by first | exact Nat.le_refl _ | exact Nat.zero_le _ | simp) ?_
  intro K hK
  have hl : p.rules_.length ≤ 1048576 := by first | exact h.1 | exact h
  have hx : ∀ x ∈ p.rules_, x.sm := by first | exact h.2 | exact h
  simp -implicitDefEqProofs (maxSteps := 4000000) only [go_sem]
  refine loop_at tyOk [3, 4, 6, 7, 8, 9, 10, 11, 12, 13, 14, 15, 16, 17, 18, 19, 20, 21, 22, 23, 24] (fun i : Nat => [(3, .own 1 ((repOf (p.rules_.take i)).map D.int)), (4, .int i)]) (fun i : Nat => [prBox p, .app 3 1 true]) (fun i : Nat => i ≤ p.rules_.length) (fun i : Nat => p.rules_.length - i) 0 ?_ ?_ ?_
  · exact Nat.zero_le _
  · simp -implicitDefEqProofs (maxSteps := 4000000) only [go_sem, List.take_zero, repOf_nil, List.map_nil]
  rintro i hi L hL
  have hfl := repOf_len (p.rules_.take i)
  rw [List.length_take] at hfl
  have hw : wr .i64 ((i : Int) + 1) = ((i + 1 : Nat) : Int) := by rw [wr_in (by omega)]; omega
  simp -implicitDefEqProofs (maxSteps := 4000000) only [go_sem, hw]
  refine ⟨fun hlt => ⟨by omega, fun x hxi => ?_⟩, fun hlt => ?_⟩
  · have hm := List.mem_of_getElem? hxi
    have hxs := hx x hm
    refine call_p (specLin_ct x.body_ (by first | exact hxs.2.2.2.2 | exact hxs.2.2.2) (hn x hm)) rfl fun _ _ => ?_
    simp -implicitDefEqProofs (maxSteps := 4000000) only [go_sem, hw]
    refine ⟨fun h2 => ⟨by omega, ?_⟩, fun h2 => ?_⟩
    · exact hL _ (i + 1) (by omega) (by omega) (by simp -implicitDefEqProofs (maxSteps := 4000000) only [go_sem, repOf_f hxi h2, List.map_append])
    · exact hL _ (i + 1) (by omega) (by omega) (by simp -implicitDefEqProofs (maxSteps := 4000000) only [go_sem, repOf_t hxi h2])
  · obtain rfl : i = p.rules_.length := by omega
    exact end_pure hK () trivial (by simp -implicitDefEqProofs (maxSteps := 4000000) only [go_sem, List.take_length])
theorem implRep_ct (p : TProgram) (h : p.sm) (hn : ∀ x ∈ p.rules_, x.body_.nd ≤ 4194304) : Ct Try.prog 49 [.d p.E] [] (fun _ : Unit => True) (fun _ => .own 0 ((repOf p.rules_).map D.int)) (fun _ => [.app 3 1 true]) := by
  refine ct_go tyOk Try.func49 rfl (by decide +kernel) Try.ntmps49 rfl (fun _ _ => by first | exact Nat.le_refl _ | exact Nat.zero_le _ | simp) ?_
  intro K hK
  have hl : p.rules_.length ≤ 1048576 := by first | exact h.1 | exact h
  have hx : ∀ x ∈ p.rules_, x.sm := by first | exact h.2 | exact h
  simp -implicitDefEqProofs (maxSteps := 4000000) only [go_sem]
  refine loop_at tyOk [3, 4, 5, 9, 10, 11, 12, 13, 14, 15, 16, 17, 18, 19, 20, 21, 22] (fun i : Nat => [(3, .own 1 ((repOf (p.rules_.take i)).map D.int)), (9, .int i)]) (fun i : Nat => [prBox p, .app 3 1 true]) (fun i : Nat => i ≤ p.rules_.length) (fun i : Nat => p.rules_.length - i) 0 ?_ ?_ ?_
  · exact Nat.zero_le _
  · simp -implicitDefEqProofs (maxSteps := 4000000) only [go_sem, List.take_zero, repOf_nil, List.map_nil]
  rintro i hi L hL
  have hfl := repOf_len (p.rules_.take i)
  rw [List.length_take] at hfl
  have hw : wr .i64 ((i : Int) + 1) = ((i + 1 : Nat) : Int) := by rw [wr_in (by omega)]; omega
  simp -implicitDefEqProofs (maxSteps := 4000000) only [go_sem, hw]
  refine ⟨fun hlt => ⟨by omega, fun x hxi => ?_⟩, fun hlt => ?_⟩
  · have hm := List.mem_of_getElem? hxi
    have hxs := hx x hm
    refine call_p (implLin_ct x.body_ (by first | exact hxs.2.2.2.2 | exact hxs.2.2.2) (hn x hm)) rfl fun _ _ => ?_
    simp -implicitDefEqProofs (maxSteps := 4000000) only [go_sem, hw]
    refine ⟨fun h2 => ⟨by omega, ?_⟩, fun h2 => ?_⟩
    · exact hL _ (i + 1) (by omega) (by omega) (by simp -implicitDefEqProofs (maxSteps := 4000000) only [go_sem, repOf_f hxi h2, List.map_append])
    · exact hL _ (i + 1) (by omega) (by omega) (by simp -implicitDefEqProofs (maxSteps := 4000000) only [go_sem, repOf_t hxi h2])
  · obtain rfl : i = p.rules_.length := by omega
    exact end_own hK () [1] trivial (by simp -implicitDefEqProofs (maxSteps := 4000000) only [go_sem, List.take_length]; rfl) (by simp -implicitDefEqProofs (maxSteps := 4000000) only [go_sem]) (by rfl) (by decide)
end Go.Proofs.Ytfmllefmfhefpaa
