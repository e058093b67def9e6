/- Expressions, copied and compared: the walks. -/
import Derived.Test.YtfmllefmfhefpaaFa
namespace Go.Proofs.Ytfmllefmfhefpaa
open Go Go.Ab
set_option linter.unusedVariables false
set_option linter.unusedSimpArgs false
set_option maxRecDepth 100000
set_option maxHeartbeats 4000000
abbrev zEx : A := .agg [.int 0, .str ⟨#[]⟩, .nil]
theorem toS_ct (a : List Ex) (ha : a.length ≤ 1048576) (ih : ∀ e ∈ a, Ct Try.prog 28 [.d e.E] [] (fun _ : Unit => True) (fun _ => .d e.E) (fun _ => [])) :
    Ct Try.prog 67 [.d (.lst (a.map Ex.E))] [] (fun _ : Unit => True) (fun _ => .d (.lst (a.map Ex.E))) (fun _ => []) := by
  refine ct_go tyOk Try.func67 rfl (by decide +kernel) Try.ntmps67 rfl (fun _ _ => Nat.le_refl _) ?_
  intro K hK
  simp -implicitDefEqProofs (maxSteps := 4000000) only [go_sem]
  refine ⟨by omega, by omega, ?_⟩
  refine loop_go tyOk (fun i : Nat => ⟨fr 23 [(0, .d (.lst (a.map Ex.E))), (2, .nil), (3, .arr 0), (4, .int i)], [.row 42 3 (((a.take i).map Ex.E).map A.d ++ List.replicate (a.length - i) zEx)], 0⟩)
    (fun i => i ≤ a.length) (fun i => a.length - i) 0 1 (Nat.zero_le _) ?_ ?_
  · simp -implicitDefEqProofs (maxSteps := 4000000) only [go_sem, List.take_zero, Nat.sub_zero]
    exact ole_row rfl fun x hx => by rw [List.eq_of_mem_replicate hx]; simp -implicitDefEqProofs (maxSteps := 4000000) only [go_sem]
  · intro i hi L hL
    simp -implicitDefEqProofs (maxSteps := 4000000) only [go_sem]
    refine ⟨fun h => ⟨by omega, fun e he => ?_⟩, fun h => ?_⟩
    · have hw : wr .i64 ((i : Int) + 1) = ((i + 1 : Nat) : Int) := by rw [wr_in (by omega)]; omega
      have hlt : (a.take i).length = i := by rw [List.length_take]; omega
      refine call_data [e.E] (ih e (List.mem_of_getElem? he)) rfl fun _ _ => ?_
      simp -implicitDefEqProofs (maxSteps := 4000000) only [go_sem, hw, hlt]
      refine ⟨by omega, by omega, hL _ (i + 1) 1 (by omega) (by omega) ?_⟩
      rw [fill_set (by simpa using hlt) (by omega)]
      simp -implicitDefEqProofs (maxSteps := 4000000) only [go_sem, take_more he, List.map_append]
      exact ole_row rfl fun x hx => by
        rcases List.mem_append.1 hx with hx | hx
        · rcases List.mem_append.1 hx with hx | hx
          · obtain ⟨y, _, rfl⟩ := List.mem_map.1 hx; simp -implicitDefEqProofs (maxSteps := 4000000) only [go_sem]
          · obtain rfl := List.mem_singleton.1 hx; simp -implicitDefEqProofs (maxSteps := 4000000) only [go_sem]
        · rw [List.eq_of_mem_replicate hx]; simp -implicitDefEqProofs (maxSteps := 4000000) only [go_sem]
    · obtain rfl : i = a.length := by omega
      simp -implicitDefEqProofs (maxSteps := 4000000) only [go_sem, List.take_length, Nat.sub_self]
      exact end_pub hK () trivial rfl rfl (toEs_map _) rfl
theorem toE_step (e : Ex) (he : e.sm) (ih : ∀ x ∈ e.a, Ct Try.prog 28 [.d x.E] [] (fun _ : Unit => True) (fun _ => .d x.E) (fun _ => [])) :
    Ct Try.prog 28 [.d e.E] [] (fun _ : Unit => True) (fun _ => .d e.E) (fun _ => []) := by
  refine ct_go tyOk Try.func28 rfl (by decide +kernel) Try.ntmps28 rfl (fun _ _ => Nat.le_refl _) ?_
  intro K hK
  simp -implicitDefEqProofs (maxSteps := 4000000) only [go_sem]
  refine call_data [.lst (e.a.map Ex.E)] (toS_ct e.a (e.sm_def.1 he).2.1 ih) rfl fun _ _ => ?_
  simp -implicitDefEqProofs (maxSteps := 4000000) only [go_sem]
  exact end_cell hK () trivial rfl rfl ty42 (by simp -implicitDefEqProofs (maxSteps := 4000000) only [go_sem])
theorem toE_ct (e : Ex) : e.sm → Ct Try.prog 28 [.d e.E] [] (fun _ : Unit => True) (fun _ => .d e.E) (fun _ => []) := by
  induction e using Ex.ind2 with
  | h e ih =>
    intro h
    exact toE_step e h fun x hx => ih x hx ((e.sm_def.1 h).2.2 x hx)
theorem eqS_ct (a : List Ex) (ha : a.length ≤ 1048576) (ih : ∀ e ∈ a, Ct Try.prog 32 [.d e.E, .d e.E] [] (fun _ : Unit => True) (fun _ => .bool true) (fun _ => [])) :
    Ct Try.prog 74 [.d (.lst (a.map Ex.E)), .d (.lst (a.map Ex.E))] [] (fun _ : Unit => True) (fun _ => .bool true) (fun _ => []) := by
  refine ct_go tyOk Try.func74 rfl (by decide +kernel) Try.ntmps74 rfl (fun _ _ => Nat.le_refl _) ?_
  intro K hK
  simp -implicitDefEqProofs (maxSteps := 4000000) only [go_sem]
  refine loop_go tyOk (fun i : Nat => ⟨fr 27 [(0, .d (.lst (a.map Ex.E))), (1, .d (.lst (a.map Ex.E))), (5, .int i)], [], 0⟩)
    (fun i => i ≤ a.length) (fun i => a.length - i) 0 0 (Nat.zero_le _) (by simp -implicitDefEqProofs (maxSteps := 4000000) only [go_sem]) ?_
  intro i hi L hL
  simp -implicitDefEqProofs (maxSteps := 4000000) only [go_sem]
  refine ⟨fun h => ?_, fun h => end_pure hK () trivial (by simp -implicitDefEqProofs (maxSteps := 4000000) only [go_sem])⟩
  refine draw_rule tyOk (by kernel_rfl) [0, 1, 2, 3, 4, 5, 6, 7, 8, 9] (by kernel_rfl) ?_
  simp -implicitDefEqProofs (maxSteps := 4000000) only [go_sem]
  refine ⟨by omega, fun e he => ⟨by omega, fun e' he' => ?_⟩⟩
  obtain rfl : e = e' := by rw [he] at he'; exact Option.some.inj he'
  have hw : wr .i64 ((i : Int) + 1) = ((i + 1 : Nat) : Int) := by rw [wr_in (by omega)]; omega
  refine calm_data [e.E, e.E] (ih e (List.mem_of_getElem? he)) rfl fun _ _ => ?_
  simp -implicitDefEqProofs (maxSteps := 4000000) only [go_sem, hw]
  exact hL _ (i + 1) 0 (by omega) (by omega) (by simp -implicitDefEqProofs (maxSteps := 4000000) only [go_sem])
theorem eqE_step (e : Ex) (he : e.sm) (ih : ∀ x ∈ e.a, Ct Try.prog 32 [.d x.E, .d x.E] [] (fun _ : Unit => True) (fun _ => .bool true) (fun _ => [])) :
    Ct Try.prog 32 [.d e.E, .d e.E] [] (fun _ : Unit => True) (fun _ => .bool true) (fun _ => []) := by
  refine ct_go tyOk Try.func32 rfl (by decide +kernel) Try.ntmps32 rfl (fun _ _ => Nat.le_refl _) ?_
  intro K hK
  simp -implicitDefEqProofs (maxSteps := 4000000) only [go_sem]
  refine call_data [.lst (e.a.map Ex.E), .lst (e.a.map Ex.E)] (eqS_ct e.a (e.sm_def.1 he).2.1 ih) rfl fun _ _ => ?_
  simp -implicitDefEqProofs (maxSteps := 4000000) only [go_sem]
  exact end_pure hK () trivial (by simp -implicitDefEqProofs (maxSteps := 4000000) only [go_sem])
theorem eqE_ct (e : Ex) : e.sm → Ct Try.prog 32 [.d e.E, .d e.E] [] (fun _ : Unit => True) (fun _ => .bool true) (fun _ => []) := by
  induction e using Ex.ind2 with
  | h e ih =>
    intro h
    exact eqE_step e h fun x hx => ih x hx ((e.sm_def.1 h).2.2 x hx)
end Go.Proofs.Ytfmllefmfhefpaa
