/- Measures, copies, comparisons: the walks. Printed by gen.py. -/
import Derived.Test.YtfmllefmfhefpaaAbW
import Derived.Test.YtfmllefmfhefpaaAbZ
import Derived.Test.YtfmllefmfhefpaaFx
namespace Go.Proofs.Ytfmllefmfhefpaa
open Go Go.Ab
set_option linter.unusedVariables false
set_option linter.unusedSimpArgs false
set_option maxRecDepth 100000
set_option maxHeartbeats 4000000
theorem szStringS_ct (a : List ByteArray) (hok : (a.length ≤ 9223372036854775807 ∧ ∀ y ∈ a, y.size ≤ 9223372036854775807)) (l : Int) (h0 : 0 ≤ l) (h1 : l ≤ 1048576) : Ct Try.prog 58 [.d (.lst (a.map D.str)), .int l] [] (fun _ : Unit => True) (fun _ => .int ((szL (fun s l => l - (s.size : Int))) a l)) (fun _ => []) := by
  refine ct_go tyOk Try.func58 rfl (by decide +kernel) Try.ntmps58 rfl (fun _ _ => Nat.le_refl _) ?_
  intro K hK
  obtain ⟨ha, hel⟩ := hok
  have hw : wr .i64 (l - a.length) = l - a.length := wr_in (by omega)
  simp -implicitDefEqProofs (maxSteps := 4000000) only [go_sem, hw]
  refine ⟨fun h => end_pure hK () trivial (by simp -implicitDefEqProofs (maxSteps := 4000000) only [go_sem, szL, if_pos h]), fun h => ?_⟩
  refine loop_go tyOk (fun i : Nat × Int => ⟨fr 28 [(0, .d (.lst (a.map D.str))), (1, .int i.2), (4, .int 0), (5, .int i.1)], [], 0⟩)
    (fun i => i.1 ≤ a.length ∧ 0 ≤ i.2 ∧ i.2 ≤ 1048576 ∧ szSeq ((a.drop i.1).map (fun s l => l - (s.size : Int))) i.2 = szL (fun s l => l - (s.size : Int)) a l) (fun i => a.length - i.1) (0, l - a.length) 0
    ⟨Nat.zero_le _, by omega, by omega, by simp only [szL, if_neg h, List.drop_zero]⟩ (by simp -implicitDefEqProofs (maxSteps := 4000000) only [go_sem]) ?_
  rintro ⟨i, m⟩ ⟨hi, hm0, hm1, hm⟩ L hL
  simp -implicitDefEqProofs (maxSteps := 4000000) only [go_sem]
  refine ⟨fun h => ⟨by omega, fun e he => ?_⟩, fun h => end_pure hK () trivial ?_⟩
  · rw [drop_of he, List.map_cons, szSeq] at hm
    have hb := (fun (l : Int) (_ : 0 ≤ l) => szB_le e l) m hm0
    have hw : wr .i64 ((i : Int) + 1) = ((i + 1 : Nat) : Int) := by rw [wr_in (by omega)]; omega
    have hs := hel e (List.mem_of_getElem? he)
    have hw2 : wr .i64 (m - e.size) = m - e.size := wr_in (by omega)
    simp -implicitDefEqProofs (maxSteps := 4000000) only [go_sem, hw, hw2]
    refine ⟨fun h2 => end_pure hK () trivial ?_, fun h2 => ?_⟩
    · simp -implicitDefEqProofs (maxSteps := 4000000) only [go_sem]; rw [if_pos h2] at hm; exact hm
    · rw [if_neg h2] at hm
      exact hL _ (i + 1, m - (e.size : Int)) 0 ⟨by omega, by omega, by omega, hm⟩ (by simp only; omega) (by simp -implicitDefEqProofs (maxSteps := 4000000) only [go_sem])
  · have : i = a.length := by simp only at hi; omega
    subst this
    simp -implicitDefEqProofs (maxSteps := 4000000) only [go_sem]; simpa only [List.drop_length, List.map_nil, szSeq] using hm
theorem toStringS_ct (a : List ByteArray) (hsm : (a.length ≤ 1048576 ∧ ∀ y ∈ a, y.size ≤ 1048576)) : Ct Try.prog 64 [.d (.lst (a.map D.str))] [] (fun _ : Unit => True) (fun _ => .d (.lst (a.map D.str))) (fun _ => []) := by
  refine ct_go tyOk Try.func64 rfl (by decide +kernel) Try.ntmps64 rfl (fun _ _ => Nat.le_refl _) ?_
  intro K hK
  obtain ⟨ha, hel⟩ := hsm
  simp -implicitDefEqProofs (maxSteps := 4000000) only [go_sem]
  refine ⟨by omega, by omega, ?_⟩
  refine loop_go tyOk (fun i : Nat => ⟨fr 22 [(0, .d (.lst (a.map D.str))), (2, .nil), (3, .arr 0), (4, .int i)], [.row 9 1 (((a.take i).map D.str).map A.d ++ List.replicate (a.length - i) (.str ⟨#[]⟩))], 0⟩)
    (fun i => i ≤ a.length) (fun i => a.length - i) 0 1 (Nat.zero_le _) ?_ ?_
  · simp -implicitDefEqProofs (maxSteps := 4000000) only [go_sem, List.take_zero, Nat.sub_zero]
    exact ole_row rfl fun x hx => by rw [List.eq_of_mem_replicate hx]; simp -implicitDefEqProofs (maxSteps := 4000000) only [go_sem]
  · intro i hi L hL
    simp -implicitDefEqProofs (maxSteps := 4000000) only [go_sem]
    refine ⟨fun h => ⟨by omega, fun e he => ?_⟩, fun h => ?_⟩
    · have hw : wr .i64 ((i : Int) + 1) = ((i + 1 : Nat) : Int) := by rw [wr_in (by omega)]; omega
      have hlt : (a.take i).length = i := by rw [List.length_take]; omega
      simp -implicitDefEqProofs (maxSteps := 4000000) only [go_sem, hw, hlt]
      refine ⟨by omega, by omega, hL _ (i + 1) 1 (by omega) (by omega) ?_⟩
      rw [fill_set (by simpa using hlt) (by omega)]
      simp -implicitDefEqProofs (maxSteps := 4000000) only [go_sem, take_more he, List.map_append]
      exact ole_row rfl fun x hx => by
        rcases List.mem_append.1 hx with hx | hx
        · rcases List.mem_append.1 hx with hx | hx
          · obtain ⟨y, _, rfl⟩ := List.mem_map.1 hx; simp -implicitDefEqProofs (maxSteps := 4000000) only [go_sem]
          · obtain rfl := List.mem_singleton.1 hx; simp -implicitDefEqProofs (maxSteps := 4000000) only [go_sem]
        · rw [List.eq_of_mem_replicate hx]; simp -implicitDefEqProofs (maxSteps := 4000000) only [go_sem]
    · obtain rfl : i = a.length := by omega
      simp -implicitDefEqProofs (maxSteps := 4000000) only [go_sem, List.take_length, Nat.sub_self]
      exact end_pub hK () trivial rfl rfl (toEs_map _) rfl
theorem eqStringS_ct (a : List ByteArray) (hsm : (a.length ≤ 1048576 ∧ ∀ y ∈ a, y.size ≤ 1048576)) : Ct Try.prog 71 [.d (.lst (a.map D.str)), .d (.lst (a.map D.str))] [] (fun _ : Unit => True) (fun _ => .bool true) (fun _ => []) := by
  refine ct_go tyOk Try.func71 rfl (by decide +kernel) Try.ntmps71 rfl (fun _ _ => Nat.le_refl _) ?_
  intro K hK
  obtain ⟨ha, hel⟩ := hsm
  simp -implicitDefEqProofs (maxSteps := 4000000) only [go_sem]
  refine loop_go tyOk (fun i : Nat => ⟨fr 26 [(0, .d (.lst (a.map D.str))), (1, .d (.lst (a.map D.str))), (5, .int i)], [], 0⟩)
    (fun i => i ≤ a.length) (fun i => a.length - i) 0 0 (Nat.zero_le _) (by simp -implicitDefEqProofs (maxSteps := 4000000) only [go_sem]) ?_
  intro i hi L hL
  simp -implicitDefEqProofs (maxSteps := 4000000) only [go_sem]
  refine ⟨fun h => ?_, fun h => end_pure hK () trivial (by simp -implicitDefEqProofs (maxSteps := 4000000) only [go_sem])⟩
  refine draw_rule tyOk (by kernel_rfl) [0, 1, 2, 3, 4, 5, 6, 7, 8] (by kernel_rfl) ?_
  simp -implicitDefEqProofs (maxSteps := 4000000) only [go_sem]
  refine ⟨by omega, fun e he => ⟨by omega, fun e' he' => ?_⟩⟩
  obtain rfl : e = e' := by rw [he] at he'; exact Option.some.inj he'
  have hw : wr .i64 ((i : Int) + 1) = ((i + 1 : Nat) : Int) := by rw [wr_in (by omega)]; omega
  simp -implicitDefEqProofs (maxSteps := 4000000) only [go_sem, hw]
  exact hL _ (i + 1) 0 (by omega) (by omega) (by simp -implicitDefEqProofs (maxSteps := 4000000) only [go_sem])
theorem szRule_ct (a : TRule) (hok : a.ok) (l : Int) (h0 : 0 ≤ l) (h1 : l ≤ 1048576) : Ct Try.prog 95 [.d a.E, .int l] [] (fun _ : Unit => True) (fun _ => .int (TRule.sz a l)) (fun _ => []) := by
  refine ct_go tyOk Try.func95 rfl (by decide +kernel) Try.ntmps95 rfl (fun _ _ => Nat.le_refl _) ?_
  intro K hK
  obtain ⟨k0, k1, k2, k3, k4⟩ := hok
  obtain ⟨l1, e0⟩ : ∃ m : Int, m = l - (a.name_.size : Int) := ⟨_, rfl⟩
  have w0 : wr .i64 (l - (a.name_.size : Int)) = l1 := by rw [wr_in (by omega)]; omega
  simp -implicitDefEqProofs (maxSteps := 4000000) only [go_sem, w0]
  refine ⟨fun p0 => end_pure hK () trivial (by simp -implicitDefEqProofs (maxSteps := 4000000) only [go_sem, TRule.sz, szSeq, ← e0, if_pos p0]), fun n0 => ?_⟩
  obtain ⟨l2, e1⟩ : ∃ m : Int, m = l1 - (a.con_.size : Int) := ⟨_, rfl⟩
  have w1 : wr .i64 (l1 - (a.con_.size : Int)) = l2 := by rw [wr_in (by omega)]; omega
  simp -implicitDefEqProofs (maxSteps := 4000000) only [go_sem, w1]
  refine ⟨fun p1 => end_pure hK () trivial (by simp -implicitDefEqProofs (maxSteps := 4000000) only [go_sem, TRule.sz, szSeq, ← e0, if_neg n0, ← e1, if_pos p1]), fun n1 => ?_⟩
  refine call_int [(.lst (a.vars_.map D.str)), .int l2] (szStringS_ct a.vars_ k2 l2 (by omega) (by omega)) rfl fun l3 e2 => ?_
  have b2 := szL_le (a := a.vars_) (fun y _ => (fun l _ => szB_le y l)) l2 (by omega)
  rw [← e2] at b2
  simp -implicitDefEqProofs (maxSteps := 4000000) only [go_sem]
  refine ⟨fun p2 => end_pure hK () trivial (by simp -implicitDefEqProofs (maxSteps := 4000000) only [go_sem, TRule.sz, szSeq, ← e0, if_neg n0, ← e1, if_neg n1, ← e2, if_pos p2]), fun n2 => ?_⟩
  refine call_int [(.lst (a.params_.map D.str)), .int l3] (szStringS_ct a.params_ k3 l3 (by omega) (by omega)) rfl fun l4 e3 => ?_
  have b3 := szL_le (a := a.params_) (fun y _ => (fun l _ => szB_le y l)) l3 (by omega)
  rw [← e3] at b3
  simp -implicitDefEqProofs (maxSteps := 4000000) only [go_sem]
  refine ⟨fun p3 => end_pure hK () trivial (by simp -implicitDefEqProofs (maxSteps := 4000000) only [go_sem, TRule.sz, szSeq, ← e0, if_neg n0, ← e1, if_neg n1, ← e2, if_neg n2, ← e3, if_pos p3]), fun n3 => ?_⟩
  refine call_int [a.body_.E, .int l4] (szExpr_ct a.body_ k4 l4 (by omega) (by omega)) rfl fun l5 e4 => ?_
  have b4 := szE_le a.body_ l4 (by omega)
  rw [← e4] at b4
  simp -implicitDefEqProofs (maxSteps := 4000000) only [go_sem]
  refine ⟨fun p4 => end_pure hK () trivial (by simp -implicitDefEqProofs (maxSteps := 4000000) only [go_sem, TRule.sz, szSeq, ← e0, if_neg n0, ← e1, if_neg n1, ← e2, if_neg n2, ← e3, if_neg n3, ← e4, if_pos p4]), fun n4 => ?_⟩
  exact end_pure hK () trivial (by simp -implicitDefEqProofs (maxSteps := 4000000) only [go_sem, TRule.sz, szSeq, ← e0, if_neg n0, ← e1, if_neg n1, ← e2, if_neg n2, ← e3, if_neg n3, ← e4, if_neg n4])
theorem toRule_ct (a : TRule) (hsm : a.sm) : Ct Try.prog 98 [.d a.E] [] (fun _ : Unit => True) (fun _ => .d a.E) (fun _ => []) := by
  refine ct_go tyOk Try.func98 rfl (by decide +kernel) Try.ntmps98 rfl (fun _ _ => Nat.le_refl _) ?_
  intro K hK
  obtain ⟨k0, k1, k2, k3, k4⟩ := hsm
  simp -implicitDefEqProofs (maxSteps := 4000000) only [go_sem]
  refine call_data [(.lst (a.vars_.map D.str))] (toStringS_ct a.vars_ k2) rfl fun _ _ => ?_
  simp -implicitDefEqProofs (maxSteps := 4000000) only [go_sem]
  refine call_data [(.lst (a.params_.map D.str))] (toStringS_ct a.params_ k3) rfl fun _ _ => ?_
  simp -implicitDefEqProofs (maxSteps := 4000000) only [go_sem]
  refine call_data [a.body_.E] (toExpr_ct a.body_ k4) rfl fun _ _ => ?_
  simp -implicitDefEqProofs (maxSteps := 4000000) only [go_sem]
  exact end_cell hK () trivial rfl rfl ty91 (by simp -implicitDefEqProofs (maxSteps := 4000000) only [go_sem])
theorem eqRule_ct (a : TRule) (hsm : a.sm) : Ct Try.prog 110 [.d a.E, .d a.E] [] (fun _ : Unit => True) (fun _ => .bool true) (fun _ => []) := by
  refine ct_go tyOk Try.func110 rfl (by decide +kernel) Try.ntmps110 rfl (fun _ _ => Nat.le_refl _) ?_
  intro K hK
  obtain ⟨k0, k1, k2, k3, k4⟩ := hsm
  simp -implicitDefEqProofs (maxSteps := 4000000) only [go_sem]
  refine call_data [(.lst (a.vars_.map D.str)), (.lst (a.vars_.map D.str))] (eqStringS_ct a.vars_ k2) rfl fun _ _ => ?_
  simp -implicitDefEqProofs (maxSteps := 4000000) only [go_sem]
  refine call_data [(.lst (a.params_.map D.str)), (.lst (a.params_.map D.str))] (eqStringS_ct a.params_ k3) rfl fun _ _ => ?_
  simp -implicitDefEqProofs (maxSteps := 4000000) only [go_sem]
  refine call_data [a.body_.E, a.body_.E] (eqExpr_ct a.body_ k4) rfl fun _ _ => ?_
  simp -implicitDefEqProofs (maxSteps := 4000000) only [go_sem]
  exact end_pure hK () trivial (by simp -implicitDefEqProofs (maxSteps := 4000000) only [go_sem])
theorem szRuleS_ct (a : List TRule) (hok : (a.length ≤ 9223372036854775807 ∧ ∀ y ∈ a, y.ok)) (l : Int) (h0 : 0 ≤ l) (h1 : l ≤ 1048576) : Ct Try.prog 44 [.d (.lst (a.map TRule.E)), .int l] [] (fun _ : Unit => True) (fun _ => .int ((szL TRule.sz) a l)) (fun _ => []) := by
  refine ct_go tyOk Try.func44 rfl (by decide +kernel) Try.ntmps44 rfl (fun _ _ => Nat.le_refl _) ?_
  intro K hK
  obtain ⟨ha, hel⟩ := hok
  have hw : wr .i64 (l - a.length) = l - a.length := wr_in (by omega)
  simp -implicitDefEqProofs (maxSteps := 4000000) only [go_sem, hw]
  refine ⟨fun h => end_pure hK () trivial (by simp -implicitDefEqProofs (maxSteps := 4000000) only [go_sem, szL, if_pos h]), fun h => ?_⟩
  refine loop_go tyOk (fun i : Nat × Int => ⟨fr 27 [(0, .d (.lst (a.map TRule.E))), (1, .int i.2), (4, .int 0), (5, .int i.1)], [], 0⟩)
    (fun i => i.1 ≤ a.length ∧ 0 ≤ i.2 ∧ i.2 ≤ 1048576 ∧ szSeq ((a.drop i.1).map TRule.sz) i.2 = szL TRule.sz a l) (fun i => a.length - i.1) (0, l - a.length) 0
    ⟨Nat.zero_le _, by omega, by omega, by simp only [szL, if_neg h, List.drop_zero]⟩ (by simp -implicitDefEqProofs (maxSteps := 4000000) only [go_sem]) ?_
  rintro ⟨i, m⟩ ⟨hi, hm0, hm1, hm⟩ L hL
  simp -implicitDefEqProofs (maxSteps := 4000000) only [go_sem]
  refine ⟨fun h => ⟨by omega, fun e he => ?_⟩, fun h => end_pure hK () trivial ?_⟩
  · rw [drop_of he, List.map_cons, szSeq] at hm
    have hb := e.sz_le m hm0
    have hw : wr .i64 ((i : Int) + 1) = ((i + 1 : Nat) : Int) := by rw [wr_in (by omega)]; omega
    refine call_data [e.E, .int m] (szRule_ct e (hel e (List.mem_of_getElem? he)) m hm0 hm1) rfl fun _ _ => ?_
    simp -implicitDefEqProofs (maxSteps := 4000000) only [go_sem, hw]
    refine ⟨fun h2 => end_pure hK () trivial ?_, fun h2 => ?_⟩
    · simp -implicitDefEqProofs (maxSteps := 4000000) only [go_sem]; rw [if_pos h2] at hm; exact hm
    · rw [if_neg h2] at hm
      exact hL _ (i + 1, TRule.sz e m) 0 ⟨by omega, by omega, by omega, hm⟩ (by simp only; omega) (by simp -implicitDefEqProofs (maxSteps := 4000000) only [go_sem])
  · have : i = a.length := by simp only at hi; omega
    subst this
    simp -implicitDefEqProofs (maxSteps := 4000000) only [go_sem]; simpa only [List.drop_length, List.map_nil, szSeq] using hm
theorem toRuleS_ct (a : List TRule) (hsm : (a.length ≤ 1048576 ∧ ∀ y ∈ a, y.sm)) : Ct Try.prog 47 [.d (.lst (a.map TRule.E))] [] (fun _ : Unit => True) (fun _ => .d (.lst (a.map TRule.E))) (fun _ => []) := by
  refine ct_go tyOk Try.func47 rfl (by decide +kernel) Try.ntmps47 rfl (fun _ _ => Nat.le_refl _) ?_
  intro K hK
  obtain ⟨ha, hel⟩ := hsm
  simp -implicitDefEqProofs (maxSteps := 4000000) only [go_sem]
  refine ⟨by omega, by omega, ?_⟩
  refine loop_go tyOk (fun i : Nat => ⟨fr 23 [(0, .d (.lst (a.map TRule.E))), (2, .nil), (3, .arr 0), (4, .int i)], [.row 91 7 (((a.take i).map TRule.E).map A.d ++ List.replicate (a.length - i) (.agg [.str ⟨#[]⟩, .str ⟨#[]⟩, .nil, .nil, .int 0, .str ⟨#[]⟩, .nil]))], 0⟩)
    (fun i => i ≤ a.length) (fun i => a.length - i) 0 1 (Nat.zero_le _) ?_ ?_
  · simp -implicitDefEqProofs (maxSteps := 4000000) only [go_sem, List.take_zero, Nat.sub_zero]
    exact ole_row rfl fun x hx => by rw [List.eq_of_mem_replicate hx]; simp -implicitDefEqProofs (maxSteps := 4000000) only [go_sem]
  · intro i hi L hL
    simp -implicitDefEqProofs (maxSteps := 4000000) only [go_sem]
    refine ⟨fun h => ⟨by omega, fun e he => ?_⟩, fun h => ?_⟩
    · have hw : wr .i64 ((i : Int) + 1) = ((i + 1 : Nat) : Int) := by rw [wr_in (by omega)]; omega
      have hlt : (a.take i).length = i := by rw [List.length_take]; omega
      refine call_data [e.E] (toRule_ct e (hel e (List.mem_of_getElem? he))) rfl fun _ _ => ?_
      simp -implicitDefEqProofs (maxSteps := 4000000) only [go_sem, hw, hlt]
      refine ⟨by omega, by omega, hL _ (i + 1) 1 (by omega) (by omega) ?_⟩
      rw [fill_set (by simpa using hlt) (by omega)]
      simp -implicitDefEqProofs (maxSteps := 4000000) only [go_sem, take_more he, List.map_append]
      exact ole_row rfl fun x hx => by
        rcases List.mem_append.1 hx with hx | hx
        · rcases List.mem_append.1 hx with hx | hx
          · obtain ⟨y, _, rfl⟩ := List.mem_map.1 hx; simp -implicitDefEqProofs (maxSteps := 4000000) only [go_sem]
          · obtain rfl := List.mem_singleton.1 hx; simp -implicitDefEqProofs (maxSteps := 4000000) only [go_sem]
        · rw [List.eq_of_mem_replicate hx]; simp -implicitDefEqProofs (maxSteps := 4000000) only [go_sem]
    · obtain rfl : i = a.length := by omega
      simp -implicitDefEqProofs (maxSteps := 4000000) only [go_sem, List.take_length, Nat.sub_self]
      exact end_pub hK () trivial rfl rfl (toEs_map _) rfl
theorem eqRuleS_ct (a : List TRule) (hsm : (a.length ≤ 1048576 ∧ ∀ y ∈ a, y.sm)) : Ct Try.prog 50 [.d (.lst (a.map TRule.E)), .d (.lst (a.map TRule.E))] [] (fun _ : Unit => True) (fun _ => .bool true) (fun _ => []) := by
  refine ct_go tyOk Try.func50 rfl (by decide +kernel) Try.ntmps50 rfl (fun _ _ => Nat.le_refl _) ?_
  intro K hK
  obtain ⟨ha, hel⟩ := hsm
  simp -implicitDefEqProofs (maxSteps := 4000000) only [go_sem]
  refine loop_go tyOk (fun i : Nat => ⟨fr 27 [(0, .d (.lst (a.map TRule.E))), (1, .d (.lst (a.map TRule.E))), (5, .int i)], [], 0⟩)
    (fun i => i ≤ a.length) (fun i => a.length - i) 0 0 (Nat.zero_le _) (by simp -implicitDefEqProofs (maxSteps := 4000000) only [go_sem]) ?_
  intro i hi L hL
  simp -implicitDefEqProofs (maxSteps := 4000000) only [go_sem]
  refine ⟨fun h => ?_, fun h => end_pure hK () trivial (by simp -implicitDefEqProofs (maxSteps := 4000000) only [go_sem])⟩
  refine draw_rule tyOk (by kernel_rfl) [0, 1, 2, 3, 4, 5, 6, 7, 8, 9] (by kernel_rfl) ?_
  simp -implicitDefEqProofs (maxSteps := 4000000) only [go_sem]
  refine ⟨by omega, fun e he => ⟨by omega, fun e' he' => ?_⟩⟩
  obtain rfl : e = e' := by rw [he] at he'; exact Option.some.inj he'
  have hw : wr .i64 ((i : Int) + 1) = ((i + 1 : Nat) : Int) := by rw [wr_in (by omega)]; omega
  refine calm_data [e.E, e.E] (eqRule_ct e (hel e (List.mem_of_getElem? he))) rfl fun _ _ => ?_
  simp -implicitDefEqProofs (maxSteps := 4000000) only [go_sem, hw]
  exact hL _ (i + 1) 0 (by omega) (by omega) (by simp -implicitDefEqProofs (maxSteps := 4000000) only [go_sem])
theorem szProgram_ct (a : TProgram) (hok : a.ok) (l : Int) (h0 : 0 ≤ l) (h1 : l ≤ 1048576) : Ct Try.prog 8 [.d a.E, .int l] [] (fun _ : Unit => True) (fun _ => .int (TProgram.sz a l)) (fun _ => []) := by
  refine ct_go tyOk Try.func8 rfl (by decide +kernel) Try.ntmps8 rfl (fun _ _ => Nat.le_refl _) ?_
  intro K hK
  have k0 : (a.rules_.length ≤ 9223372036854775807 ∧ ∀ y ∈ a.rules_, y.ok) := hok
  simp -implicitDefEqProofs (maxSteps := 4000000) only [go_sem]
  refine call_int [(.lst (a.rules_.map TRule.E)), .int l] (szRuleS_ct a.rules_ k0 l (by omega) (by omega)) rfl fun l1 e0 => ?_
  have b0 := szL_le (a := a.rules_) (fun y _ => (fun l h => (y.sz_le l h).2)) l (by omega)
  rw [← e0] at b0
  simp -implicitDefEqProofs (maxSteps := 4000000) only [go_sem]
  refine ⟨fun p0 => end_pure hK () trivial (by simp -implicitDefEqProofs (maxSteps := 4000000) only [go_sem, TProgram.sz, szSeq, ← e0, if_pos p0]), fun n0 => ?_⟩
  exact end_pure hK () trivial (by simp -implicitDefEqProofs (maxSteps := 4000000) only [go_sem, TProgram.sz, szSeq, ← e0, if_neg n0])
theorem toProgram_ct (a : TProgram) (hsm : a.sm) : Ct Try.prog 10 [.d a.E] [] (fun _ : Unit => True) (fun _ => .d a.E) (fun _ => []) := by
  refine ct_go tyOk Try.func10 rfl (by decide +kernel) Try.ntmps10 rfl (fun _ _ => Nat.le_refl _) ?_
  intro K hK
  have k0 : (a.rules_.length ≤ 1048576 ∧ ∀ y ∈ a.rules_, y.sm) := hsm
  simp -implicitDefEqProofs (maxSteps := 4000000) only [go_sem]
  refine call_data [(.lst (a.rules_.map TRule.E))] (toRuleS_ct a.rules_ k0) rfl fun _ _ => ?_
  simp -implicitDefEqProofs (maxSteps := 4000000) only [go_sem]
  exact end_cell hK () trivial rfl rfl ty29 (by simp -implicitDefEqProofs (maxSteps := 4000000) only [go_sem])
theorem eqProgram_ct (a : TProgram) (hsm : a.sm) : Ct Try.prog 12 [.d a.E, .d a.E] [] (fun _ : Unit => True) (fun _ => .bool true) (fun _ => []) := by
  refine ct_go tyOk Try.func12 rfl (by decide +kernel) Try.ntmps12 rfl (fun _ _ => Nat.le_refl _) ?_
  intro K hK
  have k0 : (a.rules_.length ≤ 1048576 ∧ ∀ y ∈ a.rules_, y.sm) := hsm
  simp -implicitDefEqProofs (maxSteps := 4000000) only [go_sem]
  refine call_data [(.lst (a.rules_.map TRule.E)), (.lst (a.rules_.map TRule.E))] (eqRuleS_ct a.rules_ k0) rfl fun _ _ => ?_
  simp -implicitDefEqProofs (maxSteps := 4000000) only [go_sem]
  exact end_pure hK () trivial (by simp -implicitDefEqProofs (maxSteps := 4000000) only [go_sem])
theorem szResidual_ct (a : TResidual) (hok : a.ok) (l : Int) (h0 : 0 ≤ l) (h1 : l ≤ 1048576) : Ct Try.prog 13 [.d a.E, .int l] [] (fun _ : Unit => True) (fun _ => .int (TResidual.sz a l)) (fun _ => []) := by
  refine ct_go tyOk Try.func13 rfl (by decide +kernel) Try.ntmps13 rfl (fun _ _ => Nat.le_refl _) ?_
  intro K hK
  obtain ⟨k0, k1⟩ := hok
  simp -implicitDefEqProofs (maxSteps := 4000000) only [go_sem]
  refine call_int [a.program_.E, .int l] (szProgram_ct a.program_ k0 l (by omega) (by omega)) rfl fun l1 e0 => ?_
  have b0 := a.program_.sz_le l (by omega)
  rw [← e0] at b0
  simp -implicitDefEqProofs (maxSteps := 4000000) only [go_sem]
  refine ⟨fun p0 => end_pure hK () trivial (by simp -implicitDefEqProofs (maxSteps := 4000000) only [go_sem, TResidual.sz, szSeq, ← e0, if_pos p0]), fun n0 => ?_⟩
  refine call_int [a.start_.E, .int l1] (szExpr_ct a.start_ k1 l1 (by omega) (by omega)) rfl fun l2 e1 => ?_
  have b1 := szE_le a.start_ l1 (by omega)
  rw [← e1] at b1
  simp -implicitDefEqProofs (maxSteps := 4000000) only [go_sem]
  refine ⟨fun p1 => end_pure hK () trivial (by simp -implicitDefEqProofs (maxSteps := 4000000) only [go_sem, TResidual.sz, szSeq, ← e0, if_neg n0, ← e1, if_pos p1]), fun n1 => ?_⟩
  exact end_pure hK () trivial (by simp -implicitDefEqProofs (maxSteps := 4000000) only [go_sem, TResidual.sz, szSeq, ← e0, if_neg n0, ← e1, if_neg n1])
theorem toResidual_ct (a : TResidual) (hsm : a.sm) : Ct Try.prog 15 [.d a.E] [] (fun _ : Unit => True) (fun _ => .d a.E) (fun _ => []) := by
  refine ct_go tyOk Try.func15 rfl (by decide +kernel) Try.ntmps15 rfl (fun _ _ => Nat.le_refl _) ?_
  intro K hK
  obtain ⟨k0, k1⟩ := hsm
  simp -implicitDefEqProofs (maxSteps := 4000000) only [go_sem]
  refine call_data [a.program_.E] (toProgram_ct a.program_ k0) rfl fun _ _ => ?_
  simp -implicitDefEqProofs (maxSteps := 4000000) only [go_sem]
  refine call_data [a.start_.E] (toExpr_ct a.start_ k1) rfl fun _ _ => ?_
  simp -implicitDefEqProofs (maxSteps := 4000000) only [go_sem]
  exact end_cell hK () trivial rfl rfl ty44 (by simp -implicitDefEqProofs (maxSteps := 4000000) only [go_sem])
theorem eqResidual_ct (a : TResidual) (hsm : a.sm) : Ct Try.prog 17 [.d a.E, .d a.E] [] (fun _ : Unit => True) (fun _ => .bool true) (fun _ => []) := by
  refine ct_go tyOk Try.func17 rfl (by decide +kernel) Try.ntmps17 rfl (fun _ _ => Nat.le_refl _) ?_
  intro K hK
  obtain ⟨k0, k1⟩ := hsm
  simp -implicitDefEqProofs (maxSteps := 4000000) only [go_sem]
  refine call_data [a.program_.E, a.program_.E] (eqProgram_ct a.program_ k0) rfl fun _ _ => ?_
  simp -implicitDefEqProofs (maxSteps := 4000000) only [go_sem]
  refine call_data [a.start_.E, a.start_.E] (eqExpr_ct a.start_ k1) rfl fun _ _ => ?_
  simp -implicitDefEqProofs (maxSteps := 4000000) only [go_sem]
  exact end_pure hK () trivial (by simp -implicitDefEqProofs (maxSteps := 4000000) only [go_sem])
end Go.Proofs.Ytfmllefmfhefpaa
