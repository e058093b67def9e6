/- Measures, copies, comparisons: the walks. Printed by gen.py. -/
import Derived.Test.YtbbdjpmfaclnjaaAbW
import Derived.Test.YtbbdjpmfaclnjaaAbZ
namespace Go.Proofs.Ytbbdjpmfaclnjaa
open Go Go.Ab
set_option linter.unusedVariables false
set_option linter.unusedSimpArgs false
set_option maxRecDepth 100000
set_option maxHeartbeats 4000000
theorem szStringS_ct (a : List ByteArray) (hok : (a.length ≤ 9223372036854775807 ∧ ∀ y ∈ a, y.size ≤ 9223372036854775807)) (l : Int) (h0 : 0 ≤ l) (h1 : l ≤ 1048576) : Ct Try.prog 48 [.d (.lst (a.map D.str)), .int l] [] (fun _ : Unit => True) (fun _ => .int ((szL (fun s l => l - (s.size : Int))) a l)) (fun _ => []) := by
  refine ct_go tyOk Try.func48 rfl (by decide +kernel) Try.ntmps48 rfl (fun _ _ => Nat.le_refl _) ?_
  intro K hK
  obtain ⟨ha, hel⟩ := hok
  have hw : wr .i64 (l - a.length) = l - a.length := wr_in (by omega)
  simp -implicitDefEqProofs (maxSteps := 4000000) only [go_sem, hw]
  refine ⟨fun h => end_pure hK () trivial (by simp -implicitDefEqProofs (maxSteps := 4000000) only [go_sem, szL, if_pos h]), fun h => ?_⟩
  refine loop_go tyOk (fun i : Nat × Int => ⟨fr 28 [(0, .d (.lst (a.map D.str))), (1, .int i.2), (4, .int 0), (5, .int i.1)], [], 0⟩)
    (fun i => i.1 ≤ a.length ∧ 0 ≤ i.2 ∧ i.2 ≤ 1048576 ∧ szSeq ((a.drop i.1).map (fun s l => l - (s.size : Int))) i.2 = szL (fun s l => l - (s.size : Int)) a l) (fun i => a.length - i.1) (0, l - a.length) 0
    ⟨Nat.zero_le _, by omega, by omega, by simp only [szL, if_neg h, List.drop_zero]⟩ (by simp -implicitDefEqProofs (maxSteps := 4000000) only [go_sem]) ?_
  rintro ⟨i, m⟩ ⟨hi, hm0, hm1, hm⟩ L hL
  simp -implicitDefEqProofs (maxSteps := 4000000) only [go_sem]
  refine ⟨fun h => ⟨by omega, fun e he => ?_⟩, fun h => end_pure hK () trivial ?_⟩
  · rw [drop_of he, List.map_cons, szSeq] at hm
    have hb := (fun (l : Int) (_ : 0 ≤ l) => szB_le e l) m hm0
    have hw : wr .i64 ((i : Int) + 1) = ((i + 1 : Nat) : Int) := by rw [wr_in (by omega)]; omega
    have hs := hel e (List.mem_of_getElem? he)
    have hw2 : wr .i64 (m - e.size) = m - e.size := wr_in (by omega)
    simp -implicitDefEqProofs (maxSteps := 4000000) only [go_sem, hw, hw2]
    refine ⟨fun h2 => end_pure hK () trivial ?_, fun h2 => ?_⟩
    · simp -implicitDefEqProofs (maxSteps := 4000000) only [go_sem]; rw [if_pos h2] at hm; exact hm
    · rw [if_neg h2] at hm
      exact hL _ (i + 1, m - (e.size : Int)) 0 ⟨by omega, by omega, by omega, hm⟩ (by simp only; omega) (by simp -implicitDefEqProofs (maxSteps := 4000000) only [go_sem])
  · have : i = a.length := by simp only at hi; omega
    subst this
    simp -implicitDefEqProofs (maxSteps := 4000000) only [go_sem]; simpa only [List.drop_length, List.map_nil, szSeq] using hm
theorem szIntS_ct (a : List Int) (hok : a.length ≤ 9223372036854775807) (l : Int) (h0 : 0 ≤ l) (h1 : l ≤ 1048576) : Ct Try.prog 49 [.d (.lst (a.map D.int)), .int l] [] (fun _ : Unit => True) (fun _ => .int (szI a l)) (fun _ => []) := by
  refine ct_go tyOk Try.func49 rfl (by decide +kernel) Try.ntmps49 rfl (fun _ _ => Nat.le_refl _) ?_
  intro K hK
  have hw : wr .i64 (l - a.length) = l - a.length := wr_in (by omega)
  simp -implicitDefEqProofs (maxSteps := 4000000) only [go_sem, hw]
  exact ⟨fun h => end_pure hK () trivial (by simp -implicitDefEqProofs (maxSteps := 4000000) only [go_sem, szI, if_pos h]), fun h => end_pure hK () trivial (by simp -implicitDefEqProofs (maxSteps := 4000000) only [go_sem, szI, if_neg h])⟩
theorem szIntSS_ct (a : List (List Int)) (hok : (a.length ≤ 9223372036854775807 ∧ ∀ y ∈ a, y.length ≤ 9223372036854775807)) (l : Int) (h0 : 0 ≤ l) (h1 : l ≤ 1048576) : Ct Try.prog 50 [.d (.lst (a.map (fun r => D.lst (r.map D.int)))), .int l] [] (fun _ : Unit => True) (fun _ => .int ((szL szI) a l)) (fun _ => []) := by
  refine ct_go tyOk Try.func50 rfl (by decide +kernel) Try.ntmps50 rfl (fun _ _ => Nat.le_refl _) ?_
  intro K hK
  obtain ⟨ha, hel⟩ := hok
  have hw : wr .i64 (l - a.length) = l - a.length := wr_in (by omega)
  simp -implicitDefEqProofs (maxSteps := 4000000) only [go_sem, hw]
  refine ⟨fun h => end_pure hK () trivial (by simp -implicitDefEqProofs (maxSteps := 4000000) only [go_sem, szL, if_pos h]), fun h => ?_⟩
  refine loop_go tyOk (fun i : Nat × Int => ⟨fr 27 [(0, .d (.lst (a.map (fun r => D.lst (r.map D.int))))), (1, .int i.2), (4, .int 0), (5, .int i.1)], [], 0⟩)
    (fun i => i.1 ≤ a.length ∧ 0 ≤ i.2 ∧ i.2 ≤ 1048576 ∧ szSeq ((a.drop i.1).map szI) i.2 = szL szI a l) (fun i => a.length - i.1) (0, l - a.length) 0
    ⟨Nat.zero_le _, by omega, by omega, by simp only [szL, if_neg h, List.drop_zero]⟩ (by simp -implicitDefEqProofs (maxSteps := 4000000) only [go_sem]) ?_
  rintro ⟨i, m⟩ ⟨hi, hm0, hm1, hm⟩ L hL
  simp -implicitDefEqProofs (maxSteps := 4000000) only [go_sem]
  refine ⟨fun h => ⟨by omega, fun e he => ?_⟩, fun h => end_pure hK () trivial ?_⟩
  · rw [drop_of he, List.map_cons, szSeq] at hm
    have hb := szI_le e m hm0
    have hw : wr .i64 ((i : Int) + 1) = ((i + 1 : Nat) : Int) := by rw [wr_in (by omega)]; omega
    refine call_data [(.lst (e.map D.int)), .int m] (szIntS_ct e (hel e (List.mem_of_getElem? he)) m hm0 hm1) rfl fun _ _ => ?_
    simp -implicitDefEqProofs (maxSteps := 4000000) only [go_sem, hw]
    refine ⟨fun h2 => end_pure hK () trivial ?_, fun h2 => ?_⟩
    · simp -implicitDefEqProofs (maxSteps := 4000000) only [go_sem]; rw [if_pos h2] at hm; exact hm
    · rw [if_neg h2] at hm
      exact hL _ (i + 1, szI e m) 0 ⟨by omega, by omega, by omega, hm⟩ (by simp only; omega) (by simp -implicitDefEqProofs (maxSteps := 4000000) only [go_sem])
  · have : i = a.length := by simp only at hi; omega
    subst this
    simp -implicitDefEqProofs (maxSteps := 4000000) only [go_sem]; simpa only [List.drop_length, List.map_nil, szSeq] using hm
theorem toStringS_ct (a : List ByteArray) (hsm : (a.length ≤ 1048576 ∧ ∀ y ∈ a, y.size ≤ 1048576)) : Ct Try.prog 54 [.d (.lst (a.map D.str))] [] (fun _ : Unit => True) (fun _ => .d (.lst (a.map D.str))) (fun _ => []) := by
  refine ct_go tyOk Try.func54 rfl (by decide +kernel) Try.ntmps54 rfl (fun _ _ => Nat.le_refl _) ?_
  intro K hK
  obtain ⟨ha, hel⟩ := hsm
  simp -implicitDefEqProofs (maxSteps := 4000000) only [go_sem]
  refine ⟨by omega, by omega, ?_⟩
  refine loop_go tyOk (fun i : Nat => ⟨fr 22 [(0, .d (.lst (a.map D.str))), (2, .nil), (3, .arr 0), (4, .int i)], [.row 9 1 (((a.take i).map D.str).map A.d ++ List.replicate (a.length - i) (.str ⟨#[]⟩))], 0⟩)
    (fun i => i ≤ a.length) (fun i => a.length - i) 0 1 (Nat.zero_le _) ?_ ?_
  · simp -implicitDefEqProofs (maxSteps := 4000000) only [go_sem, List.take_zero, Nat.sub_zero]
    exact ole_row rfl fun x hx => by rw [List.eq_of_mem_replicate hx]; simp -implicitDefEqProofs (maxSteps := 4000000) only [go_sem]
  · intro i hi L hL
    simp -implicitDefEqProofs (maxSteps := 4000000) only [go_sem]
    refine ⟨fun h => ⟨by omega, fun e he => ?_⟩, fun h => ?_⟩
    · have hw : wr .i64 ((i : Int) + 1) = ((i + 1 : Nat) : Int) := by rw [wr_in (by omega)]; omega
      have hlt : (a.take i).length = i := by rw [List.length_take]; omega
      simp -implicitDefEqProofs (maxSteps := 4000000) only [go_sem, hw, hlt]
      refine ⟨by omega, by omega, hL _ (i + 1) 1 (by omega) (by omega) ?_⟩
      rw [fill_set (by simpa using hlt) (by omega)]
      simp -implicitDefEqProofs (maxSteps := 4000000) only [go_sem, take_more he, List.map_append]
      exact ole_row rfl fun x hx => by
        rcases List.mem_append.1 hx with hx | hx
        · rcases List.mem_append.1 hx with hx | hx
          · obtain ⟨y, _, rfl⟩ := List.mem_map.1 hx; simp -implicitDefEqProofs (maxSteps := 4000000) only [go_sem]
          · obtain rfl := List.mem_singleton.1 hx; simp -implicitDefEqProofs (maxSteps := 4000000) only [go_sem]
        · rw [List.eq_of_mem_replicate hx]; simp -implicitDefEqProofs (maxSteps := 4000000) only [go_sem]
    · obtain rfl : i = a.length := by omega
      simp -implicitDefEqProofs (maxSteps := 4000000) only [go_sem, List.take_length, Nat.sub_self]
      exact end_pub hK () trivial rfl rfl (toEs_map _) rfl
theorem toIntS_ct (a : List Int) (hsm : a.length ≤ 1048576) : Ct Try.prog 55 [.d (.lst (a.map D.int))] [] (fun _ : Unit => True) (fun _ => .d (.lst (a.map D.int))) (fun _ => []) := by
  refine ct_go tyOk Try.func55 rfl (by decide +kernel) Try.ntmps55 rfl (fun _ _ => Nat.le_refl _) ?_
  intro K hK
  have ha := hsm
  simp -implicitDefEqProofs (maxSteps := 4000000) only [go_sem]
  refine ⟨by omega, by omega, ?_⟩
  refine loop_go tyOk (fun i : Nat => ⟨fr 22 [(0, .d (.lst (a.map D.int))), (2, .nil), (3, .arr 0), (4, .int i)], [.row 3 1 (((a.take i).map D.int).map A.d ++ List.replicate (a.length - i) (.int 0))], 0⟩)
    (fun i => i ≤ a.length) (fun i => a.length - i) 0 1 (Nat.zero_le _) ?_ ?_
  · simp -implicitDefEqProofs (maxSteps := 4000000) only [go_sem, List.take_zero, Nat.sub_zero]
    exact ole_row rfl fun x hx => by rw [List.eq_of_mem_replicate hx]; simp -implicitDefEqProofs (maxSteps := 4000000) only [go_sem]
  · intro i hi L hL
    simp -implicitDefEqProofs (maxSteps := 4000000) only [go_sem]
    refine ⟨fun h => ⟨by omega, fun e he => ?_⟩, fun h => ?_⟩
    · have hw : wr .i64 ((i : Int) + 1) = ((i + 1 : Nat) : Int) := by rw [wr_in (by omega)]; omega
      have hlt : (a.take i).length = i := by rw [List.length_take]; omega
      simp -implicitDefEqProofs (maxSteps := 4000000) only [go_sem, hw, hlt]
      refine ⟨by omega, by omega, hL _ (i + 1) 1 (by omega) (by omega) ?_⟩
      rw [fill_set (by simpa using hlt) (by omega)]
      simp -implicitDefEqProofs (maxSteps := 4000000) only [go_sem, take_more he, List.map_append]
      exact ole_row rfl fun x hx => by
        rcases List.mem_append.1 hx with hx | hx
        · rcases List.mem_append.1 hx with hx | hx
          · obtain ⟨y, _, rfl⟩ := List.mem_map.1 hx; simp -implicitDefEqProofs (maxSteps := 4000000) only [go_sem]
          · obtain rfl := List.mem_singleton.1 hx; simp -implicitDefEqProofs (maxSteps := 4000000) only [go_sem]
        · rw [List.eq_of_mem_replicate hx]; simp -implicitDefEqProofs (maxSteps := 4000000) only [go_sem]
    · obtain rfl : i = a.length := by omega
      simp -implicitDefEqProofs (maxSteps := 4000000) only [go_sem, List.take_length, Nat.sub_self]
      exact end_pub hK () trivial rfl rfl (toEs_map _) rfl
theorem toIntSS_ct (a : List (List Int)) (hsm : (a.length ≤ 1048576 ∧ ∀ y ∈ a, y.length ≤ 1048576)) : Ct Try.prog 56 [.d (.lst (a.map (fun r => D.lst (r.map D.int))))] [] (fun _ : Unit => True) (fun _ => .d (.lst (a.map (fun r => D.lst (r.map D.int))))) (fun _ => []) := by
  refine ct_go tyOk Try.func56 rfl (by decide +kernel) Try.ntmps56 rfl (fun _ _ => Nat.le_refl _) ?_
  intro K hK
  obtain ⟨ha, hel⟩ := hsm
  simp -implicitDefEqProofs (maxSteps := 4000000) only [go_sem]
  refine ⟨by omega, by omega, ?_⟩
  refine loop_go tyOk (fun i : Nat => ⟨fr 23 [(0, .d (.lst (a.map (fun r => D.lst (r.map D.int))))), (2, .nil), (3, .arr 0), (4, .int i)], [.row 42 1 (((a.take i).map (fun r => D.lst (r.map D.int))).map A.d ++ List.replicate (a.length - i) (.nil))], 0⟩)
    (fun i => i ≤ a.length) (fun i => a.length - i) 0 1 (Nat.zero_le _) ?_ ?_
  · simp -implicitDefEqProofs (maxSteps := 4000000) only [go_sem, List.take_zero, Nat.sub_zero]
    exact ole_row rfl fun x hx => by rw [List.eq_of_mem_replicate hx]; simp -implicitDefEqProofs (maxSteps := 4000000) only [go_sem]
  · intro i hi L hL
    simp -implicitDefEqProofs (maxSteps := 4000000) only [go_sem]
    refine ⟨fun h => ⟨by omega, fun e he => ?_⟩, fun h => ?_⟩
    · have hw : wr .i64 ((i : Int) + 1) = ((i + 1 : Nat) : Int) := by rw [wr_in (by omega)]; omega
      have hlt : (a.take i).length = i := by rw [List.length_take]; omega
      refine call_data [(.lst (e.map D.int))] (toIntS_ct e (hel e (List.mem_of_getElem? he))) rfl fun _ _ => ?_
      simp -implicitDefEqProofs (maxSteps := 4000000) only [go_sem, hw, hlt]
      refine ⟨by omega, by omega, hL _ (i + 1) 1 (by omega) (by omega) ?_⟩
      rw [fill_set (by simpa using hlt) (by omega)]
      simp -implicitDefEqProofs (maxSteps := 4000000) only [go_sem, take_more he, List.map_append]
      exact ole_row rfl fun x hx => by
        rcases List.mem_append.1 hx with hx | hx
        · rcases List.mem_append.1 hx with hx | hx
          · obtain ⟨y, _, rfl⟩ := List.mem_map.1 hx; simp -implicitDefEqProofs (maxSteps := 4000000) only [go_sem]
          · obtain rfl := List.mem_singleton.1 hx; simp -implicitDefEqProofs (maxSteps := 4000000) only [go_sem]
        · rw [List.eq_of_mem_replicate hx]; simp -implicitDefEqProofs (maxSteps := 4000000) only [go_sem]
    · obtain rfl : i = a.length := by omega
      simp -implicitDefEqProofs (maxSteps := 4000000) only [go_sem, List.take_length, Nat.sub_self]
      exact end_pub hK () trivial rfl rfl (toEs_map _) rfl
theorem toSorts_ct (a : TSorts) (hsm : a.sm) : Ct Try.prog 26 [.d a.E] [] (fun _ : Unit => True) (fun _ => .d a.E) (fun _ => []) := by
  refine ct_go tyOk Try.func26 rfl (by decide +kernel) Try.ntmps26 rfl (fun _ _ => Nat.le_refl _) ?_
  intro K hK
  obtain ⟨k0, k1, k2, k3, k4, k5⟩ := hsm
  simp -implicitDefEqProofs (maxSteps := 4000000) only [go_sem]
  refine call_data [(.lst (a.cons_.map D.str))] (toStringS_ct a.cons_ k0) rfl fun _ _ => ?_
  simp -implicitDefEqProofs (maxSteps := 4000000) only [go_sem]
  refine call_data [(.lst (a.of_.map D.int))] (toIntS_ct a.of_ k1) rfl fun _ _ => ?_
  simp -implicitDefEqProofs (maxSteps := 4000000) only [go_sem]
  refine call_data [(.lst (a.args_.map (fun r => D.lst (r.map D.int))))] (toIntSS_ct a.args_ k2) rfl fun _ _ => ?_
  simp -implicitDefEqProofs (maxSteps := 4000000) only [go_sem]
  refine call_data [(.lst (a.funs_.map D.str))] (toStringS_ct a.funs_ k3) rfl fun _ _ => ?_
  simp -implicitDefEqProofs (maxSteps := 4000000) only [go_sem]
  refine call_data [(.lst (a.params_.map (fun r => D.lst (r.map D.int))))] (toIntSS_ct a.params_ k4) rfl fun _ _ => ?_
  simp -implicitDefEqProofs (maxSteps := 4000000) only [go_sem]
  refine call_data [(.lst (a.results_.map D.int))] (toIntS_ct a.results_ k5) rfl fun _ _ => ?_
  simp -implicitDefEqProofs (maxSteps := 4000000) only [go_sem]
  exact end_cell hK () trivial rfl rfl ty48 (by simp -implicitDefEqProofs (maxSteps := 4000000) only [go_sem])
theorem eqStringS_ct (a : List ByteArray) (hsm : (a.length ≤ 1048576 ∧ ∀ y ∈ a, y.size ≤ 1048576)) : Ct Try.prog 20 [.d (.lst (a.map D.str)), .d (.lst (a.map D.str))] [] (fun _ : Unit => True) (fun _ => .bool true) (fun _ => []) := by
  refine ct_go tyOk Try.func20 rfl (by decide +kernel) Try.ntmps20 rfl (fun _ _ => Nat.le_refl _) ?_
  intro K hK
  obtain ⟨ha, hel⟩ := hsm
  simp -implicitDefEqProofs (maxSteps := 4000000) only [go_sem]
  refine loop_go tyOk (fun i : Nat => ⟨fr 26 [(0, .d (.lst (a.map D.str))), (1, .d (.lst (a.map D.str))), (5, .int i)], [], 0⟩)
    (fun i => i ≤ a.length) (fun i => a.length - i) 0 0 (Nat.zero_le _) (by simp -implicitDefEqProofs (maxSteps := 4000000) only [go_sem]) ?_
  intro i hi L hL
  simp -implicitDefEqProofs (maxSteps := 4000000) only [go_sem]
  refine ⟨fun h => ?_, fun h => end_pure hK () trivial (by simp -implicitDefEqProofs (maxSteps := 4000000) only [go_sem])⟩
  refine draw_rule tyOk (by kernel_rfl) [0, 1, 2, 3, 4, 5, 6, 7, 8] (by kernel_rfl) ?_
  simp -implicitDefEqProofs (maxSteps := 4000000) only [go_sem]
  refine ⟨by omega, fun e he => ⟨by omega, fun e' he' => ?_⟩⟩
  obtain rfl : e = e' := by rw [he] at he'; exact Option.some.inj he'
  have hw : wr .i64 ((i : Int) + 1) = ((i + 1 : Nat) : Int) := by rw [wr_in (by omega)]; omega
  simp -implicitDefEqProofs (maxSteps := 4000000) only [go_sem, hw]
  exact hL _ (i + 1) 0 (by omega) (by omega) (by simp -implicitDefEqProofs (maxSteps := 4000000) only [go_sem])
theorem eqIntS_ct (a : List Int) (hsm : a.length ≤ 1048576) : Ct Try.prog 60 [.d (.lst (a.map D.int)), .d (.lst (a.map D.int))] [] (fun _ : Unit => True) (fun _ => .bool true) (fun _ => []) := by
  refine ct_go tyOk Try.func60 rfl (by decide +kernel) Try.ntmps60 rfl (fun _ _ => Nat.le_refl _) ?_
  intro K hK
  have ha := hsm
  simp -implicitDefEqProofs (maxSteps := 4000000) only [go_sem]
  refine loop_go tyOk (fun i : Nat => ⟨fr 26 [(0, .d (.lst (a.map D.int))), (1, .d (.lst (a.map D.int))), (5, .int i)], [], 0⟩)
    (fun i => i ≤ a.length) (fun i => a.length - i) 0 0 (Nat.zero_le _) (by simp -implicitDefEqProofs (maxSteps := 4000000) only [go_sem]) ?_
  intro i hi L hL
  simp -implicitDefEqProofs (maxSteps := 4000000) only [go_sem]
  refine ⟨fun h => ?_, fun h => end_pure hK () trivial (by simp -implicitDefEqProofs (maxSteps := 4000000) only [go_sem])⟩
  refine draw_rule tyOk (by kernel_rfl) [0, 1, 2, 3, 4, 5, 6, 7, 8] (by kernel_rfl) ?_
  simp -implicitDefEqProofs (maxSteps := 4000000) only [go_sem]
  refine ⟨by omega, fun e he => ⟨by omega, fun e' he' => ?_⟩⟩
  obtain rfl : e = e' := by rw [he] at he'; exact Option.some.inj he'
  have hw : wr .i64 ((i : Int) + 1) = ((i + 1 : Nat) : Int) := by rw [wr_in (by omega)]; omega
  simp -implicitDefEqProofs (maxSteps := 4000000) only [go_sem, hw]
  exact hL _ (i + 1) 0 (by omega) (by omega) (by simp -implicitDefEqProofs (maxSteps := 4000000) only [go_sem])
theorem eqIntSS_ct (a : List (List Int)) (hsm : (a.length ≤ 1048576 ∧ ∀ y ∈ a, y.length ≤ 1048576)) : Ct Try.prog 61 [.d (.lst (a.map (fun r => D.lst (r.map D.int)))), .d (.lst (a.map (fun r => D.lst (r.map D.int))))] [] (fun _ : Unit => True) (fun _ => .bool true) (fun _ => []) := by
  refine ct_go tyOk Try.func61 rfl (by decide +kernel) Try.ntmps61 rfl (fun _ _ => Nat.le_refl _) ?_
  intro K hK
  obtain ⟨ha, hel⟩ := hsm
  simp -implicitDefEqProofs (maxSteps := 4000000) only [go_sem]
  refine loop_go tyOk (fun i : Nat => ⟨fr 27 [(0, .d (.lst (a.map (fun r => D.lst (r.map D.int))))), (1, .d (.lst (a.map (fun r => D.lst (r.map D.int))))), (5, .int i)], [], 0⟩)
    (fun i => i ≤ a.length) (fun i => a.length - i) 0 0 (Nat.zero_le _) (by simp -implicitDefEqProofs (maxSteps := 4000000) only [go_sem]) ?_
  intro i hi L hL
  simp -implicitDefEqProofs (maxSteps := 4000000) only [go_sem]
  refine ⟨fun h => ?_, fun h => end_pure hK () trivial (by simp -implicitDefEqProofs (maxSteps := 4000000) only [go_sem])⟩
  refine draw_rule tyOk (by kernel_rfl) [0, 1, 2, 3, 4, 5, 6, 7, 8, 9] (by kernel_rfl) ?_
  simp -implicitDefEqProofs (maxSteps := 4000000) only [go_sem]
  refine ⟨by omega, fun e he => ⟨by omega, fun e' he' => ?_⟩⟩
  obtain rfl : e = e' := by rw [he] at he'; exact Option.some.inj he'
  have hw : wr .i64 ((i : Int) + 1) = ((i + 1 : Nat) : Int) := by rw [wr_in (by omega)]; omega
  refine calm_data [(.lst (e.map D.int)), (.lst (e.map D.int))] (eqIntS_ct e (hel e (List.mem_of_getElem? he))) rfl fun _ _ => ?_
  simp -implicitDefEqProofs (maxSteps := 4000000) only [go_sem, hw]
  exact hL _ (i + 1) 0 (by omega) (by omega) (by simp -implicitDefEqProofs (maxSteps := 4000000) only [go_sem])
theorem eqSorts_ct (a : TSorts) (hsm : a.sm) : Ct Try.prog 28 [.d a.E, .d a.E] [] (fun _ : Unit => True) (fun _ => .bool true) (fun _ => []) := by
  refine ct_go tyOk Try.func28 rfl (by decide +kernel) Try.ntmps28 rfl (fun _ _ => Nat.le_refl _) ?_
  intro K hK
  obtain ⟨k0, k1, k2, k3, k4, k5⟩ := hsm
  simp -implicitDefEqProofs (maxSteps := 4000000) only [go_sem]
  refine call_data [(.lst (a.cons_.map D.str)), (.lst (a.cons_.map D.str))] (eqStringS_ct a.cons_ k0) rfl fun _ _ => ?_
  simp -implicitDefEqProofs (maxSteps := 4000000) only [go_sem]
  refine call_data [(.lst (a.of_.map D.int)), (.lst (a.of_.map D.int))] (eqIntS_ct a.of_ k1) rfl fun _ _ => ?_
  simp -implicitDefEqProofs (maxSteps := 4000000) only [go_sem]
  refine call_data [(.lst (a.args_.map (fun r => D.lst (r.map D.int)))), (.lst (a.args_.map (fun r => D.lst (r.map D.int))))] (eqIntSS_ct a.args_ k2) rfl fun _ _ => ?_
  simp -implicitDefEqProofs (maxSteps := 4000000) only [go_sem]
  refine call_data [(.lst (a.funs_.map D.str)), (.lst (a.funs_.map D.str))] (eqStringS_ct a.funs_ k3) rfl fun _ _ => ?_
  simp -implicitDefEqProofs (maxSteps := 4000000) only [go_sem]
  refine call_data [(.lst (a.params_.map (fun r => D.lst (r.map D.int)))), (.lst (a.params_.map (fun r => D.lst (r.map D.int))))] (eqIntSS_ct a.params_ k4) rfl fun _ _ => ?_
  simp -implicitDefEqProofs (maxSteps := 4000000) only [go_sem]
  refine call_data [(.lst (a.results_.map D.int)), (.lst (a.results_.map D.int))] (eqIntS_ct a.results_ k5) rfl fun _ _ => ?_
  simp -implicitDefEqProofs (maxSteps := 4000000) only [go_sem]
  exact end_pure hK () trivial (by simp -implicitDefEqProofs (maxSteps := 4000000) only [go_sem])
end Go.Proofs.Ytbbdjpmfaclnjaa
