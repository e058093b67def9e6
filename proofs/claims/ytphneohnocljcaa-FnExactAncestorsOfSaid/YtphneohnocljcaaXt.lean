/- Measures, copies, comparisons: the walks. Printed by gen.py. -/
import Derived.Test.YtphneohnocljcaaAbW
import Derived.Test.YtphneohnocljcaaAbZ
import Derived.Test.YtphneohnocljcaaFx
namespace Go.Proofs.Ytphneohnocljcaa
open Go Go.Ab
set_option linter.unusedVariables false
set_option linter.unusedSimpArgs false
set_option maxRecDepth 100000
set_option maxHeartbeats 4000000
theorem szIntS_ct (a : List Int) (hok : a.length ≤ 9223372036854775807) (l : Int) (h0 : 0 ≤ l) (h1 : l ≤ 1048576) : Ct Try.prog 72 [.d (.lst (a.map D.int)), .int l] [] (fun _ : Unit => True) (fun _ => .int (szI a l)) (fun _ => []) := by
  refine ct_go tyOk Try.func72 rfl (by decide +kernel) Try.ntmps72 rfl (fun _ _ => Nat.le_refl _) ?_
  intro K hK
  have hw : wr .i64 (l - a.length) = l - a.length := wr_in (by omega)
  simp -implicitDefEqProofs (maxSteps := 4000000) only [go_sem, hw]
  exact ⟨fun h => end_pure hK () trivial (by simp -implicitDefEqProofs (maxSteps := 4000000) only [go_sem, szI, if_pos h]), fun h => end_pure hK () trivial (by simp -implicitDefEqProofs (maxSteps := 4000000) only [go_sem, szI, if_neg h])⟩
theorem toIntS_ct (a : List Int) (hsm : a.length ≤ 1048576) : Ct Try.prog 74 [.d (.lst (a.map D.int))] [] (fun _ : Unit => True) (fun _ => .d (.lst (a.map D.int))) (fun _ => []) := by
  refine ct_go tyOk Try.func74 rfl (by decide +kernel) Try.ntmps74 rfl (fun _ _ => Nat.le_refl _) ?_
  intro K hK
  have ha := hsm
  simp -implicitDefEqProofs (maxSteps := 4000000) only [go_sem]
  refine ⟨by omega, by omega, ?_⟩
  refine loop_go tyOk (fun i : Nat => ⟨fr 22 [(0, .d (.lst (a.map D.int))), (2, .nil), (3, .arr 0), (4, .int i)], [.row 3 1 (((a.take i).map D.int).map A.d ++ List.replicate (a.length - i) (.int 0))], 0⟩)
    (fun i => i ≤ a.length) (fun i => a.length - i) 0 1 (Nat.zero_le _) ?_ ?_
  · simp -implicitDefEqProofs (maxSteps := 4000000) only [go_sem, List.take_zero, Nat.sub_zero]
    exact ole_row rfl fun x hx => by rw [List.eq_of_mem_replicate hx]; simp -implicitDefEqProofs (maxSteps := 4000000) only [go_sem]
  · intro i hi L hL
    simp -implicitDefEqProofs (maxSteps := 4000000) only [go_sem]
    refine ⟨fun h => ⟨by omega, fun e he => ?_⟩, fun h => ?_⟩
    · have hw : wr .i64 ((i : Int) + 1) = ((i + 1 : Nat) : Int) := by rw [wr_in (by omega)]; omega
      have hlt : (a.take i).length = i := by rw [List.length_take]; omega
      simp -implicitDefEqProofs (maxSteps := 4000000) only [go_sem, hw, hlt]
      refine ⟨by omega, by omega, hL _ (i + 1) 1 (by omega) (by omega) ?_⟩
      rw [fill_set (by simpa using hlt) (by omega)]
      simp -implicitDefEqProofs (maxSteps := 4000000) only [go_sem, take_more he, List.map_append]
      exact ole_row rfl fun x hx => by
        rcases List.mem_append.1 hx with hx | hx
        · rcases List.mem_append.1 hx with hx | hx
          · obtain ⟨y, _, rfl⟩ := List.mem_map.1 hx; simp -implicitDefEqProofs (maxSteps := 4000000) only [go_sem]
          · obtain rfl := List.mem_singleton.1 hx; simp -implicitDefEqProofs (maxSteps := 4000000) only [go_sem]
        · rw [List.eq_of_mem_replicate hx]; simp -implicitDefEqProofs (maxSteps := 4000000) only [go_sem]
    · obtain rfl : i = a.length := by omega
      simp -implicitDefEqProofs (maxSteps := 4000000) only [go_sem, List.take_length, Nat.sub_self]
      exact end_pub hK () trivial rfl rfl (toEs_map _) rfl
theorem eqIntS_ct (a : List Int) (hsm : a.length ≤ 1048576) : Ct Try.prog 42 [.d (.lst (a.map D.int)), .d (.lst (a.map D.int))] [] (fun _ : Unit => True) (fun _ => .bool true) (fun _ => []) := by
  refine ct_go tyOk Try.func42 rfl (by decide +kernel) Try.ntmps42 rfl (fun _ _ => Nat.le_refl _) ?_
  intro K hK
  have ha := hsm
  simp -implicitDefEqProofs (maxSteps := 4000000) only [go_sem]
  refine loop_go tyOk (fun i : Nat => ⟨fr 26 [(0, .d (.lst (a.map D.int))), (1, .d (.lst (a.map D.int))), (5, .int i)], [], 0⟩)
    (fun i => i ≤ a.length) (fun i => a.length - i) 0 0 (Nat.zero_le _) (by simp -implicitDefEqProofs (maxSteps := 4000000) only [go_sem]) ?_
  intro i hi L hL
  simp -implicitDefEqProofs (maxSteps := 4000000) only [go_sem]
  refine ⟨fun h => ?_, fun h => end_pure hK () trivial (by simp -implicitDefEqProofs (maxSteps := 4000000) only [go_sem])⟩
  refine draw_rule tyOk (by kernel_rfl) [0, 1, 2, 3, 4, 5, 6, 7, 8] (by kernel_rfl) ?_
  simp -implicitDefEqProofs (maxSteps := 4000000) only [go_sem]
  refine ⟨by omega, fun e he => ⟨by omega, fun e' he' => ?_⟩⟩
  obtain rfl : e = e' := by rw [he] at he'; exact Option.some.inj he'
  have hw : wr .i64 ((i : Int) + 1) = ((i + 1 : Nat) : Int) := by rw [wr_in (by omega)]; omega
  simp -implicitDefEqProofs (maxSteps := 4000000) only [go_sem, hw]
  exact hL _ (i + 1) 0 (by omega) (by omega) (by simp -implicitDefEqProofs (maxSteps := 4000000) only [go_sem])
theorem szStringS_ct (a : List ByteArray) (hok : (a.length ≤ 9223372036854775807 ∧ ∀ y ∈ a, y.size ≤ 9223372036854775807)) (l : Int) (h0 : 0 ≤ l) (h1 : l ≤ 1048576) : Ct Try.prog 67 [.d (.lst (a.map D.str)), .int l] [] (fun _ : Unit => True) (fun _ => .int ((szL (fun s l => l - (s.size : Int))) a l)) (fun _ => []) := by
  refine ct_go tyOk Try.func67 rfl (by decide +kernel) Try.ntmps67 rfl (fun _ _ => Nat.le_refl _) ?_
  intro K hK
  obtain ⟨ha, hel⟩ := hok
  have hw : wr .i64 (l - a.length) = l - a.length := wr_in (by omega)
  simp -implicitDefEqProofs (maxSteps := 4000000) only [go_sem, hw]
  refine ⟨fun h => end_pure hK () trivial (by simp -implicitDefEqProofs (maxSteps := 4000000) only [go_sem, szL, if_pos h]), fun h => ?_⟩
  refine loop_go tyOk (fun i : Nat × Int => ⟨fr 28 [(0, .d (.lst (a.map D.str))), (1, .int i.2), (4, .int 0), (5, .int i.1)], [], 0⟩)
    (fun i => i.1 ≤ a.length ∧ 0 ≤ i.2 ∧ i.2 ≤ 1048576 ∧ szSeq ((a.drop i.1).map (fun s l => l - (s.size : Int))) i.2 = szL (fun s l => l - (s.size : Int)) a l) (fun i => a.length - i.1) (0, l - a.length) 0
    ⟨Nat.zero_le _, by omega, by omega, by simp only [szL, if_neg h, List.drop_zero]⟩ (by simp -implicitDefEqProofs (maxSteps := 4000000) only [go_sem]) ?_
  rintro ⟨i, m⟩ ⟨hi, hm0, hm1, hm⟩ L hL
  simp -implicitDefEqProofs (maxSteps := 4000000) only [go_sem]
  refine ⟨fun h => ⟨by omega, fun e he => ?_⟩, fun h => end_pure hK () trivial ?_⟩
  · rw [drop_of he, List.map_cons, szSeq] at hm
    have hb := (fun (l : Int) (_ : 0 ≤ l) => szB_le e l) m hm0
    have hw : wr .i64 ((i : Int) + 1) = ((i + 1 : Nat) : Int) := by rw [wr_in (by omega)]; omega
    have hs := hel e (List.mem_of_getElem? he)
    have hw2 : wr .i64 (m - e.size) = m - e.size := wr_in (by omega)
    simp -implicitDefEqProofs (maxSteps := 4000000) only [go_sem, hw, hw2]
    refine ⟨fun h2 => end_pure hK () trivial ?_, fun h2 => ?_⟩
    · simp -implicitDefEqProofs (maxSteps := 4000000) only [go_sem]; rw [if_pos h2] at hm; exact hm
    · rw [if_neg h2] at hm
      exact hL _ (i + 1, m - (e.size : Int)) 0 ⟨by omega, by omega, by omega, hm⟩ (by simp only; omega) (by simp -implicitDefEqProofs (maxSteps := 4000000) only [go_sem])
  · have : i = a.length := by simp only at hi; omega
    subst this
    simp -implicitDefEqProofs (maxSteps := 4000000) only [go_sem]; simpa only [List.drop_length, List.map_nil, szSeq] using hm
theorem toStringS_ct (a : List ByteArray) (hsm : (a.length ≤ 1048576 ∧ ∀ y ∈ a, y.size ≤ 1048576)) : Ct Try.prog 69 [.d (.lst (a.map D.str))] [] (fun _ : Unit => True) (fun _ => .d (.lst (a.map D.str))) (fun _ => []) := by
  refine ct_go tyOk Try.func69 rfl (by decide +kernel) Try.ntmps69 rfl (fun _ _ => Nat.le_refl _) ?_
  intro K hK
  obtain ⟨ha, hel⟩ := hsm
  simp -implicitDefEqProofs (maxSteps := 4000000) only [go_sem]
  refine ⟨by omega, by omega, ?_⟩
  refine loop_go tyOk (fun i : Nat => ⟨fr 22 [(0, .d (.lst (a.map D.str))), (2, .nil), (3, .arr 0), (4, .int i)], [.row 9 1 (((a.take i).map D.str).map A.d ++ List.replicate (a.length - i) (.str ⟨#[]⟩))], 0⟩)
    (fun i => i ≤ a.length) (fun i => a.length - i) 0 1 (Nat.zero_le _) ?_ ?_
  · simp -implicitDefEqProofs (maxSteps := 4000000) only [go_sem, List.take_zero, Nat.sub_zero]
    exact ole_row rfl fun x hx => by rw [List.eq_of_mem_replicate hx]; simp -implicitDefEqProofs (maxSteps := 4000000) only [go_sem]
  · intro i hi L hL
    simp -implicitDefEqProofs (maxSteps := 4000000) only [go_sem]
    refine ⟨fun h => ⟨by omega, fun e he => ?_⟩, fun h => ?_⟩
    · have hw : wr .i64 ((i : Int) + 1) = ((i + 1 : Nat) : Int) := by rw [wr_in (by omega)]; omega
      have hlt : (a.take i).length = i := by rw [List.length_take]; omega
      simp -implicitDefEqProofs (maxSteps := 4000000) only [go_sem, hw, hlt]
      refine ⟨by omega, by omega, hL _ (i + 1) 1 (by omega) (by omega) ?_⟩
      rw [fill_set (by simpa using hlt) (by omega)]
      simp -implicitDefEqProofs (maxSteps := 4000000) only [go_sem, take_more he, List.map_append]
      exact ole_row rfl fun x hx => by
        rcases List.mem_append.1 hx with hx | hx
        · rcases List.mem_append.1 hx with hx | hx
          · obtain ⟨y, _, rfl⟩ := List.mem_map.1 hx; simp -implicitDefEqProofs (maxSteps := 4000000) only [go_sem]
          · obtain rfl := List.mem_singleton.1 hx; simp -implicitDefEqProofs (maxSteps := 4000000) only [go_sem]
        · rw [List.eq_of_mem_replicate hx]; simp -implicitDefEqProofs (maxSteps := 4000000) only [go_sem]
    · obtain rfl : i = a.length := by omega
      simp -implicitDefEqProofs (maxSteps := 4000000) only [go_sem, List.take_length, Nat.sub_self]
      exact end_pub hK () trivial rfl rfl (toEs_map _) rfl
theorem eqStringS_ct (a : List ByteArray) (hsm : (a.length ≤ 1048576 ∧ ∀ y ∈ a, y.size ≤ 1048576)) : Ct Try.prog 15 [.d (.lst (a.map D.str)), .d (.lst (a.map D.str))] [] (fun _ : Unit => True) (fun _ => .bool true) (fun _ => []) := by
  refine ct_go tyOk Try.func15 rfl (by decide +kernel) Try.ntmps15 rfl (fun _ _ => Nat.le_refl _) ?_
  intro K hK
  obtain ⟨ha, hel⟩ := hsm
  simp -implicitDefEqProofs (maxSteps := 4000000) only [go_sem]
  refine loop_go tyOk (fun i : Nat => ⟨fr 26 [(0, .d (.lst (a.map D.str))), (1, .d (.lst (a.map D.str))), (5, .int i)], [], 0⟩)
    (fun i => i ≤ a.length) (fun i => a.length - i) 0 0 (Nat.zero_le _) (by simp -implicitDefEqProofs (maxSteps := 4000000) only [go_sem]) ?_
  intro i hi L hL
  simp -implicitDefEqProofs (maxSteps := 4000000) only [go_sem]
  refine ⟨fun h => ?_, fun h => end_pure hK () trivial (by simp -implicitDefEqProofs (maxSteps := 4000000) only [go_sem])⟩
  refine draw_rule tyOk (by kernel_rfl) [0, 1, 2, 3, 4, 5, 6, 7, 8] (by kernel_rfl) ?_
  simp -implicitDefEqProofs (maxSteps := 4000000) only [go_sem]
  refine ⟨by omega, fun e he => ⟨by omega, fun e' he' => ?_⟩⟩
  obtain rfl : e = e' := by rw [he] at he'; exact Option.some.inj he'
  have hw : wr .i64 ((i : Int) + 1) = ((i + 1 : Nat) : Int) := by rw [wr_in (by omega)]; omega
  simp -implicitDefEqProofs (maxSteps := 4000000) only [go_sem, hw]
  exact hL _ (i + 1) 0 (by omega) (by omega) (by simp -implicitDefEqProofs (maxSteps := 4000000) only [go_sem])
theorem szBinding_ct (a : TBinding) (hok : a.ok) (l : Int) (h0 : 0 ≤ l) (h1 : l ≤ 1048576) : Ct Try.prog 111 [.d a.E, .int l] [] (fun _ : Unit => True) (fun _ => .int (TBinding.sz a l)) (fun _ => []) := by
  refine ct_go tyOk Try.func111 rfl (by decide +kernel) Try.ntmps111 rfl (fun _ _ => Nat.le_refl _) ?_
  intro K hK
  obtain ⟨k0, k1⟩ := hok
  obtain ⟨l1, e0⟩ : ∃ m : Int, m = l - (a.name_.size : Int) := ⟨_, rfl⟩
  have w0 : wr .i64 (l - (a.name_.size : Int)) = l1 := by rw [wr_in (by omega)]; omega
  simp -implicitDefEqProofs (maxSteps := 4000000) only [go_sem, w0]
  refine ⟨fun p0 => end_pure hK () trivial (by simp -implicitDefEqProofs (maxSteps := 4000000) only [go_sem, TBinding.sz, szSeq, ← e0, if_pos p0]), fun n0 => ?_⟩
  refine call_int [a.value_.E, .int l1] (szExpr_ct a.value_ k1 l1 (by omega) (by omega)) rfl fun l2 e1 => ?_
  have b1 := szE_le a.value_ l1 (by omega)
  rw [← e1] at b1
  simp -implicitDefEqProofs (maxSteps := 4000000) only [go_sem]
  refine ⟨fun p1 => end_pure hK () trivial (by simp -implicitDefEqProofs (maxSteps := 4000000) only [go_sem, TBinding.sz, szSeq, ← e0, if_neg n0, ← e1, if_pos p1]), fun n1 => ?_⟩
  exact end_pure hK () trivial (by simp -implicitDefEqProofs (maxSteps := 4000000) only [go_sem, TBinding.sz, szSeq, ← e0, if_neg n0, ← e1, if_neg n1])
theorem toBinding_ct (a : TBinding) (hsm : a.sm) : Ct Try.prog 112 [.d a.E] [] (fun _ : Unit => True) (fun _ => .d a.E) (fun _ => []) := by
  refine ct_go tyOk Try.func112 rfl (by decide +kernel) Try.ntmps112 rfl (fun _ _ => Nat.le_refl _) ?_
  intro K hK
  obtain ⟨k0, k1⟩ := hsm
  simp -implicitDefEqProofs (maxSteps := 4000000) only [go_sem]
  refine call_data [a.value_.E] (toExpr_ct a.value_ k1) rfl fun _ _ => ?_
  simp -implicitDefEqProofs (maxSteps := 4000000) only [go_sem]
  exact end_cell hK () trivial rfl rfl ty141 (by simp -implicitDefEqProofs (maxSteps := 4000000) only [go_sem])
theorem eqBinding_ct (a : TBinding) (hsm : a.sm) : Ct Try.prog 113 [.d a.E, .d a.E] [] (fun _ : Unit => True) (fun _ => .bool true) (fun _ => []) := by
  refine ct_go tyOk Try.func113 rfl (by decide +kernel) Try.ntmps113 rfl (fun _ _ => Nat.le_refl _) ?_
  intro K hK
  obtain ⟨k0, k1⟩ := hsm
  simp -implicitDefEqProofs (maxSteps := 4000000) only [go_sem]
  refine call_data [a.value_.E, a.value_.E] (eqExpr_ct a.value_ k1) rfl fun _ _ => ?_
  simp -implicitDefEqProofs (maxSteps := 4000000) only [go_sem]
  exact end_pure hK () trivial (by simp -implicitDefEqProofs (maxSteps := 4000000) only [go_sem])
theorem szBindingS_ct (a : List TBinding) (hok : (a.length ≤ 9223372036854775807 ∧ ∀ y ∈ a, y.ok)) (l : Int) (h0 : 0 ≤ l) (h1 : l ≤ 1048576) : Ct Try.prog 108 [.d (.lst (a.map TBinding.E)), .int l] [] (fun _ : Unit => True) (fun _ => .int ((szL TBinding.sz) a l)) (fun _ => []) := by
  refine ct_go tyOk Try.func108 rfl (by decide +kernel) Try.ntmps108 rfl (fun _ _ => Nat.le_refl _) ?_
  intro K hK
  obtain ⟨ha, hel⟩ := hok
  have hw : wr .i64 (l - a.length) = l - a.length := wr_in (by omega)
  simp -implicitDefEqProofs (maxSteps := 4000000) only [go_sem, hw]
  refine ⟨fun h => end_pure hK () trivial (by simp -implicitDefEqProofs (maxSteps := 4000000) only [go_sem, szL, if_pos h]), fun h => ?_⟩
  refine loop_go tyOk (fun i : Nat × Int => ⟨fr 27 [(0, .d (.lst (a.map TBinding.E))), (1, .int i.2), (4, .int 0), (5, .int i.1)], [], 0⟩)
    (fun i => i.1 ≤ a.length ∧ 0 ≤ i.2 ∧ i.2 ≤ 1048576 ∧ szSeq ((a.drop i.1).map TBinding.sz) i.2 = szL TBinding.sz a l) (fun i => a.length - i.1) (0, l - a.length) 0
    ⟨Nat.zero_le _, by omega, by omega, by simp only [szL, if_neg h, List.drop_zero]⟩ (by simp -implicitDefEqProofs (maxSteps := 4000000) only [go_sem]) ?_
  rintro ⟨i, m⟩ ⟨hi, hm0, hm1, hm⟩ L hL
  simp -implicitDefEqProofs (maxSteps := 4000000) only [go_sem]
  refine ⟨fun h => ⟨by omega, fun e he => ?_⟩, fun h => end_pure hK () trivial ?_⟩
  · rw [drop_of he, List.map_cons, szSeq] at hm
    have hb := e.sz_le m hm0
    have hw : wr .i64 ((i : Int) + 1) = ((i + 1 : Nat) : Int) := by rw [wr_in (by omega)]; omega
    refine call_data [e.E, .int m] (szBinding_ct e (hel e (List.mem_of_getElem? he)) m hm0 hm1) rfl fun _ _ => ?_
    simp -implicitDefEqProofs (maxSteps := 4000000) only [go_sem, hw]
    refine ⟨fun h2 => end_pure hK () trivial ?_, fun h2 => ?_⟩
    · simp -implicitDefEqProofs (maxSteps := 4000000) only [go_sem]; rw [if_pos h2] at hm; exact hm
    · rw [if_neg h2] at hm
      exact hL _ (i + 1, TBinding.sz e m) 0 ⟨by omega, by omega, by omega, hm⟩ (by simp only; omega) (by simp -implicitDefEqProofs (maxSteps := 4000000) only [go_sem])
  · have : i = a.length := by simp only at hi; omega
    subst this
    simp -implicitDefEqProofs (maxSteps := 4000000) only [go_sem]; simpa only [List.drop_length, List.map_nil, szSeq] using hm
theorem toBindingS_ct (a : List TBinding) (hsm : (a.length ≤ 1048576 ∧ ∀ y ∈ a, y.sm)) : Ct Try.prog 109 [.d (.lst (a.map TBinding.E))] [] (fun _ : Unit => True) (fun _ => .d (.lst (a.map TBinding.E))) (fun _ => []) := by
  refine ct_go tyOk Try.func109 rfl (by decide +kernel) Try.ntmps109 rfl (fun _ _ => Nat.le_refl _) ?_
  intro K hK
  obtain ⟨ha, hel⟩ := hsm
  simp -implicitDefEqProofs (maxSteps := 4000000) only [go_sem]
  refine ⟨by omega, by omega, ?_⟩
  refine loop_go tyOk (fun i : Nat => ⟨fr 23 [(0, .d (.lst (a.map TBinding.E))), (2, .nil), (3, .arr 0), (4, .int i)], [.row 141 4 (((a.take i).map TBinding.E).map A.d ++ List.replicate (a.length - i) (.agg [.str ⟨#[]⟩, .int 0, .str ⟨#[]⟩, .nil]))], 0⟩)
    (fun i => i ≤ a.length) (fun i => a.length - i) 0 1 (Nat.zero_le _) ?_ ?_
  · simp -implicitDefEqProofs (maxSteps := 4000000) only [go_sem, List.take_zero, Nat.sub_zero]
    exact ole_row rfl fun x hx => by rw [List.eq_of_mem_replicate hx]; simp -implicitDefEqProofs (maxSteps := 4000000) only [go_sem]
  · intro i hi L hL
    simp -implicitDefEqProofs (maxSteps := 4000000) only [go_sem]
    refine ⟨fun h => ⟨by omega, fun e he => ?_⟩, fun h => ?_⟩
    · have hw : wr .i64 ((i : Int) + 1) = ((i + 1 : Nat) : Int) := by rw [wr_in (by omega)]; omega
      have hlt : (a.take i).length = i := by rw [List.length_take]; omega
      refine call_data [e.E] (toBinding_ct e (hel e (List.mem_of_getElem? he))) rfl fun _ _ => ?_
      simp -implicitDefEqProofs (maxSteps := 4000000) only [go_sem, hw, hlt]
      refine ⟨by omega, by omega, hL _ (i + 1) 1 (by omega) (by omega) ?_⟩
      rw [fill_set (by simpa using hlt) (by omega)]
      simp -implicitDefEqProofs (maxSteps := 4000000) only [go_sem, take_more he, List.map_append]
      exact ole_row rfl fun x hx => by
        rcases List.mem_append.1 hx with hx | hx
        · rcases List.mem_append.1 hx with hx | hx
          · obtain ⟨y, _, rfl⟩ := List.mem_map.1 hx; simp -implicitDefEqProofs (maxSteps := 4000000) only [go_sem]
          · obtain rfl := List.mem_singleton.1 hx; simp -implicitDefEqProofs (maxSteps := 4000000) only [go_sem]
        · rw [List.eq_of_mem_replicate hx]; simp -implicitDefEqProofs (maxSteps := 4000000) only [go_sem]
    · obtain rfl : i = a.length := by omega
      simp -implicitDefEqProofs (maxSteps := 4000000) only [go_sem, List.take_length, Nat.sub_self]
      exact end_pub hK () trivial rfl rfl (toEs_map _) rfl
theorem eqBindingS_ct (a : List TBinding) (hsm : (a.length ≤ 1048576 ∧ ∀ y ∈ a, y.sm)) : Ct Try.prog 110 [.d (.lst (a.map TBinding.E)), .d (.lst (a.map TBinding.E))] [] (fun _ : Unit => True) (fun _ => .bool true) (fun _ => []) := by
  refine ct_go tyOk Try.func110 rfl (by decide +kernel) Try.ntmps110 rfl (fun _ _ => Nat.le_refl _) ?_
  intro K hK
  obtain ⟨ha, hel⟩ := hsm
  simp -implicitDefEqProofs (maxSteps := 4000000) only [go_sem]
  refine loop_go tyOk (fun i : Nat => ⟨fr 27 [(0, .d (.lst (a.map TBinding.E))), (1, .d (.lst (a.map TBinding.E))), (5, .int i)], [], 0⟩)
    (fun i => i ≤ a.length) (fun i => a.length - i) 0 0 (Nat.zero_le _) (by simp -implicitDefEqProofs (maxSteps := 4000000) only [go_sem]) ?_
  intro i hi L hL
  simp -implicitDefEqProofs (maxSteps := 4000000) only [go_sem]
  refine ⟨fun h => ?_, fun h => end_pure hK () trivial (by simp -implicitDefEqProofs (maxSteps := 4000000) only [go_sem])⟩
  refine draw_rule tyOk (by kernel_rfl) [0, 1, 2, 3, 4, 5, 6, 7, 8, 9] (by kernel_rfl) ?_
  simp -implicitDefEqProofs (maxSteps := 4000000) only [go_sem]
  refine ⟨by omega, fun e he => ⟨by omega, fun e' he' => ?_⟩⟩
  obtain rfl : e = e' := by rw [he] at he'; exact Option.some.inj he'
  have hw : wr .i64 ((i : Int) + 1) = ((i + 1 : Nat) : Int) := by rw [wr_in (by omega)]; omega
  refine calm_data [e.E, e.E] (eqBinding_ct e (hel e (List.mem_of_getElem? he))) rfl fun _ _ => ?_
  simp -implicitDefEqProofs (maxSteps := 4000000) only [go_sem, hw]
  exact hL _ (i + 1) 0 (by omega) (by omega) (by simp -implicitDefEqProofs (maxSteps := 4000000) only [go_sem])
theorem szNode_ct (a : TNode) (hok : a.ok) (l : Int) (h0 : 0 ≤ l) (h1 : l ≤ 1048576) : Ct Try.prog 98 [.d a.E, .int l] [] (fun _ : Unit => True) (fun _ => .int (TNode.sz a l)) (fun _ => []) := by
  refine ct_go tyOk Try.func98 rfl (by decide +kernel) Try.ntmps98 rfl (fun _ _ => Nat.le_refl _) ?_
  intro K hK
  obtain ⟨k0, k1, k2, k3, k4, k5⟩ := hok
  simp -implicitDefEqProofs (maxSteps := 4000000) only [go_sem]
  refine call_int [a.expr_.E, .int l] (szExpr_ct a.expr_ k0 l (by omega) (by omega)) rfl fun l1 e0 => ?_
  have b0 := szE_le a.expr_ l (by omega)
  rw [← e0] at b0
  simp -implicitDefEqProofs (maxSteps := 4000000) only [go_sem]
  refine ⟨fun p0 => end_pure hK () trivial (by simp -implicitDefEqProofs (maxSteps := 4000000) only [go_sem, TNode.sz, szSeq, ← e0, if_pos p0]), fun n0 => ?_⟩
  refine call_int [(.lst (a.children_.map D.int)), .int l1] (szIntS_ct a.children_ k1 l1 (by omega) (by omega)) rfl fun l2 e1 => ?_
  have b1 := szI_le a.children_ l1 (by omega)
  rw [← e1] at b1
  simp -implicitDefEqProofs (maxSteps := 4000000) only [go_sem]
  refine ⟨fun p1 => end_pure hK () trivial (by simp -implicitDefEqProofs (maxSteps := 4000000) only [go_sem, TNode.sz, szSeq, ← e0, if_neg n0, ← e1, if_pos p1]), fun n1 => ?_⟩
  obtain ⟨l3, e2⟩ : ∃ m : Int, m = l2 - (a.var_.size : Int) := ⟨_, rfl⟩
  have w2 : wr .i64 (l2 - (a.var_.size : Int)) = l3 := by rw [wr_in (by omega)]; omega
  simp -implicitDefEqProofs (maxSteps := 4000000) only [go_sem, w2]
  refine ⟨fun p2 => end_pure hK () trivial (by simp -implicitDefEqProofs (maxSteps := 4000000) only [go_sem, TNode.sz, szSeq, ← e0, if_neg n0, ← e1, if_neg n1, ← e2, if_pos p2]), fun n2 => ?_⟩
  obtain ⟨l4, e3⟩ : ∃ m : Int, m = l3 - (a.con_.size : Int) := ⟨_, rfl⟩
  have w3 : wr .i64 (l3 - (a.con_.size : Int)) = l4 := by rw [wr_in (by omega)]; omega
  simp -implicitDefEqProofs (maxSteps := 4000000) only [go_sem, w3]
  refine ⟨fun p3 => end_pure hK () trivial (by simp -implicitDefEqProofs (maxSteps := 4000000) only [go_sem, TNode.sz, szSeq, ← e0, if_neg n0, ← e1, if_neg n1, ← e2, if_neg n2, ← e3, if_pos p3]), fun n3 => ?_⟩
  refine call_int [(.lst (a.vars_.map D.str)), .int l4] (szStringS_ct a.vars_ k4 l4 (by omega) (by omega)) rfl fun l5 e4 => ?_
  have b4 := szL_le (a := a.vars_) (fun y _ => (fun l _ => szB_le y l)) l4 (by omega)
  rw [← e4] at b4
  simp -implicitDefEqProofs (maxSteps := 4000000) only [go_sem]
  refine ⟨fun p4 => end_pure hK () trivial (by simp -implicitDefEqProofs (maxSteps := 4000000) only [go_sem, TNode.sz, szSeq, ← e0, if_neg n0, ← e1, if_neg n1, ← e2, if_neg n2, ← e3, if_neg n3, ← e4, if_pos p4]), fun n4 => ?_⟩
  refine call_int [(.lst (a.lets_.map TBinding.E)), .int l5] (szBindingS_ct a.lets_ k5 l5 (by omega) (by omega)) rfl fun l6 e5 => ?_
  have b5 := szL_le (a := a.lets_) (fun y _ => (fun l h => (y.sz_le l h).2)) l5 (by omega)
  rw [← e5] at b5
  simp -implicitDefEqProofs (maxSteps := 4000000) only [go_sem]
  refine ⟨fun p5 => end_pure hK () trivial (by simp -implicitDefEqProofs (maxSteps := 4000000) only [go_sem, TNode.sz, szSeq, ← e0, if_neg n0, ← e1, if_neg n1, ← e2, if_neg n2, ← e3, if_neg n3, ← e4, if_neg n4, ← e5, if_pos p5]), fun n5 => ?_⟩
  exact end_pure hK () trivial (by simp -implicitDefEqProofs (maxSteps := 4000000) only [go_sem, TNode.sz, szSeq, ← e0, if_neg n0, ← e1, if_neg n1, ← e2, if_neg n2, ← e3, if_neg n3, ← e4, if_neg n4, ← e5, if_neg n5])
theorem toNode_ct (a : TNode) (hsm : a.sm) : Ct Try.prog 99 [.d a.E] [] (fun _ : Unit => True) (fun _ => .d a.E) (fun _ => []) := by
  refine ct_go tyOk Try.func99 rfl (by decide +kernel) Try.ntmps99 rfl (fun _ _ => Nat.le_refl _) ?_
  intro K hK
  obtain ⟨k0, k1, k2, k3, k4, k5⟩ := hsm
  simp -implicitDefEqProofs (maxSteps := 4000000) only [go_sem]
  refine call_data [a.expr_.E] (toExpr_ct a.expr_ k0) rfl fun _ _ => ?_
  simp -implicitDefEqProofs (maxSteps := 4000000) only [go_sem]
  refine call_data [(.lst (a.children_.map D.int))] (toIntS_ct a.children_ k1) rfl fun _ _ => ?_
  simp -implicitDefEqProofs (maxSteps := 4000000) only [go_sem]
  refine call_data [(.lst (a.vars_.map D.str))] (toStringS_ct a.vars_ k4) rfl fun _ _ => ?_
  simp -implicitDefEqProofs (maxSteps := 4000000) only [go_sem]
  refine call_data [(.lst (a.lets_.map TBinding.E))] (toBindingS_ct a.lets_ k5) rfl fun _ _ => ?_
  simp -implicitDefEqProofs (maxSteps := 4000000) only [go_sem]
  exact end_cell hK () trivial rfl rfl ty114 (by simp -implicitDefEqProofs (maxSteps := 4000000) only [go_sem])
theorem eqNode_ct (a : TNode) (hsm : a.sm) : Ct Try.prog 101 [.d a.E, .d a.E] [] (fun _ : Unit => True) (fun _ => .bool true) (fun _ => []) := by
  refine ct_go tyOk Try.func101 rfl (by decide +kernel) Try.ntmps101 rfl (fun _ _ => Nat.le_refl _) ?_
  intro K hK
  obtain ⟨k0, k1, k2, k3, k4, k5⟩ := hsm
  simp -implicitDefEqProofs (maxSteps := 4000000) only [go_sem]
  refine call_data [a.expr_.E, a.expr_.E] (eqExpr_ct a.expr_ k0) rfl fun _ _ => ?_
  simp -implicitDefEqProofs (maxSteps := 4000000) only [go_sem]
  refine call_data [(.lst (a.children_.map D.int)), (.lst (a.children_.map D.int))] (eqIntS_ct a.children_ k1) rfl fun _ _ => ?_
  simp -implicitDefEqProofs (maxSteps := 4000000) only [go_sem]
  refine call_data [(.lst (a.vars_.map D.str)), (.lst (a.vars_.map D.str))] (eqStringS_ct a.vars_ k4) rfl fun _ _ => ?_
  simp -implicitDefEqProofs (maxSteps := 4000000) only [go_sem]
  refine call_data [(.lst (a.lets_.map TBinding.E)), (.lst (a.lets_.map TBinding.E))] (eqBindingS_ct a.lets_ k5) rfl fun _ _ => ?_
  simp -implicitDefEqProofs (maxSteps := 4000000) only [go_sem]
  exact end_pure hK () trivial (by simp -implicitDefEqProofs (maxSteps := 4000000) only [go_sem])
theorem szNodeS_ct (a : List TNode) (hok : (a.length ≤ 9223372036854775807 ∧ ∀ y ∈ a, y.ok)) (l : Int) (h0 : 0 ≤ l) (h1 : l ≤ 1048576) : Ct Try.prog 80 [.d (.lst (a.map TNode.E)), .int l] [] (fun _ : Unit => True) (fun _ => .int ((szL TNode.sz) a l)) (fun _ => []) := by
  refine ct_go tyOk Try.func80 rfl (by decide +kernel) Try.ntmps80 rfl (fun _ _ => Nat.le_refl _) ?_
  intro K hK
  obtain ⟨ha, hel⟩ := hok
  have hw : wr .i64 (l - a.length) = l - a.length := wr_in (by omega)
  simp -implicitDefEqProofs (maxSteps := 4000000) only [go_sem, hw]
  refine ⟨fun h => end_pure hK () trivial (by simp -implicitDefEqProofs (maxSteps := 4000000) only [go_sem, szL, if_pos h]), fun h => ?_⟩
  refine loop_go tyOk (fun i : Nat × Int => ⟨fr 27 [(0, .d (.lst (a.map TNode.E))), (1, .int i.2), (4, .int 0), (5, .int i.1)], [], 0⟩)
    (fun i => i.1 ≤ a.length ∧ 0 ≤ i.2 ∧ i.2 ≤ 1048576 ∧ szSeq ((a.drop i.1).map TNode.sz) i.2 = szL TNode.sz a l) (fun i => a.length - i.1) (0, l - a.length) 0
    ⟨Nat.zero_le _, by omega, by omega, by simp only [szL, if_neg h, List.drop_zero]⟩ (by simp -implicitDefEqProofs (maxSteps := 4000000) only [go_sem]) ?_
  rintro ⟨i, m⟩ ⟨hi, hm0, hm1, hm⟩ L hL
  simp -implicitDefEqProofs (maxSteps := 4000000) only [go_sem]
  refine ⟨fun h => ⟨by omega, fun e he => ?_⟩, fun h => end_pure hK () trivial ?_⟩
  · rw [drop_of he, List.map_cons, szSeq] at hm
    have hb := e.sz_le m hm0
    have hw : wr .i64 ((i : Int) + 1) = ((i + 1 : Nat) : Int) := by rw [wr_in (by omega)]; omega
    refine call_data [e.E, .int m] (szNode_ct e (hel e (List.mem_of_getElem? he)) m hm0 hm1) rfl fun _ _ => ?_
    simp -implicitDefEqProofs (maxSteps := 4000000) only [go_sem, hw]
    refine ⟨fun h2 => end_pure hK () trivial ?_, fun h2 => ?_⟩
    · simp -implicitDefEqProofs (maxSteps := 4000000) only [go_sem]; rw [if_pos h2] at hm; exact hm
    · rw [if_neg h2] at hm
      exact hL _ (i + 1, TNode.sz e m) 0 ⟨by omega, by omega, by omega, hm⟩ (by simp only; omega) (by simp -implicitDefEqProofs (maxSteps := 4000000) only [go_sem])
  · have : i = a.length := by simp only at hi; omega
    subst this
    simp -implicitDefEqProofs (maxSteps := 4000000) only [go_sem]; simpa only [List.drop_length, List.map_nil, szSeq] using hm
theorem toNodeS_ct (a : List TNode) (hsm : (a.length ≤ 1048576 ∧ ∀ y ∈ a, y.sm)) : Ct Try.prog 82 [.d (.lst (a.map TNode.E))] [] (fun _ : Unit => True) (fun _ => .d (.lst (a.map TNode.E))) (fun _ => []) := by
  refine ct_go tyOk Try.func82 rfl (by decide +kernel) Try.ntmps82 rfl (fun _ _ => Nat.le_refl _) ?_
  intro K hK
  obtain ⟨ha, hel⟩ := hsm
  simp -implicitDefEqProofs (maxSteps := 4000000) only [go_sem]
  refine ⟨by omega, by omega, ?_⟩
  refine loop_go tyOk (fun i : Nat => ⟨fr 23 [(0, .d (.lst (a.map TNode.E))), (2, .nil), (3, .arr 0), (4, .int i)], [.row 114 11 (((a.take i).map TNode.E).map A.d ++ List.replicate (a.length - i) (.agg [.int 0, .int 0, .str ⟨#[]⟩, .nil, .int 0, .nil, .str ⟨#[]⟩, .str ⟨#[]⟩, .nil, .nil, .int 0]))], 0⟩)
    (fun i => i ≤ a.length) (fun i => a.length - i) 0 1 (Nat.zero_le _) ?_ ?_
  · simp -implicitDefEqProofs (maxSteps := 4000000) only [go_sem, List.take_zero, Nat.sub_zero]
    exact ole_row rfl fun x hx => by rw [List.eq_of_mem_replicate hx]; simp -implicitDefEqProofs (maxSteps := 4000000) only [go_sem]
  · intro i hi L hL
    simp -implicitDefEqProofs (maxSteps := 4000000) only [go_sem]
    refine ⟨fun h => ⟨by omega, fun e he => ?_⟩, fun h => ?_⟩
    · have hw : wr .i64 ((i : Int) + 1) = ((i + 1 : Nat) : Int) := by rw [wr_in (by omega)]; omega
      have hlt : (a.take i).length = i := by rw [List.length_take]; omega
      refine call_data [e.E] (toNode_ct e (hel e (List.mem_of_getElem? he))) rfl fun _ _ => ?_
      simp -implicitDefEqProofs (maxSteps := 4000000) only [go_sem, hw, hlt]
      refine ⟨by omega, by omega, hL _ (i + 1) 1 (by omega) (by omega) ?_⟩
      rw [fill_set (by simpa using hlt) (by omega)]
      simp -implicitDefEqProofs (maxSteps := 4000000) only [go_sem, take_more he, List.map_append]
      exact ole_row rfl fun x hx => by
        rcases List.mem_append.1 hx with hx | hx
        · rcases List.mem_append.1 hx with hx | hx
          · obtain ⟨y, _, rfl⟩ := List.mem_map.1 hx; simp -implicitDefEqProofs (maxSteps := 4000000) only [go_sem]
          · obtain rfl := List.mem_singleton.1 hx; simp -implicitDefEqProofs (maxSteps := 4000000) only [go_sem]
        · rw [List.eq_of_mem_replicate hx]; simp -implicitDefEqProofs (maxSteps := 4000000) only [go_sem]
    · obtain rfl : i = a.length := by omega
      simp -implicitDefEqProofs (maxSteps := 4000000) only [go_sem, List.take_length, Nat.sub_self]
      exact end_pub hK () trivial rfl rfl (toEs_map _) rfl
theorem eqNodeS_ct (a : List TNode) (hsm : (a.length ≤ 1048576 ∧ ∀ y ∈ a, y.sm)) : Ct Try.prog 84 [.d (.lst (a.map TNode.E)), .d (.lst (a.map TNode.E))] [] (fun _ : Unit => True) (fun _ => .bool true) (fun _ => []) := by
  refine ct_go tyOk Try.func84 rfl (by decide +kernel) Try.ntmps84 rfl (fun _ _ => Nat.le_refl _) ?_
  intro K hK
  obtain ⟨ha, hel⟩ := hsm
  simp -implicitDefEqProofs (maxSteps := 4000000) only [go_sem]
  refine loop_go tyOk (fun i : Nat => ⟨fr 27 [(0, .d (.lst (a.map TNode.E))), (1, .d (.lst (a.map TNode.E))), (5, .int i)], [], 0⟩)
    (fun i => i ≤ a.length) (fun i => a.length - i) 0 0 (Nat.zero_le _) (by simp -implicitDefEqProofs (maxSteps := 4000000) only [go_sem]) ?_
  intro i hi L hL
  simp -implicitDefEqProofs (maxSteps := 4000000) only [go_sem]
  refine ⟨fun h => ?_, fun h => end_pure hK () trivial (by simp -implicitDefEqProofs (maxSteps := 4000000) only [go_sem])⟩
  refine draw_rule tyOk (by kernel_rfl) [0, 1, 2, 3, 4, 5, 6, 7, 8, 9] (by kernel_rfl) ?_
  simp -implicitDefEqProofs (maxSteps := 4000000) only [go_sem]
  refine ⟨by omega, fun e he => ⟨by omega, fun e' he' => ?_⟩⟩
  obtain rfl : e = e' := by rw [he] at he'; exact Option.some.inj he'
  have hw : wr .i64 ((i : Int) + 1) = ((i + 1 : Nat) : Int) := by rw [wr_in (by omega)]; omega
  refine calm_data [e.E, e.E] (eqNode_ct e (hel e (List.mem_of_getElem? he))) rfl fun _ _ => ?_
  simp -implicitDefEqProofs (maxSteps := 4000000) only [go_sem, hw]
  exact hL _ (i + 1) 0 (by omega) (by omega) (by simp -implicitDefEqProofs (maxSteps := 4000000) only [go_sem])
theorem szTree_ct (a : TTree) (hok : a.ok) (l : Int) (h0 : 0 ≤ l) (h1 : l ≤ 1048576) : Ct Try.prog 45 [.d a.E, .int l] [] (fun _ : Unit => True) (fun _ => .int (TTree.sz a l)) (fun _ => []) := by
  refine ct_go tyOk Try.func45 rfl (by decide +kernel) Try.ntmps45 rfl (fun _ _ => Nat.le_refl _) ?_
  intro K hK
  have k0 : (a.nodes_.length ≤ 9223372036854775807 ∧ ∀ y ∈ a.nodes_, y.ok) := hok
  simp -implicitDefEqProofs (maxSteps := 4000000) only [go_sem]
  refine call_int [(.lst (a.nodes_.map TNode.E)), .int l] (szNodeS_ct a.nodes_ k0 l (by omega) (by omega)) rfl fun l1 e0 => ?_
  have b0 := szL_le (a := a.nodes_) (fun y _ => (fun l h => (y.sz_le l h).2)) l (by omega)
  rw [← e0] at b0
  simp -implicitDefEqProofs (maxSteps := 4000000) only [go_sem]
  refine ⟨fun p0 => end_pure hK () trivial (by simp -implicitDefEqProofs (maxSteps := 4000000) only [go_sem, TTree.sz, szSeq, ← e0, if_pos p0]), fun n0 => ?_⟩
  exact end_pure hK () trivial (by simp -implicitDefEqProofs (maxSteps := 4000000) only [go_sem, TTree.sz, szSeq, ← e0, if_neg n0])
theorem toTree_ct (a : TTree) (hsm : a.sm) : Ct Try.prog 47 [.d a.E] [] (fun _ : Unit => True) (fun _ => .d a.E) (fun _ => []) := by
  refine ct_go tyOk Try.func47 rfl (by decide +kernel) Try.ntmps47 rfl (fun _ _ => Nat.le_refl _) ?_
  intro K hK
  have k0 : (a.nodes_.length ≤ 1048576 ∧ ∀ y ∈ a.nodes_, y.sm) := hsm
  simp -implicitDefEqProofs (maxSteps := 4000000) only [go_sem]
  refine call_data [(.lst (a.nodes_.map TNode.E))] (toNodeS_ct a.nodes_ k0) rfl fun _ _ => ?_
  simp -implicitDefEqProofs (maxSteps := 4000000) only [go_sem]
  exact end_cell hK () trivial rfl rfl ty82 (by simp -implicitDefEqProofs (maxSteps := 4000000) only [go_sem])
theorem eqTree_ct (a : TTree) (hsm : a.sm) : Ct Try.prog 49 [.d a.E, .d a.E] [] (fun _ : Unit => True) (fun _ => .bool true) (fun _ => []) := by
  refine ct_go tyOk Try.func49 rfl (by decide +kernel) Try.ntmps49 rfl (fun _ _ => Nat.le_refl _) ?_
  intro K hK
  have k0 : (a.nodes_.length ≤ 1048576 ∧ ∀ y ∈ a.nodes_, y.sm) := hsm
  simp -implicitDefEqProofs (maxSteps := 4000000) only [go_sem]
  refine call_data [(.lst (a.nodes_.map TNode.E)), (.lst (a.nodes_.map TNode.E))] (eqNodeS_ct a.nodes_ k0) rfl fun _ _ => ?_
  simp -implicitDefEqProofs (maxSteps := 4000000) only [go_sem]
  exact end_pure hK () trivial (by simp -implicitDefEqProofs (maxSteps := 4000000) only [go_sem])
end Go.Proofs.Ytphneohnocljcaa
