/- Names: the walks. -/
import Derived.Test.YtfmllefmfhefpaaAbW
import Derived.Test.YtfmllefmfhefpaaAbTv
namespace Go.Proofs.Ytfmllefmfhefpaa
open Go Go.Ab
set_option linter.unusedVariables false
set_option linter.unusedSimpArgs false
set_option maxRecDepth 100000
set_option maxHeartbeats 4000000
def lowB (n : Int) : Bool := decide (97 ≤ n) && decide (n ≤ 122)
def upB (n : Int) : Bool := decide (65 ≤ n) && decide (n ≤ 90)
def digB (n : Int) : Bool := decide (48 ≤ n) && decide (n ≤ 57)
def tailB (s : ByteArray) (i : Nat) : Bool := (s.data.toList.drop i).all fun b => lowB b.toNat || digB b.toNat
theorem tail_step {s : ByteArray} {i : Nat} {b : UInt8} (h : s.data[i]? = some b) : tailB s i = ((lowB b.toNat || digB b.toNat) && tailB s (i + 1)) := by
  unfold tailB
  have : s.data.toList[i]? = some b := by simpa using h
  rw [drop_of this, List.all_cons]
theorem tail_end {s : ByteArray} {i : Nat} (h : s.size ≤ i) : tailB s i = true := by
  unfold tailB
  rw [List.drop_eq_nil_of_le (by simpa using h)]; rfl
theorem tail_cut (s : ByteArray) : tailB (s.extract 1 s.size) 0 = tailB s 1 := by
  unfold tailB
  congr 1
  rw [List.drop_zero, ByteArray.data_extract, Array.toList_extract]
  simp only [List.extract]
  rw [List.take_of_length_le]
  rw [List.length_drop, Array.length_toList]
  exact Nat.le_refl _
def nameB (s : ByteArray) : Bool := (decide (1 ≤ s.size) && decide (s.size ≤ 6)) && (match s.data[0]? with | some b => lowB b.toNat | none => false) && tailB s 1
def conB (s : ByteArray) : Bool := (decide (1 ≤ s.size) && decide (s.size ≤ 6)) && (match s.data[0]? with | some b => upB b.toNat | none => false) && tailB s 1
theorem isLower_ct (n : Int) : Ct Try.prog 185 [.d (.v (.int .u8 n))] [] (fun _ : Unit => True) (fun _ => .bool (lowB n)) (fun _ => []) := by
  refine ct_go tyOk Try.func185 rfl (by decide +kernel) Try.ntmps185 rfl (fun _ _ => by first | exact Nat.le_refl _ | exact Nat.zero_le _ | simp) ?_
  intro K hK
  simp -implicitDefEqProofs (maxSteps := 4000000) only [go_sem]
  repeat' (first
    | (with_reducible refine ⟨fun _ => ?_, fun _ => ?_⟩)
    | (with_reducible refine ⟨by omega, ?_⟩)
    | (with_reducible intro _ _))
  all_goals exact end_pure hK () trivial (by simp -implicitDefEqProofs (maxSteps := 4000000) only [go_sem]; (try simp_all [lowB]); (try omega))
theorem isUpper_ct (n : Int) : Ct Try.prog 183 [.d (.v (.int .u8 n))] [] (fun _ : Unit => True) (fun _ => .bool (upB n)) (fun _ => []) := by
  refine ct_go tyOk Try.func183 rfl (by decide +kernel) Try.ntmps183 rfl (fun _ _ => by first | exact Nat.le_refl _ | exact Nat.zero_le _ | simp) ?_
  intro K hK
  simp -implicitDefEqProofs (maxSteps := 4000000) only [go_sem]
  repeat' (first
    | (with_reducible refine ⟨fun _ => ?_, fun _ => ?_⟩)
    | (with_reducible refine ⟨by omega, ?_⟩)
    | (with_reducible intro _ _))
  all_goals exact end_pure hK () trivial (by simp -implicitDefEqProofs (maxSteps := 4000000) only [go_sem]; (try simp_all [upB]); (try omega))
theorem isDigit_ct (n : Int) : Ct Try.prog 199 [.d (.v (.int .u8 n))] [] (fun _ : Unit => True) (fun _ => .bool (digB n)) (fun _ => []) := by
  refine ct_go tyOk Try.func199 rfl (by decide +kernel) Try.ntmps199 rfl (fun _ _ => by first | exact Nat.le_refl _ | exact Nat.zero_le _ | simp) ?_
  intro K hK
  simp -implicitDefEqProofs (maxSteps := 4000000) only [go_sem]
  repeat' (first
    | (with_reducible refine ⟨fun _ => ?_, fun _ => ?_⟩)
    | (with_reducible refine ⟨by omega, ?_⟩)
    | (with_reducible intro _ _))
  all_goals exact end_pure hK () trivial (by simp -implicitDefEqProofs (maxSteps := 4000000) only [go_sem]; (try simp_all [digB]); (try omega))
theorem in_ct (n lo hi : Int) : Ct Try.prog 129 [.int n, .int lo, .int hi] [] (fun _ : Unit => True) (fun _ => .bool (decide (lo ≤ n) && decide (n ≤ hi))) (fun _ => []) := by
  refine ct_go tyOk Try.func129 rfl (by decide +kernel) Try.ntmps129 rfl (fun _ _ => by first | exact Nat.le_refl _ | exact Nat.zero_le _ | simp) ?_
  intro K hK
  simp -implicitDefEqProofs (maxSteps := 4000000) only [go_sem]
  repeat' (first
    | (with_reducible refine ⟨fun _ => ?_, fun _ => ?_⟩)
    | (with_reducible refine ⟨by omega, ?_⟩)
    | (with_reducible intro _ _))
  all_goals exact end_pure hK () trivial (by simp -implicitDefEqProofs (maxSteps := 4000000) only [go_sem]; (try simp_all); (try omega))
theorem l1In_ct (n lo hi : Int) : Ct Try.prog 81 [.int n, .int lo, .int hi] [] (fun _ : Unit => True) (fun _ => .bool (decide (lo ≤ n) && decide (n ≤ hi))) (fun _ => []) := by
  refine ct_go tyOk Try.func81 rfl (by decide +kernel) Try.ntmps81 rfl (fun _ _ => by first | exact Nat.le_refl _ | exact Nat.zero_le _ | simp) ?_
  intro K hK
  simp -implicitDefEqProofs (maxSteps := 4000000) only [go_sem]
  repeat' (first
    | (with_reducible refine ⟨fun _ => ?_, fun _ => ?_⟩)
    | (with_reducible refine ⟨by omega, ?_⟩)
    | (with_reducible intro _ _))
  all_goals exact end_pure hK () trivial (by simp -implicitDefEqProofs (maxSteps := 4000000) only [go_sem]; (try simp_all); (try omega))
theorem isTail_ct (s : ByteArray) (hs : s.size ≤ 4611686018427387904) : Ct Try.prog 184 [.str s] [] (fun _ : Unit => True) (fun _ => .bool (tailB s 0)) (fun _ => []) := by
  refine ct_go tyOk Try.func184 rfl (by decide +kernel) Try.ntmps184 rfl (fun _ _ => by first | exact Nat.le_refl _ | exact Nat.zero_le _ | simp) ?_
  intro K hK
  simp -implicitDefEqProofs (maxSteps := 4000000) only [go_sem]
  refine loop_st tyOk [2, 3, 6, 7, 8, 9, 10, 11, 12, 13, 14, 15, 16, 17, 18, 19, 20, 21] (fun i : Nat => [(6, .int i)]) (fun i : Nat => i ≤ s.size ∧ tailB s i = tailB s 0) (fun i : Nat => s.size - i) 0 ?_ ?_ ?_
  · exact ⟨Nat.zero_le _, rfl⟩
  · simp -implicitDefEqProofs (maxSteps := 4000000) only [go_sem]
  rintro i ⟨hi, ht⟩ L hL
  have hw : i < s.size → wr .i64 ((i : Int) + 1) = ((i + 1 : Nat) : Int) := fun h => by rw [wr_in (by omega)]; omega
  simp -implicitDefEqProofs (maxSteps := 4000000) only [go_sem]
  refine ⟨fun hlt => ?_, fun hlt => end_pure hK () trivial (by simp -implicitDefEqProofs (maxSteps := 4000000) only [go_sem, ← ht, tail_end (s := s) (i := i) (by omega)])⟩
  refine ⟨by omega, fun b hb => ?_⟩
  have hst := tail_step hb
  refine call_p (isLower_ct _) rfl fun _ _ => ?_
  simp -implicitDefEqProofs (maxSteps := 4000000) only [go_sem]
  refine ⟨fun h2 => ⟨by omega, fun c hc => ?_⟩, fun h2 => ?_⟩
  · obtain rfl : b = c := by rw [hb] at hc; exact Option.some.inj hc
    refine call_p (isDigit_ct _) rfl fun _ _ => ?_
    simp -implicitDefEqProofs (maxSteps := 4000000) only [go_sem, hw (by omega)]
    refine ⟨fun h3 => end_pure hK () trivial (by simp -implicitDefEqProofs (maxSteps := 4000000) only [go_sem]; rw [← ht, hst, h2, h3]; rfl), fun h3 => ?_⟩
    exact hL _ (i + 1) ⟨by omega, by rw [← ht, hst, h2, h3]; simp⟩ (by omega) (by simp -implicitDefEqProofs (maxSteps := 4000000) only [go_sem])
  · simp -implicitDefEqProofs (maxSteps := 4000000) only [go_sem, hw (by omega)]
    exact hL _ (i + 1) ⟨by omega, by rw [← ht, hst, h2]; simp⟩ (by omega) (by simp -implicitDefEqProofs (maxSteps := 4000000) only [go_sem])
theorem l2Tail_ct (s : ByteArray) (hs : s.size ≤ 4611686018427387904) : Ct Try.prog 198 [.str s, .int 1] [] (fun _ : Unit => True) (fun _ => .bool (tailB s 1)) (fun _ => []) := by
  refine ct_go tyOk Try.func198 rfl (by decide +kernel) Try.ntmps198 rfl (fun _ _ => by first | exact Nat.le_refl _ | exact Nat.zero_le _ | simp) ?_
  intro K hK
  simp -implicitDefEqProofs (maxSteps := 4000000) only [go_sem]
  refine loop_st tyOk [4, 5, 7, 8, 9, 10, 11, 12, 13, 14, 15, 16, 17, 18, 19, 20, 21, 22, 23, 24, 25, 26, 27, 28, 29, 30, 31, 32, 33, 34, 35] (fun i : Nat => [(5, .int i)]) (fun i : Nat => (i ≤ s.size ∨ i = 1) ∧ tailB s i = tailB s 1) (fun i : Nat => s.size - i) 1 ?_ ?_ ?_
  · exact ⟨.inr rfl, rfl⟩
  · simp -implicitDefEqProofs (maxSteps := 4000000) only [go_sem]
  rintro i ⟨hi, ht⟩ L hL
  have hw : i < s.size → wr .i64 ((i : Int) + 1) = ((i + 1 : Nat) : Int) := fun h => by rw [wr_in (by omega)]; omega
  simp -implicitDefEqProofs (maxSteps := 4000000) only [go_sem]
  refine ⟨fun hlt => ?_, fun hlt => end_pure hK () trivial (by simp -implicitDefEqProofs (maxSteps := 4000000) only [go_sem, ← ht, tail_end (s := s) (i := i) (by omega)])⟩
  refine ⟨by omega, fun b hb => ?_⟩
  have hst := tail_step hb
  have hw := hw (by omega)
  simp -implicitDefEqProofs (maxSteps := 4000000) only [go_sem, hb, forall_eq', hw]
  repeat' (first
    | (with_reducible refine ⟨fun _ => ?_, fun _ => ?_⟩)
    | (with_reducible refine ⟨by omega, ?_⟩)
    | (with_reducible intro _ _))
  all_goals first
    | (have hv : (lowB b.toNat || digB b.toNat) = true := by
        simp only [lowB, digB, Bool.or_eq_true, Bool.and_eq_true, decide_eq_true_eq]; omega
       exact hL _ (i + 1) ⟨by omega, by rw [← ht, hst, hv, Bool.true_and]⟩ (by omega) (by simp -implicitDefEqProofs (maxSteps := 4000000) only [go_sem]))
    | (have hv : (lowB b.toNat || digB b.toNat) = false := by
        rw [← Bool.not_eq_true]; simp only [lowB, digB, Bool.or_eq_true, Bool.and_eq_true, decide_eq_true_eq]; omega
       exact end_pure hK () trivial (by simp -implicitDefEqProofs (maxSteps := 4000000) only [go_sem]; rw [← ht, hst, hv, Bool.false_and]))
theorem name_false {s : ByteArray} (h : (decide (1 ≤ (s.size : Int)) && decide ((s.size : Int) ≤ 6)) = false) : nameB s = false := by
  have : (decide (1 ≤ s.size) && decide (s.size ≤ 6)) = false := by
    rw [← h]; congr 1 <;> exact decide_eq_decide.2 (by omega)
  unfold nameB
  rw [this]; rfl
theorem con_false {s : ByteArray} (h : (decide (1 ≤ (s.size : Int)) && decide ((s.size : Int) ≤ 6)) = false) : conB s = false := by
  have : (decide (1 ≤ s.size) && decide (s.size ≤ 6)) = false := by
    rw [← h]; congr 1 <;> exact decide_eq_decide.2 (by omega)
  unfold conB
  rw [this]; rfl
theorem name_eq {s : ByteArray} {b : UInt8} (h : (decide (1 ≤ (s.size : Int)) && decide ((s.size : Int) ≤ 6)) = true) (hb : s.data[0]? = some b) : nameB s = (lowB b.toNat && tailB s 1) := by
  have : (decide (1 ≤ s.size) && decide (s.size ≤ 6)) = true := by
    rw [← h]; congr 1 <;> exact decide_eq_decide.2 (by omega)
  unfold nameB
  rw [this, hb]; rfl
theorem con_eq {s : ByteArray} {b : UInt8} (h : (decide (1 ≤ (s.size : Int)) && decide ((s.size : Int) ≤ 6)) = true) (hb : s.data[0]? = some b) : conB s = (upB b.toNat && tailB s 1) := by
  have : (decide (1 ≤ s.size) && decide (s.size ≤ 6)) = true := by
    rw [← h]; congr 1 <;> exact decide_eq_decide.2 (by omega)
  unfold conB
  rw [this, hb]; rfl
theorem isName_ct (s : ByteArray) (hs : s.size ≤ 4611686018427387904) : Ct Try.prog 146 [.str s] [] (fun _ : Unit => True) (fun _ => .bool (nameB s)) (fun _ => []) := by
  refine ct_go tyOk Try.func146 rfl (by decide +kernel) Try.ntmps146 rfl (fun _ _ => by first | exact Nat.le_refl _ | exact Nat.zero_le _ | simp) ?_
  intro K hK
  simp -implicitDefEqProofs (maxSteps := 4000000) only [go_sem]
  refine call_p (in_ct _ _ _) rfl fun _ _ => ?_
  simp -implicitDefEqProofs (maxSteps := 4000000) only [go_sem]
  refine ⟨fun h1 => ?_, fun h1 => end_pure hK () trivial (by simp -implicitDefEqProofs (maxSteps := 4000000) only [go_sem]; rw [name_false h1])⟩
  have hsz : 1 ≤ s.size ∧ s.size ≤ 6 := by
    have := h1
    simp only [Bool.and_eq_true, decide_eq_true_eq] at this
    omega
  refine ⟨by omega, fun b hb => ?_⟩
  have hne := name_eq h1 hb
  refine call_p (isLower_ct _) rfl fun _ _ => ?_
  simp -implicitDefEqProofs (maxSteps := 4000000) only [go_sem]
  refine ⟨fun h2 => ⟨by omega, ?_⟩, fun h2 => end_pure hK () trivial (by simp -implicitDefEqProofs (maxSteps := 4000000) only [go_sem]; rw [hne, h2]; rfl)⟩
  refine call_p (isTail_ct (s.extract 1 s.size) (by rw [ByteArray.size_extract]; omega)) rfl fun _ _ => ?_
  simp -implicitDefEqProofs (maxSteps := 4000000) only [go_sem]
  exact end_pure hK () trivial (by simp -implicitDefEqProofs (maxSteps := 4000000) only [go_sem]; rw [hne, h2, tail_cut]; rfl)
theorem sName_ct (s : ByteArray) (hs : s.size ≤ 4611686018427387904) : Ct Try.prog 179 [.str s] [] (fun _ : Unit => True) (fun _ => .bool (nameB s)) (fun _ => []) := by
  refine ct_go tyOk Try.func179 rfl (by decide +kernel) Try.ntmps179 rfl (fun _ _ => by first | exact Nat.le_refl _ | exact Nat.zero_le _ | simp) ?_
  intro K hK
  simp -implicitDefEqProofs (maxSteps := 4000000) only [go_sem]
  refine call_p (l1In_ct _ _ _) rfl fun _ _ => ?_
  simp -implicitDefEqProofs (maxSteps := 4000000) only [go_sem]
  refine ⟨fun h1 => ?_, fun h1 => end_pure hK () trivial (by simp -implicitDefEqProofs (maxSteps := 4000000) only [go_sem]; rw [name_false h1])⟩
  have hsz : 1 ≤ s.size ∧ s.size ≤ 6 := by
    have := h1
    simp only [Bool.and_eq_true, decide_eq_true_eq] at this
    omega
  refine ⟨by omega, fun b hb => ?_⟩
  have hne := name_eq h1 hb
  simp -implicitDefEqProofs (maxSteps := 4000000) only [go_sem, hb, forall_eq']
  refine ⟨fun h2 => ⟨by omega, ?_⟩, fun h2 => end_pure hK () trivial (by simp -implicitDefEqProofs (maxSteps := 4000000) only [go_sem]; rw [hne]; simp [lowB]; omega)⟩
  refine ⟨fun h3 => ?_, fun h3 => end_pure hK () trivial (by simp -implicitDefEqProofs (maxSteps := 4000000) only [go_sem]; rw [hne]; simp [lowB]; omega)⟩
  refine call_p (l2Tail_ct s hs) rfl fun _ _ => ?_
  simp -implicitDefEqProofs (maxSteps := 4000000) only [go_sem]
  have hv : lowB b.toNat = true := by simp only [lowB, Bool.and_eq_true, decide_eq_true_eq]; omega
  exact end_pure hK () trivial (by simp -implicitDefEqProofs (maxSteps := 4000000) only [go_sem]; rw [hne, hv]; rfl)
theorem isCon_ct (s : ByteArray) (hs : s.size ≤ 4611686018427387904) : Ct Try.prog 145 [.str s] [] (fun _ : Unit => True) (fun _ => .bool (conB s)) (fun _ => []) := by
  refine ct_go tyOk Try.func145 rfl (by decide +kernel) Try.ntmps145 rfl (fun _ _ => by first | exact Nat.le_refl _ | exact Nat.zero_le _ | simp) ?_
  intro K hK
  simp -implicitDefEqProofs (maxSteps := 4000000) only [go_sem]
  refine call_p (in_ct _ _ _) rfl fun _ _ => ?_
  simp -implicitDefEqProofs (maxSteps := 4000000) only [go_sem]
  refine ⟨fun h1 => ?_, fun h1 => end_pure hK () trivial (by simp -implicitDefEqProofs (maxSteps := 4000000) only [go_sem]; rw [con_false h1])⟩
  have hsz : 1 ≤ s.size ∧ s.size ≤ 6 := by
    have := h1
    simp only [Bool.and_eq_true, decide_eq_true_eq] at this
    omega
  refine ⟨by omega, fun b hb => ?_⟩
  have hne := con_eq h1 hb
  refine call_p (isUpper_ct _) rfl fun _ _ => ?_
  simp -implicitDefEqProofs (maxSteps := 4000000) only [go_sem]
  refine ⟨fun h2 => ⟨by omega, ?_⟩, fun h2 => end_pure hK () trivial (by simp -implicitDefEqProofs (maxSteps := 4000000) only [go_sem]; rw [hne, h2]; rfl)⟩
  refine call_p (isTail_ct (s.extract 1 s.size) (by rw [ByteArray.size_extract]; omega)) rfl fun _ _ => ?_
  simp -implicitDefEqProofs (maxSteps := 4000000) only [go_sem]
  exact end_pure hK () trivial (by simp -implicitDefEqProofs (maxSteps := 4000000) only [go_sem]; rw [hne, h2, tail_cut]; rfl)
theorem sCon_ct (s : ByteArray) (hs : s.size ≤ 4611686018427387904) : Ct Try.prog 178 [.str s] [] (fun _ : Unit => True) (fun _ => .bool (conB s)) (fun _ => []) := by
  refine ct_go tyOk Try.func178 rfl (by decide +kernel) Try.ntmps178 rfl (fun _ _ => by first | exact Nat.le_refl _ | exact Nat.zero_le _ | simp) ?_
  intro K hK
  simp -implicitDefEqProofs (maxSteps := 4000000) only [go_sem]
  refine call_p (l1In_ct _ _ _) rfl fun _ _ => ?_
  simp -implicitDefEqProofs (maxSteps := 4000000) only [go_sem]
  refine ⟨fun h1 => ?_, fun h1 => end_pure hK () trivial (by simp -implicitDefEqProofs (maxSteps := 4000000) only [go_sem]; rw [con_false h1])⟩
  have hsz : 1 ≤ s.size ∧ s.size ≤ 6 := by
    have := h1
    simp only [Bool.and_eq_true, decide_eq_true_eq] at this
    omega
  refine ⟨by omega, fun b hb => ?_⟩
  have hne := con_eq h1 hb
  simp -implicitDefEqProofs (maxSteps := 4000000) only [go_sem, hb, forall_eq']
  refine ⟨fun h2 => ⟨by omega, ?_⟩, fun h2 => end_pure hK () trivial (by simp -implicitDefEqProofs (maxSteps := 4000000) only [go_sem]; rw [hne]; simp [upB]; omega)⟩
  refine ⟨fun h3 => ?_, fun h3 => end_pure hK () trivial (by simp -implicitDefEqProofs (maxSteps := 4000000) only [go_sem]; rw [hne]; simp [upB]; omega)⟩
  refine call_p (l2Tail_ct s hs) rfl fun _ _ => ?_
  simp -implicitDefEqProofs (maxSteps := 4000000) only [go_sem]
  have hv : upB b.toNat = true := by simp only [upB, Bool.and_eq_true, decide_eq_true_eq]; omega
  exact end_pure hK () trivial (by simp -implicitDefEqProofs (maxSteps := 4000000) only [go_sem]; rw [hne, hv]; rfl)
end Go.Proofs.Ytfmllefmfhefpaa
