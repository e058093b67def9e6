/- Rules found: the walks. -/
import Derived.Test.YtfmllefmfhefpaaVh
import Derived.Test.YtfmllefmfhefpaaAbTm
namespace Go.Proofs.Ytfmllefmfhefpaa
open Go Go.Ab
set_option linter.unusedVariables false
set_option linter.unusedSimpArgs false
set_option maxRecDepth 100000
set_option maxHeartbeats 4000000
theorem bit5_ct (b : Bool) : Ct Try.prog 170 [.bool b] [] (fun _ : Unit => True) (fun _ => .int (if b then 1 else 0)) (fun _ => []) := by
  refine ct_go tyOk Try.func170 rfl (by decide +kernel) Try.ntmps170 rfl (fun _ _ => by first | exact Nat.le_refl _ | exact Nat.zero_le _ | simp) ?_
  intro K hK
  simp -implicitDefEqProofs (maxSteps := 4000000) only [go_sem]
  exact ⟨fun h => end_pure hK () trivial (by subst h; simp -implicitDefEqProofs (maxSteps := 4000000) only [go_sem]), fun h => end_pure hK () trivial (by subst h; simp -implicitDefEqProofs (maxSteps := 4000000) only [go_sem])⟩
abbrev strBox (s : ByteArray) : O := .box 9 [.str s]
attribute [go_sem] strBox
theorem frCl_ct (nm : ByteArray) (r : TRule) : Ct Try.prog 153 [.d r.E, .ref 0 0] [strBox nm] (fun _ : Unit => True) (fun _ => .bool (decide (r.name_ = nm))) (fun _ => [strBox nm]) := by
  refine ct_go tyOk Try.func153 rfl (by decide +kernel) Try.ntmps153 rfl (fun _ _ => by first | exact Nat.le_refl _ | exact Nat.zero_le _ | simp) ?_
  intro K hK
  simp -implicitDefEqProofs (maxSteps := 4000000) only [go_sem]
  exact end_gen hK () 1 trivial (by simp -implicitDefEqProofs (maxSteps := 4000000) only [go_sem])
theorem fdCl_ct (nm cn : ByteArray) (r : TRule) : Ct Try.prog 157 [.d r.E, .ref 0 0, .ref 1 0] [strBox nm, strBox cn] (fun _ : Unit => True) (fun _ => .bool (decide (r.name_ = nm ∧ r.con_ = cn))) (fun _ => [strBox nm, strBox cn]) := by
  refine ct_go tyOk Try.func157 rfl (by decide +kernel) Try.ntmps157 rfl (fun _ _ => by first | exact Nat.le_refl _ | exact Nat.zero_le _ | simp) ?_
  intro K hK
  simp -implicitDefEqProofs (maxSteps := 4000000) only [go_sem]
  refine ⟨fun h => end_gen hK () 2 trivial (by simp -implicitDefEqProofs (maxSteps := 4000000) only [go_sem, h, true_and]), fun h => end_gen hK () 2 trivial (by simp -implicitDefEqProofs (maxSteps := 4000000) only [go_sem, h, false_and]; try simp)⟩
theorem frIdx_ct (nm : ByteArray) (l : List TRule) (hl : l.length ≤ 1073741824) : Ct Try.prog 152 [.d (.lst (l.map TRule.E)), .fn 153 [.ref 0 0]] [strBox nm] (fun _ : Unit => True)
    (fun _ => .int (firstAt (fun r : TRule => decide (r.name_ = nm)) l)) (fun _ => [strBox nm]) := by
  refine ct_go tyOk Try.func152 rfl (by decide +kernel) Try.ntmps152 rfl (fun _ _ => by first | exact Nat.le_refl _ | exact Nat.zero_le _ | simp) ?_
  intro K hK
  simp -implicitDefEqProofs (maxSteps := 4000000) only [go_sem]
  refine loop_st tyOk [4, 5, 8, 9, 10, 11, 12, 13, 14, 15, 16, 17, 18] (fun i : Nat => [(8, .int i)]) (fun i : Nat => i ≤ l.length ∧ ∀ x ∈ l.take i, decide (x.name_ = nm) = false) (fun i : Nat => l.length - i) 0 ?_ ?_ ?_
  · exact ⟨Nat.zero_le _, fun x hx => by simp at hx⟩
  · simp -implicitDefEqProofs (maxSteps := 4000000) only [go_sem]
  rintro i ⟨hi, hb⟩ L hL
  have hw : i < l.length → wr .i64 ((i : Int) + 1) = ((i + 1 : Nat) : Int) := fun h => by rw [wr_in (by omega)]; omega
  simp -implicitDefEqProofs (maxSteps := 4000000) only [go_sem]
  refine ⟨fun h => ⟨by omega, fun x hx => ?_⟩, fun h => end_gen hK () 1 trivial ?_⟩
  · refine call_objs [0] (frCl_ct nm x) (by simp -implicitDefEqProofs (maxSteps := 4000000) only [go_sem]; decide) fun _ _ => ?_
    simp -implicitDefEqProofs (maxSteps := 4000000) only [go_sem]
    refine ⟨fun h2 => end_gen hK () 1 trivial ?_, fun h2 => ?_⟩
    · simp -implicitDefEqProofs (maxSteps := 4000000) only [go_sem, firstAt_at hx (p := fun r : TRule => decide (r.name_ = nm)) (by simpa using h2) hb]
    · simp -implicitDefEqProofs (maxSteps := 4000000) only [go_sem, hw (by omega)]
      exact hL _ (i + 1) ⟨by omega, mem_take_more hx hb (by simpa using h2)⟩ (by omega) (by simp -implicitDefEqProofs (maxSteps := 4000000) only [go_sem])
  · obtain rfl : i = l.length := by omega
    rw [List.take_length] at hb
    simp -implicitDefEqProofs (maxSteps := 4000000) only [go_sem, firstAt_nil hb]
theorem fdIdx_ct (nm cn : ByteArray) (l : List TRule) (hl : l.length ≤ 1073741824) : Ct Try.prog 152 [.d (.lst (l.map TRule.E)), .fn 157 [.ref 0 0, .ref 1 0]] [strBox nm, strBox cn] (fun _ : Unit => True)
    (fun _ => .int (firstAt (fun r : TRule => decide (r.name_ = nm ∧ r.con_ = cn)) l)) (fun _ => [strBox nm, strBox cn]) := by
  refine ct_go tyOk Try.func152 rfl (by decide +kernel) Try.ntmps152 rfl (fun _ _ => by first | exact Nat.le_refl _ | exact Nat.zero_le _ | simp) ?_
  intro K hK
  simp -implicitDefEqProofs (maxSteps := 4000000) only [go_sem]
  refine loop_st tyOk [4, 5, 8, 9, 10, 11, 12, 13, 14, 15, 16, 17, 18] (fun i : Nat => [(8, .int i)]) (fun i : Nat => i ≤ l.length ∧ ∀ x ∈ l.take i, decide (x.name_ = nm ∧ x.con_ = cn) = false) (fun i : Nat => l.length - i) 0 ?_ ?_ ?_
  · exact ⟨Nat.zero_le _, fun x hx => by simp at hx⟩
  · simp -implicitDefEqProofs (maxSteps := 4000000) only [go_sem]
  rintro i ⟨hi, hb⟩ L hL
  have hw : i < l.length → wr .i64 ((i : Int) + 1) = ((i + 1 : Nat) : Int) := fun h => by rw [wr_in (by omega)]; omega
  simp -implicitDefEqProofs (maxSteps := 4000000) only [go_sem]
  refine ⟨fun h => ⟨by omega, fun x hx => ?_⟩, fun h => end_gen hK () 2 trivial ?_⟩
  · refine call_objs [0, 1] (fdCl_ct nm cn x) (by simp -implicitDefEqProofs (maxSteps := 4000000) only [go_sem]; decide) fun _ _ => ?_
    simp -implicitDefEqProofs (maxSteps := 4000000) only [go_sem]
    refine ⟨fun h2 => end_gen hK () 2 trivial ?_, fun h2 => ?_⟩
    · simp -implicitDefEqProofs (maxSteps := 4000000) only [go_sem, firstAt_at hx (p := fun r : TRule => decide (r.name_ = nm ∧ r.con_ = cn)) (by simpa using h2) hb]
    · simp -implicitDefEqProofs (maxSteps := 4000000) only [go_sem, hw (by omega)]
      exact hL _ (i + 1) ⟨by omega, mem_take_more hx hb (by simpa using h2)⟩ (by omega) (by simp -implicitDefEqProofs (maxSteps := 4000000) only [go_sem])
  · obtain rfl : i = l.length := by omega
    rw [List.take_length] at hb
    simp -implicitDefEqProofs (maxSteps := 4000000) only [go_sem, firstAt_nil hb]
def firstR (nm : ByteArray) (l : List TRule) : Int := firstAt (fun r : TRule => decide (r.name_ = nm)) l
def findR (nm cn : ByteArray) (l : List TRule) : Int := firstAt (fun r : TRule => decide (r.name_ = nm ∧ r.con_ = cn)) l
theorem iFirst_ct (p : TProgram) (h : p.sm) (nm : ByteArray) : Ct Try.prog 102 [.d p.E, .str nm] [] (fun _ : Unit => True) (fun _ => .int (firstR nm p.rules_)) (fun _ => []) := by
  refine ct_go tyOk Try.func102 rfl (by decide +kernel) Try.ntmps102 rfl (fun _ _ => by first | exact Nat.le_refl _ | exact Nat.zero_le _ | simp) ?_
  intro K hK
  have hl : p.rules_.length ≤ 1048576 := by first | exact h.1 | exact h
  simp -implicitDefEqProofs (maxSteps := 4000000) only [go_sem]
  refine call_objs [1] (frIdx_ct nm p.rules_ (by omega)) (by simp -implicitDefEqProofs (maxSteps := 4000000) only [go_sem]; decide) fun _ _ => ?_
  simp -implicitDefEqProofs (maxSteps := 4000000) only [go_sem]
  exact end_pure hK () trivial (by simp -implicitDefEqProofs (maxSteps := 4000000) only [go_sem, firstR])
theorem iFind_ct (p : TProgram) (h : p.sm) (nm cn : ByteArray) : Ct Try.prog 104 [.d p.E, .str nm, .str cn] [] (fun _ : Unit => True) (fun _ => .int (findR nm cn p.rules_)) (fun _ => []) := by
  refine ct_go tyOk Try.func104 rfl (by decide +kernel) Try.ntmps104 rfl (fun _ _ => by first | exact Nat.le_refl _ | exact Nat.zero_le _ | simp) ?_
  intro K hK
  have hl : p.rules_.length ≤ 1048576 := by first | exact h.1 | exact h
  simp -implicitDefEqProofs (maxSteps := 4000000) only [go_sem]
  refine call_objs [1, 2] (fdIdx_ct nm cn p.rules_ (by omega)) (by simp -implicitDefEqProofs (maxSteps := 4000000) only [go_sem]; decide) fun _ _ => ?_
  simp -implicitDefEqProofs (maxSteps := 4000000) only [go_sem]
  exact end_pure hK () trivial (by simp -implicitDefEqProofs (maxSteps := 4000000) only [go_sem, findR])
theorem sFirst_ct (p : TProgram) (h : p.sm) (nm : ByteArray) : Ct Try.prog 142 [.d p.E, .str nm] [] (fun _ : Unit => True) (fun _ => .int (firstR nm p.rules_)) (fun _ => []) := by
  refine ct_go tyOk Try.func142 rfl (by decide +kernel) Try.ntmps142 rfl (fun _ _ => by first | exact Nat.le_refl _ | exact Nat.zero_le _ | simp) ?_
  intro K hK
  have hl : p.rules_.length ≤ 1048576 := by first | exact h.1 | exact h
  simp -implicitDefEqProofs (maxSteps := 4000000) only [go_sem]
  refine loop_st tyOk [4, 5, 6, 7, 8, 9, 10, 11, 12, 13, 14, 15, 16, 17, 18, 19, 20, 21] (fun i : Nat => [(5, .int i)]) (fun i : Nat => i ≤ p.rules_.length ∧ ∀ x ∈ p.rules_.take i, decide (x.name_ = nm) = false) (fun i : Nat => p.rules_.length - i) 0 ?_ ?_ ?_
  · exact ⟨Nat.zero_le _, fun x hx => by simp at hx⟩
  · simp -implicitDefEqProofs (maxSteps := 4000000) only [go_sem]
  rintro i ⟨hi, hb⟩ L hL
  have hw : wr .i64 ((i : Int) + 1) = ((i + 1 : Nat) : Int) := by rw [wr_in (by omega)]; omega
  simp -implicitDefEqProofs (maxSteps := 4000000) only [go_sem, hw]
  refine ⟨fun h => ⟨by omega, fun x hx => ⟨fun h2 => ?_, fun h2 => ?_⟩⟩, fun h => ?_⟩
  · exact end_pure hK () trivial (by simp -implicitDefEqProofs (maxSteps := 4000000) only [go_sem, firstR, firstAt_at hx (p := fun r : TRule => decide (r.name_ = nm)) (by simpa using h2) hb])
  · exact hL _ (i + 1) ⟨by omega, mem_take_more hx hb (by simpa using h2)⟩ (by omega) (by simp -implicitDefEqProofs (maxSteps := 4000000) only [go_sem])
  · obtain rfl : i = p.rules_.length := by omega
    rw [List.take_length] at hb
    exact end_pure hK () trivial (by simp -implicitDefEqProofs (maxSteps := 4000000) only [go_sem, firstR, firstAt_nil hb])
theorem sFind_ct (p : TProgram) (h : p.sm) (nm cn : ByteArray) : Ct Try.prog 141 [.d p.E, .str nm, .str cn] [] (fun _ : Unit => True) (fun _ => .int (findR nm cn p.rules_)) (fun _ => []) := by
  refine ct_go tyOk Try.func141 rfl (by decide +kernel) Try.ntmps141 rfl (fun _ _ => by first | exact Nat.le_refl _ | exact Nat.zero_le _ | simp) ?_
  intro K hK
  have hl : p.rules_.length ≤ 1048576 := by first | exact h.1 | exact h
  simp -implicitDefEqProofs (maxSteps := 4000000) only [go_sem]
  refine loop_st tyOk [6, 7, 8, 9, 10, 11, 12, 13, 14, 15, 16, 17, 18, 19, 20, 21, 22, 23, 24, 25, 26, 27, 28, 29, 30, 31, 32, 33] (fun i : Nat => [(7, .int i)]) (fun i : Nat => i ≤ p.rules_.length ∧ ∀ x ∈ p.rules_.take i, decide (x.name_ = nm ∧ x.con_ = cn) = false) (fun i : Nat => p.rules_.length - i) 0 ?_ ?_ ?_
  · exact ⟨Nat.zero_le _, fun x hx => by simp at hx⟩
  · simp -implicitDefEqProofs (maxSteps := 4000000) only [go_sem]
  rintro i ⟨hi, hb⟩ L hL
  have hw : wr .i64 ((i : Int) + 1) = ((i + 1 : Nat) : Int) := by rw [wr_in (by omega)]; omega
  simp -implicitDefEqProofs (maxSteps := 4000000) only [go_sem, hw]
  have next : ∀ x, p.rules_[i]? = some x → ¬ (x.name_ = nm ∧ x.con_ = cn) → ∀ y ∈ p.rules_.take (i + 1), decide (y.name_ = nm ∧ y.con_ = cn) = false := fun x hx hne => mem_take_more hx hb (by simpa using hne)
  refine ⟨fun h => ⟨by omega, fun x hx => ?_⟩, fun h => ?_⟩
  · simp -implicitDefEqProofs (maxSteps := 4000000) only [go_sem, hx, Option.some.injEq, forall_eq']
    repeat' (first
      | (with_reducible refine ⟨fun _ => ?_, fun _ => ?_⟩)
      | (with_reducible refine ⟨by omega, ?_⟩)
      | (with_reducible intro _ _))
    all_goals first
      | exact end_pure hK () trivial (by simp -implicitDefEqProofs (maxSteps := 4000000) only [go_sem, firstAt_at hx (p := fun r : TRule => decide (r.name_ = nm ∧ r.con_ = cn)) (by simp_all) hb, findR])
      | exact hL _ (i + 1) ⟨by omega, next x hx (by simp_all)⟩ (by omega) (by simp -implicitDefEqProofs (maxSteps := 4000000) only [go_sem])
  · obtain rfl : i = p.rules_.length := by omega
    rw [List.take_length] at hb
    exact end_pure hK () trivial (by simp -implicitDefEqProofs (maxSteps := 4000000) only [go_sem, findR, firstAt_nil hb])
end Go.Proofs.Ytfmllefmfhefpaa
