/- Valid expressions: the walks. -/
import Derived.Test.YtfmllefmfhefpaaNm
import Derived.Test.YtfmllefmfhefpaaVq
import Derived.Test.YtfmllefmfhefpaaFa
namespace Go.Proofs.Ytfmllefmfhefpaa
open Go Go.Ab
set_option linter.unusedVariables false
set_option linter.unusedSimpArgs false
set_option maxRecDepth 100000
set_option maxHeartbeats 4000000
def formB (e : Ex) : Bool :=
  if e.k = 1 then nameB e.n && decide ((e.a.length : Int) = 0) else if e.k = 2 then conB e.n && decide ((e.a.length : Int) ≤ 5) else if e.k = 3 then nameB e.n && decide ((e.a.length : Int) ≤ 5)
  else if e.k = 4 then decide (e.n = ⟨#[]⟩) && decide ((e.a.length : Int) = 0) else false
theorem isForm_ct (e : Ex) (he : e.sm) : Ct Try.prog 188 [.d e.E] [] (fun _ : Unit => True) (fun _ => .bool (formB e)) (fun _ => []) := by
  refine ct_go tyOk Try.func188 rfl (by decide +kernel) Try.ntmps188 rfl (fun _ _ => by first | exact Nat.le_refl _ | exact Nat.zero_le _ | simp) ?_
  intro K hK
  have hlen := (e.sm_def.1 he).2.1
  have hn := (e.sm_def.1 he).1
  simp -implicitDefEqProofs (maxSteps := 4000000) only [go_sem]
  repeat' (first
    | (with_reducible refine ⟨fun _ => ?_, fun _ => ?_⟩)
    | (with_reducible refine ⟨by omega, ?_⟩)
    | (with_reducible intro _ _)
    | (refine call_p (isName_ct _ (by omega)) rfl fun _ _ => ?_; simp -implicitDefEqProofs (maxSteps := 4000000) only [go_sem])
    | (refine calm_p (isName_ct _ (by omega)) rfl fun _ _ => ?_; simp -implicitDefEqProofs (maxSteps := 4000000) only [go_sem])
    | (refine call_p (isCon_ct _ (by omega)) rfl fun _ _ => ?_; simp -implicitDefEqProofs (maxSteps := 4000000) only [go_sem])
    | (refine calm_p (isCon_ct _ (by omega)) rfl fun _ _ => ?_; simp -implicitDefEqProofs (maxSteps := 4000000) only [go_sem]))
  all_goals exact end_pure hK () trivial (by simp -implicitDefEqProofs (maxSteps := 4000000) only [go_sem]; simp_all [formB])
theorem l3Form_ct (e : Ex) (he : e.sm) : Ct Try.prog 193 [.d e.E] [] (fun _ : Unit => True) (fun _ => .bool (formB e)) (fun _ => []) := by
  refine ct_go tyOk Try.func193 rfl (by decide +kernel) Try.ntmps193 rfl (fun _ _ => by first | exact Nat.le_refl _ | exact Nat.zero_le _ | simp) ?_
  intro K hK
  have hlen := (e.sm_def.1 he).2.1
  have hn := (e.sm_def.1 he).1
  simp -implicitDefEqProofs (maxSteps := 4000000) only [go_sem]
  repeat' (first
    | (with_reducible refine ⟨fun _ => ?_, fun _ => ?_⟩)
    | (with_reducible refine ⟨by omega, ?_⟩)
    | (with_reducible intro _ _)
    | (refine call_p (sName_ct _ (by omega)) rfl fun _ _ => ?_; simp -implicitDefEqProofs (maxSteps := 4000000) only [go_sem])
    | (refine calm_p (sName_ct _ (by omega)) rfl fun _ _ => ?_; simp -implicitDefEqProofs (maxSteps := 4000000) only [go_sem])
    | (refine call_p (sCon_ct _ (by omega)) rfl fun _ _ => ?_; simp -implicitDefEqProofs (maxSteps := 4000000) only [go_sem])
    | (refine calm_p (sCon_ct _ (by omega)) rfl fun _ _ => ?_; simp -implicitDefEqProofs (maxSteps := 4000000) only [go_sem]))
  all_goals exact end_pure hK () trivial (by simp -implicitDefEqProofs (maxSteps := 4000000) only [go_sem]; simp_all [formB])
def allF (e : Ex) : Bool := (nodes e).all formB
def allFS (a : List Ex) : Bool := (nodeS a).all formB
theorem allF_def (e : Ex) : allF e = (formB e && allFS e.a) := by unfold allF allFS; rw [nodes_def, List.all_cons]
theorem allFS_take {a : List Ex} {i : Nat} {x : Ex} (h : a[i]? = some x) : allFS (a.take (i + 1)) = (allFS (a.take i) && allF x) := by unfold allFS allF; rw [nodeS_take h, List.all_append]
theorem allFS_mem {a : List Ex} {i : Nat} {x : Ex} (h : a[i]? = some x) (hx : allF x = false) : allFS a = false := by
  unfold allFS allF at *
  rw [List.all_eq_false] at hx ⊢
  obtain ⟨y, hy, hf⟩ := hx
  refine ⟨y, ?_, hf⟩
  have := nodeS_app (a.take (i + 1)) (a.drop (i + 1))
  rw [List.take_append_drop] at this
  rw [this, nodeS_take h]
  simp [hy]
theorem l3All_ct (e : Ex) : e.sm → Ct Try.prog 165 [.d e.E] [] (fun _ : Unit => True) (fun _ => .bool (allF e)) (fun _ => []) := by
  induction e using Ex.ind2 with
  | h e ih =>
    intro he
    refine ct_go tyOk Try.func165 rfl (by decide +kernel) Try.ntmps165 rfl (fun _ _ => by first | exact Nat.le_refl _ | exact Nat.zero_le _ | simp) ?_
    intro K hK
    have hlen := (e.sm_def.1 he).2.1
    simp -implicitDefEqProofs (maxSteps := 4000000) only [go_sem]
    refine loop_st tyOk [2, 3, 4, 5, 6, 7, 8, 9, 10, 11, 12, 13, 14, 15, 16, 17] (fun i : Nat => [(3, .int i)]) (fun i : Nat => i ≤ e.a.length ∧ allFS (e.a.take i) = true) (fun i : Nat => e.a.length - i) 0 ?_ ?_ ?_
    · exact ⟨Nat.zero_le _, rfl⟩
    · simp -implicitDefEqProofs (maxSteps := 4000000) only [go_sem]
    rintro i ⟨hi, hb⟩ L hL
    have hw : wr .i64 ((i : Int) + 1) = ((i + 1 : Nat) : Int) := by rw [wr_in (by omega)]; omega
    simp -implicitDefEqProofs (maxSteps := 4000000) only [go_sem]
    refine ⟨fun hlt => ⟨by omega, fun x hx => ?_⟩, fun hlt => ?_⟩
    · refine call_p (ih x (List.mem_of_getElem? hx) ((e.sm_def.1 he).2.2 x (List.mem_of_getElem? hx))) rfl fun _ _ => ?_
      simp -implicitDefEqProofs (maxSteps := 4000000) only [go_sem, hw]
      refine ⟨fun h2 => end_pure hK () trivial (by simp -implicitDefEqProofs (maxSteps := 4000000) only [go_sem]; rw [allF_def, allFS_mem hx h2, Bool.and_false]), fun h2 => ?_⟩
      exact hL _ (i + 1) ⟨by omega, by rw [allFS_take hx, hb, h2]; rfl⟩ (by omega) (by simp -implicitDefEqProofs (maxSteps := 4000000) only [go_sem])
    · obtain rfl : i = e.a.length := by omega
      rw [List.take_length] at hb
      refine call_p (l3Form_ct e he) rfl fun _ _ => ?_
      simp -implicitDefEqProofs (maxSteps := 4000000) only [go_sem]
      exact end_pure hK () trivial (by simp -implicitDefEqProofs (maxSteps := 4000000) only [go_sem]; rw [allF_def, hb, Bool.and_true])
theorem l1Max_ct (a b : Int) : Ct Try.prog 192 [.int a, .int b] [] (fun _ : Unit => True) (fun _ => .int (max a b)) (fun _ => []) := by
  refine ct_go tyOk Try.func192 rfl (by decide +kernel) Try.ntmps192 rfl (fun _ _ => by first | exact Nat.le_refl _ | exact Nat.zero_le _ | simp) ?_
  intro K hK
  simp -implicitDefEqProofs (maxSteps := 4000000) only [go_sem]
  refine ⟨fun h => end_pure hK () trivial (by simp -implicitDefEqProofs (maxSteps := 4000000) only [go_sem]; omega), fun h => end_pure hK () trivial (by simp -implicitDefEqProofs (maxSteps := 4000000) only [go_sem]; omega)⟩
theorem depthOf_ct (e : Ex) : e.sm → e.nd ≤ 4194304 → Ct Try.prog 164 [.d e.E] [] (fun _ : Unit => True) (fun _ => .int (dep e)) (fun _ => []) := by
  induction e using Ex.ind2 with
  | h e ih =>
    intro he hnd
    refine ct_go tyOk Try.func164 rfl (by decide +kernel) Try.ntmps164 rfl (fun _ _ => by first | exact Nat.le_refl _ | exact Nat.zero_le _ | simp) ?_
    intro K hK
    have hlen := (e.sm_def.1 he).2.1
    have hdn := dep_nd e
    have hdd := dep_def e
    have hnn := e.nd_def
    simp -implicitDefEqProofs (maxSteps := 4000000) only [go_sem]
    refine loop_st tyOk [3, 4, 5, 6, 7, 8, 9, 10, 11, 12, 13, 14, 15, 16, 17, 18, 19] (fun i : Nat => [(3, .int (depS (e.a.take i))), (4, .int i)]) (fun i : Nat => i ≤ e.a.length) (fun i : Nat => e.a.length - i) 0 ?_ ?_ ?_
    · exact Nat.zero_le _
    · simp -implicitDefEqProofs (maxSteps := 4000000) only [go_sem, List.take_zero, depS]
    intro i hi L hL
    have hdl := depS_take_le e.a i
    have hw : wr .i64 ((i : Int) + 1) = ((i + 1 : Nat) : Int) := by rw [wr_in (by omega)]; omega
    simp -implicitDefEqProofs (maxSteps := 4000000) only [go_sem]
    refine ⟨fun hlt => ⟨by omega, fun x hx => ?_⟩, fun hlt => ?_⟩
    · have hxn := Ex.nd_mem (List.mem_of_getElem? hx)
      refine call_p (ih x (List.mem_of_getElem? hx) ((e.sm_def.1 he).2.2 x (List.mem_of_getElem? hx)) (by omega)) rfl fun _ _ => ?_
      simp -implicitDefEqProofs (maxSteps := 4000000) only [go_sem]
      refine call_p (l1Max_ct _ _) rfl fun _ _ => ?_
      have hmx : max ((depS (e.a.take i) : Nat) : Int) ((dep x : Nat) : Int) = ((depS (e.a.take (i + 1)) : Nat) : Int) := by rw [depS_take hx]; omega
      simp -implicitDefEqProofs (maxSteps := 4000000) only [go_sem, hw, hmx]
      exact hL _ (i + 1) (by omega) (by omega) (by simp -implicitDefEqProofs (maxSteps := 4000000) only [go_sem])
    · obtain rfl : i = e.a.length := by omega
      rw [List.take_length]
      have hw2 : wr .i64 (((depS e.a : Nat) : Int) + 1) = ((dep e : Nat) : Int) := by rw [wr_in (by omega)]; omega
      exact end_pure hK () trivial (by simp -implicitDefEqProofs (maxSteps := 4000000) only [go_sem, hw2])
theorem l3Left_ct (e : Ex) : e.sm → ∀ left : Int, 0 ≤ left → left ≤ 4194304 → Ct Try.prog 163 [.d e.E, .int left] [] (fun r : Int => -1 ≤ r ∧ r ≤ left ∧ (0 ≤ r ↔ (e.nd : Int) ≤ left) ∧ (0 ≤ r → r = left - e.nd)) (fun r => .int r) (fun _ => []) := by
  induction e using Ex.ind2 with
  | h e ih =>
    intro he left h0 h1
    refine ct_go tyOk Try.func163 rfl (by decide +kernel) Try.ntmps163 rfl (fun _ _ => by first | exact Nat.le_refl _ | exact Nat.zero_le _ | simp) ?_
    intro K hK
    have hlen := (e.sm_def.1 he).2.1
    have hnn := e.nd_def
    have hw1 : wr .i64 (left - 1) = left - 1 := wr_in (by omega)
    simp -implicitDefEqProofs (maxSteps := 4000000) only [go_sem, hw1]
    refine loop_st tyOk [1, 5, 8, 9, 10, 11, 12, 13, 14, 15, 16, 17, 18, 19, 20, 21, 22, 23, 24, 25] (fun q : Nat × Int => [(1, .int q.2), (5, .int q.1)]) (fun q : Nat × Int => q.1 ≤ e.a.length ∧ -1 ≤ q.2 ∧ q.2 ≤ left ∧ (0 ≤ q.2 ↔ 1 + (Ex.nds (e.a.take q.1) : Int) ≤ left) ∧ (0 ≤ q.2 → q.2 = left - 1 - (Ex.nds (e.a.take q.1) : Int))) (fun q : Nat × Int => e.a.length - q.1) (0, left - 1) ?_ ?_ ?_
    · simp only [List.take_zero, Ex.nds]
      exact ⟨Nat.zero_le _, by omega, by omega, by constructor <;> intro h <;> omega, fun _ => by omega⟩
    · simp -implicitDefEqProofs (maxSteps := 4000000) only [go_sem]
    rintro ⟨i, r⟩ ⟨hi, hr0, hr1, hr2, hr3⟩ L hL
    simp only at hi hr0 hr1 hr2 hr3
    have hnt := Ex.nds_take_le e.a i
    have hw : wr .i64 ((i : Int) + 1) = ((i + 1 : Nat) : Int) := by rw [wr_in (by omega)]; omega
    have key : ¬ ((i : Int) < e.a.length ∧ 0 ≤ r) → (-1 ≤ r ∧ r ≤ left ∧ (0 ≤ r ↔ (e.nd : Int) ≤ left) ∧ (0 ≤ r → r = left - e.nd)) := fun hex => by
      have h3 := Ex.nds_take_le e.a i
      by_cases hie : i = e.a.length
      · rw [hie, List.take_length] at hr2 hr3
        exact ⟨hr0, hr1, by rw [hr2]; constructor <;> intro h <;> omega, fun h => by have := hr3 h; omega⟩
      · have hr : r < 0 := by omega
        exact ⟨hr0, hr1, ⟨fun h => by omega, fun h => by have := hr2.2 (by omega); omega⟩, fun h => by omega⟩
    simp -implicitDefEqProofs (maxSteps := 4000000) only [go_sem]
    refine ⟨fun h2 => ⟨fun h3 => ⟨by omega, fun x hx => ?_⟩, fun h3 => end_pure hK r (key (by omega)) (by simp -implicitDefEqProofs (maxSteps := 4000000) only [go_sem])⟩, fun h2 => end_pure hK r (key (by omega)) (by simp -implicitDefEqProofs (maxSteps := 4000000) only [go_sem])⟩
    have hnt := Ex.nds_take hx
    refine call_p (ih x (List.mem_of_getElem? hx) ((e.sm_def.1 he).2.2 x (List.mem_of_getElem? hx)) r h3 (by omega)) rfl fun r' hr' => ?_
    obtain ⟨k0, k1, k2, k3⟩ := hr'
    have hr3 := hr3 h3
    have hr2 := hr2.1 h3
    simp -implicitDefEqProofs (maxSteps := 4000000) only [go_sem, hw]
    exact hL _ (i + 1, r') ⟨by omega, k0, by omega, by simp only; rw [hnt, k2]; constructor <;> intro h <;> omega, fun h => by have := k3 h; simp only; rw [hnt]; omega⟩ (by simp only; omega) (by simp -implicitDefEqProofs (maxSteps := 4000000) only [go_sem])
def validB (e : Ex) : Bool := decide (e.nd ≤ 80) && decide (dep e ≤ 24) && allF e
theorem sValid_ct (e : Ex) (he : e.sm) (hn : e.nd ≤ 4194304) : Ct Try.prog 111 [.d e.E] [] (fun _ : Unit => True) (fun _ => .bool (validB e)) (fun _ => []) := by
  refine ct_go tyOk Try.func111 rfl (by decide +kernel) Try.ntmps111 rfl (fun _ _ => by first | exact Nat.le_refl _ | exact Nat.zero_le _ | simp) ?_
  intro K hK
  simp -implicitDefEqProofs (maxSteps := 4000000) only [go_sem]
  refine call_p (l3Left_ct e he 80 (by omega) (by omega)) rfl fun r hr => ?_
  obtain ⟨k0, k1, k2, k3⟩ := hr
  simp -implicitDefEqProofs (maxSteps := 4000000) only [go_sem]
  refine ⟨fun h => ?_, fun h => end_pure hK () trivial (by simp -implicitDefEqProofs (maxSteps := 4000000) only [go_sem]; have : decide (e.nd ≤ 80) = false := (by rw [decide_eq_false_iff_not]; intro h2; have := k2.2 (by omega); omega); rw [validB, this]; rfl)⟩
  have h80 : decide (e.nd ≤ 80) = true := by rw [decide_eq_true_eq]; have := k2.1 h; omega
  refine call_p (depthOf_ct e he hn) rfl fun _ _ => ?_
  simp -implicitDefEqProofs (maxSteps := 4000000) only [go_sem]
  refine ⟨fun h2 => ?_, fun h2 => end_pure hK () trivial (by simp -implicitDefEqProofs (maxSteps := 4000000) only [go_sem]; have : decide (dep e ≤ 24) = false := (by rw [decide_eq_false_iff_not]; omega); rw [validB, h80, this]; rfl)⟩
  have h24 : decide (dep e ≤ 24) = true := by rw [decide_eq_true_eq]; omega
  refine call_p (l3All_ct e he) rfl fun _ _ => ?_
  simp -implicitDefEqProofs (maxSteps := 4000000) only [go_sem]
  exact end_pure hK () trivial (by simp -implicitDefEqProofs (maxSteps := 4000000) only [go_sem]; rw [validB, h80, h24]; rfl)
def okB (d left : Int) (e : Ex) : Bool := decide ((e.nd : Int) ≤ left) && decide (d + dep e ≤ 25) && allF e
theorem okB_nd {d left : Int} {e : Ex} (h : left < (e.nd : Int)) : false = okB d left e := by
  have : decide ((e.nd : Int) ≤ left) = false := by rw [decide_eq_false_iff_not]; omega
  unfold okB; rw [this]; rfl
theorem okB_dep {d left : Int} {e : Ex} (h : 25 < d + dep e) : false = okB d left e := by
  have : decide (d + (dep e : Int) ≤ 25) = false := by rw [decide_eq_false_iff_not]; omega
  unfold okB; rw [this]; simp
theorem okB_all {d left : Int} {e : Ex} (h : allF e = false) : false = okB d left e := by unfold okB; rw [h]; simp
theorem okB_ok {d left : Int} {e : Ex} (h1 : (e.nd : Int) ≤ left) (h2 : d + dep e ≤ 25) (h3 : allF e = true) : true = okB d left e := by unfold okB; rw [decide_eq_true h1, decide_eq_true h2, h3]; rfl
theorem okB_true {d left : Int} {e : Ex} (h : okB d left e = true) : (e.nd : Int) ≤ left ∧ d + dep e ≤ 25 ∧ allF e = true := by
  simp only [okB, Bool.and_eq_true, decide_eq_true_eq] at h
  exact ⟨h.1.1, h.1.2, h.2⟩
theorem okB_false {d left : Int} {e : Ex} (h : okB d left e = false) : left < (e.nd : Int) ∨ 25 < d + dep e ∨ allF e = false := by
  by_cases h1 : (e.nd : Int) ≤ left
  · by_cases h2 : d + (dep e : Int) ≤ 25
    · right; right
      cases h3 : allF e with
      | false => rfl
      | true => rw [← okB_ok h1 h2 h3] at h; cases h
    · exact .inr (.inl (by omega))
  · exact .inl (by omega)
theorem depS_mem {a : List Ex} {i : Nat} {x : Ex} (h : a[i]? = some x) : dep x ≤ depS a := by
  have h1 := depS_take h
  have h2 := depS_take_le a (i + 1)
  omega
theorem areForms_ct (e : Ex) : e.sm → ∀ d left : Int, 0 ≤ d → d ≤ 100 → 0 ≤ left → left ≤ 4194304 → Ct Try.prog 150 [.d e.E, .int d, .ref 0 0] [.box 3 [.int left]] (fun q : Bool × Int => q.1 = okB d left e ∧ (q.1 = true → q.2 = left - e.nd)) (fun q => .bool q.1) (fun q => [.box 3 [.int q.2]]) := by
  induction e using Ex.ind2 with
  | h e ih =>
    intro he d left d0 d1 h0 h1
    refine ct_go tyOk Try.func150 rfl (by decide +kernel) Try.ntmps150 rfl (fun _ _ => by first | exact Nat.le_refl _ | exact Nat.zero_le _ | simp) ?_
    intro K hK
    have hlen := (e.sm_def.1 he).2.1
    have hnn := e.nd_def
    have hdd := dep_def e
    have hw1 : wr .i64 (left - 1) = left - 1 := wr_in (by omega)
    simp -implicitDefEqProofs (maxSteps := 4000000) only [go_sem, hw1]
    refine ⟨fun h2 => ⟨fun h3 => ?_, fun h3 => end_gen hK (false, left - 1) 1 ⟨okB_dep (by omega), fun h => by cases h⟩ (by simp -implicitDefEqProofs (maxSteps := 4000000) only [go_sem])⟩, fun h2 => end_gen hK (false, left - 1) 1 ⟨okB_nd (by omega), fun h => by cases h⟩ (by simp -implicitDefEqProofs (maxSteps := 4000000) only [go_sem])⟩
    refine call_p (isForm_ct e he) rfl fun _ _ => ?_
    simp -implicitDefEqProofs (maxSteps := 4000000) only [go_sem]
    refine ⟨fun h4 => end_gen hK (false, left - 1) 1 ⟨okB_all (by rw [allF_def, h4]; rfl), fun h => by cases h⟩ (by simp -implicitDefEqProofs (maxSteps := 4000000) only [go_sem]), fun h4 => ?_⟩
    refine loop_at tyOk [6, 8, 30, 31, 32, 33, 34, 35, 36, 37, 38, 39, 40] (fun i : Nat => [(30, .int i)]) (fun i : Nat => [.box 3 [.int (left - 1 - (Ex.nds (e.a.take i) : Int))], .box 42 [.d (.v (.int .i64 e.k)), .d (.v (.string e.n)), .d (.lst (e.a.map Ex.E))]]) (fun i : Nat => i ≤ e.a.length ∧ 1 + (Ex.nds (e.a.take i) : Int) ≤ left ∧ d + depS (e.a.take i) ≤ 24 ∧ allFS (e.a.take i) = true) (fun i : Nat => e.a.length - i) 0 ?_ ?_ ?_
    · simp only [List.take_zero, Ex.nds, depS]
      exact ⟨Nat.zero_le _, by omega, by omega, rfl⟩
    · simp -implicitDefEqProofs (maxSteps := 4000000) only [go_sem, List.take_zero, Ex.nds, Int.sub_zero]
    rintro i ⟨hi, hn1, hd1, hf1⟩ L hL
    have hw : wr .i64 ((i : Int) + 1) = ((i + 1 : Nat) : Int) := by rw [wr_in (by omega)]; omega
    have hwd : wr .i64 (d + 1) = d + 1 := wr_in (by omega)
    simp -implicitDefEqProofs (maxSteps := 4000000) only [go_sem, hwd]
    refine ⟨fun hlt => ⟨by omega, fun x hx => ?_⟩, fun hlt => ?_⟩
    · have hnt := Ex.nds_take hx
      have hnl := Ex.nds_take_le e.a (i + 1)
      have hdm := depS_mem hx
      have hdt := depS_take hx
      refine call_objs [0] (ih x (List.mem_of_getElem? hx) ((e.sm_def.1 he).2.2 x (List.mem_of_getElem? hx)) (d + 1) (left - 1 - (Ex.nds (e.a.take i) : Int)) (by omega) (by omega) (by omega) (by omega)) (by simp -implicitDefEqProofs (maxSteps := 4000000) only [go_sem]; decide) fun q hq => ?_
      obtain ⟨b, r⟩ := q
      obtain ⟨q1, q2⟩ := hq
      simp only at q1 q2
      simp -implicitDefEqProofs (maxSteps := 4000000) only [go_sem, hw]
      refine ⟨fun h5 => ?_, fun h5 => ?_⟩
      · rw [h5] at q1
        refine end_gen hK (false, r) 1 ⟨?_, fun h => by cases h⟩ (by simp -implicitDefEqProofs (maxSteps := 4000000) only [go_sem])
        rcases okB_false q1.symm with h6 | h6 | h6
        · exact okB_nd (by omega)
        · exact okB_dep (by omega)
        · exact okB_all (by rw [allF_def, allFS_mem hx h6, Bool.and_false])
      · rw [h5] at q1
        obtain ⟨o1, o2, o3⟩ := okB_true q1.symm
        have hr : r = left - 1 - (Ex.nds (e.a.take (i + 1)) : Int) := by rw [q2 h5, hnt]; omega
        exact hL _ (i + 1) ⟨by omega, by omega, by omega, by rw [allFS_take hx, hf1, o3]; rfl⟩ (by omega) (by simp -implicitDefEqProofs (maxSteps := 4000000) only [go_sem, hr])
    · obtain rfl : i = e.a.length := by omega
      rw [List.take_length] at hn1 hd1 hf1
      refine end_gen hK (true, left - e.nd) 1 ⟨okB_ok (by omega) (by omega) (by rw [allF_def, h4, hf1]; rfl), fun _ => rfl⟩ ?_
      have hr : left - 1 - (Ex.nds e.a : Int) = left - (e.nd : Int) := by omega
      simp -implicitDefEqProofs (maxSteps := 4000000) only [go_sem, List.take_length, hr]
theorem iValid_ct (e : Ex) (he : e.sm) : Ct Try.prog 100 [.d e.E] [] (fun _ : Unit => True) (fun _ => .bool (validB e)) (fun _ => []) := by
  refine ct_go tyOk Try.func100 rfl (by decide +kernel) Try.ntmps100 rfl (fun _ _ => by first | exact Nat.le_refl _ | exact Nat.zero_le _ | simp) ?_
  intro K hK
  simp -implicitDefEqProofs (maxSteps := 4000000) only [go_sem]
  refine call_objs [1] (areForms_ct e he 1 80 (by omega) (by omega) (by omega) (by omega)) (by simp -implicitDefEqProofs (maxSteps := 4000000) only [go_sem]; decide) fun q hq => ?_
  obtain ⟨b, r⟩ := q
  obtain ⟨q1, _⟩ := hq
  simp only at q1
  have hv : b = validB e := by
    rw [q1]; unfold okB validB
    congr 1
    congr 1 <;> exact decide_eq_decide.2 (by omega)
  simp -implicitDefEqProofs (maxSteps := 4000000) only [go_sem]
  exact end_pure hK () trivial (by simp -implicitDefEqProofs (maxSteps := 4000000) only [go_sem, hv])
end Go.Proofs.Ytfmllefmfhefpaa
