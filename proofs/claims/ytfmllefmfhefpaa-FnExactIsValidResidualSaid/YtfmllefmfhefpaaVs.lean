/- Arities: the walks. -/
import Derived.Test.YtfmllefmfhefpaaVr
namespace Go.Proofs.Ytfmllefmfhefpaa
open Go Go.Ab
set_option linter.unusedVariables false
set_option linter.unusedSimpArgs false
set_option maxRecDepth 100000
set_option maxHeartbeats 4000000
theorem first_hit (nm : ByteArray) : ∀ l : List TRule, (∀ x ∈ l, decide (x.name_ = nm) = false) ∨ ∃ (i : Nat) (x : TRule), l[i]? = some x ∧ x.name_ = nm ∧ (∀ z ∈ l.take i, decide (z.name_ = nm) = false) ∧ rule1 nm l = some x
  | [] => .inl fun x hx => by cases hx
  | y :: l => by
    by_cases hy : y.name_ = nm
    · exact .inr ⟨0, y, rfl, hy, fun z hz => by simp at hz, by simp [rule1, hy]⟩
    · rcases first_hit nm l with h | ⟨i, x, h1, h2, h3, h4⟩
      · exact .inl fun x hx => by
          rcases List.mem_cons.1 hx with rfl | hx
          · simpa using hy
          · exact h x hx
      · refine .inr ⟨i + 1, x, by simpa using h1, h2, fun z hz => ?_, by simp [rule1, hy]; exact h4⟩
        rw [List.take_succ_cons] at hz
        rcases List.mem_cons.1 hz with rfl | hz
        · simpa using hy
        · exact h3 z hz
theorem firstR_cases (nm : ByteArray) (l : List TRule) : (firstR nm l = -1 ∧ rule1 nm l = none) ∨ ∃ (i : Nat) (x : TRule), firstR nm l = i ∧ l[i]? = some x ∧ rule1 nm l = some x ∧ x.name_ = nm := by
  rcases first_hit nm l with hall | ⟨i, x, h1, h2, h3, h4⟩
  · exact .inl ⟨firstAt_nil hall, List.find?_eq_none.2 fun x hx => by simpa using hall x hx⟩
  · exact .inr ⟨i, x, firstAt_at (p := fun r : TRule => decide (r.name_ = nm)) h1 (by simpa using h2) h3, h1, h4, h2⟩
theorem kindOf_ct (r : TRule) (h : r.sm) : Ct Try.prog 105 [.d r.E] [] (fun _ : Unit => True) (fun _ => .int (if r.con_ = ⟨#[]⟩ then 1 else 2)) (fun _ => []) := by
  refine ct_go tyOk Try.func105 rfl (by decide +kernel) Try.ntmps105 rfl (fun _ _ => by first | exact Nat.le_refl _ | exact Nat.zero_le _ | simp) ?_
  intro K hK
  simp -implicitDefEqProofs (maxSteps := 4000000) only [go_sem]
  exact ⟨fun h => end_pure hK () trivial (by simp -implicitDefEqProofs (maxSteps := 4000000) only [go_sem, h, if_true]), fun h => end_pure hK () trivial (by simp -implicitDefEqProofs (maxSteps := 4000000) only [go_sem, h, if_false])⟩
theorem iArity_ct (p : TProgram) (h : p.sm) (nm : ByteArray) : Ct Try.prog 156 [.d p.E, .str nm] [] (fun _ : Unit => True) (fun _ => .int (funAr p.rules_ nm)) (fun _ => []) := by
  refine ct_go tyOk Try.func156 rfl (by decide +kernel) Try.ntmps156 rfl (fun _ _ => by first | exact Nat.le_refl _ | exact Nat.zero_le _ | simp) ?_
  intro K hK
  have hl : p.rules_.length ≤ 1048576 := by first | exact h.1 | exact h
  have hx : ∀ x ∈ p.rules_, x.sm := by first | exact h.2 | exact h
  simp -implicitDefEqProofs (maxSteps := 4000000) only [go_sem]
  refine call_p (iFirst_ct p h nm) rfl fun _ _ => ?_
  rcases firstR_cases nm p.rules_ with ⟨e1, e2⟩ | ⟨i, x, e1, e2, e3, e4⟩
  · rw [e1]
    simp -implicitDefEqProofs (maxSteps := 4000000) only [go_sem]
    repeat' (first
      | (with_reducible refine ⟨fun _ => ?_, fun _ => ?_⟩)
      | (with_reducible refine ⟨by omega, ?_⟩)
      | (with_reducible intro _ _))
    all_goals first | omega | exact end_pure hK () trivial (by simp -implicitDefEqProofs (maxSteps := 4000000) only [go_sem, funAr, e2])
  · rw [e1]
    have hi := (List.getElem?_eq_some_iff.1 e2).1
    have hxs := hx x (List.mem_of_getElem? e2)
    have hpl := hxs.2.2.2.1.1
    have hwp : wr .i64 ((x.params_.length : Int) + 1) = (x.params_.length : Int) + 1 := wr_in (by omega)
    simp -implicitDefEqProofs (maxSteps := 4000000) only [go_sem, e2, Option.some.injEq, forall_eq', hwp]
    repeat' (first
      | (with_reducible refine ⟨fun _ => ?_, fun _ => ?_⟩)
      | (with_reducible refine ⟨by omega, ?_⟩)
      | (with_reducible intro _ _))
    all_goals first
      | omega
      | exact end_pure hK () trivial (by simp -implicitDefEqProofs (maxSteps := 4000000) only [go_sem, funAr, e3]; simp_all)
theorem sArity_ct (p : TProgram) (h : p.sm) (nm : ByteArray) : Ct Try.prog 166 [.d p.E, .str nm] [] (fun _ : Unit => True) (fun _ => .int (funAr p.rules_ nm)) (fun _ => []) := by
  refine ct_go tyOk Try.func166 rfl (by decide +kernel) Try.ntmps166 rfl (fun _ _ => by first | exact Nat.le_refl _ | exact Nat.zero_le _ | simp) ?_
  intro K hK
  have hl : p.rules_.length ≤ 1048576 := by first | exact h.1 | exact h
  have hx : ∀ x ∈ p.rules_, x.sm := by first | exact h.2 | exact h
  simp -implicitDefEqProofs (maxSteps := 4000000) only [go_sem]
  refine call_p (sFirst_ct p h nm) rfl fun _ _ => ?_
  rcases firstR_cases nm p.rules_ with ⟨e1, e2⟩ | ⟨i, x, e1, e2, e3, e4⟩
  · rw [e1]
    simp -implicitDefEqProofs (maxSteps := 4000000) only [go_sem]
    repeat' (first
      | (with_reducible refine ⟨fun _ => ?_, fun _ => ?_⟩)
      | (with_reducible refine ⟨by omega, ?_⟩)
      | (with_reducible intro _ _))
    all_goals first | omega | exact end_pure hK () trivial (by simp -implicitDefEqProofs (maxSteps := 4000000) only [go_sem, funAr, e2])
  · rw [e1]
    have hi := (List.getElem?_eq_some_iff.1 e2).1
    have hxs := hx x (List.mem_of_getElem? e2)
    have hpl := hxs.2.2.2.1.1
    simp -implicitDefEqProofs (maxSteps := 4000000) only [go_sem]
    refine ⟨fun h => absurd h (by omega), fun _ => ?_⟩
    refine draw_rule tyOk (by kernel_rfl) [0, 1, 2, 3, 4, 5, 6, 7, 8, 9, 10, 11, 12, 13, 14, 15, 16] (by decide +kernel) ?_
    simp -implicitDefEqProofs (maxSteps := 4000000) only [go_sem, e2, Option.some.injEq, forall_eq']
    refine ⟨by omega, by omega, ?_⟩
    refine calm_p (bit5_ct _) rfl fun _ _ => ?_
    by_cases hc : x.con_ = ⟨#[]⟩
    · have hwp : wr .i64 ((x.params_.length : Int) + 0) = (x.params_.length : Int) := wr_in (by omega)
      simp only [hc, decide_true, Bool.not_true, Bool.false_eq_true, if_false]
      simp -implicitDefEqProofs (maxSteps := 4000000) only [go_sem, hwp]
      exact end_pure hK () trivial (by simp -implicitDefEqProofs (maxSteps := 4000000) only [go_sem, funAr, e3, hc, if_true, Int.add_zero])
    · have hwp : wr .i64 ((x.params_.length : Int) + 1) = (x.params_.length : Int) + 1 := wr_in (by omega)
      simp only [hc, decide_false, Bool.not_false, if_true]
      simp -implicitDefEqProofs (maxSteps := 4000000) only [go_sem, hwp]
      exact end_pure hK () trivial (by simp -implicitDefEqProofs (maxSteps := 4000000) only [go_sem, funAr, e3, hc, if_false])
theorem conS_take (c : ByteArray) {a : List Ex} {i : Nat} {x : Ex} (h : a[i]? = some x) : conS c (a.take (i + 1)) = match conS c (a.take i) with | some v => some v | none => conE c x := by
  unfold conS conE
  rw [nodeS_take h, List.find?_append]
  cases (nodeS (a.take i)).find? (isCon c) <;> simp
theorem conS_pre {c : ByteArray} {a : List Ex} {i : Nat} {v : Nat} (h : conS c (a.take i) = some v) : conS c a = some v := by
  have h1 := nodeS_app (a.take i) (a.drop i)
  rw [List.take_append_drop] at h1
  unfold conS at h ⊢
  rw [h1, List.find?_append]
  cases hf : (nodeS (a.take i)).find? (isCon c) with
  | none => rw [hf] at h; cases h
  | some x => rw [hf] at h; simpa using h
def conI (o : Option Nat) : Int := match o with | some n => n | none => -1
theorem l5Con_ct (c : ByteArray) (e : Ex) : e.sm → Ct Try.prog 167 [.d e.E, .str c] [] (fun _ : Unit => True) (fun _ => .int (conI (conE c e))) (fun _ => []) := by
  induction e using Ex.ind2 with
  | h e ih =>
    intro he
    refine ct_go tyOk Try.func167 rfl (by decide +kernel) Try.ntmps167 rfl (fun _ _ => by first | exact Nat.le_refl _ | exact Nat.zero_le _ | simp) ?_
    intro K hK
    have hlen := (e.sm_def.1 he).2.1
    have hd := conE_def c e
    simp -implicitDefEqProofs (maxSteps := 4000000) only [go_sem]
    have hx : ∀ x ∈ e.a, x.sm := (e.sm_def.1 he).2.2
    refine ⟨fun h1 => ⟨fun h2 => end_pure hK () trivial (by simp -implicitDefEqProofs (maxSteps := 4000000) only [go_sem]; rw [hd, if_pos (by simp [isCon, h1, h2])]; rfl), fun h2 => ?_⟩, fun h1 => ?_⟩
    all_goals
      have hf : isCon c e = false := by simp [isCon]; simp_all
      have hd2 : conE c e = conS c e.a := by rw [hd, hf]; rfl
      rw [hd2] at hK
      refine loop_st tyOk [4, 5, 6, 19, 20, 21, 22, 23, 24, 25, 26, 27, 28, 29, 30, 31, 32, 33, 34, 35] (fun i : Nat => [(5, .int i)]) (fun i : Nat => i ≤ e.a.length ∧ conS c (e.a.take i) = none) (fun i : Nat => e.a.length - i) 0 ?_ ?_ ?_
      · exact ⟨Nat.zero_le _, rfl⟩
      · simp -implicitDefEqProofs (maxSteps := 4000000) only [go_sem]
      rintro i ⟨hi, hb⟩ L hL
      have hw : wr .i64 ((i : Int) + 1) = ((i + 1 : Nat) : Int) := by rw [wr_in (by omega)]; omega
      simp -implicitDefEqProofs (maxSteps := 4000000) only [go_sem, hw]
      refine ⟨fun hlt => ⟨by omega, fun x hxi => ?_⟩, fun hlt => ?_⟩
      · have ht := conS_take c hxi
        rw [hb] at ht
        simp only at ht
        refine call_p (ih x (List.mem_of_getElem? hxi) (hx x (List.mem_of_getElem? hxi))) rfl fun _ _ => ?_
        simp -implicitDefEqProofs (maxSteps := 4000000) only [go_sem, hw]
        cases hc : conE c x with
        | some v =>
          rw [hc] at ht
          refine ⟨fun h => end_pure hK () trivial (by simp -implicitDefEqProofs (maxSteps := 4000000) only [go_sem, conS_pre ht]), fun h => absurd h (by simp [conI])⟩
        | none =>
          rw [hc] at ht
          refine ⟨fun h => absurd h (by simp [conI]), fun h => ?_⟩
          exact hL _ (i + 1) ⟨by omega, ht⟩ (by omega) (by simp -implicitDefEqProofs (maxSteps := 4000000) only [go_sem])
      · obtain rfl : i = e.a.length := by omega
        rw [List.take_length] at hb
        exact end_pure hK () trivial (by simp -implicitDefEqProofs (maxSteps := 4000000) only [go_sem, hb, conI])
theorem conAr_app (c : ByteArray) (a b : List TRule) : conAr c (a ++ b) = match conAr c a with | some v => some v | none => conAr c b := by
  induction a with
  | nil => rfl
  | cons x a ih =>
    simp only [List.cons_append, conAr]
    split
    · rfl
    · rw [ih]; cases conE c x.body_ <;> rfl
theorem conAr_pre {c : ByteArray} {a : List TRule} {i : Nat} {v : Nat} (h : conAr c (a.take i) = some v) : conAr c a = some v := by
  have := conAr_app c (a.take i) (a.drop i)
  rw [List.take_append_drop, h] at this
  exact this
theorem conAr_take (c : ByteArray) {a : List TRule} {i : Nat} {x : TRule} (h : a[i]? = some x) (hn : conAr c (a.take i) = none) : conAr c (a.take (i + 1)) = if x.con_ = c ∧ c ≠ ⟨#[]⟩ then some x.vars_.length else conE c x.body_ := by
  rw [take_more h, conAr_app, hn]
  simp only [conAr]
  split
  · rfl
  · cases conE c x.body_ <;> rfl
theorem conArity_ct (p : TProgram) (h : p.sm) (c : ByteArray) : Ct Try.prog 143 [.d p.E, .str c] [] (fun _ : Unit => True) (fun _ => .int (conI (conAr c p.rules_))) (fun _ => []) := by
  refine ct_go tyOk Try.func143 rfl (by decide +kernel) Try.ntmps143 rfl (fun _ _ => by first | exact Nat.le_refl _ | exact Nat.zero_le _ | simp) ?_
  intro K hK
  have hl : p.rules_.length ≤ 1048576 := by first | exact h.1 | exact h
  have hx : ∀ x ∈ p.rules_, x.sm := by first | exact h.2 | exact h
  simp -implicitDefEqProofs (maxSteps := 4000000) only [go_sem]
  refine loop_st tyOk [4, 5, 6, 7, 8, 9, 10, 11, 12, 13, 14, 15, 16, 17, 18, 19, 20, 21, 22, 23, 24, 25, 26, 27, 28, 29, 30, 31, 32, 33, 34, 35, 36, 37, 38, 39, 40, 41, 42, 43] (fun i : Nat => [(5, .int i)]) (fun i : Nat => i ≤ p.rules_.length ∧ conAr c (p.rules_.take i) = none) (fun i : Nat => p.rules_.length - i) 0 ?_ ?_ ?_
  · exact ⟨Nat.zero_le _, rfl⟩
  · simp -implicitDefEqProofs (maxSteps := 4000000) only [go_sem]
  rintro i ⟨hi, hb⟩ L hL
  have hw : wr .i64 ((i : Int) + 1) = ((i + 1 : Nat) : Int) := by rw [wr_in (by omega)]; omega
  simp -implicitDefEqProofs (maxSteps := 4000000) only [go_sem, hw]
  refine ⟨fun hlt => ⟨by omega, fun x hxi => ?_⟩, fun hlt => ?_⟩
  · have ht := conAr_take c hxi hb
    have hxs := hx x (List.mem_of_getElem? hxi)
    simp -implicitDefEqProofs (maxSteps := 4000000) only [go_sem, hxi, Option.some.injEq, forall_eq', hw]
    have hbs : x.body_.sm := hxs.2.2.2.2
    refine ⟨fun h1 => ⟨fun h2 => ⟨by omega, end_pure hK () trivial (by simp -implicitDefEqProofs (maxSteps := 4000000) only [go_sem]; rw [conAr_pre (by rw [ht, if_pos ⟨h1, h2⟩])]; rfl)⟩, fun h2 => ?_⟩, fun h1 => ?_⟩
    all_goals
      rw [if_neg (by simp_all)] at ht
      refine ⟨by omega, ?_⟩
      refine call_p (l5Con_ct c x.body_ hbs) rfl fun _ _ => ?_
      simp -implicitDefEqProofs (maxSteps := 4000000) only [go_sem, hw]
      cases hc : conE c x.body_ with
      | some v =>
        rw [hc] at ht
        exact ⟨fun h => end_pure hK () trivial (by simp -implicitDefEqProofs (maxSteps := 4000000) only [go_sem, conAr_pre ht]), fun h => absurd h (by simp [conI])⟩
      | none =>
        rw [hc] at ht
        exact ⟨fun h => absurd h (by simp [conI]), fun h => hL _ (i + 1) ⟨by omega, ht⟩ (by omega) (by simp -implicitDefEqProofs (maxSteps := 4000000) only [go_sem])⟩
  · obtain rfl : i = p.rules_.length := by omega
    rw [List.take_length] at hb
    exact end_pure hK () trivial (by simp -implicitDefEqProofs (maxSteps := 4000000) only [go_sem, hb, conI])
def fitsB (l : List TRule) (e : Ex) : Bool := (nodes e).all (fitS l e)
def fitsA (l : List TRule) (all e : Ex) : Bool := (nodes e).all (fitS l all)
def fitsAS (l : List TRule) (all : Ex) (a : List Ex) : Bool := (nodeS a).all (fitS l all)
theorem fitsA_def (l : List TRule) (all e : Ex) : fitsA l all e = (fitS l all e && fitsAS l all e.a) := by unfold fitsA fitsAS; rw [nodes_def, List.all_cons]
theorem fitsAS_take {l : List TRule} {all : Ex} {a : List Ex} {i : Nat} {x : Ex} (h : a[i]? = some x) : fitsAS l all (a.take (i + 1)) = (fitsAS l all (a.take i) && fitsA l all x) := by unfold fitsAS fitsA; rw [nodeS_take h, List.all_append]
theorem fitsAS_mem {l : List TRule} {all : Ex} {a : List Ex} {i : Nat} {x : Ex} (h : a[i]? = some x) (hx : fitsA l all x = false) : fitsAS l all a = false := by
  unfold fitsAS fitsA at *
  rw [List.all_eq_false] at hx ⊢
  obtain ⟨y, hy, hf⟩ := hx
  refine ⟨y, ?_, hf⟩
  have := nodeS_app (a.take (i + 1)) (a.drop (i + 1))
  rw [List.take_append_drop] at this
  rw [this, nodeS_take h]
  simp [hy]
theorem l5Fits_ct (p : TProgram) (h : p.sm) (all : Ex) (ha : all.sm) (e : Ex) : e.sm → Ct Try.prog 112 [.d p.E, .d e.E, .d all.E] [] (fun _ : Unit => True) (fun _ => .bool (fitsA p.rules_ all e)) (fun _ => []) := by
  induction e using Ex.ind2 with
  | h e ih =>
    intro he
    refine ct_go tyOk Try.func112 rfl (by decide +kernel) Try.ntmps112 rfl (fun _ _ => by first | exact Nat.le_refl _ | exact Nat.zero_le _ | simp) ?_
    intro K hK
    have hlen := (e.sm_def.1 he).2.1
    have hx : ∀ x ∈ e.a, x.sm := (e.sm_def.1 he).2.2
    simp -implicitDefEqProofs (maxSteps := 4000000) only [go_sem]
    refine loop_st tyOk [6, 7, 9, 10, 11, 12, 13, 14, 15, 16, 17, 18, 19, 20, 21, 22, 23, 24] (fun i : Nat => [(7, .int i)]) (fun i : Nat => i ≤ e.a.length ∧ fitsAS p.rules_ all (e.a.take i) = true) (fun i : Nat => e.a.length - i) 0 ?_ ?_ ?_
    · exact ⟨Nat.zero_le _, rfl⟩
    · simp -implicitDefEqProofs (maxSteps := 4000000) only [go_sem]
    rintro i ⟨hi, hb⟩ L hL
    have hw : wr .i64 ((i : Int) + 1) = ((i + 1 : Nat) : Int) := by rw [wr_in (by omega)]; omega
    simp -implicitDefEqProofs (maxSteps := 4000000) only [go_sem]
    refine ⟨fun hlt => ?_, fun hlt => ?_⟩
    · refine draw_rule tyOk (by kernel_rfl) [0, 1, 2, 3, 4, 5, 6, 7, 8] (by decide +kernel) ?_
      simp -implicitDefEqProofs (maxSteps := 4000000) only [go_sem]
      refine ⟨by omega, fun x hxi => ?_⟩
      refine calm_p (ih x (List.mem_of_getElem? hxi) (hx x (List.mem_of_getElem? hxi))) rfl fun _ _ => ?_
      simp -implicitDefEqProofs (maxSteps := 4000000) only [go_sem, hw]
      refine ⟨fun h2 => end_pure hK () trivial (by simp -implicitDefEqProofs (maxSteps := 4000000) only [go_sem]; rw [fitsA_def, fitsAS_mem hxi h2, Bool.and_false]), fun h2 => ?_⟩
      exact hL _ (i + 1) ⟨by omega, by rw [fitsAS_take hxi, hb, h2]; rfl⟩ (by omega) (by simp -implicitDefEqProofs (maxSteps := 4000000) only [go_sem])
    · obtain rfl : i = e.a.length := by omega
      rw [List.take_length] at hb
      have hfd : fitsA p.rules_ all e = fitS p.rules_ all e := by rw [fitsA_def, hb, Bool.and_true]
      refine ⟨fun h3 => ?_, fun h3 => ⟨fun h2 => ?_, fun h2 => ?_⟩⟩
      · refine draw_rule tyOk (by kernel_rfl) [0, 1, 2, 3, 4, 5, 6, 7, 8] (by decide +kernel) ?_
        simp -implicitDefEqProofs (maxSteps := 4000000) only [go_sem]
        refine calm_p (sArity_ct p h e.n) rfl fun _ _ => ?_
        simp -implicitDefEqProofs (maxSteps := 4000000) only [go_sem]
        exact end_pure hK () trivial (by simp -implicitDefEqProofs (maxSteps := 4000000) only [go_sem]; rw [hfd, fitS, if_pos h3])
      · refine call_p (conArity_ct p h e.n) rfl fun _ _ => ?_
        simp -implicitDefEqProofs (maxSteps := 4000000) only [go_sem]
        cases hc : conAr e.n p.rules_ with
        | some v =>
          refine ⟨fun hh => absurd hh (by simp [conI]), fun hh => ?_⟩
          exact end_pure hK () trivial (by simp -implicitDefEqProofs (maxSteps := 4000000) only [go_sem]; rw [hfd, fitS, if_neg h3, if_pos h2, hc]; simp only [conI]; exact decide_eq_decide.2 (by omega))
        | none =>
          refine ⟨fun hh => ?_, fun hh => absurd (show conI none < 0 by simp [conI]) hh⟩
          refine call_p (l5Con_ct e.n all ha) rfl fun _ _ => ?_
          simp -implicitDefEqProofs (maxSteps := 4000000) only [go_sem]
          cases hc2 : conE e.n all with
          | some v => exact end_pure hK () trivial (by simp -implicitDefEqProofs (maxSteps := 4000000) only [go_sem]; rw [hfd, fitS, if_neg h3, if_pos h2, hc, hc2]; simp only [conI]; exact decide_eq_decide.2 (by omega))
          | none => exact end_pure hK () trivial (by simp -implicitDefEqProofs (maxSteps := 4000000) only [go_sem]; rw [hfd, fitS, if_neg h3, if_pos h2, hc, hc2]; simp only [conI]; exact decide_eq_false (by omega))
      · exact end_pure hK () trivial (by simp -implicitDefEqProofs (maxSteps := 4000000) only [go_sem]; rw [hfd, fitS, if_neg h3, if_neg h2])
theorem exprFor_ct (p : TProgram) (h : p.sm) (e : Ex) (he : e.sm) (hn : e.nd ≤ 4194304) : Ct Try.prog 51 [.d p.E, .d e.E] [] (fun _ : Unit => True) (fun _ => .bool (validB e && fitsB p.rules_ e)) (fun _ => []) := by
  refine ct_go tyOk Try.func51 rfl (by decide +kernel) Try.ntmps51 rfl (fun _ _ => by first | exact Nat.le_refl _ | exact Nat.zero_le _ | simp) ?_
  intro K hK
  simp -implicitDefEqProofs (maxSteps := 4000000) only [go_sem]
  refine call_p (sValid_ct e he hn) rfl fun _ _ => ?_
  simp -implicitDefEqProofs (maxSteps := 4000000) only [go_sem]
  refine ⟨fun h2 => ?_, fun h2 => end_pure hK () trivial (by simp -implicitDefEqProofs (maxSteps := 4000000) only [go_sem]; rw [h2]; rfl)⟩
  refine call_p (l5Fits_ct p h e he e he) rfl fun _ _ => ?_
  simp -implicitDefEqProofs (maxSteps := 4000000) only [go_sem]
  exact end_pure hK () trivial (by simp -implicitDefEqProofs (maxSteps := 4000000) only [go_sem]; rw [h2]; rfl)
end Go.Proofs.Ytfmllefmfhefpaa
