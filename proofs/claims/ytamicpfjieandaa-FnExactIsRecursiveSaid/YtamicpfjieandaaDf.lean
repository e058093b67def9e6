/- slices.DeleteFunc on a row of texts of one's own: what is not found goes. -/
import Derived.Test.YtamicpfjieandaaFd
import Derived.Test.YtamicpfjieandaaAbTu
namespace Go.Proofs.Ytamicpfjieandaa
open Go Go.Ab
set_option linter.unusedVariables false
set_option linter.unusedSimpArgs false
set_option maxRecDepth 100000
set_option maxHeartbeats 4000000
abbrev fdBox (fs : List ByteArray) : O := .box 37 [.d (.lst (fs.map D.str))]
attribute [go_sem] fdBox
theorem rfCl_ct (fs : List ByteArray) (hf : fs.length ≤ 4611686018427387904) (s : ByteArray) : Ct Try.prog 89 [.str s, .ref 0 0] [fdBox fs] (fun _ : Unit => True) (fun _ => .bool (!hasB s fs)) (fun _ => [fdBox fs]) := by
  refine ct_go tyOk Try.func89 rfl (by decide +kernel) Try.ntmps89 rfl (fun _ _ => by first | exact Nat.le_refl _ | exact Nat.zero_le _ | simp) ?_
  intro K hK
  simp -implicitDefEqProofs (maxSteps := 4000000) only [go_sem]
  refine call_p (contains_ct fs hf s) rfl fun _ _ => ?_
  simp -implicitDefEqProofs (maxSteps := 4000000) only [go_sem]
  exact end_gen hK () 1 trivial (by simp -implicitDefEqProofs (maxSteps := 4000000) only [go_sem])
theorem strA_len (l : List ByteArray) : (strA l).length = l.length := by simp [strA]
theorem strA_at {l : List ByteArray} {i : Nat} {x : ByteArray} (h : l[i]? = some x) : (strA l)[i]? = some (.str x) := by simp [strA, h]
theorem strA_set (l : List ByteArray) (i : Nat) (x : ByteArray) : (strA l).set i (.str x) = strA (l.set i x) := by simp [strA]
theorem strA_le {n m : Nat} (l : List ByteArray) : ∀ x ∈ strA l, A.le n m x x := fun x hx => by
  obtain ⟨y, _, rfl⟩ := List.mem_map.1 hx
  simp [A.le]
theorem ole_strA {n m : Nat} {r : Value} {t sz : Nat} (l : List ByteArray) : O.le n m (.opn r t sz (strA l)) (.opn r t sz (strA l)) ↔ True := ⟨fun _ => trivial, fun _ => ⟨rfl, rfl, rfl, rfl, strA_le l⟩⟩
attribute [go_sem] strA_len ole_strA
theorem dfIdx_ct (fs : List ByteArray) (hf : fs.length ≤ 4611686018427387904) (v : Value) (l : List ByteArray) (hne : l ≠ []) (hl : l.length ≤ 1073741824) : Ct Try.prog 114 [.raw v, .fn 89 [.ref 1 0]] [.forest [(v, .lst (l.map D.str))], fdBox fs] (fun _ : Unit => True)
    (fun _ => .int (firstAt (fun s => !hasB s fs) l)) (fun _ => [.forest [(v, .lst (l.map D.str))], fdBox fs]) := by
  refine ct_turn tyOk Try.func114 rfl (by decide +kernel) Try.ntmps114 rfl (fun _ _ => by first | exact Nat.le_refl _ | exact Nat.zero_le _ | simp) ?_
  intro K hK
  refine Turns.openS (u := 9) (q := 0) (d := 0) rfl hne rfl fun b cap hv hcap => ?_
  subst hv
  simp -implicitDefEqProofs (maxSteps := 4000000) only [go_sem]
  refine loop_st tyOk [4, 5, 8, 9, 10, 11, 12, 13, 14, 15, 16, 17, 18] (fun i : Nat => [(8, .int i)]) (fun i : Nat => i ≤ l.length ∧ ∀ x ∈ l.take i, (!hasB x fs) = false) (fun i : Nat => l.length - i) 0 ?_ ?_ ?_
  · exact ⟨Nat.zero_le _, fun x hx => by simp at hx⟩
  · simp -implicitDefEqProofs (maxSteps := 4000000) only [go_sem]
  rintro i ⟨hi, hb⟩ L hL
  have hw : i < l.length → wr .i64 ((i : Int) + 1) = ((i + 1 : Nat) : Int) := fun h => by rw [wr_in (by omega)]; omega
  have fin : ∀ (t : List A) (n : Int), t.getD 4 .any = .int n → n = firstAt (fun s => !hasB s fs) l → K ⟨t, [.opn (.slice (some ⟨b, 0, none⟩) l.length cap) 9 1 (strA l), fdBox fs], 2⟩ := fun t n ht hn => by
    refine end_turn hK ?_
    rw [show Try.f114.results.toList = [.tmp 4] from rfl]
    simp only [vcRes, ht, tupA]
    refine Turns.closeS (q := 0) (b := b) (cap := cap) (n := 0) (N := l.length) (u := 9) (r := l) (by simp) ?_
    exact ⟨(), trivial, by rw [hn]; rfl⟩
  simp -implicitDefEqProofs (maxSteps := 4000000) only [go_sem]
  refine ⟨fun h => ?_, fun h => fin _ _ rfl ?_⟩
  · obtain ⟨x, hx⟩ : ∃ x, l[i]? = some x := ⟨_, List.getElem?_eq_getElem (by omega)⟩
    simp -implicitDefEqProofs (maxSteps := 4000000) only [go_sem, strA_at hx]
    refine ⟨by omega, by omega, ?_⟩
    refine call_objs [1] (rfCl_ct fs hf x) (by simp -implicitDefEqProofs (maxSteps := 4000000) only [go_sem]; decide) fun _ _ => ?_
    simp -implicitDefEqProofs (maxSteps := 4000000) only [go_sem]
    refine ⟨fun h2 => fin _ _ rfl ?_, fun h2 => ?_⟩
    · rw [firstAt_at hx (p := fun s => !hasB s fs) (by simpa using h2) hb]
    · simp -implicitDefEqProofs (maxSteps := 4000000) only [go_sem, hw (by omega)]
      exact hL _ (i + 1) ⟨by omega, mem_take_more hx hb (by simpa using h2)⟩ (by omega) (by simp -implicitDefEqProofs (maxSteps := 4000000) only [go_sem])
  · obtain rfl : i = l.length := by omega
    rw [List.take_length] at hb
    rw [firstAt_nil hb]
theorem dfIdx0_ct (fs : List ByteArray) (v : Value) : Ct Try.prog 114 [.raw v, .fn 89 [.ref 1 0]] [.forest [(v, .lst [])], fdBox fs] (fun _ : Unit => True) (fun _ => .int (-1)) (fun _ => [.forest [(v, .lst [])], fdBox fs]) := by
  refine ct_turn tyOk Try.func114 rfl (by decide +kernel) Try.ntmps114 rfl (fun _ _ => by first | exact Nat.le_refl _ | exact Nat.zero_le _ | simp) ?_
  intro K hK
  refine Turns.emptyS (q := 0) (d := 0) rfl rfl ?_
  simp -implicitDefEqProofs (maxSteps := 4000000) only [go_sem]
  refine loop_st tyOk [4, 5, 8, 9, 10, 11, 12, 13, 14, 15, 16, 17, 18] (fun q : Unit => [(8, .int 0)]) (fun q : Unit => True) (fun q : Unit => 0) () ?_ ?_ ?_
  · trivial
  · simp -implicitDefEqProofs (maxSteps := 4000000) only [go_sem]
  rintro _ _ L hL
  simp -implicitDefEqProofs (maxSteps := 4000000) only [go_sem]
  exact ⟨fun h => absurd h (by omega), fun h => end_gen hK () 2 trivial (by simp -implicitDefEqProofs (maxSteps := 4000000) only [go_sem])⟩
theorem dfEmpty_ct (fs : List ByteArray) (v : Value) : Ct Try.prog 88 [.raw v, .fn 89 [.ref 1 0]] [.forest [(v, .lst [])], fdBox fs] (fun _ : Value => True)
    (fun w => .raw w) (fun w => [.forest [(w, .lst [])], fdBox fs]) := by
  refine ct_go tyOk Try.func88 rfl (by decide +kernel) Try.ntmps88 rfl (fun _ _ => by first | exact Nat.le_refl _ | exact Nat.zero_le _ | simp) ?_
  intro K hK
  simp -implicitDefEqProofs (maxSteps := 4000000) only [go_sem]
  refine call_objs [0, 1] (dfIdx0_ct fs v) (by simp -implicitDefEqProofs (maxSteps := 4000000) only [go_sem]; decide) fun _ _ => ?_
  simp -implicitDefEqProofs (maxSteps := 4000000) only [go_sem]
  exact end_gen hK v 2 trivial (by simp -implicitDefEqProofs (maxSteps := 4000000) only [go_sem])
/-- What is kept of a list, element by element. -/
def keepB (fs l : List ByteArray) : List ByteArray := l.filter fun s => hasB s fs
theorem keepB_nil (fs : List ByteArray) : keepB fs [] = [] := rfl
theorem keepB_t {fs l : List ByteArray} {i : Nat} {x : ByteArray} (h : l[i]? = some x) (hx : hasB x fs = true) : keepB fs (l.take (i + 1)) = keepB fs (l.take i) ++ [x] := by rw [take_more h]; simp [keepB, hx]
theorem keepB_f {fs l : List ByteArray} {i : Nat} {x : ByteArray} (h : l[i]? = some x) (hx : hasB x fs = false) : keepB fs (l.take (i + 1)) = keepB fs (l.take i) := by rw [take_more h]; simp [keepB, hx]
theorem keepB_len (fs l : List ByteArray) : (keepB fs l).length ≤ l.length := List.length_filter_le _ _
theorem firstAt_neg {p : ByteArray → Bool} {l : List ByteArray} (h : firstAt p l = -1) : ∀ x ∈ l, p x = false := by
  intro x hx
  cases hp : p x with
  | false => rfl
  | true =>
    have := (firstAt_pos (p := p) (l := l)).2 (List.any_eq_true.2 ⟨x, hx, hp⟩)
    omega
theorem firstAt_some {p : ByteArray → Bool} {l : List ByteArray} (h : firstAt p l ≠ -1) : ∃ (i : Nat) (x : ByteArray), firstAt p l = i ∧ l[i]? = some x ∧ p x = true ∧ ∀ y ∈ l.take i, p y = false := by
  by_cases hall : ∀ x ∈ l, p x = false
  · exact absurd (firstAt_nil hall) h
  · induction l with
    | nil => exact absurd (fun x hx => by cases hx) hall
    | cons x l ih =>
      cases hp : p x with
      | true => exact ⟨0, x, firstAt_at (i := 0) rfl hp (fun y hy => by simp at hy), rfl, hp, fun y hy => by simp at hy⟩
      | false =>
        have hall' : ¬ ∀ y ∈ l, p y = false := fun hh => hall fun y hy => by
          rcases List.mem_cons.1 hy with rfl | hy
          · exact hp
          · exact hh y hy
        have hne : firstAt p l ≠ -1 := fun e => hall' (firstAt_neg e)
        obtain ⟨i, y, e1, e2, e3, e4⟩ := ih hne hall'
        have hb : ∀ z ∈ (x :: l).take (i + 1), p z = false := fun z hz => by
          rw [List.take_succ_cons] at hz
          rcases List.mem_cons.1 hz with rfl | hz
          · exact hp
          · exact e4 z hz
        exact ⟨i + 1, y, firstAt_at (i := i + 1) (by simpa using e2) e3 hb, by simpa using e2, e3, hb⟩
theorem keepB_all {fs l : List ByteArray} (h : ∀ x ∈ l, (!hasB x fs) = false) : keepB fs l = l := List.filter_eq_self.2 fun x hx => by simpa using h x hx
theorem dfFull_ct (fs : List ByteArray) (hf : fs.length ≤ 4611686018427387904) (v : Value) (l : List ByteArray) (hne : l ≠ []) (hl : l.length ≤ 1073741824) : Ct Try.prog 88 [.raw v, .fn 89 [.ref 1 0]] [.forest [(v, .lst (l.map D.str))], fdBox fs] (fun _ : Value => True)
    (fun w => .raw w) (fun w => [.forest [(w, .lst ((keepB fs l).map D.str))], fdBox fs]) := by
  refine ct_go tyOk Try.func88 rfl (by decide +kernel) Try.ntmps88 rfl (fun _ _ => by first | exact Nat.le_refl _ | exact Nat.zero_le _ | simp) ?_
  intro K hK
  simp -implicitDefEqProofs (maxSteps := 4000000) only [go_sem]
  refine call_objs [0, 1] (dfIdx_ct fs hf v l hne hl) (by simp -implicitDefEqProofs (maxSteps := 4000000) only [go_sem]; decide) fun _ _ => ?_
  simp -implicitDefEqProofs (maxSteps := 4000000) only [go_sem]
  refine ⟨fun h => end_gen hK v 2 trivial (by simp -implicitDefEqProofs (maxSteps := 4000000) only [go_sem, keepB_all (firstAt_neg h)]), fun h => ?_⟩
  obtain ⟨i0, x0, e1, e2, e3, e4⟩ := firstAt_some h
  have hi0 := (List.getElem?_eq_some_iff.1 e2).1
  rw [e1]
  have hw0 : wr .i64 ((i0 : Int) + 1) = ((i0 + 1 : Nat) : Int) := by rw [wr_in (by omega)]; omega
  rw [hw0]
  refine loop_turn (Turns.openS (u := 9) (q := 0) (d := 0) rfl hne rfl fun b cap hv hcap => ?_)
  simp -implicitDefEqProofs (maxSteps := 4000000) only [go_sem]
  have hk0 : keepB fs (l.take i0) = l.take i0 := keepB_all e4
  have hk1 : keepB fs (l.take (i0 + 1)) = l.take i0 := by rw [keepB_f e2 (by simpa using e3), hk0]
  have hlt0 : (l.take i0).length = i0 := by rw [List.length_take]; omega
  refine loop_at tyOk [5, 6, 7, 16, 17, 18, 19, 20, 21, 22, 23, 24, 25, 26, 27, 28, 29, 30, 31, 32, 33, 34, 35] (fun q : Nat × List ByteArray => [(5, .int (keepB fs (l.take q.1)).length), (6, .int q.1)]) (fun q : Nat × List ByteArray => [.opn v 9 1 (strA q.2), fdBox fs]) (fun q : Nat × List ByteArray => q.1 ≤ l.length ∧ (keepB fs (l.take q.1)).length < q.1 ∧ q.2.length = l.length ∧ q.2.take (keepB fs (l.take q.1)).length = keepB fs (l.take q.1) ∧ q.2.drop q.1 = l.drop q.1) (fun q : Nat × List ByteArray => l.length - q.1) (i0 + 1, l) ?_ ?_ ?_
  · refine ⟨by omega, ?_, rfl, ?_, rfl⟩
    · simp only; rw [hk1, hlt0]; omega
    · simp only; rw [hk1, hlt0]
  · simp -implicitDefEqProofs (maxSteps := 4000000) only [go_sem, hk1, hlt0]
  rintro ⟨j, cur⟩ ⟨hj, hij, hcl, hct, hcd⟩ L hL
  simp only at hj hij hcl hct hcd
  have hwj : j < l.length → wr .i64 ((j : Int) + 1) = ((j + 1 : Nat) : Int) := fun h => by rw [wr_in (by omega)]; omega
  simp -implicitDefEqProofs (maxSteps := 4000000) only [go_sem, hcl]
  refine ⟨fun hlt => ?_, fun hlt => ?_⟩
  · obtain ⟨x, hx⟩ : ∃ x, l[j]? = some x := ⟨_, List.getElem?_eq_getElem (by omega)⟩
    have hxc : cur[j]? = some x := by
      have h1 : (cur.drop j)[0]? = (l.drop j)[0]? := by rw [hcd]
      rw [List.getElem?_drop, List.getElem?_drop] at h1
      simpa [hx] using h1
    simp -implicitDefEqProofs (maxSteps := 4000000) only [go_sem, strA_at hxc, hcl]
    refine ⟨by omega, by omega, ?_⟩
    refine call_objs [1] (rfCl_ct fs hf x) (by simp -implicitDefEqProofs (maxSteps := 4000000) only [go_sem]; decide) fun _ _ => ?_
    simp -implicitDefEqProofs (maxSteps := 4000000) only [go_sem]
    refine ⟨fun h2 => ?_, fun h2 => ?_⟩
    · have hk := keepB_t (fs := fs) hx (by simpa using h2)
      have hwi : wr .i64 (((keepB fs (l.take j)).length : Int) + 1) = ((keepB fs (l.take (j + 1))).length : Int) := by rw [wr_in (by omega), hk, List.length_append]; simp
      refine ⟨by omega, by omega, fun y hy hy1 => ?_⟩
      have hy2 : List.drop 1 y.cells = [] := List.drop_eq_nil_of_le (by omega)
      rw [hy2, show mkE false [A.d (D.v (Value.string x))] = .str x from rfl, strA_set, hwi, hwj (by omega)]
      refine hL _ (j + 1, cur.set (keepB fs (l.take j)).length x) ⟨by omega, by rw [hk, List.length_append]; simp; omega, by rw [List.length_set]; exact hcl, ?_, ?_⟩ (by simp only; omega) (by simp -implicitDefEqProofs (maxSteps := 4000000) only [go_sem])
      · rw [hk, List.length_append, List.length_singleton]
        rw [take_more (x := x) (by rw [List.getElem?_set]; simp; omega), List.take_set_of_le (Nat.le_refl _), hct]
      · rw [List.drop_set_of_lt (by omega), ← List.drop_drop, ← List.drop_drop, hcd]
    · have hk := keepB_f (fs := fs) hx (by simpa using h2)
      simp -implicitDefEqProofs (maxSteps := 4000000) only [go_sem, hwj (by omega)]
      exact hL _ (j + 1, cur) ⟨by omega, by rw [hk]; omega, hcl, by rw [hk]; exact hct, by rw [← List.drop_drop, ← List.drop_drop, hcd]⟩ (by simp only; omega) (by simp -implicitDefEqProofs (maxSteps := 4000000) only [go_sem, hk])
  · obtain rfl : j = l.length := by omega
    rw [List.take_length] at hij hct ⊢
    have hkl := keepB_len fs l
    subst hv
    refine sem_slice_from (b := b) (cap := cap) (i := (keepB fs l).length) (k := 0) tyOk Try.underlying37 ty9 rfl rfl (by rw [strA_len, hcl]) rfl rfl (by omega) hcap ?_
    simp -implicitDefEqProofs (maxSteps := 4000000) only [go_sem]
    refine sem_clear (b := b) (cap := cap) (i := (keepB fs l).length) (n := l.length - (keepB fs l).length) (k := 0) (l := cur) tyOk Try.underlying37 ty9 rfl rfl hcl rfl (by omega) (by omega) ?_
    rw [hct]
    simp -implicitDefEqProofs (maxSteps := 4000000) only [go_sem]
    refine sem_slice_to (b := b) (cap := cap) (i := (keepB fs l).length) (k := 0) tyOk Try.underlying37 ty9 rfl rfl (by rw [List.length_append, strA_len, List.length_replicate]; omega) rfl rfl (by omega) hcap ?_
    simp -implicitDefEqProofs (maxSteps := 4000000) only [go_sem]
    refine end_turn hK ?_
    rw [show Try.f88.results.toList = [.tmp 4] from rfl]
    simp only [vcRes, tupA]
    refine Turns.closeS (q := 0) (b := b) (cap := cap) (n := l.length - (keepB fs l).length) (N := l.length) (u := 9) (r := keepB fs l) rfl ?_
    exact ⟨_, trivial, rfl⟩
theorem deleteFunc_ct (fs : List ByteArray) (hf : fs.length ≤ 4611686018427387904) (v : Value) (l : List ByteArray) (hl : l.length ≤ 1073741824) : Ct Try.prog 88 [.raw v, .fn 89 [.ref 1 0]] [.forest [(v, .lst (l.map D.str))], fdBox fs] (fun _ : Value => True)
    (fun w => .raw w) (fun w => [.forest [(w, .lst ((keepB fs l).map D.str))], fdBox fs]) := by
  by_cases hne : l = []
  · subst hne
    exact dfEmpty_ct fs v
  · exact dfFull_ct fs hf v l hne hl
end Go.Proofs.Ytamicpfjieandaa
