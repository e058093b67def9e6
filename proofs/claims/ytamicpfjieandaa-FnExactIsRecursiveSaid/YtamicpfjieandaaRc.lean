/- What can be reached: the walks. -/
import Derived.Test.YtamicpfjieandaaDf
import Derived.Test.YtamicpfjieandaaUd
import Derived.Test.YtamicpfjieandaaMi
namespace Go.Proofs.Ytamicpfjieandaa
open Go Go.Ab
set_option linter.unusedVariables false
set_option linter.unusedSimpArgs false
set_option maxRecDepth 100000
set_option maxHeartbeats 4000000
theorem specUnite_ct (a b : List ByteArray) (hab : a.length + b.length ≤ 1073741824) : Ct Try.prog 85 [.d (.lst (a.map D.str)), .d (.lst (b.map D.str))] [] (fun _ : Unit => True) (fun _ => .d (.lst ((addAll [] (a ++ b)).map D.str))) (fun _ => []) := by
  refine ct_go tyOk Try.func85 rfl (by decide +kernel) Try.ntmps85 rfl (fun _ _ => by first | exact Nat.le_refl _ | exact Nat.zero_le _ | simp) ?_
  intro K hK
  simp -implicitDefEqProofs (maxSteps := 4000000) only [go_sem]
  refine loop_at tyOk [5, 6, 9, 10, 11, 12, 13, 14, 15, 16, 17, 18, 19, 20, 21, 22, 23, 24, 25, 26, 27, 28] (fun i : Nat => [(5, .own 0 ((addAll [] (a.take i)).map D.str)), (6, .int i)]) (fun i : Nat => [.app 9 1 false]) (fun i : Nat => i ≤ a.length) (fun i : Nat => a.length - i) 0 ?_ ?_ ?_
  · exact Nat.zero_le _
  · simp -implicitDefEqProofs (maxSteps := 4000000) only [go_sem, List.take_zero, addAll_nil, List.map_nil]
  · intro i hi L hL
    have hfl := addAll_take_len a i
    have hw : wr .i64 ((i : Int) + 1) = ((i + 1 : Nat) : Int) := by rw [wr_in (by omega)]; omega
    simp -implicitDefEqProofs (maxSteps := 4000000) only [go_sem, hw]
    refine ⟨fun hlt => ⟨by omega, fun x hx => ?_⟩, fun hlt => ?_⟩
    · have hm := addAll_more (acc := []) hx
      refine call_pure (indexOf_ct (addAll [] (a.take i)) (by omega) x) (by simp -implicitDefEqProofs (maxSteps := 4000000) only [go_sem]) (by simp -implicitDefEqProofs (maxSteps := 4000000) only [go_sem]) fun _ _ => ?_
      simp -implicitDefEqProofs (maxSteps := 4000000) only [go_sem, hw]
      refine ⟨fun h2 => ?_, fun h2 => ?_⟩
      · have hh : hasB x (addAll [] (a.take i)) = false := by cases hh : hasB x (addAll [] (a.take i)) with | false => rfl | true => have := hasB_pos.2 hh; omega
        rw [addN_f hh] at hm
        refine ⟨by omega, fun y hy => ?_⟩
        obtain rfl : x = y := by rw [hx] at hy; exact Option.some.inj hy
        refine ⟨by omega, ?_⟩
        exact hL _ (i + 1) (by omega) (by omega) (by simp -implicitDefEqProofs (maxSteps := 4000000) only [go_sem, hm, List.map_append])
      · rw [addN_t (hasB_pos.1 (by omega))] at hm
        exact hL _ (i + 1) (by omega) (by omega) (by simp -implicitDefEqProofs (maxSteps := 4000000) only [go_sem, hm])
    · obtain rfl : i = a.length := by omega
      rw [List.take_length]
      have hal : (addAll [] a).length ≤ a.length := by have := addAll_take_len a a.length; rwa [List.take_length] at this
      refine loop_at tyOk [5, 7, 29, 30, 31, 32, 33, 34, 35, 36, 37, 38, 39, 40, 41, 42, 43, 44, 45, 46, 47, 48] (fun i : Nat => [(5, .own 0 ((addAll (addAll [] a) (b.take i)).map D.str)), (7, .int i)]) (fun i : Nat => [.app 9 1 false]) (fun i : Nat => i ≤ b.length) (fun i : Nat => b.length - i) 0 ?_ ?_ ?_
      · exact Nat.zero_le _
      · simp -implicitDefEqProofs (maxSteps := 4000000) only [go_sem, List.take_zero, addAll_nil]
      · intro i hi L hL
        have hfl := addAll_len (b.take i) (addAll [] a)
        rw [List.length_take] at hfl
        have hw : wr .i64 ((i : Int) + 1) = ((i + 1 : Nat) : Int) := by rw [wr_in (by omega)]; omega
        simp -implicitDefEqProofs (maxSteps := 4000000) only [go_sem, hw]
        refine ⟨fun hlt => ⟨by omega, fun x hx => ?_⟩, fun hlt => ?_⟩
        · have hm := addAll_more (acc := addAll [] a) hx
          refine call_pure (indexOf_ct (addAll (addAll [] a) (b.take i)) (by omega) x) (by simp -implicitDefEqProofs (maxSteps := 4000000) only [go_sem]) (by simp -implicitDefEqProofs (maxSteps := 4000000) only [go_sem]) fun _ _ => ?_
          simp -implicitDefEqProofs (maxSteps := 4000000) only [go_sem, hw]
          refine ⟨fun h2 => ?_, fun h2 => ?_⟩
          · have hh : hasB x (addAll (addAll [] a) (b.take i)) = false := by cases hh : hasB x (addAll (addAll [] a) (b.take i)) with | false => rfl | true => have := hasB_pos.2 hh; omega
            rw [addN_f hh] at hm
            refine ⟨by omega, fun y hy => ?_⟩
            obtain rfl : x = y := by rw [hx] at hy; exact Option.some.inj hy
            refine ⟨by omega, ?_⟩
            exact hL _ (i + 1) (by omega) (by omega) (by simp -implicitDefEqProofs (maxSteps := 4000000) only [go_sem, hm, List.map_append])
          · rw [addN_t (hasB_pos.1 (by omega))] at hm
            exact hL _ (i + 1) (by omega) (by omega) (by simp -implicitDefEqProofs (maxSteps := 4000000) only [go_sem, hm])
        · obtain rfl : i = b.length := by omega
          exact end_pure hK () trivial (by simp -implicitDefEqProofs (maxSteps := 4000000) only [go_sem, List.take_length, addAll_app])
/-! ### The plain law -/
theorem nodup_len : ∀ {a b : List ByteArray}, a.Nodup → (∀ x ∈ a, x ∈ b) → a.length ≤ b.length
  | [], _, _, _ => Nat.zero_le _
  | x :: a, b, h, hs => by
    obtain ⟨h1, h2⟩ := List.nodup_cons.1 h
    have hx := hs x List.mem_cons_self
    have := nodup_len (b := b.filter fun y => decide (y ≠ x)) h2 fun y hy => by
      have hne : y ≠ x := fun e => h1 (e ▸ hy)
      exact List.mem_filter.2 ⟨hs y (List.mem_cons_of_mem _ hy), by simpa using hne⟩
    have hlt : (b.filter fun y => decide (y ≠ x)).length < b.length := List.length_filter_lt_length_iff_exists.2 ⟨x, hx, by simp⟩
    simp only [List.length_cons]; omega
theorem addN_nodup {acc : List ByteArray} {x : ByteArray} (h : acc.Nodup) : (addN acc x).Nodup := by
  by_cases hx : x ∈ acc
  · rw [addN_in hx]; exact h
  · have : hasB x acc = false := by cases hh : hasB x acc with | false => rfl | true => exact absurd (hasB_mem.1 hh) hx
    rw [addN_f this]
    exact List.nodup_append.2 ⟨h, by simp, fun y hy z hz e => by simp at hz; subst hz; subst e; exact hx hy⟩
theorem addAll_nodup (l : List ByteArray) : ∀ {acc : List ByteArray}, acc.Nodup → (addAll acc l).Nodup := by
  induction l with
  | nil => intro acc h; exact h
  | cons x l ih => intro acc h; exact ih (addN_nodup h)
theorem addAll_idem (l : List ByteArray) : addAll [] (addAll [] l) = addAll [] l := by
  have h : ∀ (l acc d : List ByteArray), addAll acc (addAll d l) = addAll (addAll acc d) l := by
    intro l
    induction l with
    | nil => intro acc d; rfl
    | cons x l ih =>
      intro acc d
      show addAll acc (addAll (addN d x) l) = addAll (addN (addAll acc d) x) l
      rw [ih, addAll_addN]
  rw [h]; rfl
theorem addAll_fix {acc l : List ByteArray} (h : addAll [] acc = acc) : addAll [] (addAll acc l) = addAll acc l := by
  have h2 : addAll acc l = addAll [] (acc ++ l) := by rw [addAll_app, h]
  rw [h2, addAll_idem]
/-- What is found after k looks. -/
def seen (l : List TRule) (names : List ByteArray) : Nat → List ByteArray
  | 0 => addAll [] names
  | k + 1 => match (seen l names k)[k]? with | some x => addAll (seen l names k) (callsTo x l) | none => seen l names k
theorem seen_more {l : List TRule} {names : List ByteArray} {k : Nat} {x : ByteArray} (h : (seen l names k)[k]? = some x) : seen l names (k + 1) = addAll (seen l names k) (callsTo x l) := by rw [seen, h]
theorem seen_fix (l : List TRule) (names : List ByteArray) : ∀ k, addAll [] (seen l names k) = seen l names k
  | 0 => addAll_idem _
  | k + 1 => by
    rw [seen]
    split
    · exact addAll_fix (seen_fix l names k)
    · exact seen_fix l names k
theorem seen_nodup (l : List TRule) (names : List ByteArray) (k : Nat) : (seen l names k).Nodup := by
  rw [← seen_fix]; exact addAll_nodup _ List.nodup_nil
def allCalls (l : List TRule) : List ByteArray := l.flatMap fun r => nmE 3 r.body_ []
theorem mem_fold (nm s : ByteArray) (l : List TRule) : ∀ acc, s ∈ l.foldl (fun acc r => if r.name_ = nm then nmE 3 r.body_ acc else acc) acc → s ∈ acc ∨ s ∈ allCalls l := by
  induction l with
  | nil => intro acc h; exact .inl h
  | cons x l ih =>
    intro acc h
    simp only [List.foldl_cons] at h
    rcases ih _ h with h | h
    · by_cases hx : x.name_ = nm
      · rw [if_pos hx, nmE_acc, mem_addAll] at h
        rcases h with h | h
        · exact .inl h
        · exact .inr (List.mem_append.2 (.inl h))
      · rw [if_neg hx] at h; exact .inl h
    · exact .inr (List.mem_append.2 (.inr h))
theorem callsTo_mem {nm s : ByteArray} {l : List TRule} (h : s ∈ callsTo nm l) : s ∈ allCalls l := by
  rcases mem_fold nm s l [] h with h | h
  · cases h
  · exact h
theorem allCalls_len (l : List TRule) : (allCalls l).length ≤ bsum l := by
  induction l with
  | nil => simp [allCalls]
  | cons x l ih =>
    have h1 := nmE_len 3 x.body_ []
    simp only [List.length_nil] at h1
    show (nmE 3 x.body_ [] ++ allCalls l).length ≤ _
    rw [List.length_append]; simp only [bsum]; omega
theorem seen_sub (l : List TRule) (names : List ByteArray) : ∀ k, ∀ x ∈ seen l names k, x ∈ names ++ allCalls l
  | 0, x, h => by
    rcases mem_addAll.1 h with h | h
    · cases h
    · exact List.mem_append.2 (.inl h)
  | k + 1, x, h => by
    rw [seen] at h
    split at h
    · rcases mem_addAll.1 h with h | h
      · exact seen_sub l names k x h
      · exact List.mem_append.2 (.inr (callsTo_mem h))
    · exact seen_sub l names k x h
theorem seen_len (l : List TRule) (names : List ByteArray) (k : Nat) : (seen l names k).length ≤ names.length + bsum l := by
  have h1 := nodup_len (seen_nodup l names k) (seen_sub l names k)
  have h2 := allCalls_len l
  rw [List.length_append] at h1; omega
theorem seen_stop {l : List TRule} {names : List ByteArray} {k : Nat} (h : (seen l names k).length ≤ k) : ∀ m, seen l names (k + m) = seen l names k
  | 0 => rfl
  | m + 1 => by
    rw [← Nat.add_assoc, seen]
    rw [seen_stop h m, List.getElem?_eq_none (by omega)]
/-- All that is found. -/
def reach (l : List TRule) (names : List ByteArray) : List ByteArray := seen l names (names.length + bsum l)
theorem reach_at {l : List TRule} {names : List ByteArray} {k : Nat} (h : (seen l names k).length ≤ k) (hk : k ≤ names.length + bsum l) : seen l names k = reach l names := by
  unfold reach
  have := seen_stop h (names.length + bsum l - k)
  rw [← this]
  congr 1; omega
theorem fnsOf_mem (l : List TRule) : ∀ {r : TRule}, r ∈ l → r.name_ ∈ fnsOf l := by
  have h : ∀ (l : List TRule) (acc : List ByteArray) (s : ByteArray), s ∈ l.foldl (fun acc r => addB acc r.name_) acc ↔ s ∈ acc ∨ ∃ r ∈ l, r.name_ = s := by
    intro l
    induction l with
    | nil => intro acc s; simp
    | cons x l ih =>
      intro acc s
      simp only [List.foldl_cons]
      rw [ih]
      have hb : s ∈ addB acc x.name_ ↔ s ∈ acc ∨ s = x.name_ := mem_addN
      rw [hb]
      constructor
      · rintro ((h | h) | ⟨r, h1, h2⟩)
        · exact .inl h
        · exact .inr ⟨x, List.mem_cons_self, h.symm⟩
        · exact .inr ⟨r, List.mem_cons_of_mem _ h1, h2⟩
      · rintro (h | ⟨r, h1, h2⟩)
        · exact .inl (.inl h)
        · rcases List.mem_cons.1 h1 with rfl | h1
          · exact .inl (.inr h2.symm)
          · exact .inr ⟨r, h1, h2⟩
  exact fun {r} hr => (h l [] r.name_).2 (.inr ⟨r, hr, rfl⟩)
theorem callsTo_none {nm : ByteArray} {l : List TRule} (h : hasB nm (fnsOf l) = false) : callsTo nm l = [] := by
  have hno : ∀ r ∈ l, r.name_ ≠ nm := fun r hr e => by
    have := hasB_mem.2 (e ▸ fnsOf_mem l hr)
    rw [h] at this; cases this
  unfold callsTo
  clear h
  generalize ([] : List ByteArray) = acc
  induction l generalizing acc with
  | nil => rfl
  | cons x l ih =>
    simp only [List.foldl_cons, if_neg (hno x List.mem_cons_self)]
    exact ih (fun r hr => hno r (List.mem_cons_of_mem _ hr)) acc
end Go.Proofs.Ytamicpfjieandaa
