/- What the rules of a function call: the walks. -/
import Derived.Test.YtamicpfjieandaaUc
import Derived.Test.YtamicpfjieandaaMr
namespace Go.Proofs.Ytamicpfjieandaa
open Go Go.Ab
set_option linter.unusedVariables false
set_option linter.unusedSimpArgs false
set_option maxRecDepth 100000
set_option maxHeartbeats 4000000
theorem hasB_mem {s : ByteArray} {l : List ByteArray} : hasB s l = true ↔ s ∈ l := by simp [hasB]
theorem mem_addN {s x : ByteArray} {acc : List ByteArray} : s ∈ addN acc x ↔ s ∈ acc ∨ s = x := by
  unfold addN
  split
  · rename_i h
    have := hasB_mem.1 h
    constructor
    · exact .inl
    · rintro (h | rfl)
      · exact h
      · exact this
  · simp
theorem mem_addAll {s : ByteArray} {l : List ByteArray} : ∀ {acc : List ByteArray}, s ∈ addAll acc l ↔ s ∈ acc ∨ s ∈ l := by
  induction l with
  | nil => intro acc; simp [addAll]
  | cons x l ih =>
    intro acc
    show s ∈ addAll (addN acc x) l ↔ _
    rw [ih, mem_addN, List.mem_cons]
    constructor
    · rintro ((h | h) | h)
      · exact .inl h
      · exact .inr (.inl h)
      · exact .inr (.inr h)
    · rintro (h | h | h)
      · exact .inl (.inl h)
      · exact .inl (.inr h)
      · exact .inr h
theorem addN_in {acc : List ByteArray} {x : ByteArray} (h : x ∈ acc) : addN acc x = acc := addN_t (hasB_mem.2 h)
theorem addAll_addN (acc d : List ByteArray) (x : ByteArray) : addAll acc (addN d x) = addN (addAll acc d) x := by
  by_cases h : x ∈ d
  · rw [addN_in h, addN_in (mem_addAll.2 (.inr h))]
  · have : hasB x d = false := by cases hh : hasB x d with | false => rfl | true => exact absurd (hasB_mem.1 hh) h
    rw [addN_f this, addAll_app]; rfl
theorem nm1_addN (q : Int) (e : Ex) (acc : List ByteArray) : nm1 q e acc = if e.k = q then addN acc e.n else acc := by
  unfold nm1 addN
  by_cases h : e.k = q
  · cases hh : hasB e.n acc <;> simp [h]
  · simp [h]
theorem nm1_addAll (q : Int) (e : Ex) (acc d : List ByteArray) : nm1 q e (addAll acc d) = addAll acc (nm1 q e d) := by
  rw [nm1_addN, nm1_addN]
  split
  · rw [addAll_addN]
  · rfl
theorem nmS_addAll (q : Int) : ∀ (a : List Ex), (∀ x ∈ a, ∀ acc d : List ByteArray, nmE q x (addAll acc d) = addAll acc (nmE q x d)) → ∀ acc d : List ByteArray, nmS q a (addAll acc d) = addAll acc (nmS q a d)
  | [], _, _, _ => rfl
  | x :: a, h, acc, d => by
    simp only [nmS]
    rw [h x List.mem_cons_self]
    exact nmS_addAll q a (fun y hy => h y (List.mem_cons_of_mem _ hy)) acc _
theorem nmE_addAll (q : Int) (e : Ex) : ∀ acc d : List ByteArray, nmE q e (addAll acc d) = addAll acc (nmE q e d) := by
  induction e using Ex.ind2 with
  | h e ih =>
    intro acc d
    rw [nmE_def, nmE_def, nm1_addAll]
    exact nmS_addAll q e.a ih acc _
theorem nmE_acc (q : Int) (e : Ex) (acc : List ByteArray) : nmE q e acc = addAll acc (nmE q e []) := nmE_addAll q e acc []
def callsTo (nm : ByteArray) (l : List TRule) : List ByteArray := l.foldl (fun acc r => if r.name_ = nm then nmE 3 r.body_ acc else acc) []
theorem callsTo_nil (nm : ByteArray) : callsTo nm [] = [] := rfl
theorem callsTo_more {nm : ByteArray} {l : List TRule} {i : Nat} {x : TRule} (h : l[i]? = some x) : callsTo nm (l.take (i + 1)) = if x.name_ = nm then nmE 3 x.body_ (callsTo nm (l.take i)) else callsTo nm (l.take i) := by
  rw [take_more h, callsTo, List.foldl_append]; rfl
theorem callsTo_t {nm : ByteArray} {l : List TRule} {i : Nat} {x : TRule} (h : l[i]? = some x) (hx : x.name_ = nm) : callsTo nm (l.take (i + 1)) = nmE 3 x.body_ (callsTo nm (l.take i)) := by rw [callsTo_more h, if_pos hx]
theorem callsTo_f {nm : ByteArray} {l : List TRule} {i : Nat} {x : TRule} (h : l[i]? = some x) (hx : x.name_ ≠ nm) : callsTo nm (l.take (i + 1)) = callsTo nm (l.take i) := by rw [callsTo_more h, if_neg hx]
theorem fold_fix (nm : ByteArray) (l : List TRule) : ∀ acc, addAll [] acc = acc → addAll [] (l.foldl (fun acc r => if r.name_ = nm then nmE 3 r.body_ acc else acc) acc) = l.foldl (fun acc r => if r.name_ = nm then nmE 3 r.body_ acc else acc) acc := by
  induction l with
  | nil => intro acc h; exact h
  | cons x l ih =>
    intro acc h
    simp only [List.foldl_cons]
    refine ih _ ?_
    split
    · rw [← nmE_addAll, h]
    · exact h
theorem callsTo_fix (nm : ByteArray) (l : List TRule) : addAll [] (callsTo nm l) = callsTo nm l := fold_fix nm l [] rfl
def bsum : List TRule → Nat
  | [] => 0
  | x :: l => x.body_.nd + bsum l
theorem bsum_app (a b : List TRule) : bsum (a ++ b) = bsum a + bsum b := by
  induction a with
  | nil => simp [bsum]
  | cons x a ih => simp only [List.cons_append, bsum, ih]; omega
theorem bsum_at {l : List TRule} {i : Nat} {x : TRule} (h : l[i]? = some x) : bsum (l.take i) + x.body_.nd ≤ bsum l := by
  have h1 : bsum (l.take (i + 1)) = bsum (l.take i) + x.body_.nd := by rw [take_more h, bsum_app]; simp [bsum]
  have h2 := congrArg bsum (List.take_append_drop (i + 1) l)
  rw [bsum_app] at h2
  omega
theorem bsum_mem {l : List TRule} {x : TRule} (h : x ∈ l) : x.body_.nd ≤ bsum l := by
  obtain ⟨i, hi⟩ := List.getElem?_of_mem h
  have := bsum_at hi
  omega
theorem bsum_cnts (l : List TRule) : 2 * bsum l ≤ cnts (l.map TRule.E) := by
  induction l with
  | nil => simp [bsum]
  | cons x l ih =>
    have h1 := exnd x.body_
    rw [exc] at h1
    simp only [List.map_cons, cnts, bsum, RuleCnt]
    omega
theorem fold_bsum (nm : ByteArray) (l : List TRule) : ∀ acc, (l.foldl (fun acc r => if r.name_ = nm then nmE 3 r.body_ acc else acc) acc).length ≤ acc.length + bsum l := by
  induction l with
  | nil => intro acc; simp [bsum]
  | cons x l ih =>
    intro acc
    simp only [List.foldl_cons, bsum]
    have h2 := nmE_len 3 x.body_ acc
    by_cases hx : x.name_ = nm
    · rw [if_pos hx]
      have h1 := ih (nmE 3 x.body_ acc)
      omega
    · rw [if_neg hx]
      have h1 := ih acc
      omega
theorem callsTo_len (nm : ByteArray) (l : List TRule) : (callsTo nm l).length ≤ bsum l := by
  have := fold_bsum nm l []
  simpa [callsTo] using this
theorem specBy_ct (p : TProgram) (h : p.sm) (hb : bsum p.rules_ ≤ 8388608) (nm : ByteArray) : Ct Try.prog 30 [.d p.E, .str nm] [] (fun _ : Unit => True) (fun _ => .d (.lst ((callsTo nm p.rules_).map D.str))) (fun _ => []) := by
  refine ct_go tyOk Try.func30 rfl (by decide +kernel) Try.ntmps30 rfl (fun _ _ => by first | exact Nat.le_refl _ | exact Nat.zero_le _ | simp) ?_
  intro K hK
  have hl : p.rules_.length ≤ 1048576 := by first | exact h.1 | exact h
  have hx : ∀ x ∈ p.rules_, x.sm := by first | exact h.2 | exact h
  simp -implicitDefEqProofs (maxSteps := 4000000) only [go_sem]
  refine loop_at tyOk [5, 6, 8, 9, 10, 11, 12, 13, 14, 15, 16, 17, 18, 19, 20, 21, 22, 23, 24, 25, 26, 27, 28, 29, 30] (fun i : Nat => [(1, .str nm), (5, .own 1 ((callsTo nm (p.rules_.take i)).map D.str)), (6, .int i)]) (fun i : Nat => [.box 30 [.d (.lst (p.rules_.map TRule.E))], .app 9 1 false]) (fun i : Nat => i ≤ p.rules_.length) (fun i : Nat => p.rules_.length - i) 0 ?_ ?_ ?_
  · exact Nat.zero_le _
  · simp -implicitDefEqProofs (maxSteps := 4000000) only [go_sem, List.take_zero, callsTo_nil, List.map_nil]
  intro i hi L hL
  have hw : wr .i64 ((i : Int) + 1) = ((i + 1 : Nat) : Int) := by rw [wr_in (by omega)]; omega
  simp -implicitDefEqProofs (maxSteps := 4000000) only [go_sem, hw]
  refine ⟨fun hlt => ⟨by omega, fun x hxi => ?_⟩, fun hlt => ?_⟩
  · have hm := List.mem_of_getElem? hxi
    have hxs := hx x hm
    have h1 := bsum_at hxi
    have h2 := callsTo_len nm (p.rules_.take i)
    refine ⟨fun he => ⟨by omega, fun y hy => ?_⟩, fun he => ?_⟩
    · obtain rfl : x = y := by rw [hxi] at hy; exact Option.some.inj hy
      refine call_objs [1] (l22_ct x.body_ (by first | exact hxs.2.2.2.2 | exact hxs.2.2.2) (callsTo nm (p.rules_.take i)) (by omega)) (by simp -implicitDefEqProofs (maxSteps := 4000000) only [go_sem]; decide) fun _ _ => ?_
      simp -implicitDefEqProofs (maxSteps := 4000000) only [go_sem, hw]
      exact hL _ (i + 1) (by omega) (by omega) (by simp -implicitDefEqProofs (maxSteps := 4000000) only [go_sem, callsTo_t hxi he])
    · exact hL _ (i + 1) (by omega) (by omega) (by simp -implicitDefEqProofs (maxSteps := 4000000) only [go_sem, callsTo_f hxi he])
  · obtain rfl : i = p.rules_.length := by omega
    exact end_pure hK () trivial (by simp -implicitDefEqProofs (maxSteps := 4000000) only [go_sem, List.take_length])
theorem implBy_ct (p : TProgram) (h : p.sm) (hb : bsum p.rules_ ≤ 8388608) (hn : ∀ x ∈ p.rules_, x.body_.nd ≤ 4194304) (nm : ByteArray) : Ct Try.prog 31 [.d p.E, .str nm] [] (fun _ : Value => True) (fun v => .raw v) (fun v => [.forest [(v, .lst ((callsTo nm p.rules_).map D.str))]]) := by
  refine ct_go tyOk Try.func31 rfl (by decide +kernel) Try.ntmps31 rfl (fun _ _ => by first | exact Nat.le_refl _ | exact Nat.zero_le _ | simp) ?_
  intro K hK
  have hl : p.rules_.length ≤ 1048576 := by first | exact h.1 | exact h
  have hx : ∀ x ∈ p.rules_, x.sm := by first | exact h.2 | exact h
  simp -implicitDefEqProofs (maxSteps := 4000000) only [go_sem]
  refine loop_at tyOk [5, 7, 11, 12, 13, 14, 15, 16, 17, 18, 19, 20, 21, 22, 23, 24] (fun q : Nat × Value => [(1, .str nm), (5, .raw q.2), (11, .int q.1)]) (fun q : Nat × Value => [.box 30 [.d (.lst (p.rules_.map TRule.E))], .forest [(q.2, .lst ((callsTo nm (p.rules_.take q.1)).map D.str))]]) (fun q : Nat × Value => q.1 ≤ p.rules_.length) (fun q : Nat × Value => p.rules_.length - q.1) (0, .slice none 0 0) ?_ ?_ ?_
  · exact Nat.zero_le _
  · simp -implicitDefEqProofs (maxSteps := 4000000) only [go_sem, List.take_zero, callsTo_nil, List.map_nil]
  rintro ⟨i, v⟩ hi L hL
  simp only at hi
  have hw : wr .i64 ((i : Int) + 1) = ((i + 1 : Nat) : Int) := by rw [wr_in (by omega)]; omega
  simp -implicitDefEqProofs (maxSteps := 4000000) only [go_sem, hw]
  refine ⟨fun hlt => ⟨by omega, fun x hxi => ?_⟩, fun hlt => ?_⟩
  · have hm := List.mem_of_getElem? hxi
    have hxs := hx x hm
    have h1 := bsum_at hxi
    have h2 := callsTo_len nm (p.rules_.take i)
    have h3 := nmE_len 3 x.body_ []
    simp only [List.length_nil] at h3
    refine ⟨fun he => ?_, fun he => ?_⟩
    · refine call_p (Ct.dat (implCalled_ct x.body_ (by first | exact hxs.2.2.2.2 | exact hxs.2.2.2) (hn x hm))) rfl fun _ _ => ?_
      simp -implicitDefEqProofs (maxSteps := 4000000) only [go_sem]
      refine call_new (q := 1) (Ct.tree (implUnite_ct (callsTo nm (p.rules_.take i)) (nmE 3 x.body_ []) (by omega))) rfl (by simp [lendAs, lendOk]) (fun _ => rfl) fun u _ => ?_
      obtain ⟨_, u⟩ := u
      have he2 : addAll [] (callsTo nm (p.rules_.take i) ++ nmE 3 x.body_ []) = callsTo nm (p.rules_.take (i + 1)) := by
        rw [addAll_app, callsTo_fix, ← nmE_acc, callsTo_t hxi he]
      simp -implicitDefEqProofs (maxSteps := 4000000) only [go_sem, hw, he2]
      exact hL _ (i + 1, u) (by simp only; omega) (by simp only; omega) (by simp -implicitDefEqProofs (maxSteps := 4000000) only [go_sem])
    · exact hL _ (i + 1, v) (by simp only; omega) (by simp only; omega) (by simp -implicitDefEqProofs (maxSteps := 4000000) only [go_sem, callsTo_f hxi he])
  · obtain rfl : i = p.rules_.length := by omega
    exact end_own hK v [1] trivial (by simp -implicitDefEqProofs (maxSteps := 4000000) only [go_sem]) (by simp -implicitDefEqProofs (maxSteps := 4000000) only [go_sem, List.take_length]) (by rfl) (by decide)
end Go.Proofs.Ytamicpfjieandaa
