/- Each operation does what its condition says: reading and reckoning. -/
import Derived.Test.YtamicpfjieandaaAbC
namespace Go.Ab
open Go
set_option linter.unusedVariables false
set_option linter.unusedSimpArgs false
section lists
variable {w : World} {I : Im} {G : List Gh}
theorem VAs.len : ∀ {xs l}, VAs w I G xs l → xs.length = l.length
  | _, _, .nil => rfl
  | _, _, .cons _ h => by simp [h.len]
theorem VDs.len : ∀ {xs l}, VDs w I xs l → xs.length = l.length
  | _, _, .nil => rfl
  | _, _, .cons _ _ h => by simp [h.len]
theorem VAs.get : ∀ {xs l}, VAs w I G xs l → ∀ {i : Nat} {a}, l[i]? = some a → ∃ x, xs[i]? = some x ∧ VA w I G x a
  | _, _, .nil, i, a, h => by simp at h
  | _, _, .cons h1 h2, 0, a, h => by simp at h; subst h; exact ⟨_, rfl, h1⟩
  | _, _, .cons h1 h2, i + 1, a, h => by simpa using h2.get (by simpa using h)
theorem VAs.getx : ∀ {xs l}, VAs w I G xs l → ∀ {i : Nat} {x}, xs[i]? = some x → ∃ a, l[i]? = some a ∧ VA w I G x a
  | _, _, .nil, i, a, h => by simp at h
  | _, _, .cons h1 h2, 0, a, h => by simp at h; subst h; exact ⟨_, rfl, h1⟩
  | _, _, .cons h1 h2, i + 1, a, h => by simpa using h2.getx (by simpa using h)
theorem VDs.get : ∀ {xs l}, VDs w I xs l → ∀ {i : Nat} {a}, l[i]? = some a → ∃ x, xs[i]? = some x ∧ VD w I x a ∧ x.oneCell' = true
  | _, _, .nil, i, a, h => by simp at h
  | _, _, .cons h0 h1 h2, 0, a, h => by simp at h; subst h; exact ⟨_, rfl, h1, h0⟩
  | _, _, .cons h0 h1 h2, i + 1, a, h => by simpa using h2.get (by simpa using h)
theorem VAs.set : ∀ {xs l}, VAs w I G xs l → ∀ (i : Nat) {x a}, VA w I G x a → VAs w I G (xs.set i x) (l.set i a)
  | _, _, .nil, _, _, _, _ => .nil
  | _, _, .cons _ h2, 0, _, _, h => .cons h h2
  | _, _, .cons h1 h2, i + 1, _, _, h => .cons h1 (h2.set i h)
theorem VAs.append : ∀ {xs l ys m}, VAs w I G xs l → VAs w I G ys m → VAs w I G (xs ++ ys) (l ++ m)
  | _, _, _, _, .nil, h => h
  | _, _, _, _, .cons h1 h2, h => .cons h1 (h2.append h)
theorem VAs.take : ∀ {xs l}, VAs w I G xs l → ∀ n, VAs w I G (xs.take n) (l.take n)
  | _, _, .nil, n => by simp; exact .nil
  | _, _, .cons h1 h2, 0 => .nil
  | _, _, .cons h1 h2, n + 1 => .cons h1 (h2.take n)
theorem VAs.drop : ∀ {xs l}, VAs w I G xs l → ∀ n, VAs w I G (xs.drop n) (l.drop n)
  | _, _, .nil, n => by simp; exact .nil
  | _, _, .cons h1 h2, 0 => .cons h1 h2
  | _, _, .cons h1 h2, n + 1 => h2.drop n
theorem VDs.take : ∀ {xs l}, VDs w I xs l → ∀ n, VDs w I (xs.take n) (l.take n)
  | _, _, .nil, n => by simp; exact .nil
  | _, _, .cons h0 h1 h2, 0 => .nil
  | _, _, .cons h0 h1 h2, n + 1 => .cons h0 h1 (h2.take n)
theorem VDs.drop : ∀ {xs l}, VDs w I xs l → ∀ n, VDs w I (xs.drop n) (l.drop n)
  | _, _, .nil, n => by simp; exact .nil
  | _, _, .cons h0 h1 h2, 0 => .cons h0 h1 h2
  | _, _, .cons h0 h1 h2, n + 1 => h2.drop n
theorem VDs.one : ∀ {xs l}, VDs w I xs l → ∀ x ∈ xs, x.oneCell' = true
  | _, _, .nil, x, h => by cases h
  | _, _, .cons h0 h1 h2, x, h => by
    cases h with
    | head => exact h0
    | tail _ h => exact h2.one x h
theorem VDs.toA : ∀ {xs l}, VDs w I xs l → VAs w I G xs (l.map A.d)
  | _, _, .nil => .nil
  | _, _, .cons _ h1 h2 => .cons (.d h1) h2.toA
theorem VDc.get : ∀ {b off l}, VDc w I b off l → ∀ {i : Nat} {c}, l[i]? = some c → ∃ x, w.cell? ⟨b, off + i, none⟩ = some x ∧ I b (off + i) ∧ x.oneCell' = true ∧ VD w I x c
  | _, _, _, .nil _ _, i, c, h => by simp at h
  | _, _, _, .cons h1 h2 h3 h4 h5, 0, c, h => by simp at h; subst h; exact ⟨_, h1, h2, h3, h4⟩
  | _, off, _, .cons h1 h2 h3 h4 h5, i + 1, c, h => by
    obtain ⟨x, e⟩ := h5.get (i := i) (by simpa using h)
    rw [show off + 1 + i = off + (i + 1) by omega] at e
    exact ⟨x, e⟩
theorem VDc.drop : ∀ {b off l}, VDc w I b off l → ∀ n, n ≤ l.length → VDc w I b (off + n) (l.drop n)
  | _, _, _, .nil b off, n, h => by
    have : n = 0 := by simpa using h
    subst this; exact .nil b off
  | _, _, _, .cons h1 h2 h3 h4 h5, 0, _ => .cons h1 h2 h3 h4 h5
  | _, off, _, .cons h1 h2 h3 h4 h5, n + 1, h => by
    have := h5.drop n (by simpa using h)
    rw [show off + 1 + n = off + (n + 1) by omega] at this
    exact this
theorem VDc.take : ∀ {b off l}, VDc w I b off l → ∀ n, VDc w I b off (l.take n)
  | _, _, _, .nil b off, n => by simp; exact .nil b off
  | _, _, _, .cons h1 h2 h3 h4 h5, 0 => .nil _ _
  | _, _, _, .cons h1 h2 h3 h4 h5, n + 1 => .cons h1 h2 h3 h4 (h5.take n)
theorem VDc.append : ∀ {b off l m}, VDc w I b off l → VDc w I b (off + l.length) m → VDc w I b off (l ++ m)
  | _, _, _, _, .nil b off, h => by simpa using h
  | _, off, _, _, .cons (l := l) h1 h2 h3 h4 h5, h => .cons h1 h2 h3 h4 (h5.append (by
      simp only [List.length_cons] at h
      rw [show off + 1 + l.length = off + (l.length + 1) by omega]; exact h))
/-- The cells of a row that is read, as values. -/
theorem VDc.vals : ∀ {b off l}, VDc w I b off l → ∃ xs, VDs w I xs l ∧ ∀ (j : Nat) (v : Value), xs[j]? = some v → w.cell? ⟨b, off + j, none⟩ = some v
  | _, _, _, .nil _ _ => ⟨[], .nil, fun j v h => by simp at h⟩
  | _, off, _, .cons h1 h2 h3 h4 h5 => by
    obtain ⟨xs, e1, e2⟩ := h5.vals
    refine ⟨_ :: xs, .cons h3 h4 e1, fun j v h => ?_⟩
    cases j with
    | zero => simp at h; subst h; exact h1
    | succ j => rw [show off + (j + 1) = off + 1 + j by omega]; exact e2 j v (by simpa using h)
theorem VAc.get : ∀ {b off l}, VAc w I G b off l → ∀ {i : Nat} {c}, l[i]? = some c → ∃ x, w.cell? ⟨b, off + i, none⟩ = some x ∧ I b (off + i) ∧ x.oneCell' = true ∧ VA w I G x c
  | _, _, _, .nil _ _, i, c, h => by simp at h
  | _, _, _, .cons h1 h2 h3 h4 h5, 0, c, h => by simp at h; subst h; exact ⟨_, h1, h2, h3, h4⟩
  | _, off, _, .cons h1 h2 h3 h4 h5, i + 1, c, h => by
    obtain ⟨x, e⟩ := h5.get (i := i) (by simpa using h)
    rw [show off + 1 + i = off + (i + 1) by omega] at e
    exact ⟨x, e⟩
theorem VAc.vals : ∀ {b off l}, VAc w I G b off l → ∃ xs, VAs w I G xs l ∧ (∀ x ∈ xs, x.oneCell' = true) ∧ ∀ (j : Nat) (v : Value), xs[j]? = some v → w.cell? ⟨b, off + j, none⟩ = some v
  | _, _, _, .nil _ _ => ⟨[], .nil, (fun x h => (by cases h)), (fun j v h => (by simp at h))⟩
  | _, off, _, .cons h1 h2 h3 h4 h5 => by
    obtain ⟨xs, e1, e0, e2⟩ := h5.vals
    refine ⟨_ :: xs, .cons h4 e1, fun x hx => ?_, fun j v h => ?_⟩
    · cases hx with
      | head => exact h3
      | tail _ hx => exact e0 x hx
    · cases j with
      | zero => simp at h; subst h; exact h1
      | succ j => rw [show off + (j + 1) = off + 1 + j by omega]; exact e2 j v (by simpa using h)
/-- Data out of parts. -/
theorem unDs_spec : ∀ {l r}, unDs l = some r → l = r.map A.d
  | [], r, h => by simp [unDs] at h; subst h; rfl
  | .d x :: l, r, h => by
    simp only [unDs] at h
    split at h
    · rename_i r' e; cases h; simp [unDs_spec e]
    · cases h
  | .agg _ :: _, r, h | .tup _ :: _, r, h | .nil :: _, r, h | .sl _ _ :: _, r, h | .rptr _ :: _, r, h | .ref _ _ :: _, r, h | .own _ _ :: _, r, h | .arr _ :: _, r, h
  | .eptr _ _ _ _ :: _, r, h | .fn _ _ :: _, r, h | .mp _ :: _, r, h | .any :: _, r, h => by simp [unDs] at h
theorem VAs.unD : ∀ {xs r}, (∀ x ∈ xs, x.oneCell' = true) → VAs w I G xs (r.map A.d) → VDs w I xs r
  | [], [], _, _ => .nil
  | x :: xs, c :: r, h1, h => by
    cases h with
    | cons h2 h3 =>
      cases h2 with
      | d h2 => exact .cons (h1 x List.mem_cons_self) h2 (VAs.unD (fun y hy => h1 y (List.mem_cons_of_mem _ hy)) h3)
  | [], _ :: _, _, h => by cases h
  | _ :: _, [], _, h => by cases h
theorem VA.pack {xs : List Value} {l : List A} (h1 : ∀ x ∈ xs, x.oneCell' = true) (h : VAs w I G xs l) : VA w I G (.agg xs.toArray) (pack l) := by
  unfold Ab.pack
  split
  · rename_i r e
    rw [unDs_spec e] at h
    exact .d (.agg xs r (h.unD h1))
  · exact .agg xs l h h1
/-- The cells of a value. -/
theorem VA.cells {x : Value} {a : A} {c : List A} (h : VA w I G x a) (hc : a.cells? = some c) : VAs w I G x.cells.toList c ∧ (∀ y ∈ x.cells.toList, y.oneCell' = true) := by
  cases h with
  | d h =>
    cases h with
    | v x h1 => simp only [A.cells?] at hc; cases hc; cases x <;> simp_all [Value.cells, Value.oneCell', sc] <;> exact .cons (.d (.v _ rfl)) .nil
    | agg cs l h => simp only [A.cells?] at hc; cases hc; exact ⟨h.toA, h.one⟩
    | lnil => simp only [A.cells?] at hc; cases hc; exact ⟨.cons (.d .lnil) .nil, by simp [Value.cells, Value.oneCell']⟩
    | lemp a c => simp only [A.cells?] at hc; cases hc; exact ⟨.cons (.d (.lemp a c)) .nil, by simp [Value.cells, Value.oneCell']⟩
    | lst b off n cap l h1 h2 h3 => simp only [A.cells?] at hc; cases hc; exact ⟨.cons (.d (.lst b off n cap l h1 h2 h3)) .nil, by simp [Value.cells, Value.oneCell']⟩
  | agg cs l h h1 => simp only [A.cells?] at hc; cases hc; exact ⟨h, h1⟩
  | tup cs l h => simp [A.cells?] at hc
  | any x => simp [A.cells?] at hc
  | nil => simp only [A.cells?] at hc; cases hc; exact ⟨.cons .nil .nil, by simp [Value.cells, Value.oneCell']⟩
  | sl b n k l g h1 h2 h3 h4 => simp only [A.cells?] at hc; cases hc; exact ⟨.cons (.sl b n k l g h1 h2 h3 h4) .nil, by simp [Value.cells, Value.oneCell']⟩
  | rptr b off l h => simp only [A.cells?] at hc; cases hc; exact ⟨.cons (.rptr b off l h) .nil, by simp [Value.cells, Value.oneCell']⟩
  | ref b k off g h1 h2 => simp only [A.cells?] at hc; cases hc; exact ⟨.cons (.ref b k off g h1 h2) .nil, by simp [Value.cells, Value.oneCell']⟩
  | own k l g h1 h2 h3 =>
    simp only [A.cells?] at hc; cases hc
    cases h3 with
    | lnil => exact ⟨.cons (.own k _ g h1 h2 .lnil) .nil, by simp [Value.cells, Value.oneCell']⟩
    | lemp a c => exact ⟨.cons (.own k _ g h1 h2 (.lemp a c)) .nil, by simp [Value.cells, Value.oneCell']⟩
    | lst b off n cap l e1 e2 e3 => exact ⟨.cons (.own k _ g h1 h2 (.lst b off n cap l e1 e2 e3)) .nil, by simp [Value.cells, Value.oneCell']⟩
  | arr k g h1 h2 h3 => simp only [A.cells?] at hc; cases hc; cases x <;> simp_all [Value.cells, Value.oneCell'] <;> exact .cons (.arr k g h1 h2 rfl) .nil
  | eptr b k sz i off n c g h1 h2 => simp only [A.cells?] at hc; cases hc; exact ⟨.cons (.eptr b k sz i off n _ g h1 h2) .nil, by simp [Value.cells, Value.oneCell']⟩
  | fn f cs l h => simp only [A.cells?] at hc; cases hc; exact ⟨.cons (.fn f cs l h) .nil, by simp [Value.cells, Value.oneCell']⟩
  | mp r k g h1 h2 => simp only [A.cells?] at hc; cases hc; exact ⟨.cons (.mp r k g h1 h2) .nil, by simp [Value.cells, Value.oneCell']⟩
  | raw x h1 => simp only [A.cells?] at hc; cases hc; cases x <;> simp_all [Value.cells, Value.oneCell'] <;> exact .cons (.raw _ rfl) .nil
end lists
end Go.Ab
