/- Valid expressions and heads, in plain Lean. -/
import Derived.Test.YtfmllefmfhefpaaVp
import Derived.Test.YtfmllefmfhefpaaUp
namespace Go.Proofs.Ytfmllefmfhefpaa
open Go Go.Ab
set_option linter.unusedVariables false
set_option linter.unusedSimpArgs false
/-- Each name stands once. -/
def distB (l : List ByteArray) : Bool := decide ((addAll [] l).length = l.length)
theorem dist_iff (l : List ByteArray) : ∀ acc : List ByteArray, (addAll acc l).length = acc.length + l.length ↔ ∀ i x, l[i]? = some x → x ∉ acc ∧ x ∉ l.take i := by
  induction l with
  | nil => intro acc; simp [addAll]
  | cons y l ih =>
    intro acc
    show (addAll (addN acc y) l).length = _ ↔ _
    by_cases hy : y ∈ acc
    · rw [addN_in hy]
      have := addAll_len l acc
      constructor
      · intro h; simp only [List.length_cons] at h; omega
      · intro h; exact absurd hy (h 0 y rfl).1
    · have hb : hasB y acc = false := by cases hh : hasB y acc with | false => rfl | true => exact absurd (hasB_mem.1 hh) hy
      rw [addN_f hb]
      have := ih (acc ++ [y])
      rw [List.length_append] at this
      simp only [List.length_cons, List.length_nil] at this ⊢
      rw [show acc.length + (l.length + 1) = acc.length + (0 + 1) + l.length by omega, this]
      constructor
      · intro h i x hx
        cases i with
        | zero => simp at hx; subst hx; exact ⟨hy, by simp⟩
        | succ i =>
          have := h i x (by simpa using hx)
          simp only [List.mem_append, List.mem_singleton, not_or] at this
          exact ⟨this.1.1, by rw [List.take_succ_cons, List.mem_cons, not_or]; exact ⟨this.1.2, this.2⟩⟩
      · intro h i x hx
        have := h (i + 1) x (by simpa using hx)
        rw [List.take_succ_cons, List.mem_cons, not_or] at this
        exact ⟨by simp only [List.mem_append, List.mem_singleton, not_or]; exact ⟨this.1, this.2.1⟩, this.2.2⟩
theorem dist_spec {l : List ByteArray} : distB l = true ↔ ∀ i x, l[i]? = some x → hasB x (l.take i) = false := by
  have := dist_iff l []
  simp only [List.length_nil, Nat.zero_add, List.not_mem_nil, not_false_eq_true, true_and] at this
  unfold distB
  rw [decide_eq_true_eq, this]
  constructor
  · intro h i x hx
    cases hh : hasB x (l.take i) with
    | false => rfl
    | true => exact absurd (hasB_mem.1 hh) (h i x hx)
  · intro h i x hx hm
    have := h i x hx
    rw [hasB_mem.2 hm] at this; cases this
mutual
def dep : Ex → Nat
  | .mk _ _ a => depS a + 1
def depS : List Ex → Nat
  | [] => 0
  | x :: a => max (dep x) (depS a)
end
theorem dep_def (e : Ex) : dep e = depS e.a + 1 := by cases e; rw [dep]; rfl
theorem depS_app (a b : List Ex) : depS (a ++ b) = max (depS a) (depS b) := by
  induction a with
  | nil => simp [depS]
  | cons x a ih => simp only [List.cons_append, depS, ih]; omega
theorem depS_take {a : List Ex} {i : Nat} {x : Ex} (h : a[i]? = some x) : depS (a.take (i + 1)) = max (depS (a.take i)) (dep x) := by rw [take_more h, depS_app]; simp [depS]
theorem depS_take_le (a : List Ex) (i : Nat) : depS (a.take i) ≤ depS a := by
  have := depS_app (a.take i) (a.drop i)
  rw [List.take_append_drop] at this
  omega
theorem dep_nd (e : Ex) : dep e ≤ e.nd := by
  induction e using Ex.ind2 with
  | h e ih =>
    rw [dep_def, e.nd_def]
    have : ∀ a : List Ex, (∀ x ∈ a, dep x ≤ x.nd) → depS a ≤ Ex.nds a := by
      intro a
      induction a with
      | nil => intro _; simp [depS]
      | cons x a ih2 =>
        intro h
        have h1 := h x List.mem_cons_self
        have h2 := ih2 fun y hy => h y (List.mem_cons_of_mem _ hy)
        simp only [depS, Ex.nds]; omega
    have := this e.a ih
    omega
end Go.Proofs.Ytfmllefmfhefpaa
