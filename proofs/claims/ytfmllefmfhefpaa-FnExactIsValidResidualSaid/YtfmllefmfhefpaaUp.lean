/- Names united, in plain Lean. -/
import Derived.Test.YtfmllefmfhefpaaUc
namespace Go.Proofs.Ytfmllefmfhefpaa
open Go Go.Ab
set_option linter.unusedVariables false
set_option linter.unusedSimpArgs false
set_option maxRecDepth 100000
set_option maxHeartbeats 4000000
theorem hasB_mem {s : ByteArray} {l : List ByteArray} : hasB s l = true ↔ s ∈ l := by simp [hasB]
theorem mem_addN {s x : ByteArray} {acc : List ByteArray} : s ∈ addN acc x ↔ s ∈ acc ∨ s = x := by
  unfold addN
  split
  · rename_i h
    have := hasB_mem.1 h
    constructor
    · exact .inl
    · rintro (h | rfl)
      · exact h
      · exact this
  · simp
theorem mem_addAll {s : ByteArray} {l : List ByteArray} : ∀ {acc : List ByteArray}, s ∈ addAll acc l ↔ s ∈ acc ∨ s ∈ l := by
  induction l with
  | nil => intro acc; simp [addAll]
  | cons x l ih =>
    intro acc
    show s ∈ addAll (addN acc x) l ↔ _
    rw [ih, mem_addN, List.mem_cons]
    constructor
    · rintro ((h | h) | h)
      · exact .inl h
      · exact .inr (.inl h)
      · exact .inr (.inr h)
    · rintro (h | h | h)
      · exact .inl (.inl h)
      · exact .inl (.inr h)
      · exact .inr h
theorem addN_in {acc : List ByteArray} {x : ByteArray} (h : x ∈ acc) : addN acc x = acc := addN_t (hasB_mem.2 h)
theorem addAll_addN (acc d : List ByteArray) (x : ByteArray) : addAll acc (addN d x) = addN (addAll acc d) x := by
  by_cases h : x ∈ d
  · rw [addN_in h, addN_in (mem_addAll.2 (.inr h))]
  · have : hasB x d = false := by cases hh : hasB x d with | false => rfl | true => exact absurd (hasB_mem.1 hh) h
    rw [addN_f this, addAll_app]; rfl
theorem nm1_addN (q : Int) (e : Ex) (acc : List ByteArray) : nm1 q e acc = if e.k = q then addN acc e.n else acc := by
  unfold nm1 addN
  by_cases h : e.k = q
  · cases hh : hasB e.n acc <;> simp [h]
  · simp [h]
theorem nm1_addAll (q : Int) (e : Ex) (acc d : List ByteArray) : nm1 q e (addAll acc d) = addAll acc (nm1 q e d) := by
  rw [nm1_addN, nm1_addN]
  split
  · rw [addAll_addN]
  · rfl
theorem nmS_addAll (q : Int) : ∀ (a : List Ex), (∀ x ∈ a, ∀ acc d : List ByteArray, nmE q x (addAll acc d) = addAll acc (nmE q x d)) → ∀ acc d : List ByteArray, nmS q a (addAll acc d) = addAll acc (nmS q a d)
  | [], _, _, _ => rfl
  | x :: a, h, acc, d => by
    simp only [nmS]
    rw [h x List.mem_cons_self]
    exact nmS_addAll q a (fun y hy => h y (List.mem_cons_of_mem _ hy)) acc _
theorem nmE_addAll (q : Int) (e : Ex) : ∀ acc d : List ByteArray, nmE q e (addAll acc d) = addAll acc (nmE q e d) := by
  induction e using Ex.ind2 with
  | h e ih =>
    intro acc d
    rw [nmE_def, nmE_def, nm1_addAll]
    exact nmS_addAll q e.a ih acc _
theorem nmE_acc (q : Int) (e : Ex) (acc : List ByteArray) : nmE q e acc = addAll acc (nmE q e []) := nmE_addAll q e acc []
end Go.Proofs.Ytfmllefmfhefpaa
