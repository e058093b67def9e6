/- Plain facts of rows. -/
import Derived.Test.YtamicpfjieandaaAbY
namespace Go.Ab
open Go
theorem any_at {α : Type} {p : α → Bool} {l : List α} {i : Nat} {x : α} (h : l[i]? = some x) (hp : p x = true) : l.any p = true := List.any_eq_true.2 ⟨x, List.mem_of_getElem? h, hp⟩
theorem any_none {α : Type} {p : α → Bool} {l : List α} (h : ∀ x ∈ l, p x = false) : l.any p = false := List.any_eq_false.2 fun x hx => by rw [h x hx]; decide
theorem any_dq_t {α : Type} {l : List α} {s : α} : (l.any fun y => dq y s) = true ↔ s ∈ l := by
  rw [List.any_eq_true]
  exact ⟨fun ⟨x, h1, h2⟩ => dq_t.1 h2 ▸ h1, fun h => ⟨s, h, dq_self s⟩⟩
theorem any_dq_f {α : Type} {l : List α} {s : α} : (l.any fun y => dq y s) = false ↔ ¬ s ∈ l := by
  rw [← any_dq_t (l := l), Bool.not_eq_true]
attribute [go_sem] any_dq_t any_dq_f Int.toNat_zero
theorem firstAt_ge {α : Type} {p : α → Bool} {l : List α} (h : ¬ firstAt p l < 0) : ∃ i : Nat, firstAt p l = i ∧ i < l.length := by
  have := firstAt_lt (p := p) (l := l)
  exact ⟨(firstAt p l).toNat, by omega, by omega⟩
theorem find_firstAt {α : Type} {p : α → Bool} : ∀ {l : List α} {i : Nat}, firstAt p l = i → l.find? p = l[i]?
  | [], i, h => by simp only [firstAt] at h; omega
  | x :: l, i, h => by
    simp only [firstAt] at h
    split at h
    · rename_i hp
      obtain rfl : i = 0 := by omega
      rw [List.find?_cons_of_pos hp]; rfl
    · rename_i hp
      split at h
      · omega
      · obtain ⟨j, hj, _⟩ := firstAt_ge (p := p) (l := l) (by omega)
        obtain rfl : i = j + 1 := by omega
        simp only [List.getElem?_cons_succ, List.find?_cons]
        rw [← find_firstAt hj]
        simp [hp]
theorem find_none_firstAt {α : Type} {p : α → Bool} : ∀ {l : List α}, firstAt p l < 0 → l.find? p = none
  | [], _ => rfl
  | x :: l, h => by
    simp only [firstAt] at h
    split at h
    · omega
    · rename_i hp
      split at h
      · rename_i h2; rw [List.find?_cons_of_neg (by simpa using hp), find_none_firstAt h2]
      · omega
end Go.Ab
