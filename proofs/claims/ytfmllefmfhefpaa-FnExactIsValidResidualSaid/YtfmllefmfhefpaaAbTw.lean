/- A function that gives a row of no element with room. -/
import Derived.Test.YtfmllefmfhefpaaAbTy
namespace Go.Ab
open Go
set_option linter.unusedVariables false
theorem plain_str (l : List ByteArray) : Plain (l.map D.str) = True := eq_true fun x hx c hc => by
  obtain ⟨y, _, rfl⟩ := List.mem_map.1 hx
  simp [D.cells] at hc; subst hc; rfl
theorem plain_int (l : List Int) : Plain (l.map D.int) = True := eq_true fun x hx c hc => by
  obtain ⟨y, _, rfl⟩ := List.mem_map.1 hx
  simp [D.cells] at hc; subst hc; rfl
attribute [go_sem] plain_str plain_int
theorem app_fresh {w : World} {I : Im} {t sz cap : Nat} {Z : Array Value} (hI : ∀ b j, I b j → b < w.heap.size) (hc : cap ≤ maxLen) (hZ : Z.size = cap * sz) (h1 : ∀ x ∈ Z.toList, ∀ a n c, x = .slice (some a) n c → n = 0) :
    ObjR (w.drew.alloc (.cells Z t)) I [⟨.slice (some ⟨w.heap.size, 0, none⟩) 0 cap, fun b => b = w.heap.size⟩] ⟨.slice (some ⟨w.heap.size, 0, none⟩) 0 cap, fun b => b = w.heap.size⟩ (.app t sz true) := by
  refine .inr (.inr ⟨w.heap.size, 0, cap, Z, rfl, ?_, Nat.zero_le _, hc, hZ, rfl, fun j _ hi => absurd (hI _ _ hi) (Nat.lt_irrefl _), fun _ => ⟨fun _ _ => False, fun j x e => .one _ _ (h1 x (by simpa using Array.mem_of_getElem? e)), fun _ _ h => h.elim, fun _ _ _ _ h => h.elim⟩⟩)
  show (w.heap.push _)[w.heap.size]? = _
  simp
theorem Ct.fresh {P : Program} {f : FuncId} {args : List A} {t sz : Nat} (hh : Has P f) (H : ∀ (w : World) (I : Im) (G : List Gh) (vs : List Value), VAs w I G vs args → RelH w I G [] → Calls P f vs.toArray w fun e w' => (e = .returned (.slice none 0 0) ∧ w' = w) ∨
      ∃ cap Z, e = .returned (.slice (some ⟨w.heap.size, 0, none⟩) 0 cap) ∧ w' = w.drew.alloc (.cells Z t) ∧ cap ≤ maxLen ∧ Z.size = cap * sz ∧ ∀ x ∈ Z.toList, ∀ a n c, x = .slice (some a) n c → n = 0) :
    Ct P f args [] (fun _ : Unit => True) (fun _ => .own 0 []) (fun _ => [.app t sz true]) := by
  refine ⟨hh, fun w I G vs hvs hrel => (H w I G vs hvs hrel).mono ?_⟩
  have hG0 : G.length = 0 := hrel.len
  have hin : ∀ b j, I b j → b < w.heap.size := fun b j hi => by
    obtain ⟨y, hy⟩ := hrel.imm b j hi
    exact cell_lt hy
  rintro e w' (⟨rfl, rfl⟩ | ⟨cap, Z, rfl, rfl, hc, hZ, h1⟩)
  · refine ⟨_, rfl, (), trivial, I, [⟨.slice none 0 0, fun _ => False⟩], .own 0 [] _ rfl rfl .lnil, ⟨rfl, fun k g o e1 e2 => ?_, fun i j gi gj b e1 e2 hij h => ?_, fun k g b e h => ?_, hrel.imm⟩,
      ⟨rfl, rfl, rfl, Nat.le_refl _, fun b _ _ => rfl, fun b j h => ⟨h, rfl⟩, fun b j h => .inl h, fun k g b e h => ?_⟩, Nat.zero_le _, fun k g o e e2 => by simp at e2⟩
    · cases k with
      | zero => simp at e1 e2; subst e1; subst e2; exact .inl ⟨rfl, fun _ h => h⟩
      | succ k => simp at e2
    · cases i with
      | zero => simp at e1; subst e1; exact h.elim
      | succ i => simp at e1
    · cases k with
      | zero => simp at e; subst e; exact h.elim
      | succ k => simp at e
    · cases k with
      | zero => simp at e; subst e; exact h.elim
      | succ k => simp at e
  · have hold : ∀ b, b < w.heap.size → (w.drew.alloc (.cells Z t)).heap[b]? = w.heap[b]? := fun b hb => by
      show (w.heap.push _)[b]? = _
      rw [Array.getElem?_push, if_neg (by omega)]
    have hcell : ∀ b j, I b j → (w.drew.alloc (.cells Z t)).cell? ⟨b, j, none⟩ = w.cell? ⟨b, j, none⟩ := fun b j hi => by
      have := hold b (hin b j hi)
      unfold World.cell?
      simp only [this]
    refine ⟨_, rfl, (), trivial, I, [⟨.slice (some ⟨w.heap.size, 0, none⟩) 0 cap, fun b => b = w.heap.size⟩], .own 0 [] _ rfl rfl (.lemp _ _), ⟨rfl, fun k g o e1 e2 => ?_, fun i j gi gj b e1 e2 hij h => ?_, fun k g b e h => ?_, fun b j hi => ?_⟩,
      ⟨rfl, rfl, rfl, ?_, fun b hb _ => hold b hb, fun b j h => ⟨h, hcell b j h⟩, fun b j h => .inl h, fun k g b e h => ?_⟩, Nat.zero_le _, fun k g o e e2 => by simp at e2⟩
    · cases k with
      | zero => simp at e1 e2; subst e1; subst e2; exact app_fresh hin hc hZ h1
      | succ k => simp at e2
    · cases i <;> cases j <;> simp at e1 e2 hij
    · cases k with
      | zero => simp at e; subst e; subst h; show w.heap.size < (w.heap.push _).size; simp
      | succ k => simp at e
    · rw [hcell b j hi]; exact hrel.imm b j hi
    · show w.heap.size ≤ (w.heap.push _).size
      simp
    · cases k with
      | zero => simp at e; subst e; exact .inr (Nat.le_of_eq h.symm)
      | succ k => simp at e
end Go.Ab
