/- Trees owned whole: what they are to who reads them, and calls that are handed some of them. -/
import Derived.Test.YtamicpfjieandaaAbPs
namespace Go.Ab
open Go
set_option linter.unusedVariables false
set_option linter.unusedSimpArgs false
section
variable {w w' : World} {I I' : Im} {G G' : List Gh} {c : Cx} {s s' : St} {a : Act}
theorem vdc_idx {b : Nat} : ∀ {L : List D} {off : Nat}, (∀ (j : Nat) (d : D), L[j]? = some d → ∃ x, w.cell? ⟨b, off + j, none⟩ = some x ∧ I b (off + j) ∧ x.oneCell' = true ∧ VD w I x d) → VDc w I b off L
  | [], off, _ => .nil b off
  | d :: L, off, h => by
    obtain ⟨x, h1, h2, h3, h4⟩ := h 0 d rfl
    exact .cons h1 h2 h3 h4 (vdc_idx fun j d' e => by
      obtain ⟨y, f1, f2, f3, f4⟩ := h (j + 1) d' (by simpa using e)
      exact ⟨y, by rw [show off + 1 + j = off + (j + 1) by omega]; exact f1, by rw [show off + 1 + j = off + (j + 1) by omega]; exact f2, f3, f4⟩)
/-- A tree is data to those who may read its blocks. -/
theorem TreeV.vd : ∀ {F : Nat → Prop} {v : Value} {d : D}, TreeV w F v d → (∀ b j x, F b → w.cell? ⟨b, j, none⟩ = some x → I b j) → VD w I v d
  | _, _, _, .v F x h, _ => .v x h
  | _, _, _, .nil F, _ => .lnil
  | _, _, _, .emp F a c, _ => .lemp a c
  | _, _, _, .lst F Fs xs b n c t cs l hb hh hn hc h1 h2 h4 h5, hI =>
    .lst b 0 n c l hn hc (vdc_idx fun j d e => by
      obtain ⟨f1, f2⟩ := h1 j d e
      have hcell : w.cell? ⟨b, 0 + j, none⟩ = some (xs j) := by rw [Nat.zero_add, cell_in hh]; exact f1
      exact ⟨xs j, hcell, hI b _ _ hb hcell, f2, (h2 j d e).vd fun b' j' x hF hx => hI b' j' x (h4 j b' hF).1 hx⟩)
theorem vdc_at {b : Nat} : ∀ {L : List D} {off : Nat}, VDc w I b off L → ∀ {j : Nat} {d : D}, L[j]? = some d → ∃ x, w.cell? ⟨b, off + j, none⟩ = some x ∧ x.oneCell' = true ∧ VD w I x d
  | _, _, .nil b off, j, d, e => by simp at e
  | _, _, .cons h1 h2 h3 h4 h5, 0, d, e => by simp at e; subst e; exact ⟨_, h1, h3, h4⟩
  | _, _, .cons (off := off) h1 h2 h3 h4 h5, j + 1, d, e => by
    obtain ⟨x, f1, f2, f3⟩ := vdc_at h5 (j := j) (by simpa using e)
    exact ⟨x, by rw [show off + (j + 1) = off + 1 + j by omega]; exact f1, f2, f3⟩
/-- What is read and lies in blocks of one's own is a tree of one's own. -/
theorem tree_of : ∀ {F : Nat → Prop} {x : Value}, Shp w F x → ∀ {d : D}, VD w I x d → x.oneCell' = true → TreeV w F x d
  | _, _, .one F x h, d, hd, h1 => by
    cases hd with
    | v x h2 => exact .v F x h2
    | agg cs l h2 => simp [Value.oneCell'] at h1
    | lnil => exact .nil F
    | lemp a c => exact .emp F a c
    | lst b off n cap l e1 e2 e3 =>
      have h0 := h _ _ _ rfl
      subst h0
      have : l = [] := List.length_eq_zero_iff.1 e1.symm
      subst this
      exact .emp F _ _
  | _, _, .slc F Fs b n c t cs hb hh h2 h3 h4, d, hd, h1 => by
    cases hd with
    | v x h5 => simp [sc] at h5
    | lemp a c => exact .emp F _ _
    | lst b off n cap l e1 e2 e3 =>
      have key : ∀ (j : Nat) (d : D), (l.flatMap D.cells)[j]? = some d → cs[j]? = some (cs.getD j undef) ∧ (cs.getD j undef).oneCell' = true ∧ VD w I (cs.getD j undef) d := fun j d e => by
        obtain ⟨x, f1, f2, f3⟩ := vdc_at e3 e
        rw [Nat.zero_add, cell_in hh] at f1
        have : cs.getD j undef = x := by rw [Array.getD_eq_getD_getElem?, f1]; rfl
        rw [this]
        exact ⟨f1, f2, f3⟩
      exact .lst F Fs (fun j => cs.getD j undef) b n _ t cs l hb hh e1 e2 (fun j d e => ⟨(key j d e).1, (key j d e).2.1⟩) (fun j d e => tree_of (h2 j _ (key j d e).1) (key j d e).2.2 (key j d e).2.1) h3 h4
theorem TreeV.wide : ∀ {F F' : Nat → Prop} {v : Value} {d : D}, TreeV w F v d → (∀ b, F b → F' b) → TreeV w F' v d
  | _, F', _, _, .v _ x h, _ => .v F' x h
  | _, F', _, _, .nil _, _ => .nil F'
  | _, F', _, _, .emp _ a c, _ => .emp F' a c
  | _, F', _, _, .lst _ Fs xs b n c t cs l hb hh hn hc h1 h2 h4 h5, hF => .lst F' Fs xs b n c t cs l (hF b hb) hh hn hc h1 h2 (fun j k hk => ⟨hF k (h4 j k hk).1, (h4 j k hk).2⟩) h5
/-! ### Forests -/
theorem Forest.mt (F : Nat → Prop) : Forest w F [] := ⟨fun _ _ => False, fun m v d e => by simp at e, fun _ _ h => h.elim, fun _ _ _ _ h => h.elim⟩
theorem Forest.wide {F F' : Nat → Prop} {l : List (Value × D)} (h : Forest w F l) (hF : ∀ b, F b → F' b) : Forest w F' l := by
  obtain ⟨Fs, h1, h2, h3⟩ := h
  exact ⟨Fs, h1, fun m k hk => hF k (h2 m k hk), h3⟩
theorem Forest.app {F1 F2 : Nat → Prop} {l1 l2 : List (Value × D)} (h1 : Forest w F1 l1) (h2 : Forest w F2 l2) (hd : ∀ b, F1 b → ¬ F2 b) : Forest w (fun b => F1 b ∨ F2 b) (l1 ++ l2) := by
  obtain ⟨A, a1, a2, a3⟩ := h1
  obtain ⟨B, b1, b2, b3⟩ := h2
  refine ⟨fun m k => if m < l1.length then A m k else B (m - l1.length) k, fun m v d e => ?_, fun m k hk => ?_, fun i j k hij hi hj => ?_⟩
  · by_cases hm : m < l1.length
    · simp only [hm, if_true]
      rw [List.getElem?_append_left hm] at e
      exact a1 m v d e
    · simp only [hm, if_false]
      rw [List.getElem?_append_right (by omega)] at e
      exact b1 _ v d e
  · by_cases hm : m < l1.length
    · simp only [hm, if_true] at hk; exact .inl (a2 m k hk)
    · simp only [hm, if_false] at hk; exact .inr (b2 _ k hk)
  · by_cases h1 : i < l1.length <;> by_cases h2 : j < l1.length <;> simp only [h1, h2, if_true, if_false] at hi hj
    · exact a3 i j k hij hi hj
    · exact hd k (a2 _ k hi) (b2 _ k hj)
    · exact hd k (a2 _ k hj) (b2 _ k hi)
    · exact b3 _ _ k (by omega) hi hj
theorem Forest.split {F : Nat → Prop} {l1 l2 : List (Value × D)} (h : Forest w F (l1 ++ l2)) : ∃ F1 F2 : Nat → Prop, Forest w F1 l1 ∧ Forest w F2 l2 ∧ (∀ b, F1 b → F b) ∧ (∀ b, F2 b → F b) ∧ ∀ b, F1 b → ¬ F2 b := by
  obtain ⟨A, a1, a2, a3⟩ := h
  refine ⟨fun b => ∃ m, m < l1.length ∧ A m b, fun b => ∃ m, l1.length ≤ m ∧ A m b, ⟨fun m k => m < l1.length ∧ A m k, fun m v d e => ?_, fun m k hk => ⟨m, hk⟩, fun i j k hij hi hj => a3 i j k hij hi.2 hj.2⟩,
    ⟨fun m k => A (l1.length + m) k, fun m v d e => ?_, fun m k hk => ⟨_, Nat.le_add_right _ _, hk⟩, fun i j k hij hi hj => a3 _ _ k (by omega) hi hj⟩, fun b ⟨m, _, h⟩ => a2 m b h, fun b ⟨m, _, h⟩ => a2 m b h, fun b ⟨m, h1, h2⟩ ⟨n, h3, h4⟩ => a3 m n b (by omega) h2 h4⟩
  · have hm := (List.getElem?_eq_some_iff.1 e).1
    obtain ⟨f1, f2⟩ := a1 m v d (by rw [List.getElem?_append_left hm]; exact e)
    exact ⟨f1, f2.wide fun b hb => ⟨hm, hb⟩⟩
  · exact a1 _ v d (by rw [List.getElem?_append_right (by omega), Nat.add_sub_cancel_left]; exact e)
theorem Forest.one {F : Nat → Prop} {v : Value} {d : D} (h1 : v.oneCell' = true) (h : TreeV w F v d) : Forest w F [(v, d)] :=
  ⟨fun m k => m = 0 ∧ F k, fun m v' d' e => by
    cases m with
    | zero => simp at e; obtain ⟨rfl, rfl⟩ := e; exact ⟨h1, h.wide fun b hb => ⟨rfl, hb⟩⟩
    | succ m => simp at e, fun m k hk => hk.2, fun i j k hij hi hj => hij (hi.1.trans hj.1.symm)⟩
theorem Forest.mem {F : Nat → Prop} {l : List (Value × D)} (h : Forest w F l) {v : Value} {d : D} (hm : (v, d) ∈ l) : v.oneCell' = true ∧ TreeV w F v d := by
  obtain ⟨Fs, h1, h2, _⟩ := h
  obtain ⟨m, hm⟩ := List.mem_iff_getElem?.1 hm
  exact ⟨(h1 m v d hm).1, (h1 m v d hm).2.wide fun b hb => h2 m b hb⟩
end
end Go.Ab
