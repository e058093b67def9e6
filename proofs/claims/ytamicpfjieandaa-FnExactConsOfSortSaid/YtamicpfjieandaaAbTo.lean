/- Trees opened and closed. -/
import Derived.Test.YtamicpfjieandaaAbTc
namespace Go.Ab
open Go
set_option linter.unusedVariables false
set_option linter.unusedSimpArgs false
/-- Cells of data, as they are held when the rows among them are trees of their own. -/
inductive COp : List D → List A → List (Value × D) → Prop
  | nil : COp [] [] []
  | v {ds as L} (x : Value) : COp ds as L → COp (.v x :: ds) (.d (.v x) :: as) L
  | lst {ds as L} (r : Value) (l : List D) : COp ds as L → COp (.lst l :: ds) (.raw r :: as) ((r, .lst l) :: L)
/-- Elements, so held. -/
inductive Opd (ag : Bool) : List D → List A → List (Value × D) → Prop
  | nil : Opd ag [] [] []
  | cons {d l cs L Lc Ls} : COp d.cells cs Lc → Opd ag l L Ls → Opd ag (d :: l) (mkE ag cs :: L) (Lc ++ Ls)
theorem COp.len {ds as L} (h : COp ds as L) : ds.length = as.length := by
  induction h with
  | nil => rfl
  | v x _ ih => simp [ih]
  | lst r l _ ih => simp [ih]
theorem COp.app {ds as L} (h : COp ds as L) {ds' as' L'} (h' : COp ds' as' L') : COp (ds ++ ds') (as ++ as') (L ++ L') := by
  induction h with
  | nil => exact h'
  | v x _ ih => exact .v x ih
  | lst r l _ ih => exact .lst r l ih
theorem pack_cells (l : List A) : (pack l).cells = l := by
  unfold pack
  split
  · rename_i r e; rw [unDs_spec e]; rfl
  · rfl
theorem COp.mkE_cells {ag : Bool} {ds as L} (h : COp ds as L) (h1 : ag = false → ds.length = 1) : (mkE ag as).cells = as := by
  cases ag with
  | true =>
    have : mkE true as = pack as := by cases as with
      | nil => rfl
      | cons x l => cases l <;> rfl
    rw [this, pack_cells]
  | false =>
    have := h1 rfl
    cases h with
    | nil => simp at this
    | v x h =>
      cases h with
      | nil => rfl
      | v => simp at this
      | lst => simp at this
    | lst r l h =>
      cases h with
      | nil => rfl
      | v => simp at this
      | lst => simp at this
theorem Opd.len {ag : Bool} {l L Ls} (h : Opd ag l L Ls) : l.length = L.length := by
  induction h with
  | nil => rfl
  | cons _ _ ih => simp [ih]
theorem Opd.flat {ag : Bool} {l L Ls} (h : Opd ag l L Ls) (h1 : ∀ d ∈ l, ag = false → d.cells.length = 1) : COp (l.flatMap D.cells) (L.flatMap A.cells) Ls := by
  induction h with
  | nil => exact .nil
  | cons hc _ ih =>
    rw [List.flatMap_cons, List.flatMap_cons, hc.mkE_cells (h1 _ List.mem_cons_self)]
    exact hc.app (ih fun d hd => h1 d (List.mem_cons_of_mem _ hd))
theorem Opd.cells {ag : Bool} {l L Ls} (h : Opd ag l L Ls) {sz : Nat} (h1 : ∀ d ∈ l, ag = false → d.cells.length = 1) (h2 : ∀ d ∈ l, d.cells.length = sz) : ∀ x ∈ L, x.cells.length = sz := by
  induction h with
  | nil => intro x hx; cases hx
  | cons hc _ ih =>
    intro x hx
    rcases List.mem_cons.1 hx with rfl | hx
    · rw [hc.mkE_cells (h1 _ List.mem_cons_self), ← hc.len]; exact h2 _ List.mem_cons_self
    · exact ih (fun d hd => h1 d (List.mem_cons_of_mem _ hd)) (fun d hd => h2 d (List.mem_cons_of_mem _ hd)) x hx
theorem Opd.app {ag : Bool} {l L Ls} (h : Opd ag l L Ls) {l' L' Ls'} (h' : Opd ag l' L' Ls') : Opd ag (l ++ l') (L ++ L') (Ls ++ Ls') := by
  induction h with
  | nil => exact h'
  | cons hc _ ih => rw [List.cons_append, List.cons_append, List.append_assoc]; exact .cons hc ih
section
variable {w w' : World} {I I' : Im} {G G' : List Gh}
theorem copen {Fs : Nat → Nat → Prop} {xs : Nat → Value} (hdis : ∀ i j k, i ≠ j → Fs i k → ¬ Fs j k) : ∀ (ds : List D) (off : Nat), (∀ j d, ds[j]? = some d → TreeV w (Fs (off + j)) (xs (off + j)) d ∧ (xs (off + j)).oneCell' = true) →
    ∃ as L, COp ds as L ∧ VAs w I G ((List.range ds.length).map fun j => xs (off + j)) as ∧ Forest w (fun b => ∃ j, off ≤ j ∧ j < off + ds.length ∧ Fs j b) L
  | [], off, h => ⟨[], [], .nil, .nil, Forest.mt _⟩
  | d :: ds, off, h => by
    obtain ⟨as, L, h1, h2, h3⟩ := copen hdis ds (off + 1) (fun j d' e => by
      have := h (j + 1) d' (by simpa using e)
      rwa [show off + (j + 1) = off + 1 + j by omega] at this)
    have h0 := h 0 d rfl
    rw [Nat.add_zero] at h0
    have hr : ((List.range (d :: ds).length).map fun j => xs (off + j)) = xs off :: ((List.range ds.length).map fun j => xs (off + 1 + j)) := by
      rw [List.length_cons, List.range_succ_eq_map, List.map_cons, List.map_map]
      congr 1
      apply List.map_congr_left
      intro j _
      simp only [Function.comp]
      congr 1; omega
    have hF : Forest w (fun b => ∃ j, off ≤ j ∧ j < off + (d :: ds).length ∧ Fs j b) L := h3.wide fun b ⟨j, a1, a2, a3⟩ => ⟨j, by omega, by simp only [List.length_cons]; omega, a3⟩
    have hone : ∀ {l : List D}, d = .lst l → VA w I G (xs off) (.raw (xs off)) ∧ Forest w (fun b => ∃ j, off ≤ j ∧ j < off + (d :: ds).length ∧ Fs j b) ((xs off, .lst l) :: L) := fun {l} e => by
      subst e
      refine ⟨.raw _ h0.2, ?_⟩
      have := Forest.app (Forest.one h0.2 h0.1) h3 fun b h1 ⟨j, a1, a2, a3⟩ => hdis off j b (by omega) h1 a3
      exact this.wide fun b hb => by
        rcases hb with hb | ⟨j, a1, a2, a3⟩
        · exact ⟨off, by omega, by simp only [List.length_cons]; omega, hb⟩
        · exact ⟨j, by omega, by simp only [List.length_cons]; omega, a3⟩
    cases d with
    | v x =>
      have hx : xs off = x ∧ sc x = true := by
        have h4 := h0.1
        generalize xs off = y at h4
        cases h4 with
        | v _ _ h5 => exact ⟨rfl, h5⟩
      rw [hr]
      exact ⟨.d (.v x) :: as, L, .v x h1, .cons (by rw [hx.1]; exact .d (.v x hx.2)) h2, hF⟩
    | lst l =>
      rw [hr]
      exact ⟨_, _, .lst (xs off) l h1, .cons (hone rfl).1 h2, (hone rfl).2⟩
    | agg l =>
      exfalso
      have h4 := h0.1
      generalize xs off = y at h4
      cases h4
theorem oopen {ag : Bool} {Fs : Nat → Nat → Prop} {xs : Nat → Value} (hdis : ∀ i j k, i ≠ j → Fs i k → ¬ Fs j k) : ∀ (l : List D) (off : Nat), (∀ d ∈ l, ag = false → d.cells.length = 1) → (∀ j d, (l.flatMap D.cells)[j]? = some d → TreeV w (Fs (off + j)) (xs (off + j)) d ∧ (xs (off + j)).oneCell' = true) →
    ∃ L Ls, Opd ag l L Ls ∧ VAs w I G ((List.range (l.flatMap D.cells).length).map fun j => xs (off + j)) (L.flatMap A.cells) ∧ Forest w (fun b => ∃ j, off ≤ j ∧ j < off + (l.flatMap D.cells).length ∧ Fs j b) Ls
  | [], off, _, _ => ⟨[], [], .nil, .nil, Forest.mt _⟩
  | d :: l, off, h1, h => by
    obtain ⟨as, La, a1, a2, a3⟩ := copen (I := I) (G := G) hdis d.cells off (fun j d' e => h j d' (by rw [List.flatMap_cons, List.getElem?_append_left (List.getElem?_eq_some_iff.1 e).1]; exact e))
    obtain ⟨L, Ls, b1, b2, b3⟩ := oopen (ag := ag) hdis l (off + d.cells.length) (fun d hd => h1 d (List.mem_cons_of_mem _ hd)) (fun j d' e => by
      have := h (d.cells.length + j) d' (by rw [List.flatMap_cons, List.getElem?_append_right (by omega), Nat.add_sub_cancel_left]; exact e)
      rwa [← Nat.add_assoc] at this)
    refine ⟨mkE ag as :: L, La ++ Ls, .cons a1 b1, ?_, ?_⟩
    · rw [List.flatMap_cons, List.flatMap_cons, a1.mkE_cells (h1 d List.mem_cons_self), List.length_append, List.range_add, List.map_append, List.map_map]
      refine a2.append ?_
      have : (List.range (l.flatMap D.cells).length).map ((fun j => xs (off + j)) ∘ fun x => d.cells.length + x) = (List.range (l.flatMap D.cells).length).map fun j => xs (off + d.cells.length + j) := by
        apply List.map_congr_left
        intro j _
        simp only [Function.comp]
        congr 1; omega
      rw [this]; exact b2
    · refine (Forest.app a3 b3 fun b ⟨i, p1, p2, p3⟩ ⟨j, q1, q2, q3⟩ => hdis i j b (by omega) p3 q3).wide fun b hb => ?_
      rw [List.flatMap_cons, List.length_append]
      rcases hb with ⟨j, p1, p2, p3⟩ | ⟨j, p1, p2, p3⟩
      · exact ⟨j, p1, by omega, p3⟩
      · exact ⟨j, by omega, by omega, p3⟩
theorem cclose : ∀ {ds as L}, COp ds as L → ∀ {vals : List Value} {F : Nat → Prop}, VAs w I G vals as → Forest w F L →
    ∃ Fs : Nat → Nat → Prop, (∀ (j : Nat) (d : D), ds[j]? = some d → ∃ x : Value, vals[j]? = some x ∧ x.oneCell' = true ∧ TreeV w (Fs j) x d) ∧ (∀ j k, Fs j k → F k) ∧ ∀ i j k, i ≠ j → Fs i k → ¬ Fs j k
  | _, _, _, .nil, _, _, _, _ => ⟨fun _ _ => False, fun j d e => by simp at e, fun _ _ h => h.elim, fun _ _ _ _ h => h.elim⟩
  | _, _, _, .v x h, _, _, .cons (x := y) g1 g2, hF => by
    obtain ⟨Fs, h1, h2, h3⟩ := cclose h g2 hF
    have hx : sc x = true := by
      cases g1 with
      | d h => cases h with
        | v _ h => exact h
    obtain rfl := g1.inv_v
    refine ⟨fun j k => match j with | 0 => False | j + 1 => Fs j k, fun j d e => ?_, fun j k hk => ?_, fun i j k hij hi hj => ?_⟩
    · cases j with
      | zero => simp at e; subst e; exact ⟨_, rfl, sc_one hx, .v _ _ hx⟩
      | succ j => simpa using h1 j d (by simpa using e)
    · cases j with
      | zero => exact hk.elim
      | succ j => exact h2 j k hk
    · cases i with
      | zero => exact hi.elim
      | succ i => cases j with
        | zero => exact hj.elim
        | succ j => exact h3 i j k (by omega) hi hj
  | _, _, _, .lst (L := L) r l h, _, _, .cons (x := y) g1 g2, hF => by
    have hF' : Forest w _ ([(r, .lst l)] ++ L) := hF
    obtain ⟨F1, F2, f1, f2, s1, s2, hd⟩ := hF'.split
    obtain ⟨Fs, h1, h2, h3⟩ := cclose h g2 f2
    obtain ⟨o1, t1⟩ := f1.mem (v := r) (d := .lst l) List.mem_cons_self
    have hy : y = r := by cases g1; rfl
    subst hy
    refine ⟨fun j k => match j with | 0 => F1 k | j + 1 => Fs j k, fun j d e => ?_, fun j k hk => ?_, fun i j k hij hi hj => ?_⟩
    · cases j with
      | zero => simp at e; subst e; exact ⟨_, rfl, o1, t1⟩
      | succ j => simpa using h1 j d (by simpa using e)
    · cases j with
      | zero => exact s1 k hk
      | succ j => exact s2 k (h2 j k hk)
    · cases i with
      | zero => cases j with
        | zero => exact hij rfl
        | succ j => exact hd k hi (h2 j k hj)
      | succ i => cases j with
        | zero => exact hd k hj (h2 i k hi)
        | succ j => exact h3 i j k (by omega) hi hj
end
end Go.Ab
