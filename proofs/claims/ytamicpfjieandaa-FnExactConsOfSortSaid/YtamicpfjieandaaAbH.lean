/- Structs out of parts; how a world that grows or is written holds what it held. -/
import Derived.Test.YtamicpfjieandaaAbG
namespace Go.Ab
open Go
set_option linter.unusedVariables false
set_option linter.unusedSimpArgs false
section
variable {P : Program} {T : Ty} {w : World} {I : Im} {G : List Gh}
theorem zs_one : ∀ {xs : List Value} {l : List A}, ZsOk xs l → ∀ x ∈ xs, x.oneCell' = true
  | [], [], _, x, h => by cases h
  | [], _ :: _, h, _, _ => h.elim
  | _ :: _, [], h, _, _ => h.elim
  | y :: xs, a :: l, h, x, hx => by
    cases hx with
    | head =>
      have h1 := h.1
      unfold ZOk at h1
      split at h1
      · rw [h1]; rfl
      · rw [h1.1]; exact sc_one h1.2
      · exact h1.elim
    | tail _ hx => exact zs_one h.2 x hx
theorem zs_flat : ∀ {xs : List Value} {l : List A}, ZsOk xs l → ∀ x ∈ xs, ∀ a n c, x = .slice (some a) n c → n = 0
  | [], [], _, x, h => by cases h
  | [], _ :: _, h, _, _ => h.elim
  | _ :: _, [], h, _, _ => h.elim
  | y :: xs, a :: l, h, x, hx => by
    cases hx with
    | head =>
      have h1 := h.1
      unfold ZOk at h1
      split at h1
      · intro a n c e; rw [h1] at e; cases e
      · intro a n c e; rw [h1.1] at e; exact absurd e (sc_slice h1.2 _ _ _)
      · exact h1.elim
    | tail _ hx => exact zs_flat h.2 x hx
theorem zs_as : ∀ {xs : List Value} {l : List A}, ZsOk xs l → VAs w I G xs l
  | [], [], _ => .nil
  | [], _ :: _, h => h.elim
  | _ :: _, [], h => h.elim
  | y :: xs, a :: l, h => by
    refine .cons ?_ (zs_as h.2)
    have h1 := h.1
    unfold ZOk at h1
    split at h1
    · rw [h1]; exact .nil
    · obtain ⟨rfl, h2⟩ := h1; exact .d (.v _ h2)
    · exact h1.elim
theorem VAs.splice {xs ys : List Value} {l c : List A} (h : VAs w I G xs l) (h2 : VAs w I G ys c) (o : Nat) : VAs w I G (xs.take o ++ ys ++ xs.drop (o + ys.length)) (splice l o c) := by
  unfold Ab.splice
  rw [h2.len]
  exact ((h.take o).append h2).append (h.drop _)
theorem fold_set (off : Nat) : ∀ (ys : List Value) (k : Nat) (cs : Array Value), off + k + ys.length ≤ cs.size →
    ((ys.zipIdx k).foldl (fun (cs : Array Value) (c, j) => cs.setIfInBounds (off + j) c) cs).toList = cs.toList.take (off + k) ++ ys ++ cs.toList.drop (off + k + ys.length)
  | [], k, cs, _ => by simp
  | y :: ys, k, cs, h => by
    simp only [List.length_cons] at h
    have hlt : off + k < cs.size := by omega
    rw [List.zipIdx_cons, List.foldl_cons, fold_set off ys (k + 1) _ (by rw [Array.size_setIfInBounds]; omega)]
    simp only [Array.toList_setIfInBounds]
    rw [show off + (k + 1) = off + k + 1 by omega]
    have hl : off + k < cs.toList.length := by simpa using hlt
    have e1 : (cs.toList.set (off + k) y).take (off + k + 1) = cs.toList.take (off + k) ++ [y] := by
      rw [List.take_succ_eq_append_getElem (by simpa using hl), List.take_set_of_le (Nat.le_refl _)]; simp
    have e2 : (cs.toList.set (off + k) y).drop (off + k + 1 + ys.length) = cs.toList.drop (off + k + 1 + ys.length) := List.drop_set_of_lt (by omega)
    rw [e1, e2]
    simp [Nat.add_assoc, Nat.add_comm 1]
/-- The places of a struct's fields, as the model asks for them. -/
theorem places_ok : ∀ {fs : List Field} {is : List FI}, FsOk P fs is → fs.mapM (fun f => (P.info? f.type).map fun i => (f.offset, i.size)) = some (is.map fun i => (i.off, i.sz))
  | [], [], _ => rfl
  | [], _ :: _, h => h.elim
  | _ :: _, [], h => h.elim
  | f :: fs, i :: is, h => by
    obtain ⟨⟨h1, h2, _, _, _, z, hz⟩, h3⟩ := h
    have hs : z.size = i.sz := by simpa [Program.cellsOf, hz] using h2
    simp [List.mapM_cons, hz, places_ok h3, h1, hs]
theorem fill_ok {fs : List FI} : ∀ {parts : List (Nat × Value)} {ap : List (Nat × A)} {cs : Array Value} {l r : List A}, VAs w I G (parts.map (·.2)) (ap.map (·.2)) → parts.map (·.1) = ap.map (·.1) →
    VAs w I G cs.toList l → (∀ x ∈ cs.toList, x.oneCell' = true) → fillA T fs l ap = some r →
    ∃ cs' : Array Value, Instr.fill (fun i => (fs.map fun i => (i.off, i.sz))[i]?) cs parts = some cs' ∧ VAs w I G cs'.toList r ∧ (∀ x ∈ cs'.toList, x.oneCell' = true)
  | [], [], cs, l, r, _, _, h1, h2, h => by
    simp only [fillA] at h; cases h
    exact ⟨cs, rfl, h1, h2⟩
  | [], _ :: _, _, _, _, h, _, _, _, _ => by cases h
  | _ :: _, [], _, _, _, h, _, _, _, _ => by cases h
  | (i, v) :: parts, (i', a) :: ap, cs, l, r, hv, hi, h1, h2, h => by
    cases hv with
    | cons hv hvs =>
      simp only [List.map_cons, List.cons.injEq] at hi
      obtain ⟨rfl, hi⟩ := hi
      simp only [fillA] at h
      split at h
      · rename_i f x ef ex
        split at h
        · rename_i hc
          obtain ⟨c1, c2⟩ := hc
          obtain ⟨hx, hx1⟩ := VA.cells hv ex
          have hsz : v.cells.size = f.sz := by
            have := hx.len; simp at this; omega
          have hcl : cs.size = l.length := by
            have := h1.len; simpa using this
          have hfold := fold_set f.off v.cells.toList 0 cs (by simp; omega)
          simp only [Nat.add_zero] at hfold
          have hnext := h1.splice hx f.off
          rw [← hfold] at hnext
          have hone : ∀ y ∈ ((v.cells.toList.zipIdx 0).foldl (fun (cs : Array Value) (c, j) => cs.setIfInBounds (f.off + j) c) cs).toList, y.oneCell' = true := by
            rw [hfold]
            intro y hy
            rcases List.mem_append.1 hy with hy | hy
            · rcases List.mem_append.1 hy with hy | hy
              · exact h2 y (List.mem_of_mem_take hy)
              · exact hx1 y hy
            · exact h2 y (List.mem_of_mem_drop hy)
          obtain ⟨cs', e1, e2, e3⟩ := fill_ok hvs hi hnext hone h
          refine ⟨cs', ?_, e2, e3⟩
          have hb : (decide (v.cells.size ≠ f.sz) || decide (f.off + v.cells.size > cs.size)) = false := by
            rw [Bool.or_eq_false_iff, decide_eq_false_iff_not, decide_eq_false_iff_not]; omega
          rw [Instr.fill]
          simp only [List.getElem?_map, ef, Option.map_some]
          rw [hb, ← Array.foldl_toList, Array.toList_zipIdx]
          simp only [List.getElem?_map] at e1
          exact e1
        · cases h
      · cases h
theorem yields_build (hT : TOk P T) {t : Nat} {parts : List (Nat × Value)} {ap : List (Nat × A)} {K : A → Prop} (hv : VAs w I G (parts.map (·.2)) (ap.map (·.2))) (hi : parts.map (·.1) = ap.map (·.1))
    (hk : vcBuild T t ap K) : Yields P w I G (Instr.build t parts.toArray) K := by
  unfold vcBuild at hk
  split at hk
  · rename_i fs sz by_ z et
    split at hk
    · rename_i c ec
      obtain ⟨f, zv, h1, h2, h3, h4, h5, h6, h7, h8, h9, q, hu, hf⟩ := hT t _ et
      obtain ⟨cs', e1, e2, e3⟩ := fill_ok (T := T) hv hi (zs_as (w := w) (I := I) (G := G) h5) (zs_one h5) ec
      refine ⟨_, _, fun w' _ => run_build w' t parts.toArray cs' ?_, VA.pack' e3 e2, hk⟩
      unfold Program.built
      simp only [h1, hu, h4, places_ok hf]
      simpa using e1
    · exact hk.elim
  · exact hk.elim
end
end Go.Ab
