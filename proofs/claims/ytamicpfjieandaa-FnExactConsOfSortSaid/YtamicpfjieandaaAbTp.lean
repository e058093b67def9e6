/- Contracts over trees: opened, closed, of what was a row of one's own. -/
import Derived.Test.YtamicpfjieandaaAbTo
namespace Go.Ab
open Go
set_option linter.unusedVariables false
set_option linter.unusedSimpArgs false
theorem range_vals {xs : Nat → Value} {cs : Array Value} {n : Nat} (h : ∀ j, j < n → cs[j]? = some (xs j)) : cs.toList = ((List.range n).map fun j => xs (0 + j)) ++ cs.toList.drop n := by
  apply List.ext_getElem?
  intro i
  have hl : ((List.range n).map fun j => xs (0 + j)).length = n := by simp
  rcases Nat.lt_or_ge i n with hi | hi
  · rw [List.getElem?_append_left (by omega), List.getElem?_map, List.getElem?_range hi]
    simpa using h i hi
  · rw [List.getElem?_append_right (by omega), List.getElem?_drop, hl]
    congr 1; omega
theorem VAs.anys {w : World} {I : Im} {G : List Gh} : ∀ l : List Value, VAs w I G l (List.replicate l.length .any)
  | [] => .nil
  | x :: l => .cons (.any x) (VAs.anys l)
section
variable {P : Program} {f : FuncId} {X : Type} {φ : X → Prop} {ret : X → A}
/-- A contract over an opened tree is one over the tree. -/
theorem Ct.open {rest : List A} {l : List D} {v : Value} {u sz : Nat} {ag : Bool} {l' : X → List D} (hl : l ≠ []) (hag : ∀ d ∈ l, ag = false → d.cells.length = 1) (hsz : ∀ d ∈ l, d.cells.length = sz)
    (hag' : ∀ x, φ x → ∀ d ∈ l' x, ag = false → d.cells.length = 1) (hhas : Has P f) (hrest : A.frees rest = true) (hret : ∀ x, (ret x).free = true)
    (H : ∀ (L : List A) (Ls : List (Value × D)), Opd ag l L Ls → Ct P f (.arr 0 :: rest) [.opn v u sz L, .forest Ls] (fun q : X × List A × List (Value × D) => φ q.1 ∧ Opd ag (l' q.1) q.2.1 q.2.2) (fun q => ret q.1) (fun q => [.opn v u sz q.2.1, .forest q.2.2])) :
    Ct P f (.raw v :: rest) [.forest [(v, .lst l)]] φ ret (fun x => [.forest [(v, .lst (l' x))]]) := by
  refine ⟨hhas, fun w I G vs hvs hrel => ?_⟩
  obtain ⟨g, hg, hroot, hfor, hni⟩ := hrel.get (k := 0) (o := .forest [(v, .lst l)]) rfl
  have hG1 : G.length = 1 := hrel.len
  cases hvs with
  | cons hv0 hvr =>
  rename_i v0 vr
  have hv0' : v0 = v := by cases hv0; rfl
  subst hv0'
  obtain ⟨hone, htree⟩ := hfor.mem (v := v0) (d := .lst l) List.mem_cons_self
  have key : ∃ (Fs : Nat → Nat → Prop) (xs : Nat → Value) (b n c t : Nat) (cs : Array Value), v0 = .slice (some ⟨b, 0, none⟩) n c ∧ g.F b ∧ w.heap[b]? = some (.cells cs t (0, 0)) ∧ n = l.length ∧ n ≤ c ∧
      (∀ j d, (l.flatMap D.cells)[j]? = some d → cs[j]? = some (xs j) ∧ (xs j).oneCell' = true) ∧ (∀ j d, (l.flatMap D.cells)[j]? = some d → TreeV w (Fs j) (xs j) d) ∧ (∀ j k, Fs j k → g.F k ∧ k ≠ b) ∧ ∀ i j k, i ≠ j → Fs i k → ¬ Fs j k := by
    generalize hF : g.F = F at htree
    cases htree with
    | nil => exact absurd rfl hl
    | emp a c => exact absurd rfl hl
    | lst _ Fs xs b n c t cs _ h1 h2 h3 h4 h5 h6 h7 h8 => exact ⟨Fs, xs, b, n, c, t, cs, rfl, hF ▸ h1, h2, h3, h4, h5, h6, fun j k hk => hF ▸ h7 j k hk, h8⟩
  obtain ⟨Fs, xs, b, n, cp, t, cs, rfl, hb, hh, hn, hnc, hcs, htr, hFs, hdis⟩ := key
  let fl := (l.flatMap D.cells).length
  have hin : ∀ j, j < fl → ∃ d, (l.flatMap D.cells)[j]? = some d := fun j hj => ⟨_, List.getElem?_eq_getElem hj⟩
  have hcsj : ∀ j, j < fl → cs[j]? = some (xs j) := fun j hj => by obtain ⟨d, e⟩ := hin j hj; exact (hcs j d e).1
  have hfl : fl = l.length * sz := flat_len hsz
  let g0 : Gh := ⟨.slice (some ⟨b, 0, none⟩) n cp, fun k => k = b⟩
  let g1 : Gh := ⟨.slice none 0 0, fun k => ∃ j, 0 ≤ j ∧ j < 0 + fl ∧ Fs j k⟩
  let G1 : List Gh := [g0, g1]
  obtain ⟨L, Ls, hopd, hva, hfo⟩ := oopen (w := w) (I := I) (G := G1) (ag := ag) (Fs := Fs) (xs := xs) hdis l 0 hag (fun j d e => by rw [Nat.zero_add]; exact ⟨htr j d e, (hcs j d e).2⟩)
  have hv1 : VAs w I G1 (.slice (some ⟨b, 0, none⟩) n cp :: vr) (.arr 0 :: rest) := .cons (.arr 0 g0 rfl rfl rfl) (hvr.freeI hrest)
  have hFg : ∀ k, g1.F k → g.F k := fun k ⟨j, _, _, hk⟩ => (hFs j k hk).1
  have hrel1 : RelH w I G1 [.opn (.slice (some ⟨b, 0, none⟩) n cp) u sz L, .forest Ls] := by
    refine ⟨rfl, fun k g' o e1 e2 => ?_, fun i j gi gj b' e1 e2 hij h1 h2 => ?_, fun k g' b' e h1 => ?_, hrel.imm⟩
    · rcases k with _ | _ | k
      · simp [G1] at e1 e2; subst e1; subst e2
        have hLl : L.length = l.length := hopd.len.symm
        refine ⟨rfl, b, cs, t, (cs.toList.drop fl).length, cp, by rw [hLl, hn], by omega, hh, ?_, fun j x hj hx => ?_, hopd.cells hag hsz, fun k => Iff.rfl, fun j => hni b j hb⟩
        · have := hva.append (VAs.anys (w := w) (I := I) (G := G1) (cs.toList.drop fl))
          rwa [← range_vals hcsj] at this
        · rw [hLl, ← hfl] at hj
          obtain ⟨d, e⟩ := hin j hj
          have h5 := hcs j d e
          rw [hx] at h5
          obtain rfl := Option.some.inj h5.1
          exact h5.2
      · simp [G1] at e1 e2; subst e1; subst e2
        exact ⟨rfl, hfo, fun b' j hk hi => hni b' j (hFg b' hk) hi⟩
      · simp at e2
    · have no : ∀ k, g0.F k → ¬ g1.F k := fun k h3 ⟨j, _, _, hk⟩ => (hFs j k hk).2 h3
      rcases i with _ | _ | i <;> rcases j with _ | _ | j <;> simp [G1] at e1 e2 hij
      · subst e1; subst e2; exact no _ h1 h2
      · subst e1; subst e2; exact no _ h2 h1
    · rcases k with _ | _ | k
      · simp [G1] at e; subst e
        have : b' = b := h1
        subst this; exact hrel.inb 0 g _ hg hb
      · simp [G1] at e; subst e; exact hrel.inb 0 g _ hg (hFg b' h1)
      · simp [G1] at e
  have hown : ∀ {k}, ownF G1 k → ownF G k := fun {k} ⟨i, g', e, h1⟩ => by
    rcases i with _ | _ | i
    · simp [G1] at e; subst e
      have : k = b := h1
      subst this; exact ⟨0, g, hg, hb⟩
    · simp [G1] at e; subst e; exact ⟨0, g, hg, hFg k h1⟩
    · simp [G1] at e
  refine ((H L Ls hopd).2 w I G1 _ hv1 hrel1).mono ?_
  rintro e w' ⟨v1, rfl, ⟨x, L', Ls'⟩, ⟨hx, hopd'⟩, I', G', hv', hrel', hfr, _, _⟩
  obtain ⟨q0, hq0, hr0, b', cs', t', sp', cap', e1, e2, e3, e4, e5, e6, e7, e8⟩ := hrel'.get (k := 0) (o := .opn (.slice (some ⟨b, 0, none⟩) n cp) u sz L') rfl
  obtain ⟨q1, hq1, hr1, hf1, hn1⟩ := hrel'.get (k := 1) (o := .forest Ls') rfl
  injection e1 with e1a e1b e1c
  obtain rfl : b' = b := by injection e1a with e1a; injection e1a with e1a; exact e1a.symm
  have hd01 : ∀ k, q0.F k → ¬ q1.F k := fun k h1 h2 => hrel'.disj 0 1 q0 q1 k hq0 hq1 (by omega) h1 h2
  have hcop := hopd'.flat (hag' x hx)
  have hcl := hcop.len
  have h4 := e4.take (L'.flatMap A.cells).length
  rw [List.take_left] at h4
  obtain ⟨Fs', k1, k2, k3⟩ := cclose hcop h4 hf1
  let G2 : List Gh := [⟨.slice none 0 0, fun k => q0.F k ∨ q1.F k⟩]
  have hq0b : q0.F b' := (e7 b').2 rfl
  have htree' : TreeV w' (fun k => q0.F k ∨ q1.F k) (.slice (some ⟨b', 0, none⟩) n cp) (.lst (l' x)) := by
    refine .lst _ Fs' (fun j => cs'.getD j undef) b' n cp t' cs' (l' x) (.inl hq0b) e3 ?_ hnc (fun j d e => ?_) (fun j d e => ?_) (fun j k hk => ⟨.inr (k2 j k hk), fun h => hd01 k (h ▸ hq0b) (k2 j k hk)⟩) k3
    · rw [e1b, hopd'.len]
    · obtain ⟨y, f1, f2, f3⟩ := k1 j d e
      rw [List.getElem?_take] at f1
      split at f1
      · have f1' : cs'[j]? = some y := by simpa using f1
        have : cs'.getD j undef = y := by rw [Array.getD_eq_getD_getElem?, f1']; rfl
        rw [this]; exact ⟨f1', f2⟩
      · cases f1
    · obtain ⟨y, f1, f2, f3⟩ := k1 j d e
      rw [List.getElem?_take] at f1
      split at f1
      · have f1' : cs'[j]? = some y := by simpa using f1
        have : cs'.getD j undef = y := by rw [Array.getD_eq_getD_getElem?, f1']; rfl
        rw [this]; exact f3
      · cases f1
  refine ⟨v1, rfl, x, hx, I', G2, hv'.freeI (hret x), ⟨rfl, fun k g' o e1 e2 => ?_, fun i j gi gj b e1 e2 hij => ?_, fun k g' k0 e h1 => ?_, hrel'.imm⟩, ⟨hfr.os, hfr.tape, hfr.output, hfr.size, fun b hb hn => hfr.block b hb fun h => hn (hown h), hfr.cell, fun b j hi => ?_, fun k g' k0 e h1 => ?_⟩, Nat.le_refl _, fun k g' o e1 e2 e3 => ?_⟩
  · rcases k with _ | k
    · simp [G2] at e1 e2; subst e1; subst e2
      refine ⟨rfl, Forest.one rfl htree', fun k j hk hi => ?_⟩
      rcases hk with hk | hk
      · have : k = b' := (e7 k).1 hk
        subst this; exact e8 j hi
      · exact hn1 k j hk hi
    · simp at e2
  · rcases i with _ | i <;> rcases j with _ | j <;> simp [G2] at e1 e2 hij
  · rcases k with _ | k
    · simp [G2] at e; subst e
      rcases h1 with h1 | h1
      · exact hrel'.inb 0 q0 _ hq0 h1
      · exact hrel'.inb 1 q1 _ hq1 h1
    · simp [G2] at e
  · rcases hfr.im b j hi with h | h | h
    · exact .inl h
    · exact .inr (.inl (hown h))
    · exact .inr (.inr h)
  · rcases k with _ | k
    · simp [G2] at e; subst e
      rcases h1 with h1 | h1
      · exact (hfr.own 0 q0 k0 hq0 h1).imp hown id
      · exact (hfr.own 1 q1 k0 hq1 h1).imp hown id
    · simp [G2] at e
  · rcases k with _ | k
    · simp at e2; subst e2; simp [O.fixed] at e3
    · simp at e2
end
end Go.Ab
