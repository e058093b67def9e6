/- Worlds that grow, objects that turn: what was held is held. -/
import Derived.Test.YtamicpfjieandaaAbH
namespace Go.Ab
open Go
set_option linter.unusedVariables false
set_option linter.unusedSimpArgs false
section
variable {w w' : World} {I I' : Im} {G G' : List Gh}
theorem Shp.keep {F : Nat → Prop} {v : Value} (h : Shp w F v) : (∀ b, F b → w'.heap[b]? = w.heap[b]?) → Shp w' F v := by
  induction h with
  | one F x h => intro _; exact .one F x h
  | slc F Fs b n c t cs h1 h2 h3 h4 h5 ih =>
    intro hF
    exact .slc F Fs b n c t cs h1 ((hF b h1).trans h2) (fun j x hx => ih j x hx (fun k hk => hF k (h4 j k hk).1)) h4 h5
theorem ShpB.keep {F : Nat → Prop} {b : Nat} {cs : Array Value} (h : ShpB w F b cs) (hF : ∀ b, F b → w'.heap[b]? = w.heap[b]?) : ShpB w' F b cs := by
  obtain ⟨Fs, h1, h2, h3⟩ := h
  exact ⟨Fs, fun j x hx => (h1 j x hx).keep (fun k hk => hF k (h2 j k hk).1), h2, h3⟩
theorem ShpB.shp {F : Nat → Prop} {b : Nat} {cs : Array Value} {t n c : Nat} (h : ShpB w F b cs) (hF : F b) (hb : w.heap[b]? = some (.cells cs t (0, 0))) : Shp w F (.slice (some ⟨b, 0, none⟩) n c) := by
  obtain ⟨Fs, h1, h2, h3⟩ := h
  exact .slc F Fs b n c t cs hF hb h1 h2 h3
theorem Shp.up {F F' : Nat → Prop} {v : Value} (h : Shp w F v) (hF : ∀ b, F b → F' b) : Shp w F' v := by
  cases h with
  | one F _ h => exact .one F' _ h
  | slc F Fs b n c t cs h1 h2 h3 h4 h5 => exact .slc F' Fs b n c t cs (hF b h1) h2 h3 (fun j k hk => ⟨hF k (h4 j k hk).1, (h4 j k hk).2⟩) h5
theorem VDs.mono' (hI : ∀ b j, I b j → I' b j) (hc : ∀ b j, I b j → w'.cell? ⟨b, j, none⟩ = w.cell? ⟨b, j, none⟩) {xs : List Value} {l : List D} (h : VDs w I xs l) : VDs w' I' xs l := VDs.mono hI hc h
theorem TreeV.keep : ∀ {F : Nat → Prop} {x : Value} {d : D}, TreeV w F x d → (∀ b, F b → w'.heap[b]? = w.heap[b]?) → TreeV w' F x d
  | _, _, _, .v F x h, _ => .v F x h
  | _, _, _, .nil F, _ => .nil F
  | _, _, _, .emp F a c, _ => .emp F a c
  | _, _, _, .lst F Fs xs b n c t cs l hb hh hn hc h1 h2 h4 h5, hF =>
    .lst F Fs xs b n c t cs l hb ((hF b hb).trans hh) hn hc h1 (fun j d e => (h2 j d e).keep fun k hk => hF k (h4 j k hk).1) h4 h5
theorem Forest.keep {F : Nat → Prop} {l : List (Value × D)} (h : Forest w F l) (hF : ∀ b, F b → w'.heap[b]? = w.heap[b]?) : Forest w' F l := by
  obtain ⟨Fs, h1, h2, h3⟩ := h
  exact ⟨Fs, fun m v d e => ⟨(h1 m v d e).1, (h1 m v d e).2.keep fun k hk => hF k (h2 m k hk)⟩, h2, h3⟩
/-- An object whose own blocks have not been touched. -/
theorem ObjR.keep {g : Gh} {o : O} (hI : ∀ b j, I b j → I' b j) (hc : ∀ b j, I b j → w'.cell? ⟨b, j, none⟩ = w.cell? ⟨b, j, none⟩)
    (hG : ∀ (k : Nat) (g : Gh), G[k]? = some g → ∃ g' : Gh, G'[k]? = some g' ∧ g'.root = g.root)
    (hF : ∀ b, g.F b → w'.heap[b]? = w.heap[b]?) (hIF : ∀ b j, g.F b → I' b j → I b j) (h : ObjR w I G g o) : ObjR w' I' G' g o := by
  cases o with
  | box t l =>
    obtain ⟨b, cs, h1, h2, h3, h4, h5, h6⟩ := h
    have hb := (h5 b).2 rfl
    exact ⟨b, cs, h1, (hF b hb).trans h2, h3.mono hI hc hG, h4, h5, fun j hj => h6 j (hIF b j hb hj)⟩
  | app t sz dp =>
    rcases h with h | h | ⟨b, n, cap, cs, h1, h2, h3, h4, h5, h6, h7, h9⟩
    · exact .inl h
    · exact .inr (.inl h)
    · exact .inr (.inr ⟨b, n, cap, cs, h1, (hF b h6).trans h2, h3, h4, h5, h6, fun j hj hi => h7 j hj (hIF b j h6 hi), fun hd => (h9 hd).keep hF⟩)
  | row t sz l =>
    obtain ⟨b, cs, h1, h2, h3, h4, h5, h6, h7⟩ := h
    have hb := (h6 b).2 rfl
    exact ⟨b, cs, h1, (hF b hb).trans h2, h3.mono hI hc hG, h4, h5, h6, fun j hj => h7 j (hIF b j hb hj)⟩
  | opn r t sz l =>
    obtain ⟨h0, b, cs, t', sp, cap, h1, hcap, h2, h3, h4, h5, h6, h7⟩ := h
    have hb := (h6 b).2 rfl
    exact ⟨h0, b, cs, t', sp, cap, h1, hcap, (hF b hb).trans h2, h3.mono hI hc hG, h4, h5, h6, fun j hj => h7 j (hIF b j hb hj)⟩
  | forest l => exact ⟨h.1, h.2.1.keep hF, fun b j hb hi => h.2.2 b j hb (hIF b j hb hi)⟩
  | map kt vt l =>
    obtain ⟨r, es, c, h1, h2, h3, h4⟩ := h
    exact ⟨r, es, c, h1, (hF r ((h4 r).2 rfl)).trans h2, ⟨h3.1, VDs.mono hI hc h3.2⟩, h4⟩
  | dead => exact h
theorem ObjR.demK {g : Gh} {o : O} (q : Nat) (hI : ∀ b j, I b j → I' b j) (hc : ∀ b j, I b j → w'.cell? ⟨b, j, none⟩ = w.cell? ⟨b, j, none⟩)
    (hG : ∀ (k : Nat) (g : Gh), k ≠ q → G[k]? = some g → ∃ g' : Gh, G'[k]? = some g' ∧ g'.root = g.root)
    (hF : ∀ b, g.F b → w'.heap[b]? = w.heap[b]?) (hIF : ∀ b j, g.F b → I' b j → I b j) (h : ObjR w I G g o) : ObjR w' I' G' g (o.dem q) := by
  cases o with
  | box t l =>
    obtain ⟨b, cs, h1, h2, h3, h4, h5, h6⟩ := h
    have hb := (h5 b).2 rfl
    exact ⟨b, cs, h1, (hF b hb).trans h2, h3.dem hI hc q hG, h4, h5, fun j hj => h6 j (hIF b j hb hj)⟩
  | app t sz dp =>
    rcases h with h | h | ⟨b, n, cap, cs, h1, h2, h3, h4, h5, h6, h7, h9⟩
    · exact .inl h
    · exact .inr (.inl h)
    · exact .inr (.inr ⟨b, n, cap, cs, h1, (hF b h6).trans h2, h3, h4, h5, h6, fun j hj hi => h7 j hj (hIF b j h6 hi), fun hd => (h9 hd).keep hF⟩)
  | row t sz l =>
    obtain ⟨b, cs, h1, h2, h3, h4, h5, h6, h7⟩ := h
    have hb := (h6 b).2 rfl
    refine ⟨b, cs, ?_, (hF b hb).trans h2, ?_, h4, ?_, h6, fun j hj => h7 j (hIF b j hb hj)⟩
    · rw [A.dems_eq, List.length_map]; exact h1
    · have := h3.dem hI hc q hG
      rw [A.dems_eq, A.flat_dem]
      rwa [A.dems_eq] at this
    · intro x hx
      rw [A.dems_eq] at hx
      obtain ⟨y, hy, rfl⟩ := List.mem_map.1 hx
      rw [A.cells_dem, List.length_map]
      exact h5 y hy
  | opn r t sz l =>
    obtain ⟨h0, b, cs, t', sp, cap, h1, hcap, h2, h3, h4, h5, h6, h7⟩ := h
    have hb := (h6 b).2 rfl
    refine ⟨h0, b, cs, t', sp, cap, ?_, ?_, (hF b hb).trans h2, ?_, by rw [A.dems_eq, List.length_map]; exact h4, ?_, h6, fun j hj => h7 j (hIF b j hb hj)⟩
    · rw [A.dems_eq, List.length_map]; exact h1
    · rw [A.dems_eq, List.length_map]; exact hcap
    · have := h3.dem hI hc q hG
      rw [A.dems_eq, A.flat_dem]
      rw [A.dems_eq, List.map_append, List.map_replicate] at this
      exact this
    · intro x hx
      rw [A.dems_eq] at hx
      obtain ⟨y, hy, rfl⟩ := List.mem_map.1 hx
      rw [A.cells_dem, List.length_map]
      exact h5 y hy
  | forest l => exact ⟨h.1, h.2.1.keep hF, fun b j hb hi => h.2.2 b j hb (hIF b j hb hi)⟩
  | map kt vt l =>
    obtain ⟨r, es, c, h1, h2, h3, h4⟩ := h
    exact ⟨r, es, c, h1, (hF r ((h4 r).2 rfl)).trans h2, ⟨h3.1, VDs.mono hI hc h3.2⟩, h4⟩
  | dead => exact h

structure Grow (w w' : World) : Prop where
  os : w'.os = w.os
  tape : w'.tape = w.tape
  output : w'.output = w.output
  size : w.heap.size ≤ w'.heap.size
  block : ∀ b, b < w.heap.size → w'.heap[b]? = w.heap[b]?
theorem Grow.alloc (w : World) (o : Obj) : Grow w (w.alloc o) := ⟨rfl, rfl, rfl, by simp, fun b hb => by show (w.heap.push o)[b]? = _; rw [Array.getElem?_push, if_neg (by omega)]⟩
theorem Grow.refl (w : World) : Grow w w := ⟨rfl, rfl, rfl, Nat.le_refl _, fun _ _ => rfl⟩
theorem Grow.trans {a b c : World} (h : Grow a b) (k : Grow b c) : Grow a c :=
  ⟨k.os.trans h.os, k.tape.trans h.tape, k.output.trans h.output, Nat.le_trans h.size k.size, fun i hi => (k.block i (Nat.lt_of_lt_of_le hi h.size)).trans (h.block i hi)⟩
theorem Grow.drew (w : World) : Grow w w.drew := ⟨rfl, rfl, rfl, Nat.le_refl _, fun _ _ => rfl⟩
theorem RelH.lt {h : List O} (hh : RelH w I G h) {b j : Nat} (hi : I b j) : b < w.heap.size := by
  obtain ⟨x, hx⟩ := hh.imm b j hi
  exact World.block_lt_of_cell? w _ hx
theorem Grow.cell (hg : Grow w w') {b j : Nat} (hb : b < w.heap.size) : w'.cell? ⟨b, j, none⟩ = w.cell? ⟨b, j, none⟩ := World.cell?_of_block (w := w) (hg.block b hb)
theorem same_roots (G : List Gh) : ∀ (k : Nat) (g : Gh), G[k]? = some g → ∃ g' : Gh, G[k]? = some g' ∧ g'.root = g.root := fun k g h => ⟨g, h, rfl⟩
theorem RelH.grow {h : List O} (hh : RelH w I G h) (hg : Grow w w') (hI : ∀ b j, I b j → I' b j)
    (hI' : ∀ b j, I' b j → I b j ∨ (w.heap.size ≤ b ∧ ∃ x, w'.cell? ⟨b, j, none⟩ = some x)) : RelH w' I' G h where
  len := hh.len
  obj k g o e1 e2 := (hh.obj k g o e1 e2).keep hI (fun b j hi => hg.cell (hh.lt hi)) (same_roots G) (fun b hb => hg.block b (hh.inb k g b e1 hb))
    (fun b j hb hi => (hI' b j hi).resolve_right (fun hr => by have := hh.inb k g b e1 hb; omega))
  disj := hh.disj
  inb k g b e1 e2 := Nat.lt_of_lt_of_le (hh.inb k g b e1 e2) hg.size
  imm b j hi := by
    rcases hI' b j hi with h1 | h1
    · obtain ⟨x, hx⟩ := hh.imm b j h1
      exact ⟨x, (hg.cell (hh.lt h1)).trans hx⟩
    · exact h1.2
theorem Fr.grow {c : Cx} {h : List O} (hf : Fr c w I G) (hh : RelH w I G h) (hg : Grow w w') (hI : ∀ b j, I b j → I' b j)
    (hI' : ∀ b j, I' b j → I b j ∨ (w.heap.size ≤ b ∧ ∃ x, w'.cell? ⟨b, j, none⟩ = some x)) : Fr c w' I' G where
  os := hg.os.trans hf.os
  tape := hg.tape.trans hf.tape
  output := hg.output.trans hf.output
  size := Nat.le_trans hf.size hg.size
  block b hb hn := (hg.block b (Nat.lt_of_lt_of_le hb hf.size)).trans (hf.block b hb hn)
  cell b j hi := by
    obtain ⟨h1, h2⟩ := hf.cell b j hi
    exact ⟨hI b j h1, (hg.cell (hh.lt h1)).trans h2⟩
  im b j hi := by
    rcases hI' b j hi with h1 | h1
    · exact hf.im b j h1
    · exact .inr (.inr (Nat.le_trans hf.size h1.1))
  own := hf.own
theorem RelX.grow {c : Cx} {s : St} {a : Act} (h : RelX c s a w I G) (hg : Grow w w') (hI : ∀ b j, I b j → I' b j)
    (hI' : ∀ b j, I' b j → I b j ∨ (w.heap.size ≤ b ∧ ∃ x, w'.cell? ⟨b, j, none⟩ = some x)) : RelX c s a w' I' G where
  defers := h.defers
  tmps := h.tmps.mono hI (fun b j hi => hg.cell (h.objs.lt hi)) (same_roots G)
  objs := h.objs.grow hg hI hI'
  fr := h.fr.grow h.objs hg hI hI'
  pr := h.pr
theorem RelX.grow' {c : Cx} {s : St} {a : Act} (h : RelX c s a w I G) (hg : Grow w w') : RelX c s a w' I G := h.grow hg (fun _ _ h => h) (fun _ _ h => .inl h)
theorem roots_push (G : List Gh) (g : Gh) : ∀ (k : Nat) (g' : Gh), G[k]? = some g' → ∃ g'' : Gh, (G ++ [g])[k]? = some g'' ∧ g''.root = g'.root := fun k g' h =>
  ⟨g', by rw [List.getElem?_append_left (List.getElem?_eq_some_iff.1 h).1]; exact h, rfl⟩
/-- One object more. -/
theorem RelX.push {c : Cx} {s : St} {a : Act} (h : RelX c s a w I G) {g : Gh} {o : O} (ho : ObjR w I (G ++ [g]) g o)
    (hF : ∀ b, g.F b → b < w.heap.size ∧ (c.F b ∨ c.w.heap.size ≤ b) ∧ ∀ (k : Nat) (g' : Gh), G[k]? = some g' → ¬ g'.F b) : RelX c ⟨s.t, s.h ++ [o], s.p⟩ a w I (G ++ [g]) where
  defers := h.defers
  tmps := h.tmps.mono (fun _ _ h => h) (fun _ _ _ => rfl) (roots_push G g)
  objs := by
    have hl := h.objs.len
    have low : ∀ {k : Nat} {g' : Gh}, (G ++ [g])[k]? = some g' → (k < G.length ∧ G[k]? = some g') ∨ (k = G.length ∧ g' = g) := fun {k g'} e => by
      rcases Nat.lt_or_ge k G.length with hk | hk
      · rw [List.getElem?_append_left hk] at e; exact .inl ⟨hk, e⟩
      · rw [List.getElem?_append_right hk] at e
        have : k - G.length = 0 := by
          rcases Nat.eq_zero_or_pos (k - G.length) with h0 | h0
          · exact h0
          · rw [List.getElem?_eq_none (by simp; omega)] at e; cases e
        rw [this] at e
        simp at e
        exact .inr ⟨by omega, e.symm⟩
    refine ⟨by simp [hl], fun k g' o' e1 e2 => ?_, fun i j gi gj b e1 e2 hij hb hb' => ?_, fun k g' b e1 hb => ?_, h.objs.imm⟩
    · rcases low e1 with ⟨hk, e1⟩ | ⟨hk, rfl⟩
      · rw [List.getElem?_append_left (by omega)] at e2
        exact (h.objs.obj k g' o' e1 e2).keep (fun _ _ h => h) (fun _ _ _ => rfl) (roots_push G g) (fun _ _ => rfl) (fun _ _ _ h => h)
      · rw [List.getElem?_append_right (by omega)] at e2
        rw [show k - s.h.length = 0 by omega] at e2
        simp at e2; subst e2; exact ho
    · rcases low e1 with ⟨hi, e1⟩ | ⟨hi, rfl⟩ <;> rcases low e2 with ⟨hj, e2⟩ | ⟨hj, rfl⟩
      · exact h.objs.disj i j gi gj b e1 e2 hij hb hb'
      · exact (hF b hb').2.2 i gi (by assumption) hb
      · exact (hF b hb).2.2 j gj (by assumption) hb'
      · omega
    · rcases low e1 with ⟨hk, e1⟩ | ⟨hk, rfl⟩
      · exact h.objs.inb k g' b e1 hb
      · exact (hF b hb).1
  fr := ⟨h.fr.os, h.fr.tape, h.fr.output, h.fr.size, h.fr.block, h.fr.cell, h.fr.im, fun k g' b e1 hb => by
    rcases Nat.lt_or_ge k G.length with hk | hk
    · rw [List.getElem?_append_left hk] at e1; exact h.fr.own k g' b e1 hb
    · rw [List.getElem?_append_right hk] at e1
      have : k - G.length = 0 := by
        rcases Nat.eq_zero_or_pos (k - G.length) with h0 | h0
        · exact h0
        · rw [List.getElem?_eq_none (by simp; omega)] at e1; cases e1
      rw [this] at e1
      simp at e1; subst e1
      exact (hF b hb).2.1⟩
  pr k v e := by
    obtain ⟨h1, h2, g', h3, h4⟩ := h.pr k v e
    exact ⟨h1, h2, g', by rw [List.getElem?_append_left (List.getElem?_eq_some_iff.1 h3).1]; exact h3, h4⟩
theorem RelX.put {c : Cx} {s : St} {a : Act} (h : RelX c s a w I G) {v : Value} {r : A} (hv : VA w I G v r) (d : Option Nat) : RelX c (s.put d r) (a.put d v) w I G := by
  cases d with
  | none => exact h
  | some d =>
    refine ⟨h.defers, ?_, h.objs, h.fr, h.pr⟩
    simp only [Act.put, St.put]
    have := h.tmps.set d hv
    rwa [← Array.toList_setIfInBounds] at this
end
end Go.Ab
