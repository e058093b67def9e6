/- Contracts over trees: what is lent, what is new, what was a row of one's own; rows that are made, closed. -/
import Derived.Test.YtamicpfjieandaaAbTp
namespace Go.Ab
open Go
set_option linter.unusedVariables false
set_option linter.unusedSimpArgs false
mutual
theorem lendOk_self {L : List (Value × D)} : ∀ {a b : A}, lendOk L a b → lendOk [] b b
  | .d x, b, h => by simp only [lendOk] at h; subst h; simp [lendOk]
  | .raw v, b, h => by
    simp only [lendOk] at h
    rcases h with rfl | ⟨d, _, rfl⟩ <;> simp [lendOk]
  | .nil, b, h => by
    simp only [lendOk] at h
    rcases h with rfl | rfl <;> simp [lendOk]
  | .agg as, b, h => by
    simp only [lendOk] at h
    rcases h with ⟨bs, rfl, h⟩ | ⟨ds, rfl, h⟩
    · simp only [lendOk]; exact .inl ⟨bs, rfl, lendAs_self h⟩
    · simp [lendOk]
  | .tup _, b, h => by simp [lendOk] at h
  | .sl _ _, b, h => by simp [lendOk] at h
  | .rptr _, b, h => by simp [lendOk] at h
  | .ref _ _, b, h => by simp [lendOk] at h
  | .own _ _, b, h => by simp [lendOk] at h
  | .arr _, b, h => by simp [lendOk] at h
  | .eptr _ _ _ _, b, h => by simp [lendOk] at h
  | .fn _ _, b, h => by simp [lendOk] at h
  | .mp _, b, h => by simp [lendOk] at h
  | .any, b, h => by simp [lendOk] at h
theorem lendAs_self {L : List (Value × D)} : ∀ {a b : List A}, lendAs L a b → lendAs [] b b
  | [], b, h => by simp only [lendAs] at h; subst h; simp [lendAs]
  | a :: as, b, h => by
    simp only [lendAs] at h
    obtain ⟨y, ys, rfl, h1, h2⟩ := h
    simp only [lendAs]
    exact ⟨y, ys, rfl, lendOk_self h1, lendAs_self h2⟩
end
theorem VD.one_lst {w : World} {I : Im} {v : Value} {l : List D} (h : VD w I v (.lst l)) : v.oneCell' = true := by cases h <;> rfl
theorem cell_lt {w : World} {b j : Nat} {x : Value} (h : w.cell? ⟨b, j, none⟩ = some x) : b < w.heap.size := by
  rcases Nat.lt_or_ge b w.heap.size with h1 | h1
  · exact h1
  · simp [World.cell?, Array.getElem?_eq_none h1] at h
section
variable {P : Program} {f : FuncId} {X Y : Type} {φ : X → Prop} {ret : X → A} {post : X → List O} {args args' : List A} {l : List (Value × D)}
/-- What a function is handed as data may lie in trees that are one's own. -/
theorem Ct.lend (H : Ct P f args' [] φ ret (fun _ => [])) (hargs : lendAs l args args') (hret : ∀ x, (ret x).free = true) : Ct P f args [.forest l] φ ret (fun _ => [.forest l]) := by
  refine ⟨H.1, fun w I G vs hvs hrel => ?_⟩
  obtain ⟨g, hg, hroot, hfor, hni⟩ := hrel.get (k := 0) (o := .forest l) rfl
  let I1 : Im := fun b j => I b j ∨ (g.F b ∧ ∃ x, w.cell? ⟨b, j, none⟩ = some x)
  have hv1 : VAs w I1 [] vs args' := VAs.lend (fun b j h => .inl h) (fun v d hm => (hfor.mem hm).2.vd fun b j x hb hx => .inr ⟨hb, x, hx⟩) hvs hargs
  have hrel1 : RelH w I1 [] [] := ⟨rfl, fun k g o e => by simp at e, fun i j gi gj b e => by simp at e, fun k g b e => by simp at e, fun b j hi => hi.elim (hrel.imm b j) fun h => h.2⟩
  refine (H.2 w I1 [] vs hv1 hrel1).mono ?_
  rintro e w' ⟨v, rfl, x, hx, I', G', hv, hrel', hfr, _, _⟩
  have hb : ∀ b, b < w.heap.size → w'.heap[b]? = w.heap[b]? := fun b hb => hfr.block b hb fun ⟨k, g', e, _⟩ => by simp at e
  have hcell : ∀ b j, I b j → w'.cell? ⟨b, j, none⟩ = w.cell? ⟨b, j, none⟩ := fun b j hi => (hfr.cell b j (.inl hi)).2
  refine ⟨v, rfl, x, hx, I, G, hv.freeI (hret x), ⟨hrel.len, fun k g' o e1 e2 => ?_, hrel.disj, fun k g b e h => Nat.lt_of_lt_of_le (hrel.inb k g b e h) hfr.size, fun b j hi => by rw [hcell b j hi]; exact hrel.imm b j hi⟩,
    ⟨hfr.os, hfr.tape, hfr.output, hfr.size, fun b h1 _ => hb b h1, fun b j hi => ⟨hi, hcell b j hi⟩, fun b j hi => .inl hi, fun k g b e h => .inl ⟨k, g, e, h⟩⟩, Nat.le_refl _, fun k g o e1 _ _ => ⟨g, e1, rfl⟩⟩
  cases k with
  | zero =>
    rw [hg] at e1; cases e1
    simp at e2; subst e2
    exact ⟨hroot, hfor.keep fun b h => hb b (hrel.inb 0 g b hg h), hni⟩
  | succ k => simp at e2
/-- A contract that makes its objects itself, called where a forest stands ready. -/
theorem Ct.addF (H : Ct P f args [] φ ret post) (hpost : ∀ x, 1 ≤ (post x).length) (hargs : lendAs [] args args) : Ct P f args [.forest []] φ ret post := by
  refine ⟨H.1, fun w I G vs hvs hrel => ?_⟩
  have hv1 : VAs w I [] vs args := VAs.lend (fun b j h => h) (fun v d hm => by cases hm) hvs hargs
  have hrel1 : RelH w I [] [] := ⟨rfl, fun k g o e => by simp at e, fun i j gi gj b e => by simp at e, fun k g b e => by simp at e, hrel.imm⟩
  refine (H.2 w I [] vs hv1 hrel1).mono ?_
  rintro e w' ⟨v, rfl, x, hx, I', G', hv, hrel', hfr, _, _⟩
  have no : ∀ {b}, ¬ ownF [] b := fun {b} ⟨k, g', e, _⟩ => by simp at e
  refine ⟨v, rfl, x, hx, I', G', hv, hrel', ⟨hfr.os, hfr.tape, hfr.output, hfr.size, fun b h1 _ => hfr.block b h1 no, hfr.cell, fun b j hi => ?_, fun k g b e h => ?_⟩, hpost x, fun k g o e1 e2 e3 => ?_⟩
  · rcases hfr.im b j hi with h | h | h
    · exact .inl h
    · exact absurd h no
    · exact .inr (.inr h)
  · rcases hfr.own k g b e h with h | h
    · exact absurd h no
    · exact .inr h
  · cases k with
    | zero => simp at e2; subst e2; simp [O.fixed] at e3
    | succ k => simp at e2
/-- A new tree is data to those who only read it. -/
theorem Ct.datF {lc : X → List (Value × D)} {φ' : Y → Prop} {r : Y → D} (to : X → Y) (H : Ct P f args [] φ ret (fun x => [.forest (lc x)])) (hto : ∀ x, φ x → φ' (to x)) (hl : ∀ x, φ x → lendOk (lc x) (ret x) (.d (r (to x)))) :
    Ct P f args [] φ' (fun y => .d (r y)) (fun _ => []) := by
  refine ⟨H.1, fun w I G vs hvs hrel => (H.2 w I G vs hvs hrel).mono ?_⟩
  rintro e w' ⟨v, rfl, x, hx, I', G', hv, hrel', hfr, _, _⟩
  obtain ⟨g, hg, hroot, hfor, hni⟩ := hrel'.get (k := 0) (o := .forest (lc x)) rfl
  let I1 : Im := fun b j => I' b j ∨ (g.F b ∧ ∃ x, w'.cell? ⟨b, j, none⟩ = some x)
  refine ⟨v, rfl, to x, hto x hx, I1, [], VA.lend (G := G') (I := I') (fun b j h => .inl h) (fun v d hm => (hfor.mem hm).2.vd fun b j x hb hx => .inr ⟨hb, x, hx⟩) hv (hl x hx),
    ⟨rfl, fun k g o e => by simp at e, fun i j gi gj b e => by simp at e, fun k g b e => by simp at e, fun b j hi => hi.elim (hrel'.imm b j) fun h => h.2⟩,
    ⟨hfr.os, hfr.tape, hfr.output, hfr.size, hfr.block, fun b j hi => ⟨.inl (hfr.cell b j hi).1, (hfr.cell b j hi).2⟩, fun b j hi => ?_, fun k g b e => by simp at e⟩, Nat.le_refl _, fun k g o e e2 => by simp at e2⟩
  rcases hi with hi | ⟨hb, _⟩
  · exact hfr.im b j hi
  · exact .inr (hfr.own 0 g b hg hb)
/-- A row of one's own is a tree. -/
theorem Ct.tree {r : X → List D} {t : TypeId} {sz : Nat} (ct : Ct P f args [] φ (fun x => .own 0 (r x)) (fun _ => [.app t sz true])) :
    Ct P f args [] (fun q : X × Value => φ q.1) (fun q => .raw q.2) (fun q => [.forest [(q.2, .lst (r q.1))]]) := by
  refine ⟨ct.1, fun w I G vs hvs hrel => (ct.2 w I G vs hvs hrel).mono ?_⟩
  rintro e w' ⟨v, rfl, x, hx, I', G', hv, hrel', hfr, _, _⟩
  have hG0 : G.length = 0 := hrel.len
  have no : ∀ {b}, ¬ ownF G b := fun {b} ⟨k, g', e, _⟩ => by
    have := (List.getElem?_eq_some_iff.1 e).1; omega
  cases hv with
  | own k l g h1 h2 h3 =>
  subst h2
  have hobj : ObjR w' I' G' g (.app t sz true) := hrel'.obj 0 g _ h1 rfl
  have h1c : g.root.oneCell' = true := VD.one_lst h3
  have htree := tree_of (app_shp hobj) h3 h1c
  have hnew : ∀ b, g.F b → w.heap.size ≤ b := fun b hb => (hfr.own 0 g b h1 hb).resolve_left no
  have hin : ∀ b j, I b j → b < w.heap.size := fun b j hi => by
    obtain ⟨y, hy⟩ := hrel.imm b j hi
    exact cell_lt hy
  refine ⟨g.root, rfl, (x, g.root), hx, fun b j => I' b j ∧ ¬ g.F b, [⟨.slice none 0 0, g.F⟩], .raw _ h1c, ⟨rfl, fun k g' o e1 e2 => ?_, fun i j gi gj b e1 e2 hij => ?_, fun k g' b e h => ?_, fun b j hi => hrel'.imm b j hi.1⟩,
    ⟨hfr.os, hfr.tape, hfr.output, hfr.size, hfr.block, fun b j hi => ⟨⟨(hfr.cell b j hi).1, fun h => ?_⟩, (hfr.cell b j hi).2⟩, fun b j hi => hfr.im b j hi.1, fun k g' b e h => ?_⟩, Nat.zero_le _, fun k g o e e2 => by simp at e2⟩
  · cases k with
    | zero => simp at e1 e2; subst e1; subst e2; exact ⟨rfl, Forest.one h1c htree, fun b j hb hi => hi.2 hb⟩
    | succ k => simp at e2
  · cases i <;> cases j <;> simp at e1 e2 hij
  · cases k with
    | zero => simp at e; subst e; exact hrel'.inb 0 g b h1 h
    | succ k => simp at e
  · have := hnew b h
    have := hin b j hi
    omega
  · cases k with
    | zero => simp at e; subst e; exact .inr (hnew b h)
    | succ k => simp at e
end
section
variable {P : Program} {f : FuncId} {X : Type} {φ : X → Prop} {ret : X → A} {args args' : List A} {t : List A} {h : List O} {p d q : Nat} {K : St → Prop} {L : List (Value × D)} {lc' : X → List (Value × D)}
theorem set_same {o : O} : ∀ {h : List O} {q : Nat}, h[q]? = some o → h.set q o = h
  | [], q, e => by simp at e
  | x :: h, 0, e => by simp at e; subst e; rfl
  | x :: h, q + 1, e => by rw [List.set_cons_succ, set_same (by simpa using e)]
/-- A call that reads trees. -/
theorem call_read (ct : Ct P f args' [] φ ret (fun _ => [])) (hq : h[q]? = some (.forest L)) (hargs : lendAs L args args') (hfree : ∀ x, (ret x).free = true) (hK : ∀ x, φ x → K ⟨t.set d (ret x), h, p⟩) : callVC P f args ⟨t, h, p⟩ (some d) K := by
  refine call_trees (La := L) (lc := []) (Lb := []) (lc' := fun _ => []) (Ct.lend ct (lendAs_self hargs) hfree) (by simpa using hq) (by simpa using hargs) hfree fun x hx => ?_
  have := hK x hx
  rw [List.append_nil, List.append_nil, set_same hq]
  exact this
/-- A call that hands back new trees. -/
theorem call_new (ct : Ct P f args' [] φ ret (fun x => [.forest (lc' x)])) (hq : h[q]? = some (.forest L)) (hargs : lendAs L args args') (hfree : ∀ x, (ret x).free = true) (hK : ∀ x, φ x → K ⟨t.set d (ret x), h.set q (.forest (L ++ lc' x)), p⟩) : callVC P f args ⟨t, h, p⟩ (some d) K := by
  refine call_trees (La := L) (lc := []) (Lb := []) (Ct.addF ct (fun _ => Nat.le_refl 1) (lendAs_self hargs)) (by simpa using hq) (by simpa using hargs) hfree fun x hx => ?_
  have := hK x hx
  rw [List.append_nil]
  exact this
end
/-- A row that was made, and the trees that hang on it, are one tree. -/
theorem Turns.close {h : List O} {k u sz : Nat} {L : List A} {Ls : List (Value × D)} {l : List D} {ag : Bool} {Q : St → Prop} (hk : h[k]? = some (.row u sz L)) (hq : (∃ q : Nat, h[q]? = some (.forest Ls)) ∨ Ls = []) (ho : Opd ag l L Ls) (h1 : ∀ d ∈ l, ag = false → d.cells.length = 1)
    (hQ : ∀ v, Q ⟨[.raw v], [.forest [(v, .lst l)]], 0⟩) : Turns ⟨[.arr k], h, 0⟩ Q := fun c a w ⟨I, G, hr⟩ => by
  obtain ⟨g0, hg0, b, cs, e1, e2, e3, e4, e5, e6, e7⟩ := hr.objs.get hk
  have hF : ∃ F1 : Nat → Prop, Forest w F1 Ls ∧ (∀ b, F1 b → ¬ g0.F b) ∧ (∀ b j, F1 b → ¬ I b j) ∧ (∀ b, F1 b → b < w.heap.size) ∧ ∀ b, F1 b → c.F b ∨ c.w.heap.size ≤ b := by
    rcases hq with ⟨q, hq⟩ | rfl
    · obtain ⟨g1, hg1, hr1, hf1, hn1⟩ := hr.objs.get hq
      have hkq : k ≠ q := fun e => by subst e; rw [hk] at hq; cases hq
      exact ⟨g1.F, hf1, fun b h2 h3 => hr.objs.disj k q g0 g1 b hg0 hg1 hkq h3 h2, hn1, fun b hb => hr.objs.inb q g1 b hg1 hb, fun b hb => hr.fr.own q g1 b hg1 hb⟩
    · exact ⟨fun _ => False, Forest.mt _, fun _ h => h.elim, fun _ _ h => h.elim, fun _ h => h.elim, fun _ h => h.elim⟩
  obtain ⟨F1, f1, f2, f3, f4, f5⟩ := hF
  obtain ⟨Fs, k1, k2, k3⟩ := cclose (ho.flat h1) e3 f1
  have hb0 : g0.F b := (e6 b).2 rfl
  have htree : TreeV w (fun j => j = b ∨ F1 j) (.slice (some ⟨b, 0, none⟩) L.length L.length) (.lst l) := by
    refine .lst _ Fs (fun j => cs.getD j undef) b _ _ u cs l (.inl rfl) e2 ho.len.symm (Nat.le_refl _) (fun j d e => ?_) (fun j d e => ?_) (fun j k hk => ⟨.inr (k2 j k hk), fun h => f2 k (k2 j k hk) (h ▸ hb0)⟩) k3
    · obtain ⟨y, g1, g2, g3⟩ := k1 j d e
      have g1' : cs[j]? = some y := by simpa using g1
      have : cs.getD j undef = y := by rw [Array.getD_eq_getD_getElem?, g1']; rfl
      rw [this]; exact ⟨g1', g2⟩
    · obtain ⟨y, g1, g2, g3⟩ := k1 j d e
      have g1' : cs[j]? = some y := by simpa using g1
      have : cs.getD j undef = y := by rw [Array.getD_eq_getD_getElem?, g1']; rfl
      rw [this]; exact g3
  have ht := hr.tmps
  generalize ha : a.tmps.toList = tl at ht
  cases ht with
  | cons hv hn =>
  cases hn
  cases hv with
  | arr _ g hg hroot hone =>
  rw [hg0] at hg; cases hg
  subst hroot
  rw [← e1] at htree
  refine ⟨⟨[.raw g0.root], [.forest [(g0.root, .lst l)]], 0⟩, hQ _, I, [⟨.slice none 0 0, fun j => j = b ∨ F1 j⟩], hr.defers, ?_, ⟨rfl, fun m g' o a1 a2 => ?_, fun i j gi gj b' a1 a2 hij => ?_, fun m g' b' a1 hb => ?_, hr.objs.imm⟩,
    ⟨hr.fr.os, hr.fr.tape, hr.fr.output, hr.fr.size, hr.fr.block, hr.fr.cell, hr.fr.im, fun m g' b' a1 hb => ?_⟩, fun m v e => ?_⟩
  · rw [ha]; exact .cons (.raw _ hone) .nil
  · cases m with
    | zero =>
      simp at a1 a2; subst a1; subst a2
      refine ⟨rfl, Forest.one hone htree, fun b' j hb hi => ?_⟩
      rcases hb with rfl | hb
      · exact e7 j hi
      · exact f3 b' j hb hi
    | succ m => simp at a2
  · cases i <;> cases j <;> simp at a1 a2 hij
  · cases m with
    | zero =>
      simp at a1; subst a1
      rcases hb with rfl | hb
      · exact hr.objs.inb k g0 _ hg0 hb0
      · exact f4 _ hb
    | succ m => simp at a1
  · cases m with
    | zero =>
      simp at a1; subst a1
      rcases hb with rfl | hb
      · exact hr.fr.own k g0 _ hg0 hb0
      · exact f5 _ hb
    | succ m => simp at a1
  · have := (hr.pr m v e).1
    simp at this
/-- The end of a function that hands back a row that it made. -/
theorem end_close {T : Ty} {K : St → Prop} {rs : List ResultVar} {X : Type} {φ : X → Prop} {ret : X → A} {post : X → List O} {t : List A} {h : List O} (hK : ∀ s, vcEnd T rs φ ret post s → K s) {k u sz : Nat} {L : List A} {Ls : List (Value × D)} {l : List D} {ag : Bool}
    (hv : vcRes T ⟨t, h, 0⟩ rs fun r => tupA r = .arr k) (hk : h[k]? = some (.row u sz L)) (hq : (∃ q : Nat, h[q]? = some (.forest Ls)) ∨ Ls = []) (ho : Opd ag l L Ls) (h1 : ∀ d ∈ l, ag = false → d.cells.length = 1)
    (hx : ∀ v, ∃ x, φ x ∧ ret x = .raw v ∧ post x = [.forest [(v, .lst l)]]) : K ⟨t, h, 0⟩ :=
  hK _ (vcRes_mono (fun r hr => by
    rw [hr]
    exact Turns.close hk hq ho h1 fun v => by obtain ⟨x, a1, a2, a3⟩ := hx v; exact ⟨x, a1, by rw [a2, a3]⟩) hv)
end Go.Ab
