/- A call from a state that owns trees: some are handed over, the others may be read meanwhile. -/
import Derived.Test.YtamicpfjieandaaAbTr
namespace Go.Ab
open Go
set_option linter.unusedVariables false
set_option linter.unusedSimpArgs false
mutual
/-- An argument, and what the callee is told of it: trees of L may be lent as data. -/
def lendOk (L : List (Value × D)) : A → A → Prop
  | .d x, b => b = .d x
  | .raw v, b => b = .raw v ∨ ∃ d, (v, d) ∈ L ∧ b = .d d
  | .nil, b => b = .nil ∨ b = .d (.lst [])
  | .agg as, b => (∃ bs, b = .agg bs ∧ lendAs L as bs) ∨ ∃ ds, b = .d (.agg ds) ∧ lendDs L as ds
  | _, _ => False
def lendAs (L : List (Value × D)) : List A → List A → Prop
  | [], b => b = []
  | a :: as, b => ∃ y ys, b = y :: ys ∧ lendOk L a y ∧ lendAs L as ys
def lendDs (L : List (Value × D)) : List A → List D → Prop
  | [], b => b = []
  | a :: as, b => ∃ y ys, b = y :: ys ∧ lendOk L a (.d y) ∧ lendDs L as ys
end
def D.free : D → Bool
  | .v _ => true
  | _ => false
def dfrees : List D → Bool
  | [] => true
  | d :: l => d.free && dfrees l
mutual
/-- A value that hangs on nothing that was lent. -/
def A.free : A → Bool
  | .d (.v _) => true
  | .d (.agg l) => dfrees l
  | .raw _ => true
  | .nil => true
  | .agg l => A.frees l
  | .tup l => A.frees l
  | _ => false
def A.frees : List A → Bool
  | [] => true
  | a :: l => a.free && A.frees l
end
section
variable {P : Program} {T : Ty} {w w' : World} {I I' : Im} {G G' : List Gh} {c : Cx} {s s' : St} {a : Act}
mutual
theorem VA.lend {L : List (Value × D)} (hI : ∀ b j, I b j → I' b j) (hL : ∀ v d, (v, d) ∈ L → VD w I' v d) : ∀ {x a b}, VA w I G x a → lendOk L a b → VA w I' G' x b
  | _, _, b, .d h, e => by simp only [lendOk] at e; subst e; exact .d (h.mono hI fun _ _ _ => rfl)
  | _, _, b, .raw x h, e => by
    simp only [lendOk] at e
    rcases e with rfl | ⟨d, hm, rfl⟩
    · exact .raw x h
    · exact .d (hL x d hm)
  | _, _, b, .nil, e => by
    simp only [lendOk] at e
    rcases e with rfl | rfl
    · exact .nil
    · exact .d .lnil
  | _, _, b, .agg cs l h h1, e => by
    simp only [lendOk] at e
    rcases e with ⟨bs, rfl, e⟩ | ⟨ds, rfl, e⟩
    · exact .agg cs bs (VAs.lend hI hL h e) h1
    · exact .d (.agg cs ds (VAs.lendD rfl hI hL h e h1))
  | _, _, b, .tup .., e => by simp [lendOk] at e
  | _, _, b, .sl .., e => by simp [lendOk] at e
  | _, _, b, .rptr .., e => by simp [lendOk] at e
  | _, _, b, .ref .., e => by simp [lendOk] at e
  | _, _, b, .own .., e => by simp [lendOk] at e
  | _, _, b, .arr .., e => by simp [lendOk] at e
  | _, _, b, .eptr .., e => by simp [lendOk] at e
  | _, _, b, .fn .., e => by simp [lendOk] at e
  | _, _, b, .mp .., e => by simp [lendOk] at e
  | _, _, b, .any _, e => by simp [lendOk] at e
theorem VAs.lend {L : List (Value × D)} (hI : ∀ b j, I b j → I' b j) (hL : ∀ v d, (v, d) ∈ L → VD w I' v d) : ∀ {x a b}, VAs w I G x a → lendAs L a b → VAs w I' G' x b
  | _, _, b, .nil, e => by simp only [lendAs] at e; subst e; exact .nil
  | _, _, b, .cons h1 h2, e => by
    simp only [lendAs] at e
    obtain ⟨y, ys, rfl, e1, e2⟩ := e
    exact .cons (VA.lend hI hL h1 e1) (VAs.lend hI hL h2 e2)
theorem VAs.lendD (hG' : G' = G') {L : List (Value × D)} (hI : ∀ b j, I b j → I' b j) (hL : ∀ v d, (v, d) ∈ L → VD w I' v d) : ∀ {x a b}, VAs w I G x a → lendDs L a b → (∀ y ∈ x, y.oneCell' = true) → VDs w I' x b
  | _, _, b, .nil, e, _ => by simp only [lendDs] at e; subst e; exact .nil
  | _, _, b, .cons h1 h2, e, ho => by
    simp only [lendDs] at e
    obtain ⟨y, ys, rfl, e1, e2⟩ := e
    refine .cons (ho _ List.mem_cons_self) ?_ (VAs.lendD rfl hI hL h2 e2 fun y hy => ho y (List.mem_cons_of_mem _ hy))
    have h3 : VA w I' G' _ (.d y) := VA.lend hI hL h1 e1
    cases h3 with
    | d h => exact h
end
theorem VDs.freeI : ∀ {x : List Value} {l : List D}, VDs w I x l → dfrees l = true → VDs w' I' x l
  | _, _, .nil, _ => .nil
  | _, _, .cons (c := c) h0 h1 h2, e => by
    simp only [dfrees, Bool.and_eq_true] at e
    refine .cons h0 ?_ (VDs.freeI h2 e.2)
    cases c <;> simp [D.free] at e
    cases h1 with
    | v _ h => exact .v _ h
mutual
theorem VA.freeI : ∀ {x a}, VA w I G x a → a.free = true → VA w' I' G' x a
  | _, _, .d (c := c) h, e => by
    cases c with
    | v y => cases h with | v _ h => exact .d (.v _ h)
    | agg l => cases h with | agg cs l h => exact .d (.agg cs l (h.freeI (by simpa [A.free] using e)))
    | lst l => simp [A.free] at e
  | _, _, .raw x h, _ => .raw x h
  | _, _, .nil, _ => .nil
  | _, _, .agg cs l h h1, e => .agg cs l (VAs.freeI h (by simpa [A.free] using e)) h1
  | _, _, .tup cs l h, e => .tup cs l (VAs.freeI h (by simpa [A.free] using e))
  | _, _, .sl .., e => by simp [A.free] at e
  | _, _, .rptr .., e => by simp [A.free] at e
  | _, _, .ref .., e => by simp [A.free] at e
  | _, _, .own .., e => by simp [A.free] at e
  | _, _, .arr .., e => by simp [A.free] at e
  | _, _, .eptr .., e => by simp [A.free] at e
  | _, _, .fn .., e => by simp [A.free] at e
  | _, _, .mp .., e => by simp [A.free] at e
  | _, _, .any _, e => by simp [A.free] at e
theorem VAs.freeI : ∀ {x a}, VAs w I G x a → A.frees a = true → VAs w' I' G' x a
  | _, _, .nil, _ => .nil
  | _, _, .cons h1 h2, e => by
    simp only [A.frees, Bool.and_eq_true] at e
    exact .cons (VA.freeI h1 e.1) (VAs.freeI h2 e.2)
end
/-- **A call that is handed the trees lc, may read the others, and leaves lc' in their place.** -/
theorem call_trees {f : FuncId} {args args' : List A} {t : List A} {h : List O} {p d q : Nat} {K : St → Prop} {X : Type} {φ : X → Prop} {ret : X → A} {lc' : X → List (Value × D)} {La lc Lb : List (Value × D)}
    (ct : Ct P f args' [.forest lc] φ ret (fun x => [.forest (lc' x)])) (hq : h[q]? = some (.forest (La ++ lc ++ Lb))) (hargs : lendAs (La ++ Lb) args args') (hfree : ∀ x, (ret x).free = true)
    (hK : ∀ x, φ x → K ⟨t.set d (ret x), h.set q (.forest (La ++ lc' x ++ Lb)), p⟩) : callVC P f args ⟨t, h, p⟩ (some d) K := by
  refine ⟨ct.1, fun c a w I G hr vs hvs => ?_⟩
  have hlen := hr.objs.len
  obtain ⟨g, hg, hroot, hfor, hni⟩ := hr.objs.get hq
  have hql : q < h.length := (List.getElem?_eq_some_iff.1 hq).1
  obtain ⟨FX, FB, hX, hB, sX, sB, dXB⟩ := hfor.split
  obtain ⟨FA, FC, hA, hC, sA, sC, dAC⟩ := hX.split
  have gA : ∀ b, FA b → g.F b := fun b hb => sX b (sA b hb)
  have gC : ∀ b, FC b → g.F b := fun b hb => sX b (sC b hb)
  have dCA : ∀ b, FC b → ¬ FA b := fun b h1 h2 => dAC b h2 h1
  have dCB : ∀ b, FC b → ¬ FB b := fun b h1 h2 => dXB b (sC b h1) h2
  let I1 : Im := fun b j => I b j ∨ ((FA b ∨ FB b) ∧ ∃ x, w.cell? ⟨b, j, none⟩ = some x)
  let G1 : List Gh := [⟨.slice none 0 0, FC⟩]
  have hlent : ∀ v d, (v, d) ∈ La ++ Lb → VD w I1 v d := fun v d hm => by
    rcases List.mem_append.1 hm with hm | hm
    · exact (hA.mem hm).2.vd fun b j x hb hx => .inr ⟨.inl hb, x, hx⟩
    · exact (hB.mem hm).2.vd fun b j x hb hx => .inr ⟨.inr hb, x, hx⟩
  have hv1 : VAs w I1 G1 vs args' := VAs.lend (fun b j h => .inl h) hlent hvs hargs
  have hrel1 : RelH w I1 G1 [.forest lc] := by
    refine ⟨rfl, fun k g' o e1 e2 => ?_, fun i j gi gj b e1 e2 hij => ?_, fun k g' b e hb => ?_, fun b j hi => ?_⟩
    · cases k with
      | zero =>
        simp [G1] at e1 e2; subst e1; subst e2
        refine ⟨rfl, hC, fun b j hb hi => ?_⟩
        rcases hi with hi | ⟨hi | hi, _⟩
        · exact hni b j (gC b hb) hi
        · exact dCA b hb hi
        · exact dCB b hb hi
      | succ k => simp at e2
    · cases i <;> cases j <;> simp [G1] at e1 e2 hij
    · cases k with
      | zero => simp [G1] at e; subst e; exact hr.objs.inb q g b hg (gC b hb)
      | succ k => simp [G1] at e
    · rcases hi with hi | ⟨_, hx⟩
      · exact hr.objs.imm b j hi
      · exact hx
  have hF1 : ∀ {b}, ownF G1 b ↔ FC b := fun {b} => ⟨fun ⟨k, g', e, hb⟩ => by
      cases k with
      | zero => simp [G1] at e; subst e; exact hb
      | succ k => simp [G1] at e, fun hb => ⟨0, _, rfl, hb⟩⟩
  refine (ct.2 w I1 G1 vs hv1 hrel1).mono ?_
  rintro e w' ⟨v, rfl, x, hx, I', G', hv, hrel', hfr, _, _⟩
  refine ⟨v, rfl, _, hK x hx, ?_⟩
  obtain ⟨g', hg', hroot', hfor', hni'⟩ := hrel'.get (k := 0) (o := .forest (lc' x)) rfl
  have hG'1 : G'.length = 1 := hrel'.len
  have newF : ∀ b, g'.F b → FC b ∨ w.heap.size ≤ b := fun b hb => by
    rcases hfr.own 0 g' b hg' hb with h | h
    · exact .inl (hF1.1 h)
    · exact .inr h
  have inb : ∀ b, g.F b → b < w.heap.size := fun b hb => hr.objs.inb q g b hg hb
  have hsame : ∀ b, b < w.heap.size → ¬ FC b → w'.heap[b]? = w.heap[b]? := fun b hb hn => hfr.block b hb fun h => hn (hF1.1 h)
  have hcell : ∀ b j, I b j → I' b j ∧ w'.cell? ⟨b, j, none⟩ = w.cell? ⟨b, j, none⟩ := fun b j hi => hfr.cell b j (.inl hi)
  let g2 : Gh := ⟨.slice none 0 0, fun b => (FA b ∨ g'.F b) ∨ FB b⟩
  let G2 : List Gh := G.set q g2
  have hqG : q < G.length := by rw [hlen]; exact hql
  have at2 : G2[q]? = some g2 := by simp only [G2, List.getElem?_set]; simp [hqG]
  have not2 : ∀ {k : Nat}, k ≠ q → G2[k]? = G[k]? := fun {k} hk => by simp only [G2]; rw [List.getElem?_set, if_neg fun h => hk h.symm]
  have roots2 : ∀ (k : Nat) (g0 : Gh), G[k]? = some g0 → ∃ g'' : Gh, G2[k]? = some g'' ∧ g''.root = g0.root := fun k g0 e => by
    by_cases hk : k = q
    · subst hk; rw [hg] at e; cases e; exact ⟨g2, at2, hroot.symm⟩
    · exact ⟨g0, (not2 hk).trans e, rfl⟩
  have F2 : ∀ b, g2.F b → g.F b ∨ w.heap.size ≤ b := fun b hb => by
    rcases hb with (hb | hb) | hb
    · exact .inl (gA b hb)
    · rcases newF b hb with h | h
      · exact .inl (gC b h)
      · exact .inr h
    · exact .inl (sB b hb)
  have hobj2 : ObjR w' I G2 g2 (.forest (La ++ lc' x ++ Lb)) := by
    refine ⟨rfl, ?_, fun b j hb hi => ?_⟩
    · refine Forest.app (Forest.app (hA.keep fun b hb => hsame b (inb b (gA b hb)) fun h => dCA b h hb) hfor' fun b h1 h2 => ?_) (hB.keep fun b hb => hsame b (inb b (sB b hb)) fun h => dCB b h hb) fun b h1 h2 => ?_
      · rcases newF b h2 with h | h
        · exact dCA b h h1
        · have := inb b (gA b h1); omega
      · rcases h1 with h1 | h1
        · exact dXB b (sA b h1) h2
        · rcases newF b h1 with h | h
          · exact dCB b h h2
          · have := inb b (sB b h2); omega
    · rcases hb with (hb | hb) | hb
      · exact hni b j (gA b hb) hi
      · exact hni' b j hb (hcell b j hi).1
      · exact hni b j (sB b hb) hi
  have hX2 : RelX c ⟨t, h.set q (.forest (La ++ lc' x ++ Lb)), p⟩ a w' I G2 := by
    refine ⟨hr.defers, hr.tmps.mono (fun _ _ h => h) (fun b j hi => (hcell b j hi).2) roots2, ⟨by simp [G2, hlen], fun k g0 o e1 e2 => ?_, fun i j gi gj b e1 e2 hij hb hb' => ?_, fun k g0 b e hb => ?_, fun b j hi => ?_⟩,
      ⟨hfr.os.trans hr.fr.os, hfr.tape.trans hr.fr.tape, hfr.output.trans hr.fr.output, Nat.le_trans hr.fr.size hfr.size, fun b hb hn => ?_, fun b j hi => ?_, hr.fr.im, fun k g0 b e hb => ?_⟩, fun k v' e => ?_⟩
    · by_cases hk : k = q
      · subst hk
        rw [at2] at e1; cases e1
        rw [List.getElem?_set, if_pos rfl, if_pos hql] at e2
        cases e2
        exact hobj2
      · rw [not2 hk] at e1
        rw [List.getElem?_set, if_neg fun h => hk h.symm] at e2
        refine (hr.objs.obj k g0 o e1 e2).keep (fun _ _ h => h) (fun b j hi => (hcell b j hi).2) roots2 (fun b hb => hsame b (hr.objs.inb k g0 b e1 hb) fun hc => hr.objs.disj k q g0 g b e1 hg hk hb (gC b hc)) (fun _ _ _ h => h)
    · have fromk : ∀ {k : Nat} {g0 : Gh}, G2[k]? = some g0 → g0.F b → (k = q ∧ (g.F b ∨ w.heap.size ≤ b)) ∨ (k ≠ q ∧ G[k]? = some g0) := fun {k g0} e hb => by
        by_cases hk : k = q
        · subst hk; rw [at2] at e; cases e; exact .inl ⟨rfl, F2 b hb⟩
        · exact .inr ⟨hk, (not2 hk).symm.trans e⟩
      rcases fromk e1 hb with ⟨rfl, h1⟩ | ⟨h1, f1⟩ <;> rcases fromk e2 hb' with ⟨rfl, h2⟩ | ⟨h2, f2⟩
      · exact hij rfl
      · rcases h1 with h1 | h1
        · exact hr.objs.disj _ j g gj b hg f2 hij h1 hb'
        · have := hr.objs.inb j gj b f2 hb'; omega
      · rcases h2 with h2 | h2
        · exact hr.objs.disj i _ gi g b f1 hg hij hb h2
        · have := hr.objs.inb i gi b f1 hb; omega
      · exact hr.objs.disj i j gi gj b f1 f2 hij hb hb'
    · by_cases hk : k = q
      · subst hk; rw [at2] at e; cases e
        rcases hb with (hb | hb) | hb
        · exact Nat.lt_of_lt_of_le (inb b (gA b hb)) hfr.size
        · exact hrel'.inb 0 g' b hg' hb
        · exact Nat.lt_of_lt_of_le (inb b (sB b hb)) hfr.size
      · exact Nat.lt_of_lt_of_le (hr.objs.inb k g0 b ((not2 hk).symm.trans e) hb) hfr.size
    · exact hrel'.imm b j (hcell b j hi).1
    · refine (hsame b (Nat.lt_of_lt_of_le hb hr.fr.size) fun hc => ?_).trans (hr.fr.block b hb hn)
      rcases hr.fr.own q g b hg (gC b hc) with h | h
      · exact hn h
      · omega
    · obtain ⟨h1, h2⟩ := hr.fr.cell b j hi
      exact ⟨h1, (hcell b j h1).2.trans h2⟩
    · by_cases hk : k = q
      · subst hk; rw [at2] at e; cases e
        rcases F2 b hb with h | h
        · exact hr.fr.own _ g b hg h
        · exact .inr (Nat.le_trans hr.fr.size h)
      · exact hr.fr.own k g0 b ((not2 hk).symm.trans e) hb
    · obtain ⟨h1, h2, g0, h3, h4⟩ := hr.pr k v' e
      obtain ⟨g'', h5, h6⟩ := roots2 k g0 h3
      exact ⟨h1, h2, g'', h5, h6.trans h4⟩
  exact ⟨I, G2, hX2.put (hv.freeI (hfree x)) (some d)⟩
end
end Go.Ab
