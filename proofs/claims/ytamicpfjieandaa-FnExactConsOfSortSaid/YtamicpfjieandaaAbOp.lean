/- A made row that will be written no more becomes data. -/
import Derived.Test.YtamicpfjieandaaAbO
namespace Go.Ab
open Go
set_option linter.unusedVariables false
set_option linter.unusedSimpArgs false
mutual
def A.pub (k : Nat) (q : List D) : A → A
  | .agg l => .agg (A.pubs k q l)
  | .tup l => .tup (A.pubs k q l)
  | .sl j l => if j = k then .any else .sl j (A.pubs k q l)
  | .ref j off => if j = k then .any else .ref j off
  | .own j l => if j = k then .d (.lst l) else .own j l
  | .arr j => if j = k then .d (.lst q) else .arr j
  | .eptr j sz i off => if j = k then .any else .eptr j sz i off
  | .fn f l => .fn f (A.pubs k q l)
  | .mp j => if j = k then .any else .mp j
  | .raw x => .raw x
  | .d x => .d x
  | .nil => .nil
  | .rptr l => .rptr l
  | .any => .any
def A.pubs (k : Nat) (q : List D) : List A → List A
  | [] => []
  | a :: l => a.pub k q :: A.pubs k q l
end
theorem A.pubs_eq (k : Nat) (q : List D) (l : List A) : A.pubs k q l = l.map (A.pub k q) := by
  induction l with
  | nil => rfl
  | cons a l ih => simp [A.pubs, ih]
theorem A.cells_pub (k : Nat) (q : List D) (a : A) : (a.pub k q).cells = a.cells.map (A.pub k q) := by
  cases a with
  | d x => cases x <;> simp [A.pub, A.cells, Function.comp_def]
  | agg l => simp [A.pub, A.cells, A.pubs_eq]
  | ref j off => simp only [A.pub]; split <;> simp_all [A.cells, A.pub]
  | own j l => simp only [A.pub]; split <;> simp_all [A.cells, A.pub]
  | arr j => simp only [A.pub]; split <;> simp_all [A.cells, A.pub]
  | eptr j sz i off => simp only [A.pub]; split <;> simp_all [A.cells, A.pub]
  | mp j => simp only [A.pub]; split <;> simp_all [A.cells, A.pub]
  | sl j l => simp only [A.pub]; split <;> simp_all [A.cells, A.pub]
  | _ => simp [A.pub, A.cells, A.pubs_eq]
theorem A.flat_pub (k : Nat) (q : List D) (l : List A) : (l.map (A.pub k q)).flatMap A.cells = (l.flatMap A.cells).map (A.pub k q) := by
  induction l with
  | nil => rfl
  | cons a l ih => simp [A.cells_pub, ih]
section
variable {w w' : World} {I I' : Im} {G G' : List Gh}
mutual
theorem VA.pub (hI : ∀ b j, I b j → I' b j) (hc : ∀ b j, I b j → w'.cell? ⟨b, j, none⟩ = w.cell? ⟨b, j, none⟩) (q : Nat) (r : List D)
    (hG : ∀ (k : Nat) (g : Gh), k ≠ q → G[k]? = some g → ∃ g' : Gh, G'[k]? = some g' ∧ g'.root = g.root) (hq : ∀ g : Gh, G[q]? = some g → VD w' I' g.root (.lst r)) : ∀ {x c}, VA w I G x c → VA w' I' G' x (c.pub q r)
  | _, _, .d h => .d (h.mono hI hc)
  | _, _, .agg cs l h h1 => by rw [A.pub]; exact .agg cs _ (VAs.pub hI hc q r hG hq h) h1
  | _, _, .tup cs l h => by rw [A.pub]; exact .tup cs _ (VAs.pub hI hc q r hG hq h)
  | _, _, .nil => .nil
  | _, _, .sl b n k l g e1 e2 h1 h => by
    rw [A.pub, A.pubs_eq]; split
    · exact .any _
    · obtain ⟨g', f1, f2⟩ := hG k g (by assumption) e1
      exact .sl b n _ _ g' f1 (f2.trans e2) (by simpa using h1) (by rw [A.flat_pub]; exact VAc.pub hI hc q r hG hq h)
  | _, _, .rptr b off l h => .rptr b off l (h.mono hI hc)
  | _, _, .ref b k off g h1 h2 => by
    rw [A.pub]; split
    · exact .any _
    · obtain ⟨g', e1, e2⟩ := hG k g (by assumption) h1; exact .ref b _ off g' e1 (e2.trans h2)
  | _, _, .own k l g h1 h2 h3 => by
    rw [A.pub]; split
    · exact .d (h3.mono hI hc)
    · obtain ⟨g', e1, e2⟩ := hG k g (by assumption) h1; exact .own _ l g' e1 (e2.trans h2) (h3.mono hI hc)
  | _, _, .arr k g h1 h2 h3 => by
    rw [A.pub]; split
    · rename_i e; subst e; have := hq g h1; rw [h2] at this; exact .d this
    · obtain ⟨g', e1, e2⟩ := hG k g (by assumption) h1; exact .arr _ g' e1 (e2.trans h2) h3
  | _, _, .eptr b k sz i off n c g h1 h2 => by
    rw [A.pub]; split
    · exact .any _
    · obtain ⟨g', e1, e2⟩ := hG k g (by assumption) h1; exact .eptr b _ sz i off n c g' e1 (e2.trans h2)
  | _, _, .fn f cs l h => by rw [A.pub]; exact .fn f cs _ (VAs.pub hI hc q r hG hq h)
  | _, _, .mp m k g h1 h2 => by
    rw [A.pub]; split
    · exact .any _
    · obtain ⟨g', e1, e2⟩ := hG k g (by assumption) h1; exact .mp m _ g' e1 (e2.trans h2)
  | _, _, .raw x h => .raw x h
  | _, _, .any x => .any x
theorem VAs.pub (hI : ∀ b j, I b j → I' b j) (hc : ∀ b j, I b j → w'.cell? ⟨b, j, none⟩ = w.cell? ⟨b, j, none⟩) (q : Nat) (r : List D)
    (hG : ∀ (k : Nat) (g : Gh), k ≠ q → G[k]? = some g → ∃ g' : Gh, G'[k]? = some g' ∧ g'.root = g.root) (hq : ∀ g : Gh, G[q]? = some g → VD w' I' g.root (.lst r)) : ∀ {x c}, VAs w I G x c → VAs w' I' G' x (A.pubs q r c)
  | _, _, .nil => .nil
  | _, _, .cons h1 h2 => .cons (VA.pub hI hc q r hG hq h1) (VAs.pub hI hc q r hG hq h2)
theorem VAc.pub (hI : ∀ b j, I b j → I' b j) (hc : ∀ b j, I b j → w'.cell? ⟨b, j, none⟩ = w.cell? ⟨b, j, none⟩) (q : Nat) (r : List D)
    (hG : ∀ (k : Nat) (g : Gh), k ≠ q → G[k]? = some g → ∃ g' : Gh, G'[k]? = some g' ∧ g'.root = g.root) (hq : ∀ g : Gh, G[q]? = some g → VD w' I' g.root (.lst r)) : ∀ {b off l}, VAc w I G b off l → VAc w' I' G' b off (l.map (A.pub q r))
  | _, _, _, .nil b off => .nil b off
  | _, _, _, .cons h1 h2 h3 h4 h5 => .cons ((hc _ _ h2).trans h1) (hI _ _ h2) h3 (VA.pub hI hc q r hG hq h4) (VAc.pub hI hc q r hG hq h5)
end
end
def O.pub (k : Nat) (q : List D) : O → O
  | .box t l => .box t (A.pubs k q l)
  | .row t sz l => .row t sz (A.pubs k q l)
  | .opn r t sz l => .opn r t sz (A.pubs k q l)
  | o => o
def O.pubL (k : Nat) (q : List D) : List O → List O
  | [] => []
  | o :: l => o.pub k q :: O.pubL k q l
theorem pubL_get (k : Nat) (q : List D) : ∀ (l : List O) (i : Nat), (O.pubL k q l)[i]? = (l[i]?).map (O.pub k q)
  | [], i => by simp [O.pubL]
  | o :: l, 0 => by simp [O.pubL]
  | o :: l, i + 1 => by simp [O.pubL, pubL_get k q l i]
theorem pubL_len (k : Nat) (q : List D) : ∀ l : List O, (O.pubL k q l).length = l.length
  | [] => rfl
  | o :: l => by simp [O.pubL, pubL_len k q l]
def St.pub (s : St) (k : Nat) (q : List D) : St := ⟨A.pubs k q s.t, (O.pubL k q s.h).set k .dead, s.p⟩
def pub? (k : Nat) (s : St) : Option St :=
  match s.h[k]? with
  | some (.row _ _ l) => match toEs? l with
    | some q => some (s.pub k q)
    | none => none
  | _ => none
def pubs? : List Nat → St → Option St
  | [], s => some s
  | k :: r, s => match pub? k s with
    | some s' => pubs? r s'
    | none => none
section
variable {P : Program} {T : Ty} {w w' : World} {I I' : Im} {G G' : List Gh} {c : Cx} {s s' : St} {a : Act}
theorem ObjR.pub {g : Gh} {o : O} (q : Nat) (r : List D) (hI : ∀ b j, I b j → I' b j) (hc : ∀ b j, I b j → w'.cell? ⟨b, j, none⟩ = w.cell? ⟨b, j, none⟩)
    (hG : ∀ (k : Nat) (g : Gh), k ≠ q → G[k]? = some g → ∃ g' : Gh, G'[k]? = some g' ∧ g'.root = g.root) (hq : ∀ g : Gh, G[q]? = some g → VD w' I' g.root (.lst r))
    (hF : ∀ b, g.F b → w'.heap[b]? = w.heap[b]?) (hIF : ∀ b j, g.F b → I' b j → I b j) (h : ObjR w I G g o) : ObjR w' I' G' g (o.pub q r) := by
  cases o with
  | box t l =>
    obtain ⟨b, cs, h1, h2, h3, h4, h5, h6⟩ := h
    have hb := (h5 b).2 rfl
    exact ⟨b, cs, h1, (hF b hb).trans h2, h3.pub hI hc q r hG hq, h4, h5, fun j hj => h6 j (hIF b j hb hj)⟩
  | app t sz dp =>
    rcases h with h | h | ⟨b, n, cap, cs, h1, h2, h3, h4, h5, h6, h7, h9⟩
    · exact .inl h
    · exact .inr (.inl h)
    · exact .inr (.inr ⟨b, n, cap, cs, h1, (hF b h6).trans h2, h3, h4, h5, h6, fun j hj hi => h7 j hj (hIF b j h6 hi), fun hd => (h9 hd).keep hF⟩)
  | row t sz l =>
    obtain ⟨b, cs, h1, h2, h3, h4, h5, h6, h7⟩ := h
    have hb := (h6 b).2 rfl
    refine ⟨b, cs, ?_, (hF b hb).trans h2, ?_, h4, ?_, h6, fun j hj => h7 j (hIF b j hb hj)⟩
    · rw [A.pubs_eq, List.length_map]; exact h1
    · have := h3.pub hI hc q r hG hq
      rw [A.pubs_eq, A.flat_pub]
      rwa [A.pubs_eq] at this
    · intro x hx
      rw [A.pubs_eq] at hx
      obtain ⟨y, hy, rfl⟩ := List.mem_map.1 hx
      rw [A.cells_pub, List.length_map]
      exact h5 y hy
  | opn r0 t sz l =>
    obtain ⟨h0, b, cs, t', sp, cap, h1, hcap, h2, h3, h4, h5, h6, h7⟩ := h
    have hb := (h6 b).2 rfl
    refine ⟨h0, b, cs, t', sp, cap, ?_, ?_, (hF b hb).trans h2, ?_, by rw [A.pubs_eq, List.length_map]; exact h4, ?_, h6, fun j hj => h7 j (hIF b j hb hj)⟩
    · rw [A.pubs_eq, List.length_map]; exact h1
    · rw [A.pubs_eq, List.length_map]; exact hcap
    · have := h3.pub hI hc q r hG hq
      rw [A.pubs_eq, A.flat_pub]
      rw [A.pubs_eq, List.map_append, List.map_replicate] at this
      exact this
    · intro x hx
      rw [A.pubs_eq] at hx
      obtain ⟨y, hy, rfl⟩ := List.mem_map.1 hx
      rw [A.cells_pub, List.length_map]
      exact h5 y hy
  | forest l => exact ⟨h.1, h.2.1.keep hF, fun b j hb hi => h.2.2 b j hb (hIF b j hb hi)⟩
  | map kt vt l =>
    obtain ⟨m, es, c, h1, h2, h3, h4⟩ := h
    exact ⟨m, es, c, h1, (hF m ((h4 m).2 rfl)).trans h2, ⟨h3.1, VDs.mono hI hc h3.2⟩, h4⟩
  | dead => exact h
theorem vdc_of {b : Nat} : ∀ {cs : List Value} {l : List D} {off : Nat}, VDs w I cs l → (∀ (j : Nat) (v : Value), cs[j]? = some v → w.cell? ⟨b, off + j, none⟩ = some v) → (∀ j, j < cs.length → I b (off + j)) → VDc w I b off l
  | _, _, off, .nil, _, _ => .nil _ _
  | _, _, off, .cons h0 h1 h2, hc, hi => .cons (hc 0 _ rfl) (hi 0 (by simp)) h0 h1 (vdc_of h2 (fun j v hv => by
      have := hc (j + 1) v (by simpa using hv); rwa [show off + 1 + j = off + (j + 1) by omega]) (fun j hj => by
      have := hi (j + 1) (by simp; omega); rwa [show off + 1 + j = off + (j + 1) by omega]))
/-- A made row becomes data. -/
theorem RelX.pub (h : RelX c s a w I G) {k t sz : Nat} {l : List A} {q : List D} (ek : s.h[k]? = some (.row t sz l)) (eq : toEs? l = some q) : ∃ I' G', RelX c (s.pub k q) a w I' G' := by
  have hlen := h.objs.len
  have hk : k < G.length := by rw [hlen]; exact (List.getElem?_eq_some_iff.1 ek).1
  have egk : G[k]? = some G[k] := List.getElem?_eq_getElem hk
  obtain ⟨b, cs, h1, h2, h3, h4, h5, h6, h7⟩ := h.objs.obj k _ _ egk ek
  let I' : Im := fun b' j => I b' j ∨ (b' = b ∧ j < cs.size)
  let G' : List Gh := G.set k ⟨G[k].root, fun _ => False⟩
  have hI : ∀ b' j, I b' j → I' b' j := fun _ _ h => .inl h
  have hc : ∀ b' j, I b' j → w.cell? ⟨b', j, none⟩ = w.cell? ⟨b', j, none⟩ := fun _ _ _ => rfl
  have hb := (h6 b).2 rfl
  have gne : ∀ (i : Nat) (g : Gh), i ≠ k → G[i]? = some g → G'[i]? = some g := fun i g hi e => by
    simp only [G']; rw [List.getElem?_set, if_neg (fun h => hi h.symm)]; exact e
  have geq : G'[k]? = some ⟨G[k].root, fun _ => False⟩ := by simp only [G']; rw [List.getElem?_set]; simp [hk]
  have hG : ∀ (i : Nat) (g : Gh), i ≠ k → G[i]? = some g → ∃ g' : Gh, G'[i]? = some g' ∧ g'.root = g.root := fun i g hi e => ⟨g, gne i g hi e, rfl⟩
  have hq : ∀ g : Gh, G[k]? = some g → VD w I' g.root (.lst q) := fun g e => by
    rw [egk] at e; cases e
    rw [h1]
    have hd : VDs w I cs.toList (q.flatMap D.cells) := toDs_cells h4 h3 (toEs_cells eq)
    refine .lst b 0 _ _ q (toEs_len eq) (Nat.le_refl _) (vdc_of (hd.mono' hI hc) (fun j v hv => ?_) (fun j hj => .inr ⟨rfl, by simpa using hj⟩))
    rw [Nat.zero_add, cell_in h2]; simpa using hv
  have gback : ∀ {i : Nat} {g : Gh}, G'[i]? = some g → (i ≠ k ∧ G[i]? = some g) ∨ (i = k ∧ g = ⟨G[k].root, fun _ => False⟩) := fun {i g} e => by
    by_cases hi : i = k
    · subst hi; rw [geq] at e; cases e; exact .inr ⟨rfl, rfl⟩
    · simp only [G'] at e; rw [List.getElem?_set, if_neg (fun h => hi h.symm)] at e; exact .inl ⟨hi, e⟩
  refine ⟨I', G', h.defers, h.tmps.pub hI hc k q hG hq, ⟨?_, ?_, ?_, ?_, ?_⟩, ⟨h.fr.os, h.fr.tape, h.fr.output, h.fr.size, h.fr.block, fun b' j hb' => ⟨hI _ _ (h.fr.cell b' j hb').1, (h.fr.cell b' j hb').2⟩, ?_, ?_⟩, fun i v e => ?_⟩
  · simp [G', St.pub, pubL_len, hlen]
  · intro i g o e1 e2
    rcases gback e1 with ⟨hi, e⟩ | ⟨rfl, rfl⟩
    · simp only [St.pub] at e2
      rw [List.getElem?_set, if_neg (fun h => hi h.symm), pubL_get] at e2
      obtain ⟨o', f1, rfl⟩ := Option.map_eq_some_iff.1 e2
      refine ObjR.pub k q hI hc hG hq (fun _ _ => rfl) (fun b' j hF hi' => ?_) (h.objs.obj i g o' e f1)
      rcases hi' with hi' | ⟨rfl, _⟩
      · exact hi'
      · exact absurd hb (h.objs.disj i k g _ b' e egk hi hF)
    · simp only [St.pub] at e2
      rw [List.getElem?_set, if_pos rfl] at e2
      split at e2
      · cases e2; intro b' hF; exact hF
      · cases e2
  · intro i j gi gj b' e1 e2 hij hF hF'
    rcases gback e1 with ⟨hi, e⟩ | ⟨rfl, rfl⟩
    · rcases gback e2 with ⟨hj, e'⟩ | ⟨rfl, rfl⟩
      · exact h.objs.disj i j gi gj b' e e' hij hF hF'
      · exact hF'
    · exact hF
  · intro i g b' e hF
    rcases gback e with ⟨hi, e⟩ | ⟨rfl, rfl⟩
    · exact h.objs.inb i g b' e hF
    · exact hF.elim
  · rintro b' j (hi | ⟨rfl, hj⟩)
    · exact h.objs.imm b' j hi
    · exact ⟨cs[j], by rw [cell_in h2]; simp [hj]⟩
  · rintro b' j (hi | ⟨rfl, hj⟩)
    · exact h.fr.im b' j hi
    · exact .inr (h.fr.own k _ b' egk hb)
  · intro i g b' e hF
    rcases gback e with ⟨hi, e⟩ | ⟨rfl, rfl⟩
    · exact h.fr.own i g b' e hF
    · exact hF.elim
  · obtain ⟨p1, p2, g, p3, p4⟩ := h.pr i v e
    by_cases hi : i = k
    · subst hi
      rw [egk] at p3; cases p3
      exact absurd (p4.symm.trans h1) (p2 _ _ _)
    · exact ⟨p1, p2, g, gne i g hi p3, p4⟩
theorem RelX.pub? (h : RelX c s a w I G) {k : Nat} (e : pub? k s = some s') : ∃ I' G', RelX c s' a w I' G' := by
  unfold Ab.pub? at e
  split at e
  · rename_i t sz l ek
    split at e
    · rename_i q eq
      cases e
      exact h.pub ek eq
    · cases e
  · cases e
theorem RelX.pubs? : ∀ {ks : List Nat} {s s' : St} {I : Im} {G : List Gh}, RelX c s a w I G → pubs? ks s = some s' → ∃ I' G', RelX c s' a w I' G'
  | [], s, s', I, G, h, e => by simp only [Ab.pubs?] at e; cases e; exact ⟨I, G, h⟩
  | k :: r, s, s', I, G, h, e => by
    simp only [Ab.pubs?] at e
    split at e
    · rename_i s1 e1
      obtain ⟨I', G', h'⟩ := h.pub? e1
      exact RelX.pubs? h' e
    · cases e
end
end Go.Ab
