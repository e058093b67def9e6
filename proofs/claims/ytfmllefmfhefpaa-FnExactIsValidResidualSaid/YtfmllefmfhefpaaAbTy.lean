/- Trees owned whole: what they are to who reads them, and calls that are handed some of them. -/
import Derived.Test.YtfmllefmfhefpaaAbPs
import Derived.Laws.BytesString
namespace Go.Ab
open Go
set_option linter.unusedVariables false
set_option linter.unusedSimpArgs false
section
variable {w w' : World} {I I' : Im} {G G' : List Gh} {c : Cx} {s s' : St} {a : Act}
theorem vdc_idx {b : Nat} : ∀ {L : List D} {off : Nat}, (∀ (j : Nat) (d : D), L[j]? = some d → ∃ x, w.cell? ⟨b, off + j, none⟩ = some x ∧ I b (off + j) ∧ x.oneCell' = true ∧ VD w I x d) → VDc w I b off L
  | [], off, _ => .nil b off
  | d :: L, off, h => by
    obtain ⟨x, h1, h2, h3, h4⟩ := h 0 d rfl
    exact .cons h1 h2 h3 h4 (vdc_idx fun j d' e => by
      obtain ⟨y, f1, f2, f3, f4⟩ := h (j + 1) d' (by simpa using e)
      exact ⟨y, by rw [show off + 1 + j = off + (j + 1) by omega]; exact f1, by rw [show off + 1 + j = off + (j + 1) by omega]; exact f2, f3, f4⟩)
/-- A tree is data to those who may read its blocks. -/
theorem TreeV.vd : ∀ {F : Nat → Prop} {v : Value} {d : D}, TreeV w F v d → (∀ b j x, F b → w.cell? ⟨b, j, none⟩ = some x → I b j) → VD w I v d
  | _, _, _, .v F x h, _ => .v x h
  | _, _, _, .nil F, _ => .lnil
  | _, _, _, .emp F a c, _ => .lemp a c
  | _, _, _, .lst F Fs xs b n c t cs l hb hh hn hc h1 h2 h4 h5, hI =>
    .lst b 0 n c l hn hc (vdc_idx fun j d e => by
      obtain ⟨f1, f2⟩ := h1 j d e
      have hcell : w.cell? ⟨b, 0 + j, none⟩ = some (xs j) := by rw [Nat.zero_add, cell_in hh]; exact f1
      exact ⟨xs j, hcell, hI b _ _ hb hcell, f2, (h2 j d e).vd fun b' j' x hF hx => hI b' j' x (h4 j b' hF).1 hx⟩)
theorem vdc_at {b : Nat} : ∀ {L : List D} {off : Nat}, VDc w I b off L → ∀ {j : Nat} {d : D}, L[j]? = some d → ∃ x, w.cell? ⟨b, off + j, none⟩ = some x ∧ x.oneCell' = true ∧ VD w I x d
  | _, _, .nil b off, j, d, e => by simp at e
  | _, _, .cons h1 h2 h3 h4 h5, 0, d, e => by simp at e; subst e; exact ⟨_, h1, h3, h4⟩
  | _, _, .cons (off := off) h1 h2 h3 h4 h5, j + 1, d, e => by
    obtain ⟨x, f1, f2, f3⟩ := vdc_at h5 (j := j) (by simpa using e)
    exact ⟨x, by rw [show off + (j + 1) = off + 1 + j by omega]; exact f1, f2, f3⟩
/-- What is read and lies in blocks of one's own is a tree of one's own. -/
theorem tree_of : ∀ {F : Nat → Prop} {x : Value}, Shp w F x → ∀ {d : D}, VD w I x d → x.oneCell' = true → TreeV w F x d
  | _, _, .one F x h, d, hd, h1 => by
    cases hd with
    | v x h2 => exact .v F x h2
    | agg cs l h2 => simp [Value.oneCell'] at h1
    | lnil => exact .nil F
    | lemp a c => exact .emp F a c
    | lst b off n cap l e1 e2 e3 =>
      have h0 := h _ _ _ rfl
      subst h0
      have : l = [] := List.length_eq_zero_iff.1 e1.symm
      subst this
      exact .emp F _ _
  | _, _, .slc F Fs b n c t cs hb hh h2 h3 h4, d, hd, h1 => by
    cases hd with
    | v x h5 => simp [sc] at h5
    | lemp a c => exact .emp F _ _
    | lst b off n cap l e1 e2 e3 =>
      have key : ∀ (j : Nat) (d : D), (l.flatMap D.cells)[j]? = some d → cs[j]? = some (cs.getD j undef) ∧ (cs.getD j undef).oneCell' = true ∧ VD w I (cs.getD j undef) d := fun j d e => by
        obtain ⟨x, f1, f2, f3⟩ := vdc_at e3 e
        rw [Nat.zero_add, cell_in hh] at f1
        have : cs.getD j undef = x := by rw [Array.getD_eq_getD_getElem?, f1]; rfl
        rw [this]
        exact ⟨f1, f2, f3⟩
      exact .lst F Fs (fun j => cs.getD j undef) b n _ t cs l hb hh e1 e2 (fun j d e => ⟨(key j d e).1, (key j d e).2.1⟩) (fun j d e => tree_of (h2 j _ (key j d e).1) (key j d e).2.2 (key j d e).2.1) h3 h4
theorem TreeV.wide : ∀ {F F' : Nat → Prop} {v : Value} {d : D}, TreeV w F v d → (∀ b, F b → F' b) → TreeV w F' v d
  | _, F', _, _, .v _ x h, _ => .v F' x h
  | _, F', _, _, .nil _, _ => .nil F'
  | _, F', _, _, .emp _ a c, _ => .emp F' a c
  | _, F', _, _, .lst _ Fs xs b n c t cs l hb hh hn hc h1 h2 h4 h5, hF => .lst F' Fs xs b n c t cs l (hF b hb) hh hn hc h1 h2 (fun j k hk => ⟨hF k (h4 j k hk).1, (h4 j k hk).2⟩) h5
/-! ### Forests -/
theorem Forest.mt (F : Nat → Prop) : Forest w F [] := ⟨fun _ _ => False, fun m v d e => by simp at e, fun _ _ h => h.elim, fun _ _ _ _ h => h.elim⟩
theorem Forest.wide {F F' : Nat → Prop} {l : List (Value × D)} (h : Forest w F l) (hF : ∀ b, F b → F' b) : Forest w F' l := by
  obtain ⟨Fs, h1, h2, h3⟩ := h
  exact ⟨Fs, h1, fun m k hk => hF k (h2 m k hk), h3⟩
theorem Forest.app {F1 F2 : Nat → Prop} {l1 l2 : List (Value × D)} (h1 : Forest w F1 l1) (h2 : Forest w F2 l2) (hd : ∀ b, F1 b → ¬ F2 b) : Forest w (fun b => F1 b ∨ F2 b) (l1 ++ l2) := by
  obtain ⟨A, a1, a2, a3⟩ := h1
  obtain ⟨B, b1, b2, b3⟩ := h2
  refine ⟨fun m k => if m < l1.length then A m k else B (m - l1.length) k, fun m v d e => ?_, fun m k hk => ?_, fun i j k hij hi hj => ?_⟩
  · by_cases hm : m < l1.length
    · simp only [hm, if_true]
      rw [List.getElem?_append_left hm] at e
      exact a1 m v d e
    · simp only [hm, if_false]
      rw [List.getElem?_append_right (by omega)] at e
      exact b1 _ v d e
  · by_cases hm : m < l1.length
    · simp only [hm, if_true] at hk; exact .inl (a2 m k hk)
    · simp only [hm, if_false] at hk; exact .inr (b2 _ k hk)
  · by_cases h1 : i < l1.length <;> by_cases h2 : j < l1.length <;> simp only [h1, h2, if_true, if_false] at hi hj
    · exact a3 i j k hij hi hj
    · exact hd k (a2 _ k hi) (b2 _ k hj)
    · exact hd k (a2 _ k hj) (b2 _ k hi)
    · exact b3 _ _ k (by omega) hi hj
theorem Forest.split {F : Nat → Prop} {l1 l2 : List (Value × D)} (h : Forest w F (l1 ++ l2)) : ∃ F1 F2 : Nat → Prop, Forest w F1 l1 ∧ Forest w F2 l2 ∧ (∀ b, F1 b → F b) ∧ (∀ b, F2 b → F b) ∧ ∀ b, F1 b → ¬ F2 b := by
  obtain ⟨A, a1, a2, a3⟩ := h
  refine ⟨fun b => ∃ m, m < l1.length ∧ A m b, fun b => ∃ m, l1.length ≤ m ∧ A m b, ⟨fun m k => m < l1.length ∧ A m k, fun m v d e => ?_, fun m k hk => ⟨m, hk⟩, fun i j k hij hi hj => a3 i j k hij hi.2 hj.2⟩,
    ⟨fun m k => A (l1.length + m) k, fun m v d e => ?_, fun m k hk => ⟨_, Nat.le_add_right _ _, hk⟩, fun i j k hij hi hj => a3 _ _ k (by omega) hi hj⟩, fun b ⟨m, _, h⟩ => a2 m b h, fun b ⟨m, _, h⟩ => a2 m b h, fun b ⟨m, h1, h2⟩ ⟨n, h3, h4⟩ => a3 m n b (by omega) h2 h4⟩
  · have hm := (List.getElem?_eq_some_iff.1 e).1
    obtain ⟨f1, f2⟩ := a1 m v d (by rw [List.getElem?_append_left hm]; exact e)
    exact ⟨f1, f2.wide fun b hb => ⟨hm, hb⟩⟩
  · exact a1 _ v d (by rw [List.getElem?_append_right (by omega), Nat.add_sub_cancel_left]; exact e)
theorem Forest.one {F : Nat → Prop} {v : Value} {d : D} (h1 : v.oneCell' = true) (h : TreeV w F v d) : Forest w F [(v, d)] :=
  ⟨fun m k => m = 0 ∧ F k, fun m v' d' e => by
    cases m with
    | zero => simp at e; obtain ⟨rfl, rfl⟩ := e; exact ⟨h1, h.wide fun b hb => ⟨rfl, hb⟩⟩
    | succ m => simp at e, fun m k hk => hk.2, fun i j k hij hi hj => hij (hi.1.trans hj.1.symm)⟩
theorem Forest.mem {F : Nat → Prop} {l : List (Value × D)} (h : Forest w F l) {v : Value} {d : D} (hm : (v, d) ∈ l) : v.oneCell' = true ∧ TreeV w F v d := by
  obtain ⟨Fs, h1, h2, _⟩ := h
  obtain ⟨m, hm⟩ := List.mem_iff_getElem?.1 hm
  exact ⟨(h1 m v d hm).1, (h1 m v d hm).2.wide fun b hb => h2 m b hb⟩
end
end Go.Ab
/- A call from a state that owns trees: some are handed over, the others may be read meanwhile. -/
namespace Go.Ab
open Go
set_option linter.unusedVariables false
set_option linter.unusedSimpArgs false
mutual
/-- An argument, and what the callee is told of it: trees of L may be lent as data. -/
def lendOk (L : List (Value × D)) : A → A → Prop
  | .d x, b => b = .d x
  | .raw v, b => b = .raw v ∨ ∃ d, (v, d) ∈ L ∧ b = .d d
  | .nil, b => b = .nil ∨ b = .d (.lst [])
  | .agg as, b => (∃ bs, b = .agg bs ∧ lendAs L as bs) ∨ ∃ ds, b = .d (.agg ds) ∧ lendDs L as ds
  | _, _ => False
def lendAs (L : List (Value × D)) : List A → List A → Prop
  | [], b => b = []
  | a :: as, b => ∃ y ys, b = y :: ys ∧ lendOk L a y ∧ lendAs L as ys
def lendDs (L : List (Value × D)) : List A → List D → Prop
  | [], b => b = []
  | a :: as, b => ∃ y ys, b = y :: ys ∧ lendOk L a (.d y) ∧ lendDs L as ys
end
def D.free : D → Bool
  | .v _ => true
  | _ => false
def dfrees : List D → Bool
  | [] => true
  | d :: l => d.free && dfrees l
mutual
/-- A value that hangs on nothing that was lent. -/
def A.free : A → Bool
  | .d (.v _) => true
  | .d (.agg l) => dfrees l
  | .raw _ => true
  | .nil => true
  | .agg l => A.frees l
  | .tup l => A.frees l
  | _ => false
def A.frees : List A → Bool
  | [] => true
  | a :: l => a.free && A.frees l
end
section
variable {P : Program} {T : Ty} {w w' : World} {I I' : Im} {G G' : List Gh} {c : Cx} {s s' : St} {a : Act}
mutual
theorem VA.lend {L : List (Value × D)} (hI : ∀ b j, I b j → I' b j) (hL : ∀ v d, (v, d) ∈ L → VD w I' v d) : ∀ {x a b}, VA w I G x a → lendOk L a b → VA w I' G' x b
  | _, _, b, .d h, e => by simp only [lendOk] at e; subst e; exact .d (h.mono hI fun _ _ _ => rfl)
  | _, _, b, .raw x h, e => by
    simp only [lendOk] at e
    rcases e with rfl | ⟨d, hm, rfl⟩
    · exact .raw x h
    · exact .d (hL x d hm)
  | _, _, b, .nil, e => by
    simp only [lendOk] at e
    rcases e with rfl | rfl
    · exact .nil
    · exact .d .lnil
  | _, _, b, .agg cs l h h1, e => by
    simp only [lendOk] at e
    rcases e with ⟨bs, rfl, e⟩ | ⟨ds, rfl, e⟩
    · exact .agg cs bs (VAs.lend hI hL h e) h1
    · exact .d (.agg cs ds (VAs.lendD rfl hI hL h e h1))
  | _, _, b, .tup .., e => by simp [lendOk] at e
  | _, _, b, .sl .., e => by simp [lendOk] at e
  | _, _, b, .rptr .., e => by simp [lendOk] at e
  | _, _, b, .ref .., e => by simp [lendOk] at e
  | _, _, b, .own .., e => by simp [lendOk] at e
  | _, _, b, .arr .., e => by simp [lendOk] at e
  | _, _, b, .eptr .., e => by simp [lendOk] at e
  | _, _, b, .fn .., e => by simp [lendOk] at e
  | _, _, b, .mp .., e => by simp [lendOk] at e
  | _, _, b, .any _, e => by simp [lendOk] at e
theorem VAs.lend {L : List (Value × D)} (hI : ∀ b j, I b j → I' b j) (hL : ∀ v d, (v, d) ∈ L → VD w I' v d) : ∀ {x a b}, VAs w I G x a → lendAs L a b → VAs w I' G' x b
  | _, _, b, .nil, e => by simp only [lendAs] at e; subst e; exact .nil
  | _, _, b, .cons h1 h2, e => by
    simp only [lendAs] at e
    obtain ⟨y, ys, rfl, e1, e2⟩ := e
    exact .cons (VA.lend hI hL h1 e1) (VAs.lend hI hL h2 e2)
theorem VAs.lendD (hG' : G' = G') {L : List (Value × D)} (hI : ∀ b j, I b j → I' b j) (hL : ∀ v d, (v, d) ∈ L → VD w I' v d) : ∀ {x a b}, VAs w I G x a → lendDs L a b → (∀ y ∈ x, y.oneCell' = true) → VDs w I' x b
  | _, _, b, .nil, e, _ => by simp only [lendDs] at e; subst e; exact .nil
  | _, _, b, .cons h1 h2, e, ho => by
    simp only [lendDs] at e
    obtain ⟨y, ys, rfl, e1, e2⟩ := e
    refine .cons (ho _ List.mem_cons_self) ?_ (VAs.lendD rfl hI hL h2 e2 fun y hy => ho y (List.mem_cons_of_mem _ hy))
    have h3 : VA w I' G' _ (.d y) := VA.lend hI hL h1 e1
    cases h3 with
    | d h => exact h
end
theorem VDs.freeI : ∀ {x : List Value} {l : List D}, VDs w I x l → dfrees l = true → VDs w' I' x l
  | _, _, .nil, _ => .nil
  | _, _, .cons (c := c) h0 h1 h2, e => by
    simp only [dfrees, Bool.and_eq_true] at e
    refine .cons h0 ?_ (VDs.freeI h2 e.2)
    cases c <;> simp [D.free] at e
    cases h1 with
    | v _ h => exact .v _ h
mutual
theorem VA.freeI : ∀ {x a}, VA w I G x a → a.free = true → VA w' I' G' x a
  | _, _, .d (c := c) h, e => by
    cases c with
    | v y => cases h with | v _ h => exact .d (.v _ h)
    | agg l => cases h with | agg cs l h => exact .d (.agg cs l (h.freeI (by simpa [A.free] using e)))
    | lst l => simp [A.free] at e
  | _, _, .raw x h, _ => .raw x h
  | _, _, .nil, _ => .nil
  | _, _, .agg cs l h h1, e => .agg cs l (VAs.freeI h (by simpa [A.free] using e)) h1
  | _, _, .tup cs l h, e => .tup cs l (VAs.freeI h (by simpa [A.free] using e))
  | _, _, .sl .., e => by simp [A.free] at e
  | _, _, .rptr .., e => by simp [A.free] at e
  | _, _, .ref .., e => by simp [A.free] at e
  | _, _, .own .., e => by simp [A.free] at e
  | _, _, .arr .., e => by simp [A.free] at e
  | _, _, .eptr .., e => by simp [A.free] at e
  | _, _, .fn .., e => by simp [A.free] at e
  | _, _, .mp .., e => by simp [A.free] at e
  | _, _, .any _, e => by simp [A.free] at e
theorem VAs.freeI : ∀ {x a}, VAs w I G x a → A.frees a = true → VAs w' I' G' x a
  | _, _, .nil, _ => .nil
  | _, _, .cons h1 h2, e => by
    simp only [A.frees, Bool.and_eq_true] at e
    exact .cons (VA.freeI h1 e.1) (VAs.freeI h2 e.2)
end
/-- **A call that is handed the trees lc, may read the others, and leaves lc' in their place.** -/
theorem call_trees {f : FuncId} {args args' : List A} {t : List A} {h : List O} {p d q : Nat} {K : St → Prop} {X : Type} {φ : X → Prop} {ret : X → A} {lc' : X → List (Value × D)} {La lc Lb : List (Value × D)}
    (ct : Ct P f args' [.forest lc] φ ret (fun x => [.forest (lc' x)])) (hq : h[q]? = some (.forest (La ++ lc ++ Lb))) (hargs : lendAs (La ++ Lb) args args') (hfree : ∀ x, (ret x).free = true)
    (hK : ∀ x, φ x → K ⟨t.set d (ret x), h.set q (.forest (La ++ lc' x ++ Lb)), p⟩) : callVC P f args ⟨t, h, p⟩ (some d) K := by
  refine ⟨ct.1, fun c a w I G hr vs hvs => ?_⟩
  have hlen := hr.objs.len
  obtain ⟨g, hg, hroot, hfor, hni⟩ := hr.objs.get hq
  have hql : q < h.length := (List.getElem?_eq_some_iff.1 hq).1
  obtain ⟨FX, FB, hX, hB, sX, sB, dXB⟩ := hfor.split
  obtain ⟨FA, FC, hA, hC, sA, sC, dAC⟩ := hX.split
  have gA : ∀ b, FA b → g.F b := fun b hb => sX b (sA b hb)
  have gC : ∀ b, FC b → g.F b := fun b hb => sX b (sC b hb)
  have dCA : ∀ b, FC b → ¬ FA b := fun b h1 h2 => dAC b h2 h1
  have dCB : ∀ b, FC b → ¬ FB b := fun b h1 h2 => dXB b (sC b h1) h2
  let I1 : Im := fun b j => I b j ∨ ((FA b ∨ FB b) ∧ ∃ x, w.cell? ⟨b, j, none⟩ = some x)
  let G1 : List Gh := [⟨.slice none 0 0, FC⟩]
  have hlent : ∀ v d, (v, d) ∈ La ++ Lb → VD w I1 v d := fun v d hm => by
    rcases List.mem_append.1 hm with hm | hm
    · exact (hA.mem hm).2.vd fun b j x hb hx => .inr ⟨.inl hb, x, hx⟩
    · exact (hB.mem hm).2.vd fun b j x hb hx => .inr ⟨.inr hb, x, hx⟩
  have hv1 : VAs w I1 G1 vs args' := VAs.lend (fun b j h => .inl h) hlent hvs hargs
  have hrel1 : RelH w I1 G1 [.forest lc] := by
    refine ⟨rfl, fun k g' o e1 e2 => ?_, fun i j gi gj b e1 e2 hij => ?_, fun k g' b e hb => ?_, fun b j hi => ?_⟩
    · cases k with
      | zero =>
        simp [G1] at e1 e2; subst e1; subst e2
        refine ⟨rfl, hC, fun b j hb hi => ?_⟩
        rcases hi with hi | ⟨hi | hi, _⟩
        · exact hni b j (gC b hb) hi
        · exact dCA b hb hi
        · exact dCB b hb hi
      | succ k => simp at e2
    · cases i <;> cases j <;> simp [G1] at e1 e2 hij
    · cases k with
      | zero => simp [G1] at e; subst e; exact hr.objs.inb q g b hg (gC b hb)
      | succ k => simp [G1] at e
    · rcases hi with hi | ⟨_, hx⟩
      · exact hr.objs.imm b j hi
      · exact hx
  have hF1 : ∀ {b}, ownF G1 b ↔ FC b := fun {b} => ⟨fun ⟨k, g', e, hb⟩ => by
      cases k with
      | zero => simp [G1] at e; subst e; exact hb
      | succ k => simp [G1] at e, fun hb => ⟨0, _, rfl, hb⟩⟩
  refine (ct.2 w I1 G1 vs hv1 hrel1).mono ?_
  rintro e w' ⟨v, rfl, x, hx, I', G', hv, hrel', hfr, _, _⟩
  refine ⟨v, rfl, _, hK x hx, ?_⟩
  obtain ⟨g', hg', hroot', hfor', hni'⟩ := hrel'.get (k := 0) (o := .forest (lc' x)) rfl
  have hG'1 : G'.length = 1 := hrel'.len
  have newF : ∀ b, g'.F b → FC b ∨ w.heap.size ≤ b := fun b hb => by
    rcases hfr.own 0 g' b hg' hb with h | h
    · exact .inl (hF1.1 h)
    · exact .inr h
  have inb : ∀ b, g.F b → b < w.heap.size := fun b hb => hr.objs.inb q g b hg hb
  have hsame : ∀ b, b < w.heap.size → ¬ FC b → w'.heap[b]? = w.heap[b]? := fun b hb hn => hfr.block b hb fun h => hn (hF1.1 h)
  have hcell : ∀ b j, I b j → I' b j ∧ w'.cell? ⟨b, j, none⟩ = w.cell? ⟨b, j, none⟩ := fun b j hi => hfr.cell b j (.inl hi)
  let g2 : Gh := ⟨.slice none 0 0, fun b => (FA b ∨ g'.F b) ∨ FB b⟩
  let G2 : List Gh := G.set q g2
  have hqG : q < G.length := by rw [hlen]; exact hql
  have at2 : G2[q]? = some g2 := by simp only [G2, List.getElem?_set]; simp [hqG]
  have not2 : ∀ {k : Nat}, k ≠ q → G2[k]? = G[k]? := fun {k} hk => by simp only [G2]; rw [List.getElem?_set, if_neg fun h => hk h.symm]
  have roots2 : ∀ (k : Nat) (g0 : Gh), G[k]? = some g0 → ∃ g'' : Gh, G2[k]? = some g'' ∧ g''.root = g0.root := fun k g0 e => by
    by_cases hk : k = q
    · subst hk; rw [hg] at e; cases e; exact ⟨g2, at2, hroot.symm⟩
    · exact ⟨g0, (not2 hk).trans e, rfl⟩
  have F2 : ∀ b, g2.F b → g.F b ∨ w.heap.size ≤ b := fun b hb => by
    rcases hb with (hb | hb) | hb
    · exact .inl (gA b hb)
    · rcases newF b hb with h | h
      · exact .inl (gC b h)
      · exact .inr h
    · exact .inl (sB b hb)
  have hobj2 : ObjR w' I G2 g2 (.forest (La ++ lc' x ++ Lb)) := by
    refine ⟨rfl, ?_, fun b j hb hi => ?_⟩
    · refine Forest.app (Forest.app (hA.keep fun b hb => hsame b (inb b (gA b hb)) fun h => dCA b h hb) hfor' fun b h1 h2 => ?_) (hB.keep fun b hb => hsame b (inb b (sB b hb)) fun h => dCB b h hb) fun b h1 h2 => ?_
      · rcases newF b h2 with h | h
        · exact dCA b h h1
        · have := inb b (gA b h1); omega
      · rcases h1 with h1 | h1
        · exact dXB b (sA b h1) h2
        · rcases newF b h1 with h | h
          · exact dCB b h h2
          · have := inb b (sB b h2); omega
    · rcases hb with (hb | hb) | hb
      · exact hni b j (gA b hb) hi
      · exact hni' b j hb (hcell b j hi).1
      · exact hni b j (sB b hb) hi
  have hX2 : RelX c ⟨t, h.set q (.forest (La ++ lc' x ++ Lb)), p⟩ a w' I G2 := by
    refine ⟨hr.defers, hr.tmps.mono (fun _ _ h => h) (fun b j hi => (hcell b j hi).2) roots2, ⟨by simp [G2, hlen], fun k g0 o e1 e2 => ?_, fun i j gi gj b e1 e2 hij hb hb' => ?_, fun k g0 b e hb => ?_, fun b j hi => ?_⟩,
      ⟨hfr.os.trans hr.fr.os, hfr.tape.trans hr.fr.tape, hfr.output.trans hr.fr.output, Nat.le_trans hr.fr.size hfr.size, fun b hb hn => ?_, fun b j hi => ?_, hr.fr.im, fun k g0 b e hb => ?_⟩, fun k v' e => ?_⟩
    · by_cases hk : k = q
      · subst hk
        rw [at2] at e1; cases e1
        rw [List.getElem?_set, if_pos rfl, if_pos hql] at e2
        cases e2
        exact hobj2
      · rw [not2 hk] at e1
        rw [List.getElem?_set, if_neg fun h => hk h.symm] at e2
        refine (hr.objs.obj k g0 o e1 e2).keep (fun _ _ h => h) (fun b j hi => (hcell b j hi).2) roots2 (fun b hb => hsame b (hr.objs.inb k g0 b e1 hb) fun hc => hr.objs.disj k q g0 g b e1 hg hk hb (gC b hc)) (fun _ _ _ h => h)
    · have fromk : ∀ {k : Nat} {g0 : Gh}, G2[k]? = some g0 → g0.F b → (k = q ∧ (g.F b ∨ w.heap.size ≤ b)) ∨ (k ≠ q ∧ G[k]? = some g0) := fun {k g0} e hb => by
        by_cases hk : k = q
        · subst hk; rw [at2] at e; cases e; exact .inl ⟨rfl, F2 b hb⟩
        · exact .inr ⟨hk, (not2 hk).symm.trans e⟩
      rcases fromk e1 hb with ⟨rfl, h1⟩ | ⟨h1, f1⟩ <;> rcases fromk e2 hb' with ⟨rfl, h2⟩ | ⟨h2, f2⟩
      · exact hij rfl
      · rcases h1 with h1 | h1
        · exact hr.objs.disj _ j g gj b hg f2 hij h1 hb'
        · have := hr.objs.inb j gj b f2 hb'; omega
      · rcases h2 with h2 | h2
        · exact hr.objs.disj i _ gi g b f1 hg hij hb h2
        · have := hr.objs.inb i gi b f1 hb; omega
      · exact hr.objs.disj i j gi gj b f1 f2 hij hb hb'
    · by_cases hk : k = q
      · subst hk; rw [at2] at e; cases e
        rcases hb with (hb | hb) | hb
        · exact Nat.lt_of_lt_of_le (inb b (gA b hb)) hfr.size
        · exact hrel'.inb 0 g' b hg' hb
        · exact Nat.lt_of_lt_of_le (inb b (sB b hb)) hfr.size
      · exact Nat.lt_of_lt_of_le (hr.objs.inb k g0 b ((not2 hk).symm.trans e) hb) hfr.size
    · exact hrel'.imm b j (hcell b j hi).1
    · refine (hsame b (Nat.lt_of_lt_of_le hb hr.fr.size) fun hc => ?_).trans (hr.fr.block b hb hn)
      rcases hr.fr.own q g b hg (gC b hc) with h | h
      · exact hn h
      · omega
    · obtain ⟨h1, h2⟩ := hr.fr.cell b j hi
      exact ⟨h1, (hcell b j h1).2.trans h2⟩
    · by_cases hk : k = q
      · subst hk; rw [at2] at e; cases e
        rcases F2 b hb with h | h
        · exact hr.fr.own _ g b hg h
        · exact .inr (Nat.le_trans hr.fr.size h)
      · exact hr.fr.own k g0 b ((not2 hk).symm.trans e) hb
    · obtain ⟨h1, h2, g0, h3, h4⟩ := hr.pr k v' e
      obtain ⟨g'', h5, h6⟩ := roots2 k g0 h3
      exact ⟨h1, h2, g'', h5, h6.trans h4⟩
  exact ⟨I, G2, hX2.put (hv.freeI (hfree x)) (some d)⟩
end
end Go.Ab
/- Trees opened and closed. -/
namespace Go.Ab
open Go
set_option linter.unusedVariables false
set_option linter.unusedSimpArgs false
/-- Cells of data, as they are held when the rows among them are trees of their own. -/
inductive COp : List D → List A → List (Value × D) → Prop
  | nil : COp [] [] []
  | v {ds as L} (x : Value) : COp ds as L → COp (.v x :: ds) (.d (.v x) :: as) L
  | lst {ds as L} (r : Value) (l : List D) : COp ds as L → COp (.lst l :: ds) (.raw r :: as) ((r, .lst l) :: L)
/-- Elements, so held. -/
inductive Opd (ag : Bool) : List D → List A → List (Value × D) → Prop
  | nil : Opd ag [] [] []
  | cons {d l cs L Lc Ls} : COp d.cells cs Lc → Opd ag l L Ls → Opd ag (d :: l) (mkE ag cs :: L) (Lc ++ Ls)
theorem COp.len {ds as L} (h : COp ds as L) : ds.length = as.length := by
  induction h with
  | nil => rfl
  | v x _ ih => simp [ih]
  | lst r l _ ih => simp [ih]
theorem COp.app {ds as L} (h : COp ds as L) {ds' as' L'} (h' : COp ds' as' L') : COp (ds ++ ds') (as ++ as') (L ++ L') := by
  induction h with
  | nil => exact h'
  | v x _ ih => exact .v x ih
  | lst r l _ ih => exact .lst r l ih
theorem pack_cells (l : List A) : (pack l).cells = l := by
  unfold pack
  split
  · rename_i r e; rw [unDs_spec e]; rfl
  · rfl
theorem COp.mkE_cells {ag : Bool} {ds as L} (h : COp ds as L) (h1 : ag = false → ds.length = 1) : (mkE ag as).cells = as := by
  cases ag with
  | true =>
    have : mkE true as = pack as := by cases as with
      | nil => rfl
      | cons x l => cases l <;> rfl
    rw [this, pack_cells]
  | false =>
    have := h1 rfl
    cases h with
    | nil => simp at this
    | v x h =>
      cases h with
      | nil => rfl
      | v => simp at this
      | lst => simp at this
    | lst r l h =>
      cases h with
      | nil => rfl
      | v => simp at this
      | lst => simp at this
theorem Opd.len {ag : Bool} {l L Ls} (h : Opd ag l L Ls) : l.length = L.length := by
  induction h with
  | nil => rfl
  | cons _ _ ih => simp [ih]
theorem Opd.flat {ag : Bool} {l L Ls} (h : Opd ag l L Ls) (h1 : ∀ d ∈ l, ag = false → d.cells.length = 1) : COp (l.flatMap D.cells) (L.flatMap A.cells) Ls := by
  induction h with
  | nil => exact .nil
  | cons hc _ ih =>
    rw [List.flatMap_cons, List.flatMap_cons, hc.mkE_cells (h1 _ List.mem_cons_self)]
    exact hc.app (ih fun d hd => h1 d (List.mem_cons_of_mem _ hd))
theorem Opd.cells {ag : Bool} {l L Ls} (h : Opd ag l L Ls) {sz : Nat} (h1 : ∀ d ∈ l, ag = false → d.cells.length = 1) (h2 : ∀ d ∈ l, d.cells.length = sz) : ∀ x ∈ L, x.cells.length = sz := by
  induction h with
  | nil => intro x hx; cases hx
  | cons hc _ ih =>
    intro x hx
    rcases List.mem_cons.1 hx with rfl | hx
    · rw [hc.mkE_cells (h1 _ List.mem_cons_self), ← hc.len]; exact h2 _ List.mem_cons_self
    · exact ih (fun d hd => h1 d (List.mem_cons_of_mem _ hd)) (fun d hd => h2 d (List.mem_cons_of_mem _ hd)) x hx
theorem Opd.app {ag : Bool} {l L Ls} (h : Opd ag l L Ls) {l' L' Ls'} (h' : Opd ag l' L' Ls') : Opd ag (l ++ l') (L ++ L') (Ls ++ Ls') := by
  induction h with
  | nil => exact h'
  | cons hc _ ih => rw [List.cons_append, List.cons_append, List.append_assoc]; exact .cons hc ih
section
variable {w w' : World} {I I' : Im} {G G' : List Gh}
theorem copen {Fs : Nat → Nat → Prop} {xs : Nat → Value} (hdis : ∀ i j k, i ≠ j → Fs i k → ¬ Fs j k) : ∀ (ds : List D) (off : Nat), (∀ j d, ds[j]? = some d → TreeV w (Fs (off + j)) (xs (off + j)) d ∧ (xs (off + j)).oneCell' = true) →
    ∃ as L, COp ds as L ∧ VAs w I G ((List.range ds.length).map fun j => xs (off + j)) as ∧ Forest w (fun b => ∃ j, off ≤ j ∧ j < off + ds.length ∧ Fs j b) L
  | [], off, h => ⟨[], [], .nil, .nil, Forest.mt _⟩
  | d :: ds, off, h => by
    obtain ⟨as, L, h1, h2, h3⟩ := copen hdis ds (off + 1) (fun j d' e => by
      have := h (j + 1) d' (by simpa using e)
      rwa [show off + (j + 1) = off + 1 + j by omega] at this)
    have h0 := h 0 d rfl
    rw [Nat.add_zero] at h0
    have hr : ((List.range (d :: ds).length).map fun j => xs (off + j)) = xs off :: ((List.range ds.length).map fun j => xs (off + 1 + j)) := by
      rw [List.length_cons, List.range_succ_eq_map, List.map_cons, List.map_map]
      congr 1
      apply List.map_congr_left
      intro j _
      simp only [Function.comp]
      congr 1; omega
    have hF : Forest w (fun b => ∃ j, off ≤ j ∧ j < off + (d :: ds).length ∧ Fs j b) L := h3.wide fun b ⟨j, a1, a2, a3⟩ => ⟨j, by omega, by simp only [List.length_cons]; omega, a3⟩
    have hone : ∀ {l : List D}, d = .lst l → VA w I G (xs off) (.raw (xs off)) ∧ Forest w (fun b => ∃ j, off ≤ j ∧ j < off + (d :: ds).length ∧ Fs j b) ((xs off, .lst l) :: L) := fun {l} e => by
      subst e
      refine ⟨.raw _ h0.2, ?_⟩
      have := Forest.app (Forest.one h0.2 h0.1) h3 fun b h1 ⟨j, a1, a2, a3⟩ => hdis off j b (by omega) h1 a3
      exact this.wide fun b hb => by
        rcases hb with hb | ⟨j, a1, a2, a3⟩
        · exact ⟨off, by omega, by simp only [List.length_cons]; omega, hb⟩
        · exact ⟨j, by omega, by simp only [List.length_cons]; omega, a3⟩
    cases d with
    | v x =>
      have hx : xs off = x ∧ sc x = true := by
        have h4 := h0.1
        generalize xs off = y at h4
        cases h4 with
        | v _ _ h5 => exact ⟨rfl, h5⟩
      rw [hr]
      exact ⟨.d (.v x) :: as, L, .v x h1, .cons (by rw [hx.1]; exact .d (.v x hx.2)) h2, hF⟩
    | lst l =>
      rw [hr]
      exact ⟨_, _, .lst (xs off) l h1, .cons (hone rfl).1 h2, (hone rfl).2⟩
    | agg l =>
      exfalso
      have h4 := h0.1
      generalize xs off = y at h4
      cases h4
theorem oopen {ag : Bool} {Fs : Nat → Nat → Prop} {xs : Nat → Value} (hdis : ∀ i j k, i ≠ j → Fs i k → ¬ Fs j k) : ∀ (l : List D) (off : Nat), (∀ d ∈ l, ag = false → d.cells.length = 1) → (∀ j d, (l.flatMap D.cells)[j]? = some d → TreeV w (Fs (off + j)) (xs (off + j)) d ∧ (xs (off + j)).oneCell' = true) →
    ∃ L Ls, Opd ag l L Ls ∧ VAs w I G ((List.range (l.flatMap D.cells).length).map fun j => xs (off + j)) (L.flatMap A.cells) ∧ Forest w (fun b => ∃ j, off ≤ j ∧ j < off + (l.flatMap D.cells).length ∧ Fs j b) Ls
  | [], off, _, _ => ⟨[], [], .nil, .nil, Forest.mt _⟩
  | d :: l, off, h1, h => by
    obtain ⟨as, La, a1, a2, a3⟩ := copen (I := I) (G := G) hdis d.cells off (fun j d' e => h j d' (by rw [List.flatMap_cons, List.getElem?_append_left (List.getElem?_eq_some_iff.1 e).1]; exact e))
    obtain ⟨L, Ls, b1, b2, b3⟩ := oopen (ag := ag) hdis l (off + d.cells.length) (fun d hd => h1 d (List.mem_cons_of_mem _ hd)) (fun j d' e => by
      have := h (d.cells.length + j) d' (by rw [List.flatMap_cons, List.getElem?_append_right (by omega), Nat.add_sub_cancel_left]; exact e)
      rwa [← Nat.add_assoc] at this)
    refine ⟨mkE ag as :: L, La ++ Ls, .cons a1 b1, ?_, ?_⟩
    · rw [List.flatMap_cons, List.flatMap_cons, a1.mkE_cells (h1 d List.mem_cons_self), List.length_append, List.range_add, List.map_append, List.map_map]
      refine a2.append ?_
      have : (List.range (l.flatMap D.cells).length).map ((fun j => xs (off + j)) ∘ fun x => d.cells.length + x) = (List.range (l.flatMap D.cells).length).map fun j => xs (off + d.cells.length + j) := by
        apply List.map_congr_left
        intro j _
        simp only [Function.comp]
        congr 1; omega
      rw [this]; exact b2
    · refine (Forest.app a3 b3 fun b ⟨i, p1, p2, p3⟩ ⟨j, q1, q2, q3⟩ => hdis i j b (by omega) p3 q3).wide fun b hb => ?_
      rw [List.flatMap_cons, List.length_append]
      rcases hb with ⟨j, p1, p2, p3⟩ | ⟨j, p1, p2, p3⟩
      · exact ⟨j, p1, by omega, p3⟩
      · exact ⟨j, by omega, by omega, p3⟩
theorem cclose : ∀ {ds as L}, COp ds as L → ∀ {vals : List Value} {F : Nat → Prop}, VAs w I G vals as → Forest w F L →
    ∃ Fs : Nat → Nat → Prop, (∀ (j : Nat) (d : D), ds[j]? = some d → ∃ x : Value, vals[j]? = some x ∧ x.oneCell' = true ∧ TreeV w (Fs j) x d) ∧ (∀ j k, Fs j k → F k) ∧ ∀ i j k, i ≠ j → Fs i k → ¬ Fs j k
  | _, _, _, .nil, _, _, _, _ => ⟨fun _ _ => False, fun j d e => by simp at e, fun _ _ h => h.elim, fun _ _ _ _ h => h.elim⟩
  | _, _, _, .v x h, _, _, .cons (x := y) g1 g2, hF => by
    obtain ⟨Fs, h1, h2, h3⟩ := cclose h g2 hF
    have hx : sc x = true := by
      cases g1 with
      | d h => cases h with
        | v _ h => exact h
    obtain rfl := g1.inv_v
    refine ⟨fun j k => match j with | 0 => False | j + 1 => Fs j k, fun j d e => ?_, fun j k hk => ?_, fun i j k hij hi hj => ?_⟩
    · cases j with
      | zero => simp at e; subst e; exact ⟨_, rfl, sc_one hx, .v _ _ hx⟩
      | succ j => simpa using h1 j d (by simpa using e)
    · cases j with
      | zero => exact hk.elim
      | succ j => exact h2 j k hk
    · cases i with
      | zero => exact hi.elim
      | succ i => cases j with
        | zero => exact hj.elim
        | succ j => exact h3 i j k (by omega) hi hj
  | _, _, _, .lst (L := L) r l h, _, _, .cons (x := y) g1 g2, hF => by
    have hF' : Forest w _ ([(r, .lst l)] ++ L) := hF
    obtain ⟨F1, F2, f1, f2, s1, s2, hd⟩ := hF'.split
    obtain ⟨Fs, h1, h2, h3⟩ := cclose h g2 f2
    obtain ⟨o1, t1⟩ := f1.mem (v := r) (d := .lst l) List.mem_cons_self
    have hy : y = r := by cases g1; rfl
    subst hy
    refine ⟨fun j k => match j with | 0 => F1 k | j + 1 => Fs j k, fun j d e => ?_, fun j k hk => ?_, fun i j k hij hi hj => ?_⟩
    · cases j with
      | zero => simp at e; subst e; exact ⟨_, rfl, o1, t1⟩
      | succ j => simpa using h1 j d (by simpa using e)
    · cases j with
      | zero => exact s1 k hk
      | succ j => exact s2 k (h2 j k hk)
    · cases i with
      | zero => cases j with
        | zero => exact hij rfl
        | succ j => exact hd k hi (h2 j k hj)
      | succ i => cases j with
        | zero => exact hd k hj (h2 i k hi)
        | succ j => exact h3 i j k (by omega) hi hj
end
end Go.Ab
/- Contracts over trees: opened, closed, of what was a row of one's own. -/
namespace Go.Ab
open Go
set_option linter.unusedVariables false
set_option linter.unusedSimpArgs false
theorem range_vals {xs : Nat → Value} {cs : Array Value} {n : Nat} (h : ∀ j, j < n → cs[j]? = some (xs j)) : cs.toList = ((List.range n).map fun j => xs (0 + j)) ++ cs.toList.drop n := by
  apply List.ext_getElem?
  intro i
  have hl : ((List.range n).map fun j => xs (0 + j)).length = n := by simp
  rcases Nat.lt_or_ge i n with hi | hi
  · rw [List.getElem?_append_left (by omega), List.getElem?_map, List.getElem?_range hi]
    simpa using h i hi
  · rw [List.getElem?_append_right (by omega), List.getElem?_drop, hl]
    congr 1; omega
theorem VAs.anys {w : World} {I : Im} {G : List Gh} : ∀ l : List Value, VAs w I G l (List.replicate l.length .any)
  | [] => .nil
  | x :: l => .cons (.any x) (VAs.anys l)
section
variable {P : Program} {f : FuncId} {X : Type} {φ : X → Prop} {ret : X → A}
/-- A contract over an opened tree is one over the tree. -/
theorem Ct.open {rest : List A} {l : List D} {v : Value} {u sz : Nat} {ag : Bool} {l' : X → List D} (hl : l ≠ []) (hag : ∀ d ∈ l, ag = false → d.cells.length = 1) (hsz : ∀ d ∈ l, d.cells.length = sz)
    (hag' : ∀ x, φ x → ∀ d ∈ l' x, ag = false → d.cells.length = 1) (hhas : Has P f) (hrest : A.frees rest = true) (hret : ∀ x, (ret x).free = true)
    (H : ∀ (L : List A) (Ls : List (Value × D)), Opd ag l L Ls → Ct P f (.arr 0 :: rest) [.opn v u sz L, .forest Ls] (fun q : X × List A × List (Value × D) => φ q.1 ∧ Opd ag (l' q.1) q.2.1 q.2.2) (fun q => ret q.1) (fun q => [.opn v u sz q.2.1, .forest q.2.2])) :
    Ct P f (.raw v :: rest) [.forest [(v, .lst l)]] φ ret (fun x => [.forest [(v, .lst (l' x))]]) := by
  refine ⟨hhas, fun w I G vs hvs hrel => ?_⟩
  obtain ⟨g, hg, hroot, hfor, hni⟩ := hrel.get (k := 0) (o := .forest [(v, .lst l)]) rfl
  have hG1 : G.length = 1 := hrel.len
  cases hvs with
  | cons hv0 hvr =>
  rename_i v0 vr
  have hv0' : v0 = v := by cases hv0; rfl
  subst hv0'
  obtain ⟨hone, htree⟩ := hfor.mem (v := v0) (d := .lst l) List.mem_cons_self
  have key : ∃ (Fs : Nat → Nat → Prop) (xs : Nat → Value) (b n c t : Nat) (cs : Array Value), v0 = .slice (some ⟨b, 0, none⟩) n c ∧ g.F b ∧ w.heap[b]? = some (.cells cs t (0, 0)) ∧ n = l.length ∧ n ≤ c ∧
      (∀ j d, (l.flatMap D.cells)[j]? = some d → cs[j]? = some (xs j) ∧ (xs j).oneCell' = true) ∧ (∀ j d, (l.flatMap D.cells)[j]? = some d → TreeV w (Fs j) (xs j) d) ∧ (∀ j k, Fs j k → g.F k ∧ k ≠ b) ∧ ∀ i j k, i ≠ j → Fs i k → ¬ Fs j k := by
    generalize hF : g.F = F at htree
    cases htree with
    | nil => exact absurd rfl hl
    | emp a c => exact absurd rfl hl
    | lst _ Fs xs b n c t cs _ h1 h2 h3 h4 h5 h6 h7 h8 => exact ⟨Fs, xs, b, n, c, t, cs, rfl, hF ▸ h1, h2, h3, h4, h5, h6, fun j k hk => hF ▸ h7 j k hk, h8⟩
  obtain ⟨Fs, xs, b, n, cp, t, cs, rfl, hb, hh, hn, hnc, hcs, htr, hFs, hdis⟩ := key
  let fl := (l.flatMap D.cells).length
  have hin : ∀ j, j < fl → ∃ d, (l.flatMap D.cells)[j]? = some d := fun j hj => ⟨_, List.getElem?_eq_getElem hj⟩
  have hcsj : ∀ j, j < fl → cs[j]? = some (xs j) := fun j hj => by obtain ⟨d, e⟩ := hin j hj; exact (hcs j d e).1
  have hfl : fl = l.length * sz := flat_len hsz
  let g0 : Gh := ⟨.slice (some ⟨b, 0, none⟩) n cp, fun k => k = b⟩
  let g1 : Gh := ⟨.slice none 0 0, fun k => ∃ j, 0 ≤ j ∧ j < 0 + fl ∧ Fs j k⟩
  let G1 : List Gh := [g0, g1]
  obtain ⟨L, Ls, hopd, hva, hfo⟩ := oopen (w := w) (I := I) (G := G1) (ag := ag) (Fs := Fs) (xs := xs) hdis l 0 hag (fun j d e => by rw [Nat.zero_add]; exact ⟨htr j d e, (hcs j d e).2⟩)
  have hv1 : VAs w I G1 (.slice (some ⟨b, 0, none⟩) n cp :: vr) (.arr 0 :: rest) := .cons (.arr 0 g0 rfl rfl rfl) (hvr.freeI hrest)
  have hFg : ∀ k, g1.F k → g.F k := fun k ⟨j, _, _, hk⟩ => (hFs j k hk).1
  have hrel1 : RelH w I G1 [.opn (.slice (some ⟨b, 0, none⟩) n cp) u sz L, .forest Ls] := by
    refine ⟨rfl, fun k g' o e1 e2 => ?_, fun i j gi gj b' e1 e2 hij h1 h2 => ?_, fun k g' b' e h1 => ?_, hrel.imm⟩
    · rcases k with _ | _ | k
      · simp [G1] at e1 e2; subst e1; subst e2
        have hLl : L.length = l.length := hopd.len.symm
        refine ⟨rfl, b, cs, t, (cs.toList.drop fl).length, cp, by rw [hLl, hn], by omega, hh, ?_, fun j x hj hx => ?_, hopd.cells hag hsz, fun k => Iff.rfl, fun j => hni b j hb⟩
        · have := hva.append (VAs.anys (w := w) (I := I) (G := G1) (cs.toList.drop fl))
          rwa [← range_vals hcsj] at this
        · rw [hLl, ← hfl] at hj
          obtain ⟨d, e⟩ := hin j hj
          have h5 := hcs j d e
          rw [hx] at h5
          obtain rfl := Option.some.inj h5.1
          exact h5.2
      · simp [G1] at e1 e2; subst e1; subst e2
        exact ⟨rfl, hfo, fun b' j hk hi => hni b' j (hFg b' hk) hi⟩
      · simp at e2
    · have no : ∀ k, g0.F k → ¬ g1.F k := fun k h3 ⟨j, _, _, hk⟩ => (hFs j k hk).2 h3
      rcases i with _ | _ | i <;> rcases j with _ | _ | j <;> simp [G1] at e1 e2 hij
      · subst e1; subst e2; exact no _ h1 h2
      · subst e1; subst e2; exact no _ h2 h1
    · rcases k with _ | _ | k
      · simp [G1] at e; subst e
        have : b' = b := h1
        subst this; exact hrel.inb 0 g _ hg hb
      · simp [G1] at e; subst e; exact hrel.inb 0 g _ hg (hFg b' h1)
      · simp [G1] at e
  have hown : ∀ {k}, ownF G1 k → ownF G k := fun {k} ⟨i, g', e, h1⟩ => by
    rcases i with _ | _ | i
    · simp [G1] at e; subst e
      have : k = b := h1
      subst this; exact ⟨0, g, hg, hb⟩
    · simp [G1] at e; subst e; exact ⟨0, g, hg, hFg k h1⟩
    · simp [G1] at e
  refine ((H L Ls hopd).2 w I G1 _ hv1 hrel1).mono ?_
  rintro e w' ⟨v1, rfl, ⟨x, L', Ls'⟩, ⟨hx, hopd'⟩, I', G', hv', hrel', hfr, _, _⟩
  obtain ⟨q0, hq0, hr0, b', cs', t', sp', cap', e1, e2, e3, e4, e5, e6, e7, e8⟩ := hrel'.get (k := 0) (o := .opn (.slice (some ⟨b, 0, none⟩) n cp) u sz L') rfl
  obtain ⟨q1, hq1, hr1, hf1, hn1⟩ := hrel'.get (k := 1) (o := .forest Ls') rfl
  injection e1 with e1a e1b e1c
  obtain rfl : b' = b := by injection e1a with e1a; injection e1a with e1a; exact e1a.symm
  have hd01 : ∀ k, q0.F k → ¬ q1.F k := fun k h1 h2 => hrel'.disj 0 1 q0 q1 k hq0 hq1 (by omega) h1 h2
  have hcop := hopd'.flat (hag' x hx)
  have hcl := hcop.len
  have h4 := e4.take (L'.flatMap A.cells).length
  rw [List.take_left] at h4
  obtain ⟨Fs', k1, k2, k3⟩ := cclose hcop h4 hf1
  let G2 : List Gh := [⟨.slice none 0 0, fun k => q0.F k ∨ q1.F k⟩]
  have hq0b : q0.F b' := (e7 b').2 rfl
  have htree' : TreeV w' (fun k => q0.F k ∨ q1.F k) (.slice (some ⟨b', 0, none⟩) n cp) (.lst (l' x)) := by
    refine .lst _ Fs' (fun j => cs'.getD j undef) b' n cp t' cs' (l' x) (.inl hq0b) e3 ?_ hnc (fun j d e => ?_) (fun j d e => ?_) (fun j k hk => ⟨.inr (k2 j k hk), fun h => hd01 k (h ▸ hq0b) (k2 j k hk)⟩) k3
    · rw [e1b, hopd'.len]
    · obtain ⟨y, f1, f2, f3⟩ := k1 j d e
      rw [List.getElem?_take] at f1
      split at f1
      · have f1' : cs'[j]? = some y := by simpa using f1
        have : cs'.getD j undef = y := by rw [Array.getD_eq_getD_getElem?, f1']; rfl
        rw [this]; exact ⟨f1', f2⟩
      · cases f1
    · obtain ⟨y, f1, f2, f3⟩ := k1 j d e
      rw [List.getElem?_take] at f1
      split at f1
      · have f1' : cs'[j]? = some y := by simpa using f1
        have : cs'.getD j undef = y := by rw [Array.getD_eq_getD_getElem?, f1']; rfl
        rw [this]; exact f3
      · cases f1
  refine ⟨v1, rfl, x, hx, I', G2, hv'.freeI (hret x), ⟨rfl, fun k g' o e1 e2 => ?_, fun i j gi gj b e1 e2 hij => ?_, fun k g' k0 e h1 => ?_, hrel'.imm⟩, ⟨hfr.os, hfr.tape, hfr.output, hfr.size, fun b hb hn => hfr.block b hb fun h => hn (hown h), hfr.cell, fun b j hi => ?_, fun k g' k0 e h1 => ?_⟩, Nat.le_refl _, fun k g' o e1 e2 e3 => ?_⟩
  · rcases k with _ | k
    · simp [G2] at e1 e2; subst e1; subst e2
      refine ⟨rfl, Forest.one rfl htree', fun k j hk hi => ?_⟩
      rcases hk with hk | hk
      · have : k = b' := (e7 k).1 hk
        subst this; exact e8 j hi
      · exact hn1 k j hk hi
    · simp at e2
  · rcases i with _ | i <;> rcases j with _ | j <;> simp [G2] at e1 e2 hij
  · rcases k with _ | k
    · simp [G2] at e; subst e
      rcases h1 with h1 | h1
      · exact hrel'.inb 0 q0 _ hq0 h1
      · exact hrel'.inb 1 q1 _ hq1 h1
    · simp [G2] at e
  · rcases hfr.im b j hi with h | h | h
    · exact .inl h
    · exact .inr (.inl (hown h))
    · exact .inr (.inr h)
  · rcases k with _ | k
    · simp [G2] at e; subst e
      rcases h1 with h1 | h1
      · exact (hfr.own 0 q0 k0 hq0 h1).imp hown id
      · exact (hfr.own 1 q1 k0 hq1 h1).imp hown id
    · simp [G2] at e
  · rcases k with _ | k
    · simp at e2; subst e2; simp [O.fixed] at e3
    · simp at e2
end
end Go.Ab
/- Contracts over trees: what is lent, what is new, what was a row of one's own; rows that are made, closed. -/
namespace Go.Ab
open Go
set_option linter.unusedVariables false
set_option linter.unusedSimpArgs false
mutual
theorem lendOk_self {L : List (Value × D)} : ∀ {a b : A}, lendOk L a b → lendOk [] b b
  | .d x, b, h => by simp only [lendOk] at h; subst h; simp [lendOk]
  | .raw v, b, h => by
    simp only [lendOk] at h
    rcases h with rfl | ⟨d, _, rfl⟩ <;> simp [lendOk]
  | .nil, b, h => by
    simp only [lendOk] at h
    rcases h with rfl | rfl <;> simp [lendOk]
  | .agg as, b, h => by
    simp only [lendOk] at h
    rcases h with ⟨bs, rfl, h⟩ | ⟨ds, rfl, h⟩
    · simp only [lendOk]; exact .inl ⟨bs, rfl, lendAs_self h⟩
    · simp [lendOk]
  | .tup _, b, h => by simp [lendOk] at h
  | .sl _ _, b, h => by simp [lendOk] at h
  | .rptr _, b, h => by simp [lendOk] at h
  | .ref _ _, b, h => by simp [lendOk] at h
  | .own _ _, b, h => by simp [lendOk] at h
  | .arr _, b, h => by simp [lendOk] at h
  | .eptr _ _ _ _, b, h => by simp [lendOk] at h
  | .fn _ _, b, h => by simp [lendOk] at h
  | .mp _, b, h => by simp [lendOk] at h
  | .any, b, h => by simp [lendOk] at h
theorem lendAs_self {L : List (Value × D)} : ∀ {a b : List A}, lendAs L a b → lendAs [] b b
  | [], b, h => by simp only [lendAs] at h; subst h; simp [lendAs]
  | a :: as, b, h => by
    simp only [lendAs] at h
    obtain ⟨y, ys, rfl, h1, h2⟩ := h
    simp only [lendAs]
    exact ⟨y, ys, rfl, lendOk_self h1, lendAs_self h2⟩
end
theorem VD.one_lst {w : World} {I : Im} {v : Value} {l : List D} (h : VD w I v (.lst l)) : v.oneCell' = true := by cases h <;> rfl
theorem cell_lt {w : World} {b j : Nat} {x : Value} (h : w.cell? ⟨b, j, none⟩ = some x) : b < w.heap.size := by
  rcases Nat.lt_or_ge b w.heap.size with h1 | h1
  · exact h1
  · simp [World.cell?, Array.getElem?_eq_none h1] at h
section
variable {P : Program} {f : FuncId} {X Y : Type} {φ : X → Prop} {ret : X → A} {post : X → List O} {args args' : List A} {l : List (Value × D)}
/-- What a function is handed as data may lie in trees that are one's own. -/
theorem Ct.lend (H : Ct P f args' [] φ ret (fun _ => [])) (hargs : lendAs l args args') (hret : ∀ x, (ret x).free = true) : Ct P f args [.forest l] φ ret (fun _ => [.forest l]) := by
  refine ⟨H.1, fun w I G vs hvs hrel => ?_⟩
  obtain ⟨g, hg, hroot, hfor, hni⟩ := hrel.get (k := 0) (o := .forest l) rfl
  let I1 : Im := fun b j => I b j ∨ (g.F b ∧ ∃ x, w.cell? ⟨b, j, none⟩ = some x)
  have hv1 : VAs w I1 [] vs args' := VAs.lend (fun b j h => .inl h) (fun v d hm => (hfor.mem hm).2.vd fun b j x hb hx => .inr ⟨hb, x, hx⟩) hvs hargs
  have hrel1 : RelH w I1 [] [] := ⟨rfl, fun k g o e => by simp at e, fun i j gi gj b e => by simp at e, fun k g b e => by simp at e, fun b j hi => hi.elim (hrel.imm b j) fun h => h.2⟩
  refine (H.2 w I1 [] vs hv1 hrel1).mono ?_
  rintro e w' ⟨v, rfl, x, hx, I', G', hv, hrel', hfr, _, _⟩
  have hb : ∀ b, b < w.heap.size → w'.heap[b]? = w.heap[b]? := fun b hb => hfr.block b hb fun ⟨k, g', e, _⟩ => by simp at e
  have hcell : ∀ b j, I b j → w'.cell? ⟨b, j, none⟩ = w.cell? ⟨b, j, none⟩ := fun b j hi => (hfr.cell b j (.inl hi)).2
  refine ⟨v, rfl, x, hx, I, G, hv.freeI (hret x), ⟨hrel.len, fun k g' o e1 e2 => ?_, hrel.disj, fun k g b e h => Nat.lt_of_lt_of_le (hrel.inb k g b e h) hfr.size, fun b j hi => by rw [hcell b j hi]; exact hrel.imm b j hi⟩,
    ⟨hfr.os, hfr.tape, hfr.output, hfr.size, fun b h1 _ => hb b h1, fun b j hi => ⟨hi, hcell b j hi⟩, fun b j hi => .inl hi, fun k g b e h => .inl ⟨k, g, e, h⟩⟩, Nat.le_refl _, fun k g o e1 _ _ => ⟨g, e1, rfl⟩⟩
  cases k with
  | zero =>
    rw [hg] at e1; cases e1
    simp at e2; subst e2
    exact ⟨hroot, hfor.keep fun b h => hb b (hrel.inb 0 g b hg h), hni⟩
  | succ k => simp at e2
/-- A contract that makes its objects itself, called where a forest stands ready. -/
theorem Ct.addF (H : Ct P f args [] φ ret post) (hpost : ∀ x, 1 ≤ (post x).length) (hargs : lendAs [] args args) : Ct P f args [.forest []] φ ret post := by
  refine ⟨H.1, fun w I G vs hvs hrel => ?_⟩
  have hv1 : VAs w I [] vs args := VAs.lend (fun b j h => h) (fun v d hm => by cases hm) hvs hargs
  have hrel1 : RelH w I [] [] := ⟨rfl, fun k g o e => by simp at e, fun i j gi gj b e => by simp at e, fun k g b e => by simp at e, hrel.imm⟩
  refine (H.2 w I [] vs hv1 hrel1).mono ?_
  rintro e w' ⟨v, rfl, x, hx, I', G', hv, hrel', hfr, _, _⟩
  have no : ∀ {b}, ¬ ownF [] b := fun {b} ⟨k, g', e, _⟩ => by simp at e
  refine ⟨v, rfl, x, hx, I', G', hv, hrel', ⟨hfr.os, hfr.tape, hfr.output, hfr.size, fun b h1 _ => hfr.block b h1 no, hfr.cell, fun b j hi => ?_, fun k g b e h => ?_⟩, hpost x, fun k g o e1 e2 e3 => ?_⟩
  · rcases hfr.im b j hi with h | h | h
    · exact .inl h
    · exact absurd h no
    · exact .inr (.inr h)
  · rcases hfr.own k g b e h with h | h
    · exact absurd h no
    · exact .inr h
  · cases k with
    | zero => simp at e2; subst e2; simp [O.fixed] at e3
    | succ k => simp at e2
/-- A new tree is data to those who only read it. -/
theorem Ct.datF {lc : X → List (Value × D)} {φ' : Y → Prop} {r : Y → D} (to : X → Y) (H : Ct P f args [] φ ret (fun x => [.forest (lc x)])) (hto : ∀ x, φ x → φ' (to x)) (hl : ∀ x, φ x → lendOk (lc x) (ret x) (.d (r (to x)))) :
    Ct P f args [] φ' (fun y => .d (r y)) (fun _ => []) := by
  refine ⟨H.1, fun w I G vs hvs hrel => (H.2 w I G vs hvs hrel).mono ?_⟩
  rintro e w' ⟨v, rfl, x, hx, I', G', hv, hrel', hfr, _, _⟩
  obtain ⟨g, hg, hroot, hfor, hni⟩ := hrel'.get (k := 0) (o := .forest (lc x)) rfl
  let I1 : Im := fun b j => I' b j ∨ (g.F b ∧ ∃ x, w'.cell? ⟨b, j, none⟩ = some x)
  refine ⟨v, rfl, to x, hto x hx, I1, [], VA.lend (G := G') (I := I') (fun b j h => .inl h) (fun v d hm => (hfor.mem hm).2.vd fun b j x hb hx => .inr ⟨hb, x, hx⟩) hv (hl x hx),
    ⟨rfl, fun k g o e => by simp at e, fun i j gi gj b e => by simp at e, fun k g b e => by simp at e, fun b j hi => hi.elim (hrel'.imm b j) fun h => h.2⟩,
    ⟨hfr.os, hfr.tape, hfr.output, hfr.size, hfr.block, fun b j hi => ⟨.inl (hfr.cell b j hi).1, (hfr.cell b j hi).2⟩, fun b j hi => ?_, fun k g b e => by simp at e⟩, Nat.le_refl _, fun k g o e e2 => by simp at e2⟩
  rcases hi with hi | ⟨hb, _⟩
  · exact hfr.im b j hi
  · exact .inr (hfr.own 0 g b hg hb)
/-- A row of one's own is a tree. -/
theorem Ct.tree {r : X → List D} {t : TypeId} {sz : Nat} (ct : Ct P f args [] φ (fun x => .own 0 (r x)) (fun _ => [.app t sz true])) :
    Ct P f args [] (fun q : X × Value => φ q.1) (fun q => .raw q.2) (fun q => [.forest [(q.2, .lst (r q.1))]]) := by
  refine ⟨ct.1, fun w I G vs hvs hrel => (ct.2 w I G vs hvs hrel).mono ?_⟩
  rintro e w' ⟨v, rfl, x, hx, I', G', hv, hrel', hfr, _, _⟩
  have hG0 : G.length = 0 := hrel.len
  have no : ∀ {b}, ¬ ownF G b := fun {b} ⟨k, g', e, _⟩ => by
    have := (List.getElem?_eq_some_iff.1 e).1; omega
  cases hv with
  | own k l g h1 h2 h3 =>
  subst h2
  have hobj : ObjR w' I' G' g (.app t sz true) := hrel'.obj 0 g _ h1 rfl
  have h1c : g.root.oneCell' = true := VD.one_lst h3
  have htree := tree_of (app_shp hobj) h3 h1c
  have hnew : ∀ b, g.F b → w.heap.size ≤ b := fun b hb => (hfr.own 0 g b h1 hb).resolve_left no
  have hin : ∀ b j, I b j → b < w.heap.size := fun b j hi => by
    obtain ⟨y, hy⟩ := hrel.imm b j hi
    exact cell_lt hy
  refine ⟨g.root, rfl, (x, g.root), hx, fun b j => I' b j ∧ ¬ g.F b, [⟨.slice none 0 0, g.F⟩], .raw _ h1c, ⟨rfl, fun k g' o e1 e2 => ?_, fun i j gi gj b e1 e2 hij => ?_, fun k g' b e h => ?_, fun b j hi => hrel'.imm b j hi.1⟩,
    ⟨hfr.os, hfr.tape, hfr.output, hfr.size, hfr.block, fun b j hi => ⟨⟨(hfr.cell b j hi).1, fun h => ?_⟩, (hfr.cell b j hi).2⟩, fun b j hi => hfr.im b j hi.1, fun k g' b e h => ?_⟩, Nat.zero_le _, fun k g o e e2 => by simp at e2⟩
  · cases k with
    | zero => simp at e1 e2; subst e1; subst e2; exact ⟨rfl, Forest.one h1c htree, fun b j hb hi => hi.2 hb⟩
    | succ k => simp at e2
  · cases i <;> cases j <;> simp at e1 e2 hij
  · cases k with
    | zero => simp at e; subst e; exact hrel'.inb 0 g b h1 h
    | succ k => simp at e
  · have := hnew b h
    have := hin b j hi
    omega
  · cases k with
    | zero => simp at e; subst e; exact .inr (hnew b h)
    | succ k => simp at e
end
section
variable {P : Program} {f : FuncId} {X : Type} {φ : X → Prop} {ret : X → A} {args args' : List A} {t : List A} {h : List O} {p d q : Nat} {K : St → Prop} {L : List (Value × D)} {lc' : X → List (Value × D)}
theorem set_same {o : O} : ∀ {h : List O} {q : Nat}, h[q]? = some o → h.set q o = h
  | [], q, e => by simp at e
  | x :: h, 0, e => by simp at e; subst e; rfl
  | x :: h, q + 1, e => by rw [List.set_cons_succ, set_same (by simpa using e)]
/-- A call that reads trees. -/
theorem call_read (ct : Ct P f args' [] φ ret (fun _ => [])) (hq : h[q]? = some (.forest L)) (hargs : lendAs L args args') (hfree : ∀ x, (ret x).free = true) (hK : ∀ x, φ x → K ⟨t.set d (ret x), h, p⟩) : callVC P f args ⟨t, h, p⟩ (some d) K := by
  refine call_trees (La := L) (lc := []) (Lb := []) (lc' := fun _ => []) (Ct.lend ct (lendAs_self hargs) hfree) (by simpa using hq) (by simpa using hargs) hfree fun x hx => ?_
  have := hK x hx
  rw [List.append_nil, List.append_nil, set_same hq]
  exact this
/-- A call that hands back new trees. -/
theorem call_new (ct : Ct P f args' [] φ ret (fun x => [.forest (lc' x)])) (hq : h[q]? = some (.forest L)) (hargs : lendAs L args args') (hfree : ∀ x, (ret x).free = true) (hK : ∀ x, φ x → K ⟨t.set d (ret x), h.set q (.forest (L ++ lc' x)), p⟩) : callVC P f args ⟨t, h, p⟩ (some d) K := by
  refine call_trees (La := L) (lc := []) (Lb := []) (Ct.addF ct (fun _ => Nat.le_refl 1) (lendAs_self hargs)) (by simpa using hq) (by simpa using hargs) hfree fun x hx => ?_
  have := hK x hx
  rw [List.append_nil]
  exact this
end
/-- A row that was made, and the trees that hang on it, are one tree. -/
theorem Turns.close {h : List O} {k u sz : Nat} {L : List A} {Ls : List (Value × D)} {l : List D} {ag : Bool} {Q : St → Prop} (hk : h[k]? = some (.row u sz L)) (hq : (∃ q : Nat, h[q]? = some (.forest Ls)) ∨ Ls = []) (ho : Opd ag l L Ls) (h1 : ∀ d ∈ l, ag = false → d.cells.length = 1)
    (hQ : ∀ v, Q ⟨[.raw v], [.forest [(v, .lst l)]], 0⟩) : Turns ⟨[.arr k], h, 0⟩ Q := fun c a w ⟨I, G, hr⟩ => by
  obtain ⟨g0, hg0, b, cs, e1, e2, e3, e4, e5, e6, e7⟩ := hr.objs.get hk
  have hF : ∃ F1 : Nat → Prop, Forest w F1 Ls ∧ (∀ b, F1 b → ¬ g0.F b) ∧ (∀ b j, F1 b → ¬ I b j) ∧ (∀ b, F1 b → b < w.heap.size) ∧ ∀ b, F1 b → c.F b ∨ c.w.heap.size ≤ b := by
    rcases hq with ⟨q, hq⟩ | rfl
    · obtain ⟨g1, hg1, hr1, hf1, hn1⟩ := hr.objs.get hq
      have hkq : k ≠ q := fun e => by subst e; rw [hk] at hq; cases hq
      exact ⟨g1.F, hf1, fun b h2 h3 => hr.objs.disj k q g0 g1 b hg0 hg1 hkq h3 h2, hn1, fun b hb => hr.objs.inb q g1 b hg1 hb, fun b hb => hr.fr.own q g1 b hg1 hb⟩
    · exact ⟨fun _ => False, Forest.mt _, fun _ h => h.elim, fun _ _ h => h.elim, fun _ h => h.elim, fun _ h => h.elim⟩
  obtain ⟨F1, f1, f2, f3, f4, f5⟩ := hF
  obtain ⟨Fs, k1, k2, k3⟩ := cclose (ho.flat h1) e3 f1
  have hb0 : g0.F b := (e6 b).2 rfl
  have htree : TreeV w (fun j => j = b ∨ F1 j) (.slice (some ⟨b, 0, none⟩) L.length L.length) (.lst l) := by
    refine .lst _ Fs (fun j => cs.getD j undef) b _ _ u cs l (.inl rfl) e2 ho.len.symm (Nat.le_refl _) (fun j d e => ?_) (fun j d e => ?_) (fun j k hk => ⟨.inr (k2 j k hk), fun h => f2 k (k2 j k hk) (h ▸ hb0)⟩) k3
    · obtain ⟨y, g1, g2, g3⟩ := k1 j d e
      have g1' : cs[j]? = some y := by simpa using g1
      have : cs.getD j undef = y := by rw [Array.getD_eq_getD_getElem?, g1']; rfl
      rw [this]; exact ⟨g1', g2⟩
    · obtain ⟨y, g1, g2, g3⟩ := k1 j d e
      have g1' : cs[j]? = some y := by simpa using g1
      have : cs.getD j undef = y := by rw [Array.getD_eq_getD_getElem?, g1']; rfl
      rw [this]; exact g3
  have ht := hr.tmps
  generalize ha : a.tmps.toList = tl at ht
  cases ht with
  | cons hv hn =>
  cases hn
  cases hv with
  | arr _ g hg hroot hone =>
  rw [hg0] at hg; cases hg
  subst hroot
  rw [← e1] at htree
  refine ⟨⟨[.raw g0.root], [.forest [(g0.root, .lst l)]], 0⟩, hQ _, I, [⟨.slice none 0 0, fun j => j = b ∨ F1 j⟩], hr.defers, ?_, ⟨rfl, fun m g' o a1 a2 => ?_, fun i j gi gj b' a1 a2 hij => ?_, fun m g' b' a1 hb => ?_, hr.objs.imm⟩,
    ⟨hr.fr.os, hr.fr.tape, hr.fr.output, hr.fr.size, hr.fr.block, hr.fr.cell, hr.fr.im, fun m g' b' a1 hb => ?_⟩, fun m v e => ?_⟩
  · rw [ha]; exact .cons (.raw _ hone) .nil
  · cases m with
    | zero =>
      simp at a1 a2; subst a1; subst a2
      refine ⟨rfl, Forest.one hone htree, fun b' j hb hi => ?_⟩
      rcases hb with rfl | hb
      · exact e7 j hi
      · exact f3 b' j hb hi
    | succ m => simp at a2
  · cases i <;> cases j <;> simp at a1 a2 hij
  · cases m with
    | zero =>
      simp at a1; subst a1
      rcases hb with rfl | hb
      · exact hr.objs.inb k g0 _ hg0 hb0
      · exact f4 _ hb
    | succ m => simp at a1
  · cases m with
    | zero =>
      simp at a1; subst a1
      rcases hb with rfl | hb
      · exact hr.fr.own k g0 _ hg0 hb0
      · exact f5 _ hb
    | succ m => simp at a1
  · have := (hr.pr m v e).1
    simp at this
/-- The end of a function that hands back a row that it made. -/
theorem end_close {T : Ty} {K : St → Prop} {rs : List ResultVar} {X : Type} {φ : X → Prop} {ret : X → A} {post : X → List O} {t : List A} {h : List O} (hK : ∀ s, vcEnd T rs φ ret post s → K s) {k u sz : Nat} {L : List A} {Ls : List (Value × D)} {l : List D} {ag : Bool}
    (hv : vcRes T ⟨t, h, 0⟩ rs fun r => tupA r = .arr k) (hk : h[k]? = some (.row u sz L)) (hq : (∃ q : Nat, h[q]? = some (.forest Ls)) ∨ Ls = []) (ho : Opd ag l L Ls) (h1 : ∀ d ∈ l, ag = false → d.cells.length = 1)
    (hx : ∀ v, ∃ x, φ x ∧ ret x = .raw v ∧ post x = [.forest [(v, .lst l)]]) : K ⟨t, h, 0⟩ :=
  hK _ (vcRes_mono (fun r hr => by
    rw [hr]
    exact Turns.close hk hq ho h1 fun v => by obtain ⟨x, a1, a2, a3⟩ := hx v; exact ⟨x, a1, by rw [a2, a3]⟩) hv)
end Go.Ab
/- Marks: what the marking functions write into a tree, told of its data; elements among opened ones. -/
namespace Go.Ab
open Go
set_option linter.unusedVariables false
set_option linter.unusedSimpArgs false
/-- The digits of a number, none for 0. -/
def dig (n : Nat) : ByteArray := if n = 0 then ⟨#[]⟩ else dig (n / 10) ++ ⟨#[UInt8.ofNat (48 + n % 10)]⟩
decreasing_by omega
theorem dig_zero : dig 0 = ⟨#[]⟩ := by rw [dig]; rfl
theorem dig_go {n : Nat} (h : n ≠ 0) : dig n = dig (n / 10) ++ ⟨#[UInt8.ofNat (48 + n % 10)]⟩ := by rw [dig, if_neg h]
theorem dig_size : ∀ n : Nat, (dig n).size ≤ n := fun n => by
  induction n using Nat.strongRecOn with
  | ind n ih =>
    by_cases h : n = 0
    · subst h; rw [dig_zero]; decide
    · rw [dig_go h, ByteArray.size_append]
      have := ih (n / 10) (by omega)
      have h1 : (⟨#[UInt8.ofNat (48 + n % 10)]⟩ : ByteArray).size = 1 := rfl
      omega
/-- The mark of number k. -/
def mk (k : Int) : ByteArray := if k ≤ 0 then ⟨#[109, 48]⟩ else ⟨#[109]⟩ ++ dig k.toNat
def mkV : Value → Int → Value
  | .int w _, k => .int w k
  | .string _, k => .string (mk k)
  | x, _ => x
mutual
/-- How many marks a thing takes. -/
def D.cnt : D → Nat
  | .v _ => 1
  | .agg l => cnts l
  | .lst l => cnts l
def cnts : List D → Nat
  | [] => 0
  | d :: l => d.cnt + cnts l
end
mutual
/-- A thing, marked from k on. -/
def mkD : D → Int → D
  | .v x, k => .v (mkV x k)
  | .agg l, k => .agg (mkDs l k)
  | .lst l, k => .lst (mkDs l k)
def mkDs : List D → Int → List D
  | [], _ => []
  | d :: l, k => mkD d k :: mkDs l (k + d.cnt)
end
theorem cnts_app : ∀ a b : List D, cnts (a ++ b) = cnts a + cnts b
  | [], b => by simp [cnts]
  | d :: a, b => by rw [List.cons_append, cnts, cnts, cnts_app a b]; omega
theorem mkDs_app : ∀ (a b : List D) (k : Int), mkDs (a ++ b) k = mkDs a k ++ mkDs b (k + cnts a)
  | [], b, k => by simp [mkDs, cnts]
  | d :: a, b, k => by
    rw [List.cons_append, mkDs, mkDs, mkDs_app a b, cnts, List.cons_append]
    congr 3; omega
theorem mkDs_len : ∀ (a : List D) (k : Int), (mkDs a k).length = a.length
  | [], k => rfl
  | d :: a, k => by rw [mkDs, List.length_cons, List.length_cons, mkDs_len a]
theorem mkDs_at : ∀ {a : List D} {k : Int} {i : Nat} {d : D}, a[i]? = some d → (mkDs a k)[i]? = some (mkD d (k + cnts (a.take i)))
  | [], k, i, d, e => by simp at e
  | x :: a, k, 0, d, e => by simp at e; subst e; simp [mkDs, cnts]
  | x :: a, k, i + 1, d, e => by
    rw [mkDs, List.getElem?_cons_succ, mkDs_at (by simpa using e), List.take_succ_cons, cnts]
    congr 2; omega
theorem cnts_take {a : List D} {i : Nat} {d : D} (e : a[i]? = some d) : cnts (a.take (i + 1)) = cnts (a.take i) + d.cnt := by
  rw [take_more e, cnts_app, cnts, cnts]; omega
theorem cnts_take_le (a : List D) (i : Nat) : cnts (a.take i) ≤ cnts a := by
  conv => rhs; rw [← List.take_append_drop i a, cnts_app]
  omega
theorem cnts_at {a : List D} {i : Nat} {d : D} (e : a[i]? = some d) : cnts (a.take i) + d.cnt ≤ cnts a := by
  rw [← cnts_take e]; exact cnts_take_le a _
theorem cnts_str (a : List ByteArray) : cnts (a.map D.str) = a.length := by
  induction a with
  | nil => rfl
  | cons x a ih => rw [List.map_cons, cnts, ih, List.length_cons]; simp only [D.cnt]; omega
theorem cnts_int (a : List Int) : cnts (a.map D.int) = a.length := by
  induction a with
  | nil => rfl
  | cons x a ih => rw [List.map_cons, cnts, ih, List.length_cons]; simp only [D.cnt]; omega
/-- How many cells an element has, marked or not. -/
theorem mkD_cells (d : D) (k : Int) : (mkD d k).cells.length = d.cells.length := by
  cases d with
  | v x => rfl
  | lst l => rfl
  | agg l => simp only [mkD, D.cells, mkDs_len]
theorem mkDs_cells {a : List D} {P : Nat → Prop} (h : ∀ d ∈ a, P d.cells.length) : ∀ (k : Int), ∀ d ∈ mkDs a k, P d.cells.length := by
  induction a with
  | nil => intro k d hd; cases hd
  | cons x a ih =>
    intro k d hd
    rw [mkDs] at hd
    rcases List.mem_cons.1 hd with rfl | hd
    · rw [mkD_cells]; exact h x List.mem_cons_self
    · exact ih (fun d hd => h d (List.mem_cons_of_mem _ hd)) _ d hd
/-! ### Among opened elements -/
theorem COp.inv_nil {as : List A} {L : List (Value × D)} (h : COp [] as L) : as = [] ∧ L = [] := by cases h; exact ⟨rfl, rfl⟩
theorem COp.inv_v {x : Value} {ds : List D} {as : List A} {L : List (Value × D)} (h : COp (.v x :: ds) as L) : ∃ as', as = .d (.v x) :: as' ∧ COp ds as' L := by
  cases h with
  | v _ h => exact ⟨_, rfl, h⟩
theorem COp.inv_lst {l ds : List D} {as : List A} {L : List (Value × D)} (h : COp (.lst l :: ds) as L) : ∃ r as' L', as = .raw r :: as' ∧ L = (r, .lst l) :: L' ∧ COp ds as' L' := by
  cases h with
  | lst r _ h => exact ⟨_, _, _, rfl, rfl, h⟩
theorem Opd.inv_nil {ag : Bool} {L : List A} {Ls : List (Value × D)} (h : Opd ag [] L Ls) : L = [] ∧ Ls = [] := by cases h; exact ⟨rfl, rfl⟩
theorem Opd.inv_cons {ag : Bool} {d : D} {l : List D} {L : List A} {Ls : List (Value × D)} (h : Opd ag (d :: l) L Ls) : ∃ cs Lr Lc Lsr, L = mkE ag cs :: Lr ∧ Ls = Lc ++ Lsr ∧ COp d.cells cs Lc ∧ Opd ag l Lr Lsr := by
  cases h with
  | cons h1 h2 => exact ⟨_, _, _, _, rfl, rfl, h1, h2⟩
theorem Opd.split {ag : Bool} : ∀ {la lb : List D} {L : List A} {Ls : List (Value × D)}, Opd ag (la ++ lb) L Ls → ∃ La Lb Lsa Lsb, L = La ++ Lb ∧ Ls = Lsa ++ Lsb ∧ Opd ag la La Lsa ∧ Opd ag lb Lb Lsb
  | [], lb, L, Ls, h => ⟨[], L, [], Ls, rfl, rfl, .nil, h⟩
  | d :: la, lb, L, Ls, h => by
    obtain ⟨cs, Lr, Lc, Lsr, rfl, rfl, h1, h2⟩ := Opd.inv_cons (by simpa using h)
    obtain ⟨La, Lb, Lsa, Lsb, rfl, rfl, h3, h4⟩ := Opd.split h2
    exact ⟨_, Lb, _, Lsb, rfl, (List.append_assoc _ _ _).symm, .cons h1 h3, h4⟩
/-- The element at i, and what lies before and behind it. -/
theorem Opd.at {ag : Bool} {l : List D} {i : Nat} {d : D} (e : l[i]? = some d) {la : List D} (hla : la.length = i) {L : List A} {Ls : List (Value × D)} (h : Opd ag (la ++ l.drop i) L Ls) :
    ∃ La Lb Lsa Lsb cs Lc, L = La ++ mkE ag cs :: Lb ∧ Ls = Lsa ++ (Lc ++ Lsb) ∧ La.length = i ∧ Opd ag la La Lsa ∧ COp d.cells cs Lc ∧ Opd ag (l.drop (i + 1)) Lb Lsb := by
  obtain ⟨La, Lb, Lsa, Lsb, rfl, rfl, h1, h2⟩ := h.split
  rw [drop_of e] at h2
  obtain ⟨cs, Lr, Lc, Lsr, rfl, rfl, h3, h4⟩ := h2.inv_cons
  exact ⟨La, Lr, Lsa, Lsr, cs, Lc, rfl, rfl, by rw [← h1.len]; exact hla, h1, h3, h4⟩
theorem at_mid {α : Type} {La Lb : List α} {x : α} {i : Nat} (h : La.length = i) : (La ++ x :: Lb)[i]? = some x := by subst h; simp
theorem set_mid {α : Type} {La Lb : List α} {x y : α} {i : Nat} (h : La.length = i) : (La ++ x :: Lb).set i y = La ++ y :: Lb := by
  subst h
  rw [List.set_append_right _ _ (Nat.le_refl _), Nat.sub_self, List.set_cons_zero]
end Go.Ab
/- Conversions, told by what they do. -/
namespace Go.Ab
open Go
set_option linter.unusedVariables false
set_option linter.unusedSimpArgs false
section
variable {P : Program} {s : St} {K : St → Prop} {src dst : TypeId} {x : Operand} {d : Option Nat}
theorem sem_conv_int {us : TypeDesc} {k w0 : IntKind} {n : Int} (hs : P.underlying src = some us) (hd : P.underlying dst = some (.int k)) (hx : opd s.t x = .d (.v (.int w0 n))) (h : K (s.put d (.d (.v (.int k (wr k n)))))) : semVC P (.convert src dst x) d s K := fun ty pos after guard c a w hR N Q hN => by
  obtain ⟨I, G, hr⟩ := hR
  have ev := VA.eval hr.tmps x
  rw [hx] at ev
  have hv := ev.inv_v
  unfold wr at h
  unfold Oper.wp
  have hrun : (execOp a.eval ⟨d, .convert src dst x, ty, pos, after, guard⟩).run P w = .ok (.value (.int k (k.wrap n))) w := by
    simp [execOp, hv, convert, run_underlying hs, run_underlying hd, Conv.intToInt]
  rw [hrun]
  exact hN _ _ _ h ⟨I, G, hr.put (.d (.v _ rfl)) d⟩
theorem sem_conv_byte {e : TypeId} {m : Nat} {n : Int} (hs : P.underlying src = some (.slice e)) (he : P.underlying e = some (.int .u8)) (hd : P.underlying dst = some .string) (hx : opd s.t x = .sl m [.d (.v (.int .u8 n))]) (h : K (s.put d (.d (.v (.string ⟨#[UInt8.ofNat n.toNat]⟩))))) : semVC P (.convert src dst x) d s K := fun ty pos after guard c a w hR N Q hN => by
  obtain ⟨I, G, hr⟩ := hR
  have ev := VA.eval hr.tmps x
  rw [hx] at ev
  generalize ha : a.eval x = v at ev
  have key : ∃ b, v = .slice (some ⟨b, 0, none⟩) 1 1 ∧ w.cell? ⟨b, 0, none⟩ = some (.int .u8 n) := by
    cases ev with
    | sl b n' k l g h1 h2 h3 h4 =>
      simp at h3; subst h3
      simp only [List.flatMap_cons, List.flatMap_nil, A.cells, List.append_nil] at h4
      cases h4 with
      | cons f1 f2 f3 f4 f5 =>
        obtain rfl := f4.inv_v
        exact ⟨b, rfl, f1⟩
  obtain ⟨b, rfl, hc⟩ := key
  unfold Oper.wp
  have hl := run_loadCells_list (P := P) w ⟨b, 0, none⟩ [.int .u8 n] (fun j v hv => by
    cases j with
    | zero => simp at hv; subst hv; rw [add_at]; exact hc
    | succ j => simp at hv)
  have hb := run_bytesToString (P := P) w ⟨b, 0, none⟩ 1 1 [n] hl
  have hrun : (execOp a.eval ⟨d, .convert src dst x, ty, pos, after, guard⟩).run P w = .ok (.value (.string ⟨#[UInt8.ofNat n.toNat]⟩)) w := by
    have := run_convert_bytes_string (P := P) w src dst e (some ⟨b, 0, none⟩) 1 1 hs he hd
    rw [hb] at this
    simp only [execOp, ha, Sem.run_bind, this, Result.andThen_ok, Sem.run_pure]
    rfl
  rw [hrun]
  exact hN _ _ _ h ⟨I, G, hr.put (.d (.v _ rfl)) d⟩
end
/-- A call that reads trees, in a drawn region. -/
theorem calm_read {P : Program} {f : FuncId} {X : Type} {φ : X → Prop} {ret : X → A} {args args' : List A} {t : List A} {h : List O} {p d q : Nat} {K : St → Prop} {L : List (Value × D)}
    (ct : Ct P f args' [] φ ret (fun _ => [])) (hq : h[q]? = some (.forest L)) (hargs : lendAs L args args') (hfree : ∀ x, (ret x).free = true) (hK : ∀ x, φ x → K ⟨t.set d (ret x), h, p⟩) : calmVC P f args ⟨t, h, p⟩ (some d) K := by
  refine ⟨ct.1, fun c a w I G hr vs hvs => ?_⟩
  obtain ⟨g, hg, hroot, hfor, hni⟩ := hr.objs.get hq
  let I1 : Im := fun b j => I b j ∨ (g.F b ∧ ∃ x, w.cell? ⟨b, j, none⟩ = some x)
  have hv1 : VAs w I1 [] vs args' := VAs.lend (fun b j h => .inl h) (fun v d hm => (hfor.mem hm).2.vd fun b j x hb hx => .inr ⟨hb, x, hx⟩) hvs hargs
  have hrel1 : RelH w I1 [] [] := ⟨rfl, fun k g o e => by simp at e, fun i j gi gj b e => by simp at e, fun k g b e => by simp at e, fun b j hi => hi.elim (hr.objs.imm b j) fun h => h.2⟩
  refine (ct.2 w I1 [] vs hv1 hrel1).mono ?_
  rintro e w' ⟨v, rfl, x, hx, I', G', hv, hrel', hfr, _, _⟩
  have hgr : Grow w w' := ⟨hfr.os, hfr.tape, hfr.output, hfr.size, fun b hb => hfr.block b hb fun ⟨k, g', e, _⟩ => by simp at e⟩
  exact ⟨v, rfl, hgr, _, hK x hx, I, G, (hr.grow' hgr).put (hv.freeI (hfree x)) (some d)⟩
end Go.Ab
/- Opened rows, held on from round to round. -/
namespace Go.Ab
open Go
set_option linter.unusedVariables false
set_option linter.unusedSimpArgs false
theorem COp.lel {ds : List D} {as : List A} {L : List (Value × D)} (h : COp ds as L) (n m : Nat) : A.lel n m as as := by
  induction h with
  | nil => simp only [A.lel]
  | v x _ ih => simp only [A.lel, A.le]; exact ⟨trivial, ih⟩
  | lst r l _ ih => simp only [A.lel, A.le]; exact ⟨trivial, ih⟩
theorem pack_le {as : List A} {n m : Nat} (h : A.lel n m as as) : A.le n m (pack as) (pack as) := by
  unfold pack
  split
  · simp only [A.le]
  · simp only [A.le]; exact h
theorem mkE_le {ag : Bool} {as : List A} {n m : Nat} (h : A.lel n m as as) : A.le n m (mkE ag as) (mkE ag as) := by
  unfold mkE
  split
  · simp only [A.lel] at h; exact h.1
  · exact pack_le h
theorem Opd.les {ag : Bool} {l : List D} {L : List A} {Ls : List (Value × D)} (h : Opd ag l L Ls) (n m : Nat) : ∀ x ∈ L, A.le n m x x := by
  induction h with
  | nil => intro x hx; cases hx
  | cons hc _ ih =>
    intro x hx
    rcases List.mem_cons.1 hx with rfl | hx
    · exact mkE_le (hc.lel n m)
    · exact ih x hx
theorem Opd.ole {ag : Bool} {l : List D} {L : List A} {Ls : List (Value × D)} (h : Opd ag l L Ls) (n m : Nat) (r : Value) (t sz : Nat) : O.le n m (.opn r t sz L) (.opn r t sz L) := by
  simp only [O.le]; exact ⟨trivial, trivial, trivial, trivial, h.les n m⟩
theorem Opd.olr {ag : Bool} {l : List D} {L : List A} {Ls : List (Value × D)} (h : Opd ag l L Ls) (n m : Nat) (t sz : Nat) : O.le n m (.row t sz L) (.row t sz L) := by
  simp only [O.le]; exact ⟨trivial, trivial, .inr ⟨trivial, h.les n m⟩⟩
end Go.Ab
