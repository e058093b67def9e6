/- Results that are rows of one's own: handed back, turned into data. -/
import Derived.Test.YtamicpfjieandaaAbYb
namespace Go.Ab
open Go
set_option linter.unusedVariables false
set_option linter.unusedSimpArgs false
mutual
/-- A value that speaks of the objects ids alone, under their places there. -/
def selA (ids : List Nat) : A → Option A
  | .d x => some (.d x)
  | .raw x => some (.raw x)
  | .nil => some .nil
  | .own k l => if k ∈ ids then some (.own (ids.idxOf k) l) else none
  | .agg l => match selAs ids l with | some r => some (.agg r) | none => none
  | .tup l => match selAs ids l with | some r => some (.tup r) | none => none
  | _ => none
def selAs (ids : List Nat) : List A → Option (List A)
  | [] => some []
  | a :: l => match selA ids a, selAs ids l with | some x, some r => some (x :: r) | _, _ => none
end
section
variable {w : World} {I : Im} {G G' : List Gh} {c : Cx} {s s' : St} {a : Act}
mutual
theorem VA.sel {ids : List Nat} (hG : ∀ k ∈ ids, ∀ g : Gh, G[k]? = some g → G'[ids.idxOf k]? = some g) : ∀ {x a b}, VA w I G x a → selA ids a = some b → VA w I G' x b
  | _, _, b, .d h, e => by simp only [selA] at e; cases e; exact .d h
  | _, _, b, .nil, e => by simp only [selA] at e; cases e; exact .nil
  | _, _, b, .own k l g h1 h2 h3, e => by
    simp only [selA] at e
    split at e
    · rename_i hk; cases e; exact .own _ l g (hG k hk g h1) h2 h3
    · cases e
  | _, _, b, .agg cs l h h1, e => by
    simp only [selA] at e
    split at e
    · rename_i r er; cases e; exact .agg cs r (VAs.sel hG h er) h1
    · cases e
  | _, _, b, .tup cs l h, e => by
    simp only [selA] at e
    split at e
    · rename_i r er; cases e; exact .tup cs r (VAs.sel hG h er)
    · cases e
  | _, _, b, .sl .., e => by simp [selA] at e
  | _, _, b, .rptr .., e => by simp [selA] at e
  | _, _, b, .ref .., e => by simp [selA] at e
  | _, _, b, .arr .., e => by simp [selA] at e
  | _, _, b, .eptr .., e => by simp [selA] at e
  | _, _, b, .fn .., e => by simp [selA] at e
  | _, _, b, .mp .., e => by simp [selA] at e
  | _, _, b, .raw x h, e => by simp only [selA] at e; cases e; exact .raw x h
  | _, _, b, .any _, e => by simp [selA] at e
theorem VAs.sel {ids : List Nat} (hG : ∀ k ∈ ids, ∀ g : Gh, G[k]? = some g → G'[ids.idxOf k]? = some g) : ∀ {x a b}, VAs w I G x a → selAs ids a = some b → VAs w I G' x b
  | _, _, b, .nil, e => by simp only [selAs] at e; cases e; exact .nil
  | _, _, b, .cons h1 h2, e => by
    simp only [selAs] at e
    split at e
    · rename_i x r ex er; cases e; exact .cons (VA.sel hG h1 ex) (VAs.sel hG h2 er)
    · cases e
end
def O.isApp : O → Bool
  | .app _ _ _ => true
  | .forest _ => true
  | _ => false
/-- The objects ids, in their order. -/
def takeO (h : List O) : List Nat → Option (List O)
  | [] => some []
  | k :: r => match h[k]?, takeO h r with | some o, some q => some (o :: q) | _, _ => none
theorem takeO_len {h : List O} : ∀ {ids : List Nat} {q : List O}, takeO h ids = some q → q.length = ids.length
  | [], q, e => by simp only [takeO] at e; cases e; rfl
  | k :: r, q, e => by
    simp only [takeO] at e
    split at e
    · rename_i o q' _ e2; cases e; simp [takeO_len e2]
    · cases e
theorem takeO_at {h : List O} : ∀ {ids : List Nat} {q : List O}, takeO h ids = some q → ∀ {i k : Nat}, ids[i]? = some k → h[k]? = q[i]?
  | [], q, e, i, k, hi => by simp at hi
  | k :: r, q, e, i, j, hi => by
    simp only [takeO] at e
    split at e
    · rename_i o q' e1 e2
      cases e
      cases i with
      | zero => simp at hi; subst hi; simpa using e1
      | succ i => simpa using takeO_at e2 (by simpa using hi)
    · cases e
theorem Turns.sel {t t' : List A} {h q : List O} {Q : St → Prop} (ids : List Nat) (ht : selAs ids t = some t') (hq : takeO h ids = some q) (happ : q.all O.isApp = true) (hnd : ids.Nodup) (hQ : Q ⟨t', q, 0⟩) : Turns ⟨t, h, 0⟩ Q := fun c a w ⟨I, G, hr⟩ => by
  have hlen := hr.objs.len
  let G' : List Gh := ids.map fun k => G.getD k nilGh
  have hin : ∀ {i k : Nat}, ids[i]? = some k → k < h.length := fun {i k} hi => by
    have h1 := takeO_at hq hi
    have h2 : i < q.length := by rw [takeO_len hq]; exact (List.getElem?_eq_some_iff.1 hi).1
    rw [List.getElem?_eq_getElem h2] at h1
    exact (List.getElem?_eq_some_iff.1 h1).1
  have hG' : ∀ {i k : Nat}, ids[i]? = some k → G'[i]? = G[k]? := fun {i k} hi => by
    have hk := hin hi
    have hl : k < G.length := by rw [hlen]; exact hk
    simp only [G', List.getElem?_map, hi, Option.map_some, List.getD_eq_getElem?_getD, List.getElem?_eq_getElem hl, Option.getD_some]
  have hidx : ∀ k ∈ ids, ids[ids.idxOf k]? = some k := fun k hk => by
    rw [List.getElem?_eq_getElem (List.idxOf_lt_length_of_mem hk), List.getElem_idxOf]
  have hback : ∀ {i : Nat} {g : Gh}, G'[i]? = some g → ∃ k, ids[i]? = some k ∧ G[k]? = some g := fun {i g} e => by
    have hi : i < ids.length := by have := (List.getElem?_eq_some_iff.1 e).1; simpa [G'] using this
    have ei := List.getElem?_eq_getElem hi
    exact ⟨_, ei, (hG' ei).symm.trans e⟩
  refine ⟨⟨t', q, 0⟩, hQ, I, G', hr.defers, hr.tmps.sel (fun k hk g e => ?_) ht, ⟨?_, ?_, ?_, ?_, hr.objs.imm⟩, ⟨hr.fr.os, hr.fr.tape, hr.fr.output, hr.fr.size, hr.fr.block, hr.fr.cell, hr.fr.im, ?_⟩, fun k v e => ?_⟩
  · rw [hG' (hidx k hk)]; exact e
  · simp [G', takeO_len hq]
  · intro i g o eg eo
    obtain ⟨k, ek, eg⟩ := hback eg
    have e := takeO_at hq ek
    rw [eo] at e
    have := hr.objs.obj k g o eg e
    have ha : o.isApp = true := List.all_eq_true.1 happ o (List.mem_of_getElem? eo)
    cases o <;> simp [O.isApp] at ha
    · exact this
    · exact this
  · intro i j gi gj b e1 e2 hij hb
    obtain ⟨k, f1, f2⟩ := hback e1
    obtain ⟨m, f3, f4⟩ := hback e2
    refine hr.objs.disj k m gi gj b f2 f4 (fun h => hij ?_) hb
    subst h
    have h1 := (List.getElem?_eq_some_iff.1 f1)
    have h2 := (List.getElem?_eq_some_iff.1 f3)
    exact (List.getElem_inj hnd).1 (h1.2.trans h2.2.symm)
  · intro i g b e hb
    obtain ⟨k, _, f2⟩ := hback e
    exact hr.objs.inb k g b f2 hb
  · intro i g b e hb
    obtain ⟨k, _, f2⟩ := hback e
    exact hr.fr.own k g b f2 hb
  · have := (hr.pr k v e).1
    simp at this
/-- An operation told by what it does: it may be taken behind a turn of the state. -/
theorem sem_turns {P : Program} {T : Ty} (hT : TOk P T) {op : Op} {dst : Option Nat} {K : St → Prop} (h : Turns s fun s' => vcOp P T op dst s' K) : semVC P op dst s K := fun ty pos after guard c a w hR N Q hN => by
  obtain ⟨s', h1, h2⟩ := h c a w hR
  exact op_sound hT (o := ⟨dst, op, ty, pos, after, guard⟩) hN h1 h2
theorem sem_pub {P : Program} {T : Ty} (hT : TOk P T) {op : Op} {dst : Option Nat} {K : St → Prop} {k sz : Nat} {u : TypeId} {l : List A} {q : List D} (hk : s.h[k]? = some (.row u sz l)) (hq : toEs? l = some q) (h : vcOp P T op dst (s.pub k q) K) : semVC P op dst s K :=
  sem_turns hT (.pubs (ks := [k]) (s' := s.pub k q) (by simp only [pubs?, pub?, hk, hq]) fun c a w hR => ⟨_, h, hR⟩)
/-- The end of a function that hands back rows of its own. -/
theorem end_own {T : Ty} {K : St → Prop} {rs : List ResultVar} {X : Type} {φ : X → Prop} {ret : X → A} {post : X → List O} {t : List A} {h : List O} (hK : ∀ s, vcEnd T rs φ ret post s → K s) (x : X) (ids : List Nat) (hx : φ x)
    (hv : vcRes T ⟨t, h, 0⟩ rs fun l => selAs ids [tupA l] = some [ret x]) (hq : takeO h ids = some (post x)) (happ : (post x).all O.isApp = true) (hnd : ids.Nodup) : K ⟨t, h, 0⟩ :=
  hK _ (vcRes_mono (fun l hl => Turns.sel ids hl hq happ hnd ⟨x, hx, rfl⟩) hv)
/-- A row of one's own is data to those who only read it. -/
theorem Ct.dat {P : Program} {f : FuncId} {args : List A} {X : Type} {φ : X → Prop} {r : X → List D} {t : TypeId} {sz : Nat} {dp : Bool} (ct : Ct P f args [] φ (fun x => .own 0 (r x)) (fun _ => [.app t sz dp])) :
    Ct P f args [] φ (fun x => .d (.lst (r x))) (fun _ => []) := by
  refine ⟨ct.1, fun w I G vs h1 h2 => (ct.2 w I G vs h1 h2).mono ?_⟩
  rintro e w' ⟨v, he, x, hx, I', G', hv, hrel, hfr, _, _⟩
  refine ⟨v, he, x, hx, I', [], ?_, ⟨rfl, fun k g o e => by simp at e, fun i j gi gj b e => by simp at e, fun k g b e => by simp at e, hrel.imm⟩,
    ⟨hfr.os, hfr.tape, hfr.output, hfr.size, hfr.block, hfr.cell, hfr.im, fun k g b e => by simp at e⟩, Nat.le_refl _, fun k g o e e2 => by simp at e2⟩
  cases hv with
  | own k l g h1 h2 h3 => exact .d h3
end
theorem ole_dead {n m : Nat} {o : O} : O.le n m o .dead ↔ True := by cases o <;> simp [O.le]
attribute [go_sem] ole_dead St.pub A.pubs A.pub O.pubL O.pub
attribute [go_sem] selA selAs takeO O.isApp List.all_cons List.all_nil Bool.and_true Bool.true_and
end Go.Ab
