/- A contract is used: the callee sees the objects that it is handed, and leaves the rest. -/
import Derived.Test.YtamicpfjieandaaAbP
namespace Go.Ab
open Go
set_option linter.unusedVariables false
set_option linter.unusedSimpArgs false

def putL {α : Type} (h : List α) : List Nat → List α → List α
  | k :: ids, o :: os => (putL h ids os).set k o
  | _, _ => h
theorem putL_len {α : Type} (h : List α) : ∀ (ids : List Nat) (os : List α), (putL h ids os).length = h.length
  | [], _ => by simp [putL]
  | _ :: _, [] => by simp [putL]
  | k :: ids, o :: os => by simp [putL, putL_len h ids os]
theorem putL_not {α : Type} (h : List α) {k : Nat} : ∀ (ids : List Nat) (os : List α), k ∉ ids → (putL h ids os)[k]? = h[k]?
  | [], _, _ => by simp [putL]
  | _ :: _, [], _ => by simp [putL]
  | q :: ids, o :: os, hk => by
    simp only [putL]
    rw [List.getElem?_set, if_neg (fun (e : q = k) => hk (e ▸ List.mem_cons_self))]
    exact putL_not h ids os (fun h => hk (List.mem_cons_of_mem _ h))
theorem putL_at {α : Type} (h : List α) : ∀ (ids : List Nat) (os : List α), ids.Nodup → (∀ k ∈ ids, k < h.length) → ids.length = os.length → ∀ {i k : Nat}, ids[i]? = some k → (putL h ids os)[k]? = os[i]?
  | [], _, _, _, _, i, k, e => by simp at e
  | _ :: _, [], _, _, hl, _, _, _ => by simp at hl
  | q :: ids, o :: os, hn, hb, hl, i, k, e => by
    have hn' := List.nodup_cons.1 hn
    simp only [putL]
    cases i with
    | zero =>
      simp at e; subst e
      rw [List.getElem?_set]
      simp [putL_len, hb q List.mem_cons_self]
    | succ i =>
      have e' : ids[i]? = some k := by simpa using e
      have hk : k ∈ ids := List.mem_of_getElem? e'
      rw [List.getElem?_set, if_neg (fun (e : q = k) => hn'.1 (e ▸ hk))]
      rw [putL_at h ids os hn'.2 (fun k hk => hb k (List.mem_cons_of_mem _ hk)) (by simpa using hl) e']
      simp
def rho : List Nat → Nat → Nat → Nat
  | [], n, i => n + i
  | k :: _, _, 0 => k
  | _ :: ids, n, i + 1 => rho ids n i
theorem rho_at : ∀ {ids : List Nat} {n i k : Nat}, ids[i]? = some k → rho ids n i = k
  | [], _, _, _, e => by simp at e
  | _ :: _, _, 0, _, e => by simp at e; exact e
  | _ :: ids, n, i + 1, k, e => by simp only [rho]; exact rho_at (by simpa using e)
theorem rho_new : ∀ {ids : List Nat} {n i : Nat}, ids.length ≤ i → rho ids n i = n + (i - ids.length)
  | [], _, _, _ => by simp [rho]
  | _ :: ids, n, 0, h => by simp at h
  | _ :: ids, n, i + 1, h => by
    simp only [rho, List.length_cons]
    rw [rho_new (by simpa using h)]
    congr 1
    omega
def demsL : List Nat → List A → List A
  | [], l => l
  | q :: r, l => A.dems q (demsL r l)
def demLL : List Nat → List O → List O
  | [], l => l
  | q :: r, l => O.demL q (demLL r l)
def demO : List Nat → O → O
  | [], o => o
  | q :: r, o => (demO r o).dem q
theorem demLL_get : ∀ (L : List Nat) (h : List O) (k : Nat), (demLL L h)[k]? = (h[k]?).map (demO L)
  | [], h, k => by simp only [demLL]; cases h[k]? <;> rfl
  | q :: L, h, k => by simp only [demLL]; rw [demL_get, demLL_get L h k, Option.map_map]; rfl
theorem demLL_len : ∀ (L : List Nat) (h : List O), (demLL L h).length = h.length
  | [], h => rfl
  | q :: L, h => by simp [demLL, demL_len, demLL_len L h]
def unfixed : List Nat → List O → List Nat
  | k :: ids, o :: h => match o.fixed with | true => unfixed ids h | false => k :: unfixed ids h
  | _, _ => []
theorem unfixed_mem : ∀ {ids : List Nat} {h : List O} {i k : Nat} {o : O}, ids[i]? = some k → h[i]? = some o → o.fixed = false → k ∈ unfixed ids h
  | [], _, _, _, _, e, _, _ => by simp at e
  | _ :: _, [], _, _, _, _, e, _ => by simp at e
  | q :: ids, p :: h, i, k, o, e1, e2, e3 => by
    cases i with
    | zero =>
      simp at e1 e2; subst e1; subst e2
      simp only [unfixed, e3]
      exact List.mem_cons_self
    | succ i =>
      have := unfixed_mem (ids := ids) (h := h) (i := i) (k := k) (o := o) (by simpa using e1) (by simpa using e2) e3
      simp only [unfixed]
      split
      · exact this
      · exact List.mem_cons_of_mem _ this
mutual
def A.under (p : Nat) : A → Prop
  | .d _ => True
  | .agg l => A.unders p l
  | .tup l => A.unders p l
  | .nil => True
  | .sl _ _ => False
  | .rptr _ => True
  | .ref k _ => k < p
  | .own k _ => k < p
  | .arr k => k < p
  | .eptr k _ _ _ => k < p
  | .fn _ l => A.unders p l
  | .mp k => k < p
  | .raw _ => True
  | .any => True
def A.unders (p : Nat) : List A → Prop
  | [] => True
  | a :: l => A.under p a ∧ A.unders p l
end
def O.under (p : Nat) : O → Prop
  | .box _ l => A.unders p l
  | .app _ _ _ => True
  | .map _ _ _ => True
  | .forest _ => True
  | _ => False
def O.unders (p : Nat) : List O → Prop
  | [] => True
  | o :: l => O.under p o ∧ O.unders p l
def pick (h : List O) : List Nat → List O
  | [] => []
  | k :: ids => (h[k]?).getD .dead :: pick h ids
/-- The state behind a call that was handed the objects ids. -/
def St.back (s : St) (ids : List Nat) (h' q : List O) : St :=
  ⟨demsL (unfixed ids h') s.t, putL (demLL (unfixed ids h') s.h) ids (O.rens (rho ids s.h.length) (q.take ids.length)) ++ O.rens (rho ids s.h.length) (q.drop ids.length), s.p⟩
section
variable {P : Program} {T : Ty} {w w' : World} {I I' : Im} {G G' : List Gh} {c : Cx} {s s' : St} {a : Act}
theorem VAs.demAll (hI : ∀ b j, I b j → I' b j) (hc : ∀ b j, I b j → w'.cell? ⟨b, j, none⟩ = w.cell? ⟨b, j, none⟩) : ∀ (L : List Nat) {G' : List Gh},
    (∀ (k : Nat) (g : Gh), k ∉ L → G[k]? = some g → ∃ g' : Gh, G'[k]? = some g' ∧ g'.root = g.root) → G'.length ≥ G.length → ∀ {x l}, VAs w I G x l → VAs w' I' G' x (demsL L l)
  | [], G', hG, _, x, l, h => h.mono hI hc (fun k g e => hG k g (by simp) e)
  | q :: L, G', hG, hlen, x, l, h => by
    have h1 := VAs.demAll hI hc L (G' := match G[q]? with | some g => G'.set q g | none => G') (fun k g hk e => by
      by_cases hkq : k = q
      · subst hkq
        rw [e]
        exact ⟨g, by simp only; rw [List.getElem?_set]; simp; have := (List.getElem?_eq_some_iff.1 e).1; omega, rfl⟩
      · obtain ⟨g', e1, e2⟩ := hG k g (by simp [hkq, hk]) e
        refine ⟨g', ?_, e2⟩
        cases G[q]? with
        | none => exact e1
        | some gq => simp only; rw [List.getElem?_set, if_neg (fun h => hkq h.symm)]; exact e1) (by cases G[q]? <;> simp [hlen]) h
    refine VAs.dem (fun _ _ h => h) (fun _ _ _ => rfl) q (fun k g hk e => ?_) h1
    refine ⟨g, ?_, rfl⟩
    cases hq : G[q]? with
    | none => rw [hq] at e; exact e
    | some gq => rw [hq] at e; simp only at e; rw [List.getElem?_set, if_neg (fun h => hk h.symm)] at e; exact e
theorem ObjR.demAll (hI : ∀ b j, I b j → I' b j) (hc : ∀ b j, I b j → w'.cell? ⟨b, j, none⟩ = w.cell? ⟨b, j, none⟩) : ∀ (L : List Nat) {G' : List Gh},
    (∀ (k : Nat) (g : Gh), k ∉ L → G[k]? = some g → ∃ g' : Gh, G'[k]? = some g' ∧ g'.root = g.root) → G'.length ≥ G.length → ∀ {g o}, (∀ b, g.F b → w'.heap[b]? = w.heap[b]?) → (∀ b j, g.F b → I' b j → I b j) →
    ObjR w I G g o → ObjR w' I' G' g (demO L o)
  | [], G', hG, _, g, o, hF, hIF, h => h.keep hI hc (fun k g e => hG k g (by simp) e) hF hIF
  | q :: L, G', hG, hlen, g, o, hF, hIF, h => by
    have h1 := ObjR.demAll hI hc L (G' := match G[q]? with | some g => G'.set q g | none => G') (fun k g hk e => by
      by_cases hkq : k = q
      · subst hkq
        rw [e]
        exact ⟨g, by simp only; rw [List.getElem?_set]; simp; have := (List.getElem?_eq_some_iff.1 e).1; omega, rfl⟩
      · obtain ⟨g', e1, e2⟩ := hG k g (by simp [hkq, hk]) e
        refine ⟨g', ?_, e2⟩
        cases G[q]? with
        | none => exact e1
        | some gq => simp only; rw [List.getElem?_set, if_neg (fun h => hkq h.symm)]; exact e1) (by cases G[q]? <;> simp [hlen]) hF hIF h
    refine ObjR.demK q (fun _ _ h => h) (fun _ _ _ => rfl) (fun k g hk e => ?_) (fun _ _ => rfl) (fun _ _ _ h => h) h1
    refine ⟨g, ?_, rfl⟩
    cases hq : G[q]? with
    | none => rw [hq] at e; exact e
    | some gq => rw [hq] at e; simp only at e; rw [List.getElem?_set, if_neg (fun h => hk h.symm)] at e; exact e
theorem ObjR.ren (ρ : Nat → Nat) (hG : ∀ (k : Nat) (g : Gh), G[k]? = some g → ∃ g' : Gh, G'[ρ k]? = some g' ∧ g'.root = g.root) {g : Gh} {o : O} (h : ObjR w I G g o) : ObjR w I G' g (o.ren ρ) := by
  cases o with
  | box t l =>
    obtain ⟨b, cs, h1, h2, h3, h4, h5, h6⟩ := h
    exact ⟨b, cs, h1, h2, h3.map (fun _ _ h => h) (fun _ _ _ => rfl) ρ hG, h4, h5, h6⟩
  | app t sz dp => exact h
  | row t sz l =>
    obtain ⟨b, cs, h1, h2, h3, h4, h5, h6, h7⟩ := h
    refine ⟨b, cs, by rw [A.rens_eq, List.length_map]; exact h1, h2, ?_, h4, fun x hx => ?_, h6, h7⟩
    · have := h3.map (fun _ _ h => h) (fun _ _ _ => rfl) ρ hG
      rw [A.rens_eq, A.flat_ren]
      rwa [A.rens_eq] at this
    · rw [A.rens_eq] at hx
      obtain ⟨y, hy, rfl⟩ := List.mem_map.1 hx
      rw [A.cells_ren, List.length_map]
      exact h5 y hy
  | opn r t sz l =>
    obtain ⟨h0, b, cs, t', sp, cap, h1, hcap, h2, h3, h4, h5, h6, h7⟩ := h
    refine ⟨h0, b, cs, t', sp, cap, by rw [A.rens_eq, List.length_map]; exact h1, by rw [A.rens_eq, List.length_map]; exact hcap, h2, ?_, by rw [A.rens_eq, List.length_map]; exact h4, fun x hx => ?_, h6, h7⟩
    · have := h3.map (fun _ _ h => h) (fun _ _ _ => rfl) ρ hG
      rw [A.rens_eq, A.flat_ren]
      rw [A.rens_eq, List.map_append, List.map_replicate] at this
      exact this
    · rw [A.rens_eq] at hx
      obtain ⟨y, hy, rfl⟩ := List.mem_map.1 hx
      rw [A.cells_ren, List.length_map]
      exact h5 y hy
  | forest l => exact h
  | map kt vt l => exact h
  | dead => exact h
mutual
theorem VA.unren {p : Nat} {ρ : Nat → Nat} (hG : ∀ (i : Nat), i < p → G'[i]? = G[ρ i]?) : ∀ (a : A) {x : Value}, a.under p → VA w I G x (a.ren ρ) → VA w I G' x a
  | .d y, x, _, h => by rw [A.ren] at h; cases h with | d h => exact .d h
  | .nil, x, _, h => by rw [A.ren] at h; cases h; exact .nil
  | .raw y, x, _, h => by rw [A.ren] at h; cases h with | raw _ h => exact .raw _ h
  | .any, x, _, _ => .any x
  | .rptr l, x, _, h => by rw [A.ren] at h; cases h with | rptr b off l h => exact .rptr b off l h
  | .agg l, x, hu, h => by
    rw [A.ren] at h
    generalize hl : A.rens ρ l = l' at h
    cases h with
    | agg cs l' h h1 => subst hl; exact .agg cs l (VAs.unren hG l (by simpa [A.under] using hu) h) h1
  | .tup l, x, hu, h => by
    rw [A.ren] at h
    generalize hl : A.rens ρ l = l' at h
    cases h with
    | tup cs l' h => subst hl; exact .tup cs l (VAs.unren hG l (by simpa [A.under] using hu) h)
  | .fn f l, x, hu, h => by
    rw [A.ren] at h
    generalize hl : A.rens ρ l = l' at h
    cases h with
    | fn f cs l' h => subst hl; exact .fn f cs l (VAs.unren hG l (by simpa [A.under] using hu) h)
  | .sl _ _, _, hu, _ => by simp [A.under] at hu
  | .ref k o, x, hu, h => by
    rw [A.ren] at h
    have hk : k < p := by simpa [A.under] using hu
    cases h with
    | ref b _ _ g h1 h2 => exact .ref b k o g ((hG k hk).trans h1) h2
  | .own k l, x, hu, h => by
    rw [A.ren] at h
    have hk : k < p := by simpa [A.under] using hu
    cases h with
    | own _ _ g h1 h2 h3 => exact .own k l g ((hG k hk).trans h1) h2 h3
  | .arr k, x, hu, h => by
    rw [A.ren] at h
    have hk : k < p := by simpa [A.under] using hu
    cases h with
    | arr _ g h1 h2 h3 => exact .arr k g ((hG k hk).trans h1) h2 h3
  | .eptr k sz i o, x, hu, h => by
    rw [A.ren] at h
    have hk : k < p := by simpa [A.under] using hu
    cases h with
    | eptr b _ _ _ _ n c g h1 h2 => exact .eptr b k sz i o n c g ((hG k hk).trans h1) h2
  | .mp k, x, hu, h => by
    rw [A.ren] at h
    have hk : k < p := by simpa [A.under] using hu
    cases h with
    | mp r _ g h1 h2 => exact .mp r k g ((hG k hk).trans h1) h2
theorem VAs.unren {p : Nat} {ρ : Nat → Nat} (hG : ∀ (i : Nat), i < p → G'[i]? = G[ρ i]?) : ∀ (l : List A) {x : List Value}, A.unders p l → VAs w I G x (A.rens ρ l) → VAs w I G' x l
  | [], x, _, h => by rw [A.rens] at h; cases h; exact .nil
  | a :: l, x, hu, h => by
    rw [A.rens] at h
    cases h with
    | cons h1 h2 => exact .cons (VA.unren hG a (by simpa [A.unders] using hu.1) h1) (VAs.unren hG l hu.2 h2)
end
theorem rens_get (ρ : Nat → Nat) : ∀ (l : List O) (i : Nat), (O.rens ρ l)[i]? = (l[i]?).map (O.ren ρ)
  | [], i => by simp [O.rens]
  | o :: l, 0 => by simp [O.rens]
  | o :: l, i + 1 => by simp [O.rens, rens_get ρ l i]
theorem rens_len (ρ : Nat → Nat) : ∀ l : List O, (O.rens ρ l).length = l.length
  | [] => rfl
  | o :: l => by simp [O.rens, rens_len ρ l]
theorem pick_get (h : List O) : ∀ (ids : List Nat) (i : Nat), (pick h ids)[i]? = (ids[i]?).map fun k => (h[k]?).getD .dead
  | [], i => by simp [pick]
  | k :: ids, 0 => by simp [pick]
  | k :: ids, i + 1 => by simp [pick, pick_get h ids i]
theorem pick_len (h : List O) : ∀ ids : List Nat, (pick h ids).length = ids.length
  | [] => rfl
  | k :: ids => by simp [pick, pick_len h ids]
theorem unders_get {p : Nat} : ∀ {l : List O}, O.unders p l → ∀ {i : Nat} {o : O}, l[i]? = some o → O.under p o
  | [], _, i, o, e => by simp at e
  | q :: l, h, 0, o, e => by simp at e; subst e; exact h.1
  | q :: l, h, i + 1, o, e => unders_get h.2 (i := i) (by simpa using e)
theorem olel_low {n m : Nat} : ∀ {l l' : List O}, O.lel n m l l' → ∀ {k : Nat} {o' : O}, l'[k]? = some o' → k < l.length → ∃ o, l[k]? = some o ∧ O.le n m o o' := fun {l l'} h {k o'} e hk => by
  rcases olel_get h e with h | ⟨h, _⟩
  · exact h
  · omega
theorem use_ct0 {f : FuncId} {args' : List A} {h' : List O} {X : Type} {φ : X → Prop} {ret : X → A} {post : X → List O} (ct : Ct P f args' h' φ ret post) (ids : List Nat) {args : List A} {dst : Option Nat} {K : St → Prop}
    (hnd : ids.Nodup) (hil : ids.length = h'.length) (hin : ∀ k ∈ ids, k < s.h.length) (hua : A.unders h'.length args') (huo : O.unders h'.length h')
    (hargs : A.lel s.h.length s.h.length args (A.rens (rho ids s.h.length) args')) (hobj : O.lel s.h.length s.h.length (pick s.h ids) (O.rens (rho ids s.h.length) h'))
    (hK : ∀ x, φ x → K ((s.back ids h' (post x)).put dst ((ret x).ren (rho ids s.h.length)))) : ∀ c a w I G, RelX c s a w I G → ∀ vs : List Value, VAs w I G vs args →
    Calls P f vs.toArray w fun e w' => ∃ v, e = .returned v ∧ (ids = [] → Grow w w') ∧ ∃ s', K s' ∧ Rel c s' (a.put dst v) w' := by
  intro c a w I G hr vs hvs
  have hlen := hr.objs.len
  let ρ := rho ids s.h.length
  let G0 : List Gh := ids.map fun k => G.getD k nilGh
  have hG0 : ∀ {i k : Nat}, ids[i]? = some k → G0[i]? = G[k]? := fun {i k} e => by
    have hk := hin k (List.mem_of_getElem? e)
    simp only [G0, List.getElem?_map, e, Option.map_some, List.getD_eq_getElem?_getD]
    rw [List.getElem?_eq_getElem (by omega)]; rfl
  have hG0l : G0.length = h'.length := by simp [G0, hil]
  have hun : ∀ i, i < h'.length → G0[i]? = G[ρ i]? := fun i hi => by
    have e : ids[i]? = some ids[i] := List.getElem?_eq_getElem (by omega)
    rw [hG0 e]
    show _ = G[rho ids s.h.length i]?
    rw [rho_at e]
  have hRid : Roots G G s.h.length s.h.length := ⟨fun _ _ _ e => e, fun k h1 h2 => by omega⟩
  have harg : VAs w I G0 vs args' := VAs.unren hun args' hua (VAs.le hRid hvs hargs)
  -- the objects that are handed over
  have each : ∀ {i : Nat} {o' : O}, h'[i]? = some o' → ∃ (k : Nat) (g : Gh) (o : O), ids[i]? = some k ∧ G[k]? = some g ∧ s.h[k]? = some o ∧ O.le s.h.length s.h.length o (o'.ren ρ) ∧ ObjR w I G g o := fun {i o'} e => by
    have hi : i < h'.length := (List.getElem?_eq_some_iff.1 e).1
    have ei : ids[i]? = some ids[i] := List.getElem?_eq_getElem (by omega)
    have hk := hin _ (List.mem_of_getElem? ei)
    have es : s.h[ids[i]]? = some s.h[ids[i]] := List.getElem?_eq_getElem hk
    obtain ⟨o, e1, e2⟩ := olel_low hobj (k := i) (o' := o'.ren ρ) (by rw [rens_get, e]; rfl) (by rw [pick_len]; omega)
    rw [pick_get, ei, Option.map_some, es] at e1
    cases e1
    have eg : G[ids[i]]? = some G[ids[i]] := List.getElem?_eq_getElem (by omega)
    exact ⟨_, _, _, ei, eg, es, e2, hr.objs.obj _ _ _ eg es⟩
  have handed : ∀ {i : Nat} {g : Gh} {o' : O}, G0[i]? = some g → h'[i]? = some o' → ObjR w I G0 g o' := fun {i g o'} eg e => by
    obtain ⟨k, g', o, e1, e2, e3, e4, e5⟩ := each e
    rw [hG0 e1, e2] at eg; cases eg
    have hu := unders_get huo e
    have hnd : o'.ren ρ = .dead → ∀ k, ¬ g.F k := fun h => by cases o' <;> simp [O.ren] at h; simp [O.under] at hu
    have h5 := e5.le hRid e4 hnd
    cases o' with
    | box t l =>
      obtain ⟨b, cs, h1, h2, h3, h4, h5, h6⟩ := h5
      exact ⟨b, cs, h1, h2, VAs.unren hun l (by simpa [O.under] using hu) h3, h4, h5, h6⟩
    | app t sz dp => exact h5
    | map kt vt l => exact h5
    | forest l => exact h5
    | opn r t sz l => simp [O.under] at hu
    | row t sz l => simp [O.under] at hu
    | dead => simp [O.under] at hu
  have idsinj : ∀ {i j k : Nat}, ids[i]? = some k → ids[j]? = some k → i = j := fun {i j k} e1 e2 => by
    have h1 := (List.getElem?_eq_some_iff.1 e1)
    have h2 := (List.getElem?_eq_some_iff.1 e2)
    exact (List.getElem_inj hnd).1 (h1.2.trans h2.2.symm)
  have low0 : ∀ {i : Nat} {g : Gh}, G0[i]? = some g → ∃ k, ids[i]? = some k ∧ G[k]? = some g := fun {i g} e => by
    have hi : i < ids.length := by have := (List.getElem?_eq_some_iff.1 e).1; simpa [G0] using this
    have ei : ids[i]? = some ids[i] := List.getElem?_eq_getElem hi
    exact ⟨_, ei, (hG0 ei).symm.trans e⟩
  have hrel0 : RelH w I G0 h' := ⟨hG0l, fun i g o' eg e => handed eg e, fun i j gi gj b e1 e2 hij hb => by
      obtain ⟨k, f1, f2⟩ := low0 e1
      obtain ⟨q, f3, f4⟩ := low0 e2
      exact hr.objs.disj k q gi gj b f2 f4 (fun h => hij (idsinj f1 (h ▸ f3))) hb, fun i g b e hb => by
      obtain ⟨k, _, f2⟩ := low0 e
      exact hr.objs.inb k g b f2 hb, hr.objs.imm⟩
  have hF0 : ∀ {b}, ownF G0 b → ∃ (k : Nat) (g : Gh), k ∈ ids ∧ G[k]? = some g ∧ g.F b := fun {b} ⟨i, g, e, hb⟩ => by
    obtain ⟨k, f1, f2⟩ := low0 e
    exact ⟨k, g, List.mem_of_getElem? f1, f2, hb⟩
  refine (ct.2 w I G0 vs harg hrel0).mono ?_
  rintro e w' ⟨v, rfl, x, hx, I', G', hv, hrel', hfr, hpl, hroots⟩
  refine ⟨v, rfl, fun hids => ⟨hfr.os, hfr.tape, hfr.output, hfr.size, fun b hb => hfr.block b hb (fun hF => by obtain ⟨k, _, hk, _⟩ := hF0 hF; rw [hids] at hk; cases hk)⟩, _, hK x hx, ?_⟩
  -- the ghosts behind the call
  let p := ids.length
  have hG'l := hrel'.len
  have hpG : p ≤ G'.length := by rw [hG'l]; simp only [p]; omega
  let G2 : List Gh := putL G ids (G'.take p) ++ G'.drop p
  have htp : (G'.take p).length = p := by simp; omega
  have hputl : (putL G ids (G'.take p)).length = s.h.length := by rw [putL_len]; exact hlen
  have inG : ∀ k ∈ ids, k < G.length := fun k hk => by rw [hlen]; exact hin k hk
  have at2 : ∀ {i k : Nat}, ids[i]? = some k → G2[k]? = G'[i]? := fun {i k} e => by
    have hi : i < p := (List.getElem?_eq_some_iff.1 e).1
    simp only [G2]
    rw [List.getElem?_append_left (by rw [hputl]; exact hin k (List.mem_of_getElem? e)), putL_at G ids _ hnd inG (by omega) e, List.getElem?_take, if_pos hi]
  have not2 : ∀ {k : Nat}, k < s.h.length → k ∉ ids → G2[k]? = G[k]? := fun {k} h1 h2 => by
    simp only [G2]
    rw [List.getElem?_append_left (by rw [hputl]; exact h1), putL_not G ids _ h2]
  have new2 : ∀ {k : Nat}, s.h.length ≤ k → G2[k]? = G'[p + (k - s.h.length)]? := fun {k} h1 => by
    simp only [G2]
    rw [List.getElem?_append_right (by rw [hputl]; exact h1), hputl, List.getElem?_drop]
  have ren2 : ∀ (i : Nat) (g : Gh), G'[i]? = some g → ∃ g' : Gh, G2[ρ i]? = some g' ∧ g'.root = g.root := fun i g e => by
    rcases Nat.lt_or_ge i p with hi | hi
    · have ei : ids[i]? = some ids[i] := List.getElem?_eq_getElem hi
      refine ⟨g, ?_, rfl⟩
      show G2[rho ids s.h.length i]? = _
      rw [rho_at ei, at2 ei]; exact e
    · refine ⟨g, ?_, rfl⟩
      show G2[rho ids s.h.length i]? = _
      rw [rho_new hi, new2 (by omega), ← e]
      congr 1
      omega
  -- where a ghost of the new list comes from
  have from2 : ∀ {k : Nat} {g : Gh}, G2[k]? = some g → (∃ i, G'[i]? = some g ∧ ρ i = k) ∨ (k < s.h.length ∧ k ∉ ids ∧ G[k]? = some g) := fun {k g} e => by
    rcases Nat.lt_or_ge k s.h.length with hk | hk
    · by_cases hm : k ∈ ids
      · obtain ⟨i, hi⟩ := List.mem_iff_getElem?.1 hm
        rw [at2 hi] at e
        exact .inl ⟨i, e, rho_at hi⟩
      · rw [not2 hk hm] at e
        exact .inr ⟨hk, hm, e⟩
    · rw [new2 hk] at e
      refine .inl ⟨_, e, ?_⟩
      show rho ids s.h.length _ = k
      rw [rho_new (by omega)]
      omega
  have rinj : ∀ {i j : Nat}, i < G'.length → j < G'.length → ρ i = ρ j → i = j := fun {i j} hi hj e => by
    have e' : rho ids s.h.length i = rho ids s.h.length j := e
    rcases Nat.lt_or_ge i p with h1 | h1 <;> rcases Nat.lt_or_ge j p with h2 | h2
    · have ei : ids[i]? = some ids[i] := List.getElem?_eq_getElem h1
      have ej : ids[j]? = some ids[j] := List.getElem?_eq_getElem h2
      rw [rho_at ei, rho_at ej] at e'
      exact idsinj ei (e' ▸ ej)
    · have ei : ids[i]? = some ids[i] := List.getElem?_eq_getElem h1
      rw [rho_at ei, rho_new h2] at e'
      have := hin _ (List.mem_of_getElem? ei)
      omega
    · have ej : ids[j]? = some ids[j] := List.getElem?_eq_getElem h2
      rw [rho_at ej, rho_new h1] at e'
      have := hin _ (List.mem_of_getElem? ej)
      omega
    · rw [rho_new h1, rho_new h2] at e'
      simp only [p] at h1 h2
      omega
  -- blocks of the objects that were kept back
  have apart : ∀ {k : Nat} {g : Gh} {b : Nat}, k ∉ ids → G[k]? = some g → g.F b → b < w.heap.size ∧ ¬ ownF G0 b := fun {k g b} hk e hb => by
    refine ⟨hr.objs.inb k g b e hb, fun h => ?_⟩
    obtain ⟨q, gq, f1, f2, f3⟩ := hF0 h
    exact hr.objs.disj q k gq g b f2 e (fun h => hk (h ▸ f1)) f3 hb
  have hIc : ∀ b j, I b j → I' b j ∧ w'.cell? ⟨b, j, none⟩ = w.cell? ⟨b, j, none⟩ := hfr.cell
  have hI2 : ∀ {k : Nat} {g : Gh} {b j : Nat}, k ∉ ids → G[k]? = some g → g.F b → I' b j → I b j := fun {k g b j} hk e hb hi => by
    obtain ⟨h1, h2⟩ := apart hk e hb
    rcases hfr.im b j hi with h | h | h
    · exact h
    · exact absurd h h2
    · have : w.heap.size ≤ b := h; omega
  have rootsK : ∀ (k : Nat) (g : Gh), k ∉ unfixed ids h' → G[k]? = some g → ∃ g' : Gh, G2[k]? = some g' ∧ g'.root = g.root := fun k g hk e => by
    have hkl : k < s.h.length := by rw [← hlen]; exact (List.getElem?_eq_some_iff.1 e).1
    by_cases hm : k ∈ ids
    · obtain ⟨i, hi⟩ := List.mem_iff_getElem?.1 hm
      have hi' : i < h'.length := by rw [← hil]; exact (List.getElem?_eq_some_iff.1 hi).1
      have eo : h'[i]? = some h'[i] := List.getElem?_eq_getElem hi'
      cases hfx : h'[i].fixed with
      | false => exact absurd (unfixed_mem hi eo hfx) hk
      | true =>
        obtain ⟨g', f1, f2⟩ := hroots i g _ ((hG0 hi).trans e) eo hfx
        exact ⟨g', (at2 hi).trans f1, f2⟩
    · exact ⟨g, (not2 hkl hm).trans e, rfl⟩
  have hlen2 : G2.length ≥ G.length := by simp only [G2]; rw [List.length_append, hputl]; omega
  have hpost : ∀ {i : Nat} {o : O}, (post x)[i]? = some o → ∃ g, G'[i]? = some g := fun {i o} e => by
    have := (List.getElem?_eq_some_iff.1 e).1
    exact ⟨_, List.getElem?_eq_getElem (by omega)⟩
  have hbase : RelX c (s.back ids h' (post x)) a w' I' G2 := by
    refine ⟨hr.defers, ?_, ⟨?_, ?_, ?_, ?_, hrel'.imm⟩, ⟨hfr.os.trans hr.fr.os, hfr.tape.trans hr.fr.tape, hfr.output.trans hr.fr.output, Nat.le_trans hr.fr.size hfr.size, ?_, ?_, ?_, ?_⟩, ?_⟩
    · exact VAs.demAll (fun b j h => (hIc b j h).1) (fun b j h => (hIc b j h).2) (unfixed ids h') rootsK hlen2 hr.tmps
    · simp only [St.back, G2, List.length_append, putL_len, demLL_len, rens_len, List.length_drop, hlen, hG'l]; rfl
    · intro k g o eg eo
      simp only [St.back] at eo
      have hpl2 : (putL (demLL (unfixed ids h') s.h) ids (O.rens ρ ((post x).take ids.length))).length = s.h.length := by rw [putL_len, demLL_len]
      rcases Nat.lt_or_ge k s.h.length with hk | hk
      · rw [List.getElem?_append_left (by rw [hpl2]; exact hk)] at eo
        by_cases hm : k ∈ ids
        · obtain ⟨i, hi⟩ := List.mem_iff_getElem?.1 hm
          have hip : i < ids.length := (List.getElem?_eq_some_iff.1 hi).1
          rw [putL_at _ ids _ hnd (fun k hk => by rw [demLL_len]; exact hin k hk) (by rw [rens_len, List.length_take]; omega) hi, rens_get, List.getElem?_take, if_pos hip] at eo
          obtain ⟨o0, f1, rfl⟩ := Option.map_eq_some_iff.1 eo
          rw [at2 hi] at eg
          exact (hrel'.obj i g o0 eg f1).ren ρ ren2
        · rw [putL_not _ ids _ hm, demLL_get] at eo
          obtain ⟨o0, f1, rfl⟩ := Option.map_eq_some_iff.1 eo
          rw [not2 hk hm] at eg
          refine ObjR.demAll (fun b j h => (hIc b j h).1) (fun b j h => (hIc b j h).2) (unfixed ids h') rootsK hlen2 (fun b hb => ?_) (fun b j hb hi => hI2 hm eg hb hi) (hr.objs.obj k g o0 eg f1)
          obtain ⟨h1, h2⟩ := apart hm eg hb
          exact hfr.block b h1 h2
      · rw [List.getElem?_append_right (by rw [hpl2]; exact hk), hpl2, rens_get, List.getElem?_drop] at eo
        obtain ⟨o0, f1, rfl⟩ := Option.map_eq_some_iff.1 eo
        rw [new2 hk] at eg
        exact (hrel'.obj _ g o0 eg f1).ren ρ ren2
    · intro i j gi gj b e1 e2 hij hb hb'
      rcases from2 e1 with ⟨i', f1, f2⟩ | ⟨h1, h2, f1⟩ <;> rcases from2 e2 with ⟨j', f3, f4⟩ | ⟨h3, h4, f3⟩
      · exact hrel'.disj i' j' gi gj b f1 f3 (fun h => hij (by rw [← f2, ← f4, h])) hb hb'
      · obtain ⟨q1, q2⟩ := apart h4 f3 hb'
        rcases hfr.own i' gi b f1 hb with h | h
        · exact q2 h
        · have : w.heap.size ≤ b := h; omega
      · obtain ⟨q1, q2⟩ := apart h2 f1 hb
        rcases hfr.own j' gj b f3 hb' with h | h
        · exact q2 h
        · have : w.heap.size ≤ b := h; omega
      · exact hr.objs.disj i j gi gj b f1 f3 hij hb hb'
    · intro k g b e hb
      rcases from2 e with ⟨i, f1, _⟩ | ⟨_, _, f1⟩
      · exact hrel'.inb i g b f1 hb
      · exact Nat.lt_of_lt_of_le (hr.objs.inb k g b f1 hb) hfr.size
    · intro b hb hn
      refine (hfr.block b (Nat.lt_of_lt_of_le hb hr.fr.size) (fun h => ?_)).trans (hr.fr.block b hb hn)
      obtain ⟨k, g, _, f2, f3⟩ := hF0 h
      rcases hr.fr.own k g b f2 f3 with h | h
      · exact hn h
      · omega
    · intro b j hi
      obtain ⟨h1, h2⟩ := hr.fr.cell b j hi
      exact ⟨(hIc b j h1).1, (hIc b j h1).2.trans h2⟩
    · intro b j hi
      rcases hfr.im b j hi with h | h | h
      · exact hr.fr.im b j h
      · obtain ⟨k, g, _, f2, f3⟩ := hF0 h
        exact .inr (hr.fr.own k g b f2 f3)
      · exact .inr (.inr (Nat.le_trans hr.fr.size h))
    · intro k g b e hb
      rcases from2 e with ⟨i, f1, _⟩ | ⟨_, _, f1⟩
      · rcases hfr.own i g b f1 hb with h | h
        · obtain ⟨q, gq, _, f2, f3⟩ := hF0 h
          exact hr.fr.own q gq b f2 f3
        · exact .inr (Nat.le_trans hr.fr.size h)
      · exact hr.fr.own k g b f1 hb
    · intro k v e
      obtain ⟨h1, h2, g, h3, h4⟩ := hr.pr k v e
      refine ⟨h1, h2, ?_⟩
      have hkl : k < s.h.length := by rw [← hlen]; exact (List.getElem?_eq_some_iff.1 h3).1
      by_cases hm : k ∈ unfixed ids h'
      · -- an object whose root may turn has a row for its root: none of those
        exfalso
        have hid : ∀ {ids : List Nat} {h : List O}, k ∈ unfixed ids h → ∃ (i : Nat) (o : O), ids[i]? = some k ∧ h[i]? = some o ∧ o.fixed = false := fun {ids h} => by
          induction ids generalizing h with
          | nil => intro h; simp [unfixed] at h
          | cons q ids ih =>
            intro hq
            cases h with
            | nil => simp [unfixed] at hq
            | cons o h =>
              simp only [unfixed] at hq
              split at hq
              · obtain ⟨i, o, f1, f2, f3⟩ := ih hq; exact ⟨i + 1, o, by simpa using f1, by simpa using f2, f3⟩
              · rename_i hfx
                cases hq with
                | head => exact ⟨0, o, rfl, rfl, hfx⟩
                | tail _ hq => obtain ⟨i, o, f1, f2, f3⟩ := ih hq; exact ⟨i + 1, o, by simpa using f1, by simpa using f2, f3⟩
        obtain ⟨i, o, f1, f2, f3⟩ := hid hm
        obtain ⟨q, gq, oq, g1, g2, g3, g4, g5⟩ := each f2
        rw [f1] at g1; cases g1
        rw [h3] at g2; cases g2
        have hu := unders_get huo f2
        cases o with
        | app t sz dp =>
          cases oq <;> simp only [O.ren, O.le] at g4
          rcases g5 with ⟨q1, _⟩ | ⟨_, _, _, q1, _⟩ | ⟨_, _, _, _, q1, _⟩ <;> exact h2 _ _ _ (h4.symm.trans q1)
        | forest l =>
          cases oq <;> simp only [O.ren, O.le] at g4
          exact h2 _ _ _ (h4.symm.trans g5.1)
        | opn r t sz l => simp [O.under] at hu
        | row t sz l => simp [O.under] at hu
        | dead => simp [O.under] at hu
        | box t l => simp [O.fixed] at f3
        | map kt vt l => simp [O.fixed] at f3
      · obtain ⟨g', f1, f2⟩ := rootsK k g hm h3
        exact ⟨g', f1, f2.trans h4⟩
  exact ⟨I', G2, hbase.put (hv.map (fun _ _ h => h) (fun _ _ _ => rfl) ρ ren2) dst⟩
/-- **A contract is used.** -/
theorem use_ct {f : FuncId} {args' : List A} {h' : List O} {X : Type} {φ : X → Prop} {ret : X → A} {post : X → List O} (ct : Ct P f args' h' φ ret post) (ids : List Nat) {args : List A} {dst : Option Nat} {K : St → Prop}
    (hnd : ids.Nodup) (hil : ids.length = h'.length) (hin : ∀ k ∈ ids, k < s.h.length) (hua : A.unders h'.length args') (huo : O.unders h'.length h')
    (hargs : A.lel s.h.length s.h.length args (A.rens (rho ids s.h.length) args')) (hobj : O.lel s.h.length s.h.length (pick s.h ids) (O.rens (rho ids s.h.length) h'))
    (hK : ∀ x, φ x → K ((s.back ids h' (post x)).put dst ((ret x).ren (rho ids s.h.length)))) : callVC P f args s dst K :=
  ⟨ct.1, fun c a w I G hr vs hvs => (use_ct0 ct ids hnd hil hin hua huo hargs hobj hK c a w I G hr vs hvs).mono fun e w' ⟨v, h1, _, h3⟩ => ⟨v, h1, h3⟩⟩
/-- A call that leaves all old blocks alone. -/
def calmVC (P : Program) (f : FuncId) (args : List A) (s : St) (dst : Option Nat) (K : St → Prop) : Prop :=
  Has P f ∧ ∀ c a w I G, RelX c s a w I G → ∀ vs : List Value, VAs w I G vs args →
    Calls P f vs.toArray w fun e w' => ∃ v, e = .returned v ∧ Grow w w' ∧ ∃ s', K s' ∧ Rel c s' (a.put dst v) w'
theorem use_calm {f : FuncId} {args' : List A} {X : Type} {φ : X → Prop} {ret : X → A} {post : X → List O} (ct : Ct P f args' [] φ ret post) {args : List A} {dst : Option Nat} {K : St → Prop}
    (hua : A.unders 0 args') (hargs : A.lel s.h.length s.h.length args (A.rens (rho [] s.h.length) args'))
    (hK : ∀ x, φ x → K ((s.back [] [] (post x)).put dst ((ret x).ren (rho [] s.h.length)))) : calmVC P f args s dst K :=
  ⟨ct.1, fun c a w I G hr vs hvs => (use_ct0 ct [] .nil rfl (fun _ h => by cases h) hua trivial hargs trivial hK c a w I G hr vs hvs).mono fun e w' ⟨v, h1, h2, h3⟩ => ⟨v, h1, h2 rfl, h3⟩⟩
end
end Go.Ab
