/- Calls by unification; equality of plain data, as a Bool. -/
import Derived.Test.YtfmllefmfhefpaaAbZ
namespace Go.Ab
open Go
set_option linter.unusedVariables false
/-- A call that is handed data, whatever it hands back. -/
theorem call_p {P : Program} {f d : Nat} {l : List D} {args : List A} {t : List A} {h : List O} {p : Nat} {K : St → Prop} {X : Type} {φ : X → Prop} {ret : X → A} (ct : Ct P f args [] φ ret (fun _ => []))
    (hl : unDs args = some l) (hK : ∀ x, φ x → K ⟨t.set d ((ret x).ren (rho [] h.length)), h, p⟩) : callVC P f args ⟨t, h, p⟩ (some d) K := by
  have e : args = l.map A.d := by
    clear ct hK
    induction args generalizing l with
    | nil => simp [unDs] at hl; subst hl; rfl
    | cons a as ih =>
      cases a with
      | d x =>
        simp only [unDs] at hl
        cases e2 : unDs as with
        | none => rw [e2] at hl; cases hl
        | some r => rw [e2] at hl; cases hl; simp [ih e2]
      | _ => simp [unDs] at hl
  subst e
  exact call_pure ct (ds_under 0 l) (ds_lel _ _ _ l) hK
theorem calm_p {P : Program} {f d : Nat} {l : List D} {args : List A} {t : List A} {h : List O} {p : Nat} {K : St → Prop} {X : Type} {φ : X → Prop} {ret : X → A} (ct : Ct P f args [] φ ret (fun _ => []))
    (hl : unDs args = some l) (hK : ∀ x, φ x → K ⟨t.set d ((ret x).ren (rho [] h.length)), h, p⟩) : calmVC P f args ⟨t, h, p⟩ (some d) K := by
  have e : args = l.map A.d := by
    clear ct hK
    induction args generalizing l with
    | nil => simp [unDs] at hl; subst hl; rfl
    | cons a as ih =>
      cases a with
      | d x =>
        simp only [unDs] at hl
        cases e2 : unDs as with
        | none => rw [e2] at hl; cases hl
        | some r => rw [e2] at hl; cases hl; simp [ih e2]
      | _ => simp [unDs] at hl
  subst e
  exact calm_pure ct (ds_under 0 l) (ds_lel _ _ _ l) hK
/-- Equal or not. -/
noncomputable def dq {α : Type} (a b : α) : Bool := @decide (a = b) (Classical.propDecidable _)
theorem dq_t {α : Type} {a b : α} : dq a b = true ↔ a = b := by simp [dq]
theorem dq_f {α : Type} {a b : α} : dq a b = false ↔ a ≠ b := by simp [dq]
theorem dq_eq {α : Type} {a b : α} (h : a = b) : dq a b = true := dq_t.2 h
theorem dq_ne {α : Type} {a b : α} (h : a ≠ b) : dq a b = false := dq_f.2 h
theorem dq_self {α : Type} (a : α) : dq a a = true := dq_t.2 rfl
theorem dec_dq {α : Type} [DecidableEq α] {a b : α} : decide (a = b) = dq a b := by unfold dq; congr
theorem nb_t {b : Bool} : (!b) = true ↔ b = false := by cases b <;> simp
theorem nb_f {b : Bool} : (!b) = false ↔ b = true := by cases b <;> simp
attribute [go_sem] nb_t nb_f dq_t dq_f ne_eq forall_eq' forall_eq
theorem ren_d {ρ : Nat → Nat} {x : D} : (A.d x).ren ρ = .d x := rfl
theorem ren_tup {ρ : Nat → Nat} {l : List A} : (A.tup l).ren ρ = .tup (A.rens ρ l) := by rw [A.ren]
theorem rens_nil {ρ : Nat → Nat} : A.rens ρ [] = [] := rfl
theorem rens_cons {ρ : Nat → Nat} {a : A} {l : List A} : A.rens ρ (a :: l) = a.ren ρ :: A.rens ρ l := rfl
attribute [go_sem] ren_d ren_tup rens_nil rens_cons
theorem TDx.ag {P : Program} {fs : Array Field} : ∀ {t : TypeId} {x : D}, TDx P t x → P.underlying t = some (.struct fs) → ∃ l, x = .agg l ∧ TD P t l
  | _, _, .agg e fs' l h1 h2, hu => ⟨l, rfl, h2⟩
  | _, _, .one e x h1 h2, hu => absurd hu (h1 fs)
/-- A frame of which some slots are forgotten, some set. -/
def A.stay : A → A
  | .rptr _ => .any
  | .sl _ _ => .any
  | .tup _ => .any
  | .eptr _ _ _ _ => .any
  | a => a
def upd (t : List A) (ws : List Nat) (u : List (Nat × A)) : List A := u.foldl (fun t x => t.set x.1 x.2) ((ws.foldl (fun t k => t.set k .any) t).map A.stay)
attribute [go_sem] upd A.stay
theorem deepApps_nil (h : List O) : deepApps h [] ↔ True := Iff.rfl
theorem deepApps_cons (h : List O) (m : Nat) (l : List Nat) : deepApps h (m :: l) ↔ (∃ t sz, h[m]? = some (.app t sz true)) ∧ m ∉ l ∧ deepApps h l := Iff.rfl
theorem deepApp_some (t : TypeId) (sz : Nat) : (∃ t' sz', some (O.app t sz true) = some (.app t' sz' true)) ↔ True := ⟨fun _ => trivial, fun _ => ⟨t, sz, rfl⟩⟩
theorem nmem_nil (k : Nat) : (¬ k ∈ ([] : List Nat)) ↔ True := by simp
theorem nmem_cons (k m : Nat) (l : List Nat) : (¬ k ∈ m :: l) ↔ k ≠ m ∧ ¬ k ∈ l := by simp
attribute [go_sem] deepApps_nil deepApps_cons deepApp_some nmem_nil nmem_cons
/-- A loop: the frame as it stands, but for the slots that the loop writes. -/
theorem loop_at {P : Program} {T : Ty} (hT : TOk P T) {body : Code} {Kn Kr : St → Prop} {Kx : Nat → St → Prop} {t : List A} {h : List O} {p : Nat} {ι : Type} (ws : List Nat) (u : ι → List (Nat × A)) (hh : ι → List O) (φ : ι → Prop) (μ : ι → Nat) (i0 : ι)
    (h0 : φ i0) (hs : (St.mk t h p).Le h.length ⟨upd t ws (u i0), hh i0, p⟩)
    (hr : ∀ i, φ i → ∀ L : St → Prop, (∀ s' j, φ j → μ j < μ i → s'.Le (hh j).length ⟨upd t ws (u j), hh j, p⟩ → L s') → vc P T body L Kr Kx ⟨upd t ws (u i), hh i, p⟩) : loopVC P body Kn Kr Kx ⟨t, h, p⟩ :=
  loop_go hT (fun i => ⟨upd t ws (u i), hh i, p⟩) φ μ i0 h.length h0 hs fun i hi L hL => hr i hi L fun s' j h1 h2 h3 => hL s' j _ h1 h2 h3
/-- The same, with the objects as they stand. -/
theorem loop_st {P : Program} {T : Ty} (hT : TOk P T) {body : Code} {Kn Kr : St → Prop} {Kx : Nat → St → Prop} {t : List A} {h : List O} {p : Nat} {ι : Type} (ws : List Nat) (u : ι → List (Nat × A)) (φ : ι → Prop) (μ : ι → Nat) (i0 : ι)
    (h0 : φ i0) (hs : (St.mk t h p).Le h.length ⟨upd t ws (u i0), h, p⟩)
    (hr : ∀ i, φ i → ∀ L : St → Prop, (∀ s' j, φ j → μ j < μ i → s'.Le h.length ⟨upd t ws (u j), h, p⟩ → L s') → vc P T body L Kr Kx ⟨upd t ws (u i), h, p⟩) : loopVC P body Kn Kr Kx ⟨t, h, p⟩ :=
  loop_at hT ws u (fun _ => h) φ μ i0 h0 hs hr
theorem wr_succ {i : Nat} (h : i < 4611686018427387904) : wr .i64 ((i : Int) + 1) = ((i + 1 : Nat) : Int) := by rw [wr_in (by omega)]; omega
theorem take_eq_more {α : Type} {a b : List α} {i : Nat} {x y : α} (h : a.take i = b.take i) (hx : a[i]? = some x) (hy : b[i]? = some y) (e : x = y) : a.take (i + 1) = b.take (i + 1) := by
  rw [take_more hx, take_more hy, h, e]
theorem ne_of_at {α : Type} {a b : List α} {i : Nat} {x y : α} (hx : a[i]? = some x) (hy : b[i]? = some y) (e : x ≠ y) : a ≠ b := fun h => e (by rw [h, hy] at hx; exact (Option.some.inj hx).symm)
theorem eq_of_take {α : Type} {a b : List α} {i : Nat} (h : a.take i = b.take i) (h1 : a.length ≤ i) (h2 : b.length ≤ i) : a = b := by
  rwa [List.take_of_length_le h1, List.take_of_length_le h2] at h
theorem Ex.ext_iff' {a b : Ex} : a = b ↔ a.k = b.k ∧ a.n = b.n ∧ a.a = b.a := by cases a; cases b; simp [Ex.k, Ex.n, Ex.a]
theorem dec_of {p : Prop} [Decidable p] {b : Bool} (h : p ↔ b = true) : decide p = b := by cases b <;> simp_all
theorem map_getD {α : Type} {f : α → D} {l : List α} {i : Nat} {x : α} (h : l[i]? = some x) : (l.map f)[i]? = some (f x) := by simp [h]
end Go.Ab
/- Plain facts of rows. -/
namespace Go.Ab
open Go
theorem any_at {α : Type} {p : α → Bool} {l : List α} {i : Nat} {x : α} (h : l[i]? = some x) (hp : p x = true) : l.any p = true := List.any_eq_true.2 ⟨x, List.mem_of_getElem? h, hp⟩
theorem any_none {α : Type} {p : α → Bool} {l : List α} (h : ∀ x ∈ l, p x = false) : l.any p = false := List.any_eq_false.2 fun x hx => by rw [h x hx]; decide
theorem any_dq_t {α : Type} {l : List α} {s : α} : (l.any fun y => dq y s) = true ↔ s ∈ l := by
  rw [List.any_eq_true]
  exact ⟨fun ⟨x, h1, h2⟩ => dq_t.1 h2 ▸ h1, fun h => ⟨s, h, dq_self s⟩⟩
theorem any_dq_f {α : Type} {l : List α} {s : α} : (l.any fun y => dq y s) = false ↔ ¬ s ∈ l := by
  rw [← any_dq_t (l := l), Bool.not_eq_true]
attribute [go_sem] any_dq_t any_dq_f Int.toNat_zero
theorem firstAt_ge {α : Type} {p : α → Bool} {l : List α} (h : ¬ firstAt p l < 0) : ∃ i : Nat, firstAt p l = i ∧ i < l.length := by
  have := firstAt_lt (p := p) (l := l)
  exact ⟨(firstAt p l).toNat, by omega, by omega⟩
theorem find_firstAt {α : Type} {p : α → Bool} : ∀ {l : List α} {i : Nat}, firstAt p l = i → l.find? p = l[i]?
  | [], i, h => by simp only [firstAt] at h; omega
  | x :: l, i, h => by
    simp only [firstAt] at h
    split at h
    · rename_i hp
      obtain rfl : i = 0 := by omega
      rw [List.find?_cons_of_pos hp]; rfl
    · rename_i hp
      split at h
      · omega
      · obtain ⟨j, hj, _⟩ := firstAt_ge (p := p) (l := l) (by omega)
        obtain rfl : i = j + 1 := by omega
        simp only [List.getElem?_cons_succ, List.find?_cons]
        rw [← find_firstAt hj]
        simp [hp]
theorem find_none_firstAt {α : Type} {p : α → Bool} : ∀ {l : List α}, firstAt p l < 0 → l.find? p = none
  | [], _ => rfl
  | x :: l, h => by
    simp only [firstAt] at h
    split at h
    · omega
    · rename_i hp
      split at h
      · rename_i h2; rw [List.find?_cons_of_neg (by simpa using hp), find_none_firstAt h2]
      · omega
end Go.Ab
/- Results that are rows of one's own: handed back, turned into data. -/
namespace Go.Ab
open Go
set_option linter.unusedVariables false
set_option linter.unusedSimpArgs false
mutual
/-- A value that speaks of the objects ids alone, under their places there. -/
def selA (ids : List Nat) : A → Option A
  | .d x => some (.d x)
  | .raw x => some (.raw x)
  | .nil => some .nil
  | .own k l => if k ∈ ids then some (.own (ids.idxOf k) l) else none
  | .mp k => if k ∈ ids then some (.mp (ids.idxOf k)) else none
  | .agg l => match selAs ids l with | some r => some (.agg r) | none => none
  | .tup l => match selAs ids l with | some r => some (.tup r) | none => none
  | _ => none
def selAs (ids : List Nat) : List A → Option (List A)
  | [] => some []
  | a :: l => match selA ids a, selAs ids l with | some x, some r => some (x :: r) | _, _ => none
end
section
variable {w : World} {I : Im} {G G' : List Gh} {c : Cx} {s s' : St} {a : Act}
mutual
theorem VA.sel {ids : List Nat} (hG : ∀ k ∈ ids, ∀ g : Gh, G[k]? = some g → G'[ids.idxOf k]? = some g) : ∀ {x a b}, VA w I G x a → selA ids a = some b → VA w I G' x b
  | _, _, b, .d h, e => by simp only [selA] at e; cases e; exact .d h
  | _, _, b, .nil, e => by simp only [selA] at e; cases e; exact .nil
  | _, _, b, .own k l g h1 h2 h3, e => by
    simp only [selA] at e
    split at e
    · rename_i hk; cases e; exact .own _ l g (hG k hk g h1) h2 h3
    · cases e
  | _, _, b, .agg cs l h h1, e => by
    simp only [selA] at e
    split at e
    · rename_i r er; cases e; exact .agg cs r (VAs.sel hG h er) h1
    · cases e
  | _, _, b, .tup cs l h, e => by
    simp only [selA] at e
    split at e
    · rename_i r er; cases e; exact .tup cs r (VAs.sel hG h er)
    · cases e
  | _, _, b, .sl .., e => by simp [selA] at e
  | _, _, b, .rptr .., e => by simp [selA] at e
  | _, _, b, .ref .., e => by simp [selA] at e
  | _, _, b, .arr .., e => by simp [selA] at e
  | _, _, b, .eptr .., e => by simp [selA] at e
  | _, _, b, .fn .., e => by simp [selA] at e
  | _, _, b, .mp r k g h1 h2, e => by
    simp only [selA] at e
    split at e
    · rename_i hk; cases e; exact .mp r _ g (hG k hk g h1) h2
    · cases e
  | _, _, b, .raw x h, e => by simp only [selA] at e; cases e; exact .raw x h
  | _, _, b, .any _, e => by simp [selA] at e
theorem VAs.sel {ids : List Nat} (hG : ∀ k ∈ ids, ∀ g : Gh, G[k]? = some g → G'[ids.idxOf k]? = some g) : ∀ {x a b}, VAs w I G x a → selAs ids a = some b → VAs w I G' x b
  | _, _, b, .nil, e => by simp only [selAs] at e; cases e; exact .nil
  | _, _, b, .cons h1 h2, e => by
    simp only [selAs] at e
    split at e
    · rename_i x r ex er; cases e; exact .cons (VA.sel hG h1 ex) (VAs.sel hG h2 er)
    · cases e
end
def O.isApp : O → Bool
  | .app _ _ _ => true
  | .forest _ => true
  | .map _ _ _ => true
  | _ => false
/-- The objects ids, in their order. -/
def takeO (h : List O) : List Nat → Option (List O)
  | [] => some []
  | k :: r => match h[k]?, takeO h r with | some o, some q => some (o :: q) | _, _ => none
theorem takeO_len {h : List O} : ∀ {ids : List Nat} {q : List O}, takeO h ids = some q → q.length = ids.length
  | [], q, e => by simp only [takeO] at e; cases e; rfl
  | k :: r, q, e => by
    simp only [takeO] at e
    split at e
    · rename_i o q' _ e2; cases e; simp [takeO_len e2]
    · cases e
theorem takeO_at {h : List O} : ∀ {ids : List Nat} {q : List O}, takeO h ids = some q → ∀ {i k : Nat}, ids[i]? = some k → h[k]? = q[i]?
  | [], q, e, i, k, hi => by simp at hi
  | k :: r, q, e, i, j, hi => by
    simp only [takeO] at e
    split at e
    · rename_i o q' e1 e2
      cases e
      cases i with
      | zero => simp at hi; subst hi; simpa using e1
      | succ i => simpa using takeO_at e2 (by simpa using hi)
    · cases e
theorem Turns.sel {t t' : List A} {h q : List O} {Q : St → Prop} (ids : List Nat) (ht : selAs ids t = some t') (hq : takeO h ids = some q) (happ : q.all O.isApp = true) (hnd : ids.Nodup) (hQ : Q ⟨t', q, 0⟩) : Turns ⟨t, h, 0⟩ Q := fun c a w ⟨I, G, hr⟩ => by
  have hlen := hr.objs.len
  let G' : List Gh := ids.map fun k => G.getD k nilGh
  have hin : ∀ {i k : Nat}, ids[i]? = some k → k < h.length := fun {i k} hi => by
    have h1 := takeO_at hq hi
    have h2 : i < q.length := by rw [takeO_len hq]; exact (List.getElem?_eq_some_iff.1 hi).1
    rw [List.getElem?_eq_getElem h2] at h1
    exact (List.getElem?_eq_some_iff.1 h1).1
  have hG' : ∀ {i k : Nat}, ids[i]? = some k → G'[i]? = G[k]? := fun {i k} hi => by
    have hk := hin hi
    have hl : k < G.length := by rw [hlen]; exact hk
    simp only [G', List.getElem?_map, hi, Option.map_some, List.getD_eq_getElem?_getD, List.getElem?_eq_getElem hl, Option.getD_some]
  have hidx : ∀ k ∈ ids, ids[ids.idxOf k]? = some k := fun k hk => by
    rw [List.getElem?_eq_getElem (List.idxOf_lt_length_of_mem hk), List.getElem_idxOf]
  have hback : ∀ {i : Nat} {g : Gh}, G'[i]? = some g → ∃ k, ids[i]? = some k ∧ G[k]? = some g := fun {i g} e => by
    have hi : i < ids.length := by have := (List.getElem?_eq_some_iff.1 e).1; simpa [G'] using this
    have ei := List.getElem?_eq_getElem hi
    exact ⟨_, ei, (hG' ei).symm.trans e⟩
  refine ⟨⟨t', q, 0⟩, hQ, I, G', hr.defers, hr.tmps.sel (fun k hk g e => ?_) ht, ⟨?_, ?_, ?_, ?_, hr.objs.imm⟩, ⟨hr.fr.os, hr.fr.tape, hr.fr.output, hr.fr.size, hr.fr.block, hr.fr.cell, hr.fr.im, ?_⟩, fun k v e => ?_⟩
  · rw [hG' (hidx k hk)]; exact e
  · simp [G', takeO_len hq]
  · intro i g o eg eo
    obtain ⟨k, ek, eg⟩ := hback eg
    have e := takeO_at hq ek
    rw [eo] at e
    have := hr.objs.obj k g o eg e
    have ha : o.isApp = true := List.all_eq_true.1 happ o (List.mem_of_getElem? eo)
    cases o <;> simp [O.isApp] at ha
    all_goals exact this
  · intro i j gi gj b e1 e2 hij hb
    obtain ⟨k, f1, f2⟩ := hback e1
    obtain ⟨m, f3, f4⟩ := hback e2
    refine hr.objs.disj k m gi gj b f2 f4 (fun h => hij ?_) hb
    subst h
    have h1 := (List.getElem?_eq_some_iff.1 f1)
    have h2 := (List.getElem?_eq_some_iff.1 f3)
    exact (List.getElem_inj hnd).1 (h1.2.trans h2.2.symm)
  · intro i g b e hb
    obtain ⟨k, _, f2⟩ := hback e
    exact hr.objs.inb k g b f2 hb
  · intro i g b e hb
    obtain ⟨k, _, f2⟩ := hback e
    exact hr.fr.own k g b f2 hb
  · have := (hr.pr k v e).1
    simp at this
/-- An operation told by what it does: it may be taken behind a turn of the state. -/
theorem sem_turns {P : Program} {T : Ty} (hT : TOk P T) {op : Op} {dst : Option Nat} {K : St → Prop} (h : Turns s fun s' => vcOp P T op dst s' K) : semVC P op dst s K := fun ty pos after guard c a w hR N Q hN => by
  obtain ⟨s', h1, h2⟩ := h c a w hR
  exact op_sound hT (o := ⟨dst, op, ty, pos, after, guard⟩) hN h1 h2
theorem sem_pub {P : Program} {T : Ty} (hT : TOk P T) {op : Op} {dst : Option Nat} {K : St → Prop} {k sz : Nat} {u : TypeId} {l : List A} {q : List D} (hk : s.h[k]? = some (.row u sz l)) (hq : toEs? l = some q) (h : vcOp P T op dst (s.pub k q) K) : semVC P op dst s K :=
  sem_turns hT (.pubs (ks := [k]) (s' := s.pub k q) (by simp only [pubs?, pub?, hk, hq]) fun c a w hR => ⟨_, h, hR⟩)
/-- The end of a function that hands back rows of its own. -/
theorem end_own {T : Ty} {K : St → Prop} {rs : List ResultVar} {X : Type} {φ : X → Prop} {ret : X → A} {post : X → List O} {t : List A} {h : List O} (hK : ∀ s, vcEnd T rs φ ret post s → K s) (x : X) (ids : List Nat) (hx : φ x)
    (hv : vcRes T ⟨t, h, 0⟩ rs fun l => selAs ids [tupA l] = some [ret x]) (hq : takeO h ids = some (post x)) (happ : (post x).all O.isApp = true) (hnd : ids.Nodup) : K ⟨t, h, 0⟩ :=
  hK _ (vcRes_mono (fun l hl => Turns.sel ids hl hq happ hnd ⟨x, hx, rfl⟩) hv)
/-- A row of one's own is data to those who only read it. -/
theorem Ct.dat {P : Program} {f : FuncId} {args : List A} {X : Type} {φ : X → Prop} {r : X → List D} {t : TypeId} {sz : Nat} {dp : Bool} (ct : Ct P f args [] φ (fun x => .own 0 (r x)) (fun _ => [.app t sz dp])) :
    Ct P f args [] φ (fun x => .d (.lst (r x))) (fun _ => []) := by
  refine ⟨ct.1, fun w I G vs h1 h2 => (ct.2 w I G vs h1 h2).mono ?_⟩
  rintro e w' ⟨v, he, x, hx, I', G', hv, hrel, hfr, _, _⟩
  refine ⟨v, he, x, hx, I', [], ?_, ⟨rfl, fun k g o e => by simp at e, fun i j gi gj b e => by simp at e, fun k g b e => by simp at e, hrel.imm⟩,
    ⟨hfr.os, hfr.tape, hfr.output, hfr.size, hfr.block, hfr.cell, hfr.im, fun k g b e => by simp at e⟩, Nat.le_refl _, fun k g o e e2 => by simp at e2⟩
  cases hv with
  | own k l g h1 h2 h3 => exact .d h3
end
theorem ole_dead {n m : Nat} {o : O} : O.le n m o .dead ↔ True := by cases o <;> simp [O.le]
attribute [go_sem] ole_dead St.pub A.pubs A.pub O.pubL O.pub
attribute [go_sem] selA selAs takeO O.isApp List.all_cons List.all_nil Bool.and_true Bool.true_and
end Go.Ab
