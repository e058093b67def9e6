/- One object turns: a variable is written, a row is appended to. -/
import Derived.Test.YtamicpfjieandaaAbI
namespace Go.Ab
open Go
set_option linter.unusedVariables false
set_option linter.unusedSimpArgs false
section
variable {w w' : World} {I I' : Im} {G : List Gh} {c : Cx} {s : St} {a : Act}
/-- What a step that turns object k alone does to the world. -/
structure Upd (c : Cx) (w w' : World) (I I' : Im) (G : List Gh) (k : Nat) (g g' : Gh) : Prop where
  at_ : G[k]? = some g
  os : w'.os = w.os
  tape : w'.tape = w.tape
  output : w'.output = w.output
  size : w.heap.size ≤ w'.heap.size
  block : ∀ b, b < w.heap.size → ¬ g.F b → w'.heap[b]? = w.heap[b]?
  keep : ∀ b j, I b j → I' b j ∧ w'.cell? ⟨b, j, none⟩ = w.cell? ⟨b, j, none⟩
  im : ∀ b j, I' b j → (I b j ∨ g.F b ∨ w.heap.size ≤ b) ∧ ∃ x, w'.cell? ⟨b, j, none⟩ = some x
  F : ∀ b, g'.F b → b < w'.heap.size ∧ (c.F b ∨ c.w.heap.size ≤ b) ∧ ∀ (j : Nat) (gj : Gh), j ≠ k → G[j]? = some gj → ¬ gj.F b
theorem set_get {G : List Gh} {k j : Nat} {g' gj : Gh} (h : (G.set k g')[j]? = some gj) : (j = k ∧ gj = g' ∧ k < G.length) ∨ (j ≠ k ∧ G[j]? = some gj) := by
  rw [List.getElem?_set] at h
  split at h
  · rename_i e
    split at h
    · simp at h; exact .inl ⟨e.symm, h.symm, by assumption⟩
    · cases h
  · rename_i e; exact .inr ⟨fun h => e h.symm, h⟩
theorem Upd.fr {k : Nat} {g g' : Gh} (u : Upd c w w' I I' G k g g') {h : List O} (hh : RelH w I G h) (hf : Fr c w I G) : Fr c w' I' (G.set k g') where
  os := u.os.trans hf.os
  tape := u.tape.trans hf.tape
  output := u.output.trans hf.output
  size := Nat.le_trans hf.size u.size
  block b hb hn := by
    refine (u.block b (Nat.lt_of_lt_of_le hb hf.size) (fun hg => ?_)).trans (hf.block b hb hn)
    rcases hf.own k g b u.at_ hg with h1 | h1
    · exact hn h1
    · omega
  cell b j hi := by
    obtain ⟨h1, h2⟩ := hf.cell b j hi
    exact ⟨(u.keep b j h1).1, (u.keep b j h1).2.trans h2⟩
  im b j hi := by
    rcases (u.im b j hi).1 with h1 | h1 | h1
    · exact hf.im b j h1
    · exact .inr (hf.own k g b u.at_ h1)
    · exact .inr (.inr (Nat.le_trans hf.size h1))
  own j gj b e hb := by
    rcases set_get e with ⟨_, rfl, _⟩ | ⟨_, e⟩
    · exact (u.F b hb).2.1
    · exact hf.own j gj b e hb
theorem Upd.relH {k : Nat} {g g' : Gh} (u : Upd c w w' I I' G k g g') {h h' : List O} (hh : RelH w I G h) (hl : h'.length = h.length)
    (ho : ∀ o', h'[k]? = some o' → ObjR w' I' (G.set k g') g' o')
    (hj : ∀ (j : Nat) (o' : O), j ≠ k → h'[j]? = some o' → ∃ o, h[j]? = some o ∧ ∀ gj, G[j]? = some gj → (∀ b, gj.F b → w'.heap[b]? = w.heap[b]?) → (∀ b i, gj.F b → I' b i → I b i) →
      ObjR w I G gj o → ObjR w' I' (G.set k g') gj o') : RelH w' I' (G.set k g') h' where
  len := by rw [List.length_set, hh.len, hl]
  obj j gj o' e1 e2 := by
    rcases set_get e1 with ⟨rfl, rfl, _⟩ | ⟨hne, e⟩
    · exact ho o' e2
    · obtain ⟨o, f1, f2⟩ := hj j o' hne e2
      refine f2 gj e (fun b hb => u.block b (hh.inb j gj b e hb) (fun hg => hh.disj j k gj g b e u.at_ hne hb hg)) (fun b i hb hi => ?_) (hh.obj j gj o e f1)
      rcases (u.im b i hi).1 with h1 | h1 | h1
      · exact h1
      · exact absurd h1 (hh.disj j k gj g b e u.at_ hne hb)
      · have := hh.inb j gj b e hb; omega
  disj i j gi gj b e1 e2 hij hb hb' := by
    rcases set_get e1 with ⟨rfl, rfl, _⟩ | ⟨hi, e1⟩ <;> rcases set_get e2 with ⟨rfl, rfl, _⟩ | ⟨hj', e2⟩
    · exact hij rfl
    · exact (u.F b hb).2.2 j gj hj' (by assumption) hb'
    · exact (u.F b hb').2.2 i gi hi (by assumption) hb
    · exact hh.disj i j gi gj b e1 e2 hij hb hb'
  inb j gj b e hb := by
    rcases set_get e with ⟨rfl, rfl, _⟩ | ⟨_, e⟩
    · exact (u.F b hb).1
    · exact Nat.lt_of_lt_of_le (hh.inb j gj b e hb) u.size
  imm b j hi := (u.im b j hi).2
theorem Upd.roots {k : Nat} {g g' : Gh} (u : Upd c w w' I I' G k g g') (hr : g'.root = g.root) : ∀ (j : Nat) (gj : Gh), G[j]? = some gj → ∃ g'' : Gh, (G.set k g')[j]? = some g'' ∧ g''.root = gj.root := fun j gj e => by
  by_cases hjk : j = k
  · subst hjk
    rw [u.at_] at e; cases e
    exact ⟨g', by rw [List.getElem?_set]; simp [(List.getElem?_eq_some_iff.1 u.at_).1], hr⟩
  · exact ⟨gj, by rw [List.getElem?_set, if_neg (fun h => hjk h.symm)]; exact e, rfl⟩
theorem Upd.roots' {k : Nat} {g g' : Gh} (u : Upd c w w' I I' G k g g') : ∀ (j : Nat) (gj : Gh), j ≠ k → G[j]? = some gj → ∃ g'' : Gh, (G.set k g')[j]? = some g'' ∧ g''.root = gj.root := fun j gj hjk e =>
  ⟨gj, by rw [List.getElem?_set, if_neg (fun h => hjk h.symm)]; exact e, rfl⟩
/-- Its root stays. -/
theorem RelX.updK (h : RelX c s a w I G) {k : Nat} {g g' : Gh} (u : Upd c w w' I I' G k g g') (hr : g'.root = g.root) {o' : O} (ho : ObjR w' I' (G.set k g') g' o') :
    RelX c ⟨s.t, s.h.set k o', s.p⟩ a w' I' (G.set k g') where
  defers := h.defers
  tmps := h.tmps.mono (fun b j hi => (u.keep b j hi).1) (fun b j hi => (u.keep b j hi).2) (u.roots hr)
  objs := u.relH h.objs (by simp) (fun o'' e => by
      rw [List.getElem?_set] at e
      simp at e
      obtain ⟨_, rfl⟩ := e
      exact ho) (fun j o'' hne e => by
      rw [List.getElem?_set, if_neg (fun h => hne h.symm)] at e
      exact ⟨o'', e, fun gj _ hF hI ho => ho.keep (fun b j hi => (u.keep b j hi).1) (fun b j hi => (u.keep b j hi).2) (u.roots hr) hF hI⟩)
  fr := u.fr h.objs h.fr
  pr k' v e := by
    obtain ⟨h1, h2, g1, h3, h4⟩ := h.pr k' v e
    obtain ⟨g2, h5, h6⟩ := u.roots hr k' g1 h3
    exact ⟨h1, h2, g2, h5, h6.trans h4⟩
theorem demL_get (q : Nat) : ∀ (h : List O) (j : Nat), (O.demL q h)[j]? = (h[j]?).map (O.dem q)
  | [], j => by simp [O.demL]
  | o :: h, 0 => by simp [O.demL]
  | o :: h, j + 1 => by simp [O.demL, demL_get q h j]
theorem demL_len (q : Nat) : ∀ h : List O, (O.demL q h).length = h.length
  | [] => rfl
  | o :: h => by simp [O.demL, demL_len q h]
/-- Its root turns: what stood for it is taken back. -/
theorem RelX.updD (h : RelX c s a w I G) {k : Nat} {g g' : Gh} (u : Upd c w w' I I' G k g g') (hs : (∃ a n q, g.root = .slice a n q) ∨ g'.root = g.root) {o' : O} (ho : ObjR w' I' (G.set k g') g' o') :
    RelX c ⟨A.dems k s.t, (O.demL k s.h).set k o', s.p⟩ a w' I' (G.set k g') where
  defers := h.defers
  tmps := h.tmps.dem (fun b j hi => (u.keep b j hi).1) (fun b j hi => (u.keep b j hi).2) k u.roots'
  objs := u.relH h.objs (by simp [demL_len]) (fun o'' e => by
      rw [List.getElem?_set] at e
      simp at e
      obtain ⟨_, rfl⟩ := e
      exact ho) (fun j o'' hne e => by
      rw [List.getElem?_set, if_neg (fun h => hne h.symm), demL_get] at e
      obtain ⟨o, e1, rfl⟩ := Option.map_eq_some_iff.1 e
      exact ⟨o, e1, fun gj _ hF hI ho => ho.demK k (fun b j hi => (u.keep b j hi).1) (fun b j hi => (u.keep b j hi).2) u.roots' hF hI⟩)
  fr := u.fr h.objs h.fr
  pr k' v e := by
    obtain ⟨h1, h2, g1, h3, h4⟩ := h.pr k' v e
    by_cases hk : k' = k
    · subst hk
      rw [u.at_] at h3; cases h3
      rcases hs with ⟨a, n, q, hs⟩ | hs
      · exact absurd (h4.symm.trans hs) (h2 a n q)
      · obtain ⟨g2, h5, h6⟩ := u.roots hs k' g u.at_
        exact ⟨h1, h2, g2, h5, h6.trans h4⟩
    · obtain ⟨g2, h5, h6⟩ := u.roots' k' g1 hk h3
      exact ⟨h1, h2, g2, h5, h6.trans h4⟩
/-- What an operation that may turn the world comes to. -/
def Does (P : Program) (c : Cx) (a : Act) (w : World) (m : Sem Value) (dst : Option Nat) (K : St → Prop) : Prop :=
  ∃ v w', m.run P w = .ok v w' ∧ ∃ s', K s' ∧ Rel c s' (a.put dst v) w'
def DoesU (P : Program) (c : Cx) (a : Act) (w : World) (m : Sem Unit) (dst : Option Nat) (K : St → Prop) : Prop :=
  ∃ w', m.run P w = .ok () w' ∧ ∃ s', K s' ∧ Rel c s' (a.put dst undef) w'
variable {P : Program} {T : Ty}
theorem Yields.does {m : Sem Value} {dst : Option Nat} {K : St → Prop} (hr : RelX c s a w I G) (h : Yields P w I G m fun r => K (s.put dst r)) : Does P c a w m dst K :=
  let ⟨v, r, h1, h2, h3⟩ := h
  ⟨v, w, h1 w (Ext.refl w), _, h3, I, G, hr.put h2 dst⟩
/-- A new variable. -/
theorem does_new (hr : RelX c s a w I G) {t : Nat} {cs : Array Value} {l : List A} (hc : VAs w I G cs.toList l) (h1 : ∀ x ∈ cs.toList, x.oneCell' = true) {m : Sem Value}
    (hm : m.run P w = .ok (.pointer (some ⟨w.heap.size, 0, none⟩)) (w.alloc (.cells cs t))) {dst : Option Nat} {K : St → Prop}
    (hk : K ((St.mk s.t (s.h ++ [.box t l]) s.p).put dst (.ref s.h.length 0))) : Does P c a w m dst K := by
  have hg := Grow.alloc w (.cells cs t)
  have hx := hr.grow' hg
  let g : Gh := ⟨.pointer (some ⟨w.heap.size, 0, none⟩), fun k => k = w.heap.size⟩
  have hlen := hr.objs.len
  have hin : (w.alloc (.cells cs t)).heap[w.heap.size]? = some (.cells cs t (0, 0)) := heap_alloc_new w _
  have hpush := hx.push (g := g) (o := .box t l) ⟨w.heap.size, cs, rfl, hin, hc.mono (fun _ _ h => h) (fun b j hi => hg.cell (hr.objs.lt hi)) (roots_push G g), h1, fun k => Iff.rfl, fun j hj => by
      have := hr.objs.lt hj; omega⟩ (fun b hb => by
      have hb' : b = w.heap.size := hb
      subst hb'
      refine ⟨by simp, .inr hr.fr.size, fun k g' e hb => ?_⟩
      have := hr.objs.inb k g' _ e hb
      omega)
  refine ⟨_, _, hm, _, hk, I, G ++ [g], hpush.put ?_ dst⟩
  exact .ref w.heap.size s.h.length 0 g (by rw [← hlen]; simp) rfl
theorem does_box (hr : RelX c s a w I G) {t : Nat} {x : Value} {r : A} {l : List A} (hx : VA w I G x r) (hl : r.cells? = some l) {dst : Option Nat} {K : St → Prop}
    (hk : K ((St.mk s.t (s.h ++ [.box t l]) s.p).put dst (.ref s.h.length 0))) : Does P c a w (Instr.box t x) dst K := by
  obtain ⟨h1, h2⟩ := VA.cells hx hl
  exact does_new hr h1 h2 (by simp [Instr.box, newVar, newRow]) hk
theorem does_alloc (hT : TOk P T) (hr : RelX c s a w I G) {t : Nat} {i : TI} (hi : T t = some i) {dst : Option Nat} {K : St → Prop}
    (hk : K ((St.mk s.t (s.h ++ [.box t i.zero]) s.p).put dst (.ref s.h.length 0))) : Does P c a w (Instr.alloc t true (.tuple #[])) dst K := by
  obtain ⟨f, z, h1, h2, h3, h4, h5, _⟩ := hT t i hi
  exact does_new hr (zs_as h5) (zs_one h5) (by simp [Instr.alloc, newVar, newRow, zeroValue, typeInfo, h1, h4]) hk
theorem run_storeVar {t : Nat} {i : TI} (hti : TIOk P t i) {v : Value} (h1 : ∀ x ∈ v.cells.toList, x.oneCell' = true) (hs : v.cells.size = i.sz) {b o : Nat} {cur : Array Value} {u : TypeId}
    (hb : w.heap[b]? = some (.cells cur u (0, 0))) (hle : o + i.sz ≤ cur.size) :
    (storeVar t ⟨b, o, none⟩ v).run P w = .ok () (w.setRow b (cur.toList.take o ++ v.cells.toList ++ cur.toList.drop (o + i.sz)).toArray) := by
  have := run_storeCells_at P b o u v.cells.toList 0 cur w hb (by simp; omega) h1
  simp only [Nat.add_zero, Array.length_toList, hs] at this
  simp [storeVar, run_size hti, hs, this]
theorem upd_write (hr : RelX c s a w I G) {k : Nat} {g : Gh} (hg : G[k]? = some g) {b : Nat} {cur cs : Array Value} {u : TypeId} (hb : w.heap[b]? = some (.cells cur u (0, 0)))
    (hF : ∀ j, g.F j ↔ j = b) (hni : ∀ j, ¬ I b j) : Upd c w (w.setRow b cs) I I G k g g where
  at_ := hg
  os := rfl
  tape := rfl
  output := rfl
  size := by rw [Go.setRow_size]; exact Nat.le_refl _
  block j hj hn := setRow_other w b j cs (fun e => hn ((hF j).2 e))
  keep j i hi := ⟨hi, World.cell?_of_block (w := w) (setRow_other w b j cs (fun e => hni i (e ▸ hi)))⟩
  im j i hi := ⟨.inl hi, by
    obtain ⟨x, hx⟩ := hr.objs.imm j i hi
    exact ⟨x, (World.cell?_of_block (w := w) (a := ⟨j, i, none⟩) (setRow_other w b j cs (fun e => hni i (e ▸ hi)))).trans hx⟩⟩
  F j hj := by
    refine ⟨by rw [Go.setRow_size]; exact hr.objs.inb k g j hg hj, hr.fr.own k g j hg hj, fun i gi hne e hb' => ?_⟩
    exact hr.objs.disj i k gi g j e hg hne hb' hj
theorem flat_set {sz : Nat} : ∀ {l : List A}, (∀ x ∈ l, x.cells.length = sz) → ∀ {j : Nat} {y : A}, j < l.length → y.cells.length = sz →
    (l.set j y).flatMap A.cells = (l.flatMap A.cells).take (j * sz) ++ y.cells ++ (l.flatMap A.cells).drop (j * sz + sz)
  | [], _, j, y, h, _ => by simp at h
  | x :: l, hs, 0, y, _, hy => by
    have := hs x List.mem_cons_self
    simp [← this]
  | x :: l, hs, j + 1, y, h, hy => by
    have hx := hs x List.mem_cons_self
    have ih := flat_set (fun z hz => hs z (List.mem_cons_of_mem _ hz)) (j := j) (y := y) (by simpa using h) hy
    rw [List.set_cons_succ, List.flatMap_cons, ih, List.flatMap_cons, List.take_append, List.drop_append, hx]
    rw [List.take_of_length_le (l := x.cells) (by rw [hx, Nat.add_mul]; omega), List.drop_eq_nil_of_le (as := x.cells) (by rw [hx, Nat.add_mul]; omega), List.nil_append,
      show (j + 1) * sz - sz = j * sz by rw [Nat.add_mul]; omega, show (j + 1) * sz + sz - sz = j * sz + sz by rw [Nat.add_mul]; omega]
    simp only [List.append_assoc]
theorem mkE_cells {iu : TI} {sz : Nat} (hsz : sz = iu.sz) (hone : iu.ag = false → iu.sz = 1) {l : List A} (hl : l.length = sz) (h1 : ∀ x ∈ l, ∃ y : Value, VA w I G y x ∧ y.oneCell' = true) :
    (mkE iu.ag l).cells = l := by
  have hp : (pack l).cells = l := by
    unfold pack
    split
    · rename_i r e; rw [unDs_spec e]; rfl
    · rfl
  cases e : iu.ag with
  | true => cases l <;> exact hp
  | false =>
    have : l.length = 1 := by rw [hl, hsz]; exact hone e
    match l, this with
    | [x], _ =>
      obtain ⟨y, hy, h2⟩ := h1 x List.mem_cons_self
      simp only [mkE]
      cases hy with
      | d h => cases h with
        | agg cs l h => simp [Value.oneCell'] at h2
        | _ => rfl
      | agg cs l h => simp [Value.oneCell'] at h2
      | _ => rfl
theorem splice_app {l : List A} (r c : List A) {o : Nat} (h : o + c.length ≤ l.length) : splice (l ++ r) o c = splice l o c ++ r := by
  unfold splice
  rw [List.take_append_of_le_length (by omega), List.drop_append_of_le_length (by omega)]
  simp
theorem flat_lenA {sz : Nat} {l : List A} (hf : ∀ x ∈ l, x.cells.length = sz) : (l.flatMap A.cells).length = l.length * sz := by
  induction l with
  | nil => simp
  | cons y l ih =>
    rw [List.flatMap_cons, List.length_append, hf y List.mem_cons_self, ih (fun z hz => hf z (List.mem_cons_of_mem _ hz)), List.length_cons, Nat.add_mul]; omega
theorem splice_in {sz o p : Nat} (L : List A) {l : List A} (h : p + sz ≤ L.length) (hle : o + l.length ≤ sz) :
    splice L (p + o) l = L.take p ++ splice ((L.drop p).take sz) o l ++ L.drop (p + sz) := by
  have hL : L = L.take p ++ ((L.drop p).take sz ++ L.drop (p + sz)) := by
    rw [← List.drop_drop, List.take_append_drop, List.take_append_drop]
  have h1 : (L.take p).length = p := by simp; omega
  have h2 : ((L.drop p).take sz).length = sz := by simp; omega
  generalize L.take p = a at *
  generalize (L.drop p).take sz = b at *
  generalize L.drop (p + sz) = d at *
  subst hL
  unfold splice
  simp only [List.take_append, List.drop_append, h1, h2]
  rw [List.take_of_length_le (l := a) (by omega), List.drop_eq_nil_of_le (as := a) (by omega)]
  simp only [List.append_assoc, List.nil_append]
  rw [show p + o - p = o by omega, show p + o + l.length - p = o + l.length by omega, show o - sz = 0 by omega, show o + l.length - sz = 0 by omega]
  simp
theorem does_store (hT : TOk P T) (hr : RelX c s a w I G) {t : Nat} {p x : Value} {pa xa : A} (hp : VA w I G p pa) (hx : VA w I G x xa) {dst : Option Nat} {K : St → Prop}
    (hk : vcStore T t pa xa s.h fun h => K ((St.mk s.t h s.p).put dst .any)) : DoesU P c a w (Instr.storeAt t p x) dst K := by
  unfold vcStore at hk
  split at hk
  · rename_i i l ei el
    obtain ⟨hlen, hk⟩ := hk
    obtain ⟨hxc, hx1⟩ := VA.cells hx el
    have hxs : x.cells.size = i.sz := by have := hxc.len; simp at this; omega
    split at hk
    · rename_i k o
      cases hp with
      | ref b k o' g hg hroot =>
        split at hk
        · rename_i u lb e
          obtain ⟨hle, hk⟩ := hk
          obtain ⟨g', hg', b', cs, e1, e2, e3, e4, e5, e6⟩ := hr.objs.get e
          rw [hg] at hg'; cases hg'
          rw [hroot] at e1; cases e1
          have hcs : cs.size = lb.length := by have := e3.len; simpa using this
          have hrun := run_storeVar (w := w) (hT t i ei) hx1 hxs e2 (o := o) (by omega)
          have hu := upd_write (cs := (cs.toList.take o ++ x.cells.toList ++ cs.toList.drop (o + i.sz)).toArray) hr hg e2 e5 e6
          have hmono := fun {xs : List Value} {l : List A} (h : VAs w I G xs l) => h.mono (fun b j hi => (hu.keep b j hi).1) (fun b j hi => (hu.keep b j hi).2) (hu.roots rfl)
          have hspl := e3.splice hxc o
          rw [Array.length_toList, hxs] at hspl
          have hX := hr.updK hu rfl (o' := .box u (splice lb o l)) ⟨b, _, hroot, setRow_heap w b cs _ u _ e2, by simpa using hmono hspl, fun y hy => by
            simp only [List.toList_toArray] at hy
            rcases List.mem_append.1 hy with hy | hy
            · rcases List.mem_append.1 hy with hy | hy
              · exact e4 y (List.mem_of_mem_take hy)
              · exact hx1 y hy
            · exact e4 y (List.mem_of_mem_drop hy), e5, e6⟩
          exact ⟨_, by simpa [Instr.storeAt, Instr.sureAddr] using hrun, _, hk, I, _, hX.put (.any _) dst⟩
        · exact hk.elim
    · rename_i k sz j o
      cases hp with
      | eptr b k sz j o' n cc g hg hroot =>
        split at hk
        · rename_i u sz' lb e
          split at hk
          · rename_i iu eu
            obtain ⟨rfl, hsz, hj, hk⟩ := hk
            replace hk : o + l.length ≤ sz ∧ ∀ y, lb[j]? = some y → y.cells.length = sz → K ((St.mk s.t (s.h.set k (.row u sz (lb.set j (mkE iu.ag (splice y.cells o l))))) s.p).put dst .any) := by
              split at hk
              · rename_i hl
                have hl : l.length = sz := by simpa using hl
                refine ⟨by omega, fun y hy hys => ?_⟩
                have : splice y.cells 0 l = l := by unfold splice; rw [List.take_zero, List.nil_append, List.drop_eq_nil_of_le (by omega), List.append_nil]
                rw [this]; exact hk
              · exact hk
            obtain ⟨hle, hk⟩ := hk
            obtain ⟨g', hg', b', cs, e1, e2, e3, e4, e5, e6, e7⟩ := hr.objs.get e
            rw [hg] at hg'; cases hg'
            rw [hroot] at e1; cases e1
            have hlj : lb[j]? = some lb[j] := by simp [hj]
            have hy := e5 _ (List.mem_of_getElem? hlj)
            have hfl : (lb.flatMap A.cells).length = lb.length * sz := flat_lenA e5
            have hcs : cs.size = lb.length * sz := by have := e3.len; simpa [hfl] using this
            have hjs : j * sz + sz ≤ lb.length * sz := by rw [← Nat.succ_mul]; exact Nat.mul_le_mul_right _ hj
            have hrun := run_storeVar (w := w) (hT t i ei) hx1 hxs e2 (o := j * sz + o) (by omega)
            have hu := upd_write (cs := (cs.toList.take (j * sz + o) ++ x.cells.toList ++ cs.toList.drop (j * sz + o + i.sz)).toArray) hr hg e2 e6 e7
            have hmono := fun {xs : List Value} {l : List A} (h : VAs w I G xs l) => h.mono (fun b j hi => (hu.keep b j hi).1) (fun b j hi => (hu.keep b j hi).2) (hu.roots rfl)
            have hspl := e3.splice hxc (j * sz + o)
            rw [Array.length_toList, hxs] at hspl
            have hone : ∀ y ∈ cs.toList.take (j * sz + o) ++ x.cells.toList ++ cs.toList.drop (j * sz + o + i.sz), y.oneCell' = true := fun y hy => by
              rcases List.mem_append.1 hy with hy | hy
              · rcases List.mem_append.1 hy with hy | hy
                · exact e4 y (List.mem_of_mem_take hy)
                · exact hx1 y hy
              · exact e4 y (List.mem_of_mem_drop hy)
            have hsl : (splice lb[j].cells o l).length = sz := by unfold splice; simp; omega
            have hspf : splice (lb.flatMap A.cells) (j * sz + o) l = (lb.flatMap A.cells).take (j * sz) ++ splice lb[j].cells o l ++ (lb.flatMap A.cells).drop (j * sz + sz) := by
              rw [← flat_get e5 hlj]
              exact splice_in _ (by omega) hle
            have hparts : ∀ z ∈ splice lb[j].cells o l, ∃ y : Value, VA w I G y z ∧ y.oneCell' = true := fun z hz => by
              have hmem : z ∈ splice (lb.flatMap A.cells) (j * sz + o) l := by rw [hspf]; simp [hz]
              obtain ⟨q, hq⟩ := List.mem_iff_getElem?.1 hmem
              obtain ⟨y, f1, f2⟩ := hspl.get hq
              exact ⟨y, f2, hone y (List.mem_of_getElem? f1)⟩
            have hcell := mkE_cells hsz (ag_one (hT u iu eu)) hsl hparts
            have hX := hr.updK hu rfl (o' := .row u sz (lb.set j (mkE iu.ag (splice lb[j].cells o l)))) ⟨b, _, by rw [List.length_set]; exact hroot, setRow_heap w b cs _ u _ e2, by
                rw [flat_set e5 hj (by rw [hcell]; exact hsl), hcell, ← hspf]
                simpa using hmono hspl, fun y hy => hone y (by simpa using hy), fun y hy => by
                rcases List.mem_or_eq_of_mem_set hy with hy | hy
                · exact e5 y hy
                · rw [hy, hcell]; exact hsl, e6, e7⟩
            exact ⟨_, by simpa [Instr.storeAt, Instr.sureAddr] using hrun, _, hk _ hlj hy, I, _, hX.put (.any _) dst⟩
          · exact hk.elim
        · rename_i r u sz' lb e
          split at hk
          · rename_i iu eu
            obtain ⟨rfl, hsz, hj, hle, hk⟩ := hk
            obtain ⟨g', hg', hrt, b', cs, t', sp, cap, e1, ecap, e2, e3, e4, e5, e6, e7⟩ := hr.objs.get e
            rw [hg] at hg'; cases hg'
            have hrt0 := hrt
            rw [hroot, e1] at hrt; cases hrt
            have hlj : lb[j]? = some lb[j] := by simp [hj]
            have hy := e5 _ (List.mem_of_getElem? hlj)
            have hfl : (lb.flatMap A.cells).length = lb.length * sz := flat_lenA e5
            have hcs : cs.size = lb.length * sz + sp := by have := e3.len; simpa [hfl] using this
            have hjs : j * sz + sz ≤ lb.length * sz := by rw [← Nat.succ_mul]; exact Nat.mul_le_mul_right _ hj
            have hrun := run_storeVar (w := w) (hT t i ei) hx1 hxs e2 (o := j * sz + o) (by omega)
            have hu := upd_write (cs := (cs.toList.take (j * sz + o) ++ x.cells.toList ++ cs.toList.drop (j * sz + o + i.sz)).toArray) hr hg e2 e6 e7
            have hmono := fun {xs : List Value} {l : List A} (h : VAs w I G xs l) => h.mono (fun b j hi => (hu.keep b j hi).1) (fun b j hi => (hu.keep b j hi).2) (hu.roots rfl)
            have hspl := e3.splice hxc (j * sz + o)
            rw [Array.length_toList, hxs] at hspl
            have hone : ∀ (m : Nat) (y : Value), m < lb.length * sz → (cs.toList.take (j * sz + o) ++ x.cells.toList ++ cs.toList.drop (j * sz + o + i.sz))[m]? = some y → y.oneCell' = true := fun m y hm hy => by
              have hxl : x.cells.toList.length = i.sz := by simpa using hxs
              have htl : (cs.toList.take (j * sz + o)).length = j * sz + o := by simp; omega
              rcases Nat.lt_or_ge m (j * sz + o) with g1 | g1
              · rw [List.append_assoc, List.getElem?_append_left (by omega), List.getElem?_take, if_pos g1] at hy
                exact e4 m y hm (by simpa using hy)
              · rcases Nat.lt_or_ge m (j * sz + o + i.sz) with g2 | g2
                · rw [List.append_assoc, List.getElem?_append_right (by omega), List.getElem?_append_left (by omega)] at hy
                  exact hx1 y (List.mem_of_getElem? hy)
                · rw [List.append_assoc, List.getElem?_append_right (by omega), List.getElem?_append_right (by omega), List.getElem?_drop] at hy
                  refine e4 m y hm ?_
                  have : j * sz + o + i.sz + (m - (cs.toList.take (j * sz + o)).length - x.cells.toList.length) = m := by omega
                  rw [this] at hy
                  simpa using hy
            have hsl : (splice lb[j].cells o l).length = sz := by unfold splice; simp; omega
            have hspf : splice (lb.flatMap A.cells ++ List.replicate sp .any) (j * sz + o) l = ((lb.flatMap A.cells).take (j * sz) ++ splice lb[j].cells o l ++ (lb.flatMap A.cells).drop (j * sz + sz)) ++ List.replicate sp .any := by
              rw [splice_app _ _ (by omega), ← flat_get e5 hlj]
              congr 1
              exact splice_in _ (by omega) hle
            have hparts : ∀ z ∈ splice lb[j].cells o l, ∃ y : Value, VA w I G y z ∧ y.oneCell' = true := fun z hz => by
              obtain ⟨q0, hq0⟩ := List.mem_iff_getElem?.1 hz
              have hq0l := (List.getElem?_eq_some_iff.1 hq0).1
              have htk : ((lb.flatMap A.cells).take (j * sz)).length = j * sz := by rw [List.length_take]; omega
              have hq : (splice (lb.flatMap A.cells ++ List.replicate sp .any) (j * sz + o) l)[j * sz + q0]? = some z := by
                rw [hspf, List.append_assoc, List.append_assoc, List.getElem?_append_right (by omega), List.getElem?_append_left (by omega), htk, Nat.add_sub_cancel_left]
                exact hq0
              obtain ⟨y, f1, f2⟩ := hspl.get hq
              exact ⟨y, f2, hone _ y (by omega) f1⟩
            have hcell := mkE_cells hsz (ag_one (hT u iu eu)) hsl hparts
            have hX := hr.updK hu rfl (o' := .opn r u sz (lb.set j (mkE iu.ag (splice lb[j].cells o l)))) ⟨hrt0, b, _, t', sp, _, by rw [List.length_set]; exact e1, by rw [List.length_set]; exact ecap, setRow_heap w b cs _ t' _ e2, by
                rw [flat_set e5 hj (by rw [hcell]; exact hsl), hcell, ← hspf]
                simpa using hmono hspl, fun m y hm hy => hone m y (by simpa using hm) (by simpa using hy), fun y hy => by
                rcases List.mem_or_eq_of_mem_set hy with hy | hy
                · exact e5 y hy
                · rw [hy, hcell]; exact hsl, e6, e7⟩
            exact ⟨_, by simpa [Instr.storeAt, Instr.sureAddr] using hrun, _, hk _ hlj hy, I, _, hX.put (.any _) dst⟩
          · exact hk.elim
        · exact hk.elim
    · exact hk.elim
  · exact hk.elim
end
end Go.Ab
