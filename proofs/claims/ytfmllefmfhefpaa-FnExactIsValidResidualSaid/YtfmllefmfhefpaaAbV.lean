/- The arguments of a law, opened; its end. -/
import Derived.Test.YtfmllefmfhefpaaAbU
import Derived.ChangeArms
import Derived.SizedLaws
import Derived.Carry
import Derived.OpenShut
namespace Go.Ab
open Go Go.RowKit
set_option linter.unusedVariables false
set_option linter.unusedSimpArgs false
/-- All that is there. -/
def allI (w : World) : Im := fun b j => ∃ x, w.cell? ⟨b, j, none⟩ = some x
def tiles (P : Program) : List Field → Nat → Nat → Bool
  | [], o, n => o == n
  | f :: r, o, n => f.offset == o && tiles P r (o + P.cellsOf f.type) n
def plainT (P : Program) (S : List Nat) (t : Nat) : Bool :=
  match P.underlying t with
  | some .bool => true
  | some (.int _) => true
  | some .string => true
  | some (.slice e) => S.contains e && decide (0 < P.cellsOf e)
  | some (.struct fs) => tiles P fs.toList 0 (P.cellsOf t) && fs.toList.all fun f => S.contains f.type
  | _ => false
def plainAll (P : Program) (S : List Nat) : Bool := S.all (plainT P S)
mutual
/-- Cells of a type. -/
inductive TD (P : Program) : TypeId → List D → Prop
  | bool (t : TypeId) (b : Bool) : P.underlying t = some .bool → TD P t [.v (.bool b)]
  | int (t : TypeId) (k : IntKind) (n : Int) : P.underlying t = some (.int k) → (Lit.int k n).wf = true → TD P t [.v (.int k n)]
  | str (t : TypeId) (s : ByteArray) : P.underlying t = some .string → s.size ≤ maxLen → TD P t [.v (.string s)]
  | slc (t e : TypeId) (l : List D) : P.underlying t = some (.slice e) → l.length ≤ maxLen → (∀ x ∈ l, TDx P e x) → TD P t [.lst l]
  | st (t : TypeId) (fs : Array Field) (l : List D) : P.underlying t = some (.struct fs) → TDf P fs.toList l → TD P t l
inductive TDx (P : Program) : TypeId → D → Prop
  | agg (e : TypeId) (fs : Array Field) (l : List D) : P.underlying e = some (.struct fs) → TD P e l → TDx P e (.agg l)
  | one (e : TypeId) (x : D) : (∀ fs, P.underlying e ≠ some (.struct fs)) → TD P e [x] → TDx P e x
inductive TDf (P : Program) : List Field → List D → Prop
  | nil : TDf P [] []
  | cons (f : Field) (fs : List Field) (l m : List D) : TD P f.type l → TDf P fs m → TDf P (f :: fs) (l ++ m)
end
theorem TD.one {P : Program} {e : TypeId} {l : List D} (h : TD P e l) (hn : ∀ fs, P.underlying e ≠ some (.struct fs)) : ∃ x, l = [x] ∧ x.cells = [x] := by
  cases h
  case st fs h1 h2 => exact absurd h1 (hn fs)
  all_goals exact ⟨_, rfl, rfl⟩
section
variable {H : Type} {enc : TypeId × Value → H} {P : Program} {w : World} {sp : Nat → Bool} {held : Bool} {S : List Nat}
theorem VDs.app {I : Im} : ∀ {xs l ys m}, VDs w I xs l → VDs w I ys m → VDs w I (xs ++ ys) (l ++ m)
  | _, _, _, _, .nil, h => h
  | _, _, _, _, .cons h0 h1 h2, h => .cons h0 h1 (h2.app h)
theorem open_fields {n : Nat} (ih : ∀ t cs x, t ∈ S → DataW.trod enc P w 0 sp held n t cs = some x → ∃ l, VDs w (allI w) cs l ∧ TD P t l) {cs : List Value} :
    ∀ (fs : List Field) (o : Nat) (xs : List (DataW H × List MemPlace)), tiles P fs o cs.length = true → (∀ f ∈ fs, f.type ∈ S) → xs.length = fs.length →
      (∀ (i : Nat) (f : Field), fs[i]? = some f → DataW.trod enc P w 0 sp held n f.type ((cs.drop f.offset).take (P.cellsOf f.type)) = xs[i]?) → ∃ l, VDs w (allI w) (cs.drop o) l ∧ TDf P fs l
  | [], o, xs, ht, _, _, _ => by
    simp only [tiles, beq_iff_eq] at ht
    subst ht
    rw [List.drop_length]
    exact ⟨[], .nil, .nil⟩
  | f :: fs, o, [], _, _, hl, _ => by simp at hl
  | f :: fs, o, x :: xs, ht, hm, hl, h => by
    simp only [tiles, Bool.and_eq_true, beq_iff_eq] at ht
    obtain ⟨rfl, ht⟩ := ht
    obtain ⟨l1, e1, e2⟩ := ih _ _ _ (hm f List.mem_cons_self) (h 0 f rfl)
    obtain ⟨l2, e3, e4⟩ := open_fields ih fs _ xs ht (fun g hg => hm g (List.mem_cons_of_mem _ hg)) (by simpa using hl) (fun i g hg => by
      have := h (i + 1) g (by simpa using hg); simpa using this)
    refine ⟨l1 ++ l2, ?_, .cons f fs _ _ e2 e4⟩
    have := e1.app e3
    rwa [← List.drop_drop, List.take_append_drop] at this
theorem open_rows {n : Nat} (ih : ∀ t cs x, t ∈ S → DataW.trod enc P w 0 sp held n t cs = some x → ∃ l, VDs w (allI w) cs l ∧ TD P t l) {e : TypeId} (he : e ∈ S) {b off : Nat} {len : Nat} {elems : List (DataW H × List MemPlace)} (hlen : elems.length = len)
    (hel : ∀ i, i < len → (w.cells? 0 ((⟨b, off, none⟩ : Addr).add (i * P.cellsOf e)) (P.cellsOf e)).bind (DataW.trod enc P w 0 sp held n e) = elems[i]?) :
    ∀ (m i : Nat), i + m = len → ∃ r : List D, r.length = m ∧ VDc w (allI w) b (off + i * P.cellsOf e) (r.flatMap D.cells) ∧ ∀ x ∈ r, TDx P e x
  | 0, i, _ => ⟨[], rfl, .nil _ _, fun x h => (by cases h)⟩
  | m + 1, i, hi => by
    have h1 := hel i (by omega)
    rw [List.getElem?_eq_getElem (by omega)] at h1
    obtain ⟨cs, h2, h3⟩ := Option.bind_eq_some_iff.1 h1
    obtain ⟨l, e1, e2⟩ := ih e cs _ he h3
    obtain ⟨_, h4, h5⟩ := World.cells?_some h2
    obtain ⟨r, r1, r2, r3⟩ := open_rows ih he hlen hel m (i + 1) (by omega)
    have hcell : ∀ (j : Nat) (v : Value), cs[j]? = some v → w.cell? ⟨b, off + i * P.cellsOf e + j, none⟩ = some v := fun j v hv => by
      have hj : j < P.cellsOf e := by rw [← h4]; exact (List.getElem?_eq_some_iff.1 hv).1
      have := h5 j hj
      rw [add_at, add_at, hv] at this
      exact this
    have hvd : VDc w (allI w) b (off + i * P.cellsOf e) l := vdc_of e1 hcell fun j hj => ⟨cs[j], hcell j _ (by simp [hj])⟩
    have hll : l.length = P.cellsOf e := by rw [← e1.len, h4]
    have hrest : VDc w (allI w) b (off + i * P.cellsOf e + l.length) (r.flatMap D.cells) := by
      rw [hll, Nat.add_assoc, ← Nat.succ_mul]; exact r2
    by_cases hst : ∃ fs, P.underlying e = some (.struct fs)
    · obtain ⟨fs, hfs⟩ := hst
      exact ⟨.agg l :: r, by simp [r1], by simpa [D.cells] using hvd.append hrest, fun x hx => (List.mem_cons.1 hx).elim (fun h => h ▸ .agg e fs l hfs e2) (r3 x)⟩
    · obtain ⟨y, rfl, hy⟩ := e2.one (fun fs h => hst ⟨fs, h⟩)
      exact ⟨y :: r, by simp [r1], by rw [List.flatMap_cons, hy]; exact hvd.append hrest, fun x hx => (List.mem_cons.1 hx).elim (fun h => h ▸ .one e y (fun fs h => hst ⟨fs, h⟩) e2) (r3 x)⟩
theorem open_cells (hS : plainAll P S = true) : ∀ (n : Nat) (t : TypeId) (cs : List Value) (x : DataW H × List MemPlace), t ∈ S → DataW.trod enc P w 0 sp held n t cs = some x → ∃ l, VDs w (allI w) cs l ∧ TD P t l
  | 0, t, cs, x, _, h => by simp [DataW.trod] at h
  | n + 1, t, cs, x, ht, h => by
    have hp : plainT P S t = true := List.all_eq_true.1 hS t ht
    unfold plainT at hp
    split at hp
    · rename_i hu
      obtain ⟨b, rfl, _⟩ := DataW.trod_bool hu h
      exact ⟨_, .cons rfl (.v _ rfl) .nil, .bool t b hu⟩
    · rename_i k hu
      obtain ⟨m, rfl, _, hw⟩ := DataW.trod_int hu h
      exact ⟨_, .cons rfl (.v _ rfl) .nil, .int t k m hu hw⟩
    · rename_i hu
      obtain ⟨s, rfl, _, hs⟩ := DataW.trod_string hu h
      exact ⟨_, .cons rfl (.v _ rfl) .nil, .str t s hu hs⟩
    · rename_i e hu
      simp only [Bool.and_eq_true, decide_eq_true_eq, List.contains_iff_mem] at hp
      rcases DataW.trod_slice hu h with ⟨rfl, _⟩ | ⟨a, len, cap, elems, rest, n', hn, rfl, _, _, hlc, hcm, hlen, hel, _⟩
      · exact ⟨_, .cons rfl .lnil .nil, .slc t e [] hu (Nat.zero_le _) fun x h => (by cases h)⟩
      · have hn' : n = n' := by omega
        subst hn'
        cases len with
        | zero => exact ⟨_, .cons rfl (.lemp a cap) .nil, .slc t e [] hu (Nat.zero_le _) fun x h => (by cases h)⟩
        | succ len =>
          obtain ⟨b, off, spt⟩ := a
          have hsp : spt = none := by
            have h1 := hel 0 (by omega)
            rw [List.getElem?_eq_getElem (by omega)] at h1
            obtain ⟨cs, h2, _⟩ := Option.bind_eq_some_iff.1 h1
            obtain ⟨_, h4, h5⟩ := World.cells?_some h2
            have h6 := h5 0 hp.2
            rw [List.getElem?_eq_getElem (by omega)] at h6
            cases spt with
            | none => rfl
            | some q =>
              exfalso
              simp only [Addr.add, Nat.zero_mul] at h6
              simp only [World.cell?] at h6
              split at h6
              · simp at h6
              · cases h6
          subst hsp
          obtain ⟨r, r1, r2, r3⟩ := open_rows (fun t cs x ht h => open_cells hS n t cs x ht h) hp.1 hlen hel (len + 1) 0 (by omega)
          exact ⟨_, .cons rfl (.lst b off (len + 1) cap r r1.symm hlc (by simpa using r2)) .nil, .slc t e r hu (by omega) r3⟩
    · rename_i fs hu
      simp only [Bool.and_eq_true, List.all_eq_true, List.contains_iff_mem] at hp
      obtain ⟨xs, n', hn, _, hcl, hxl, hall⟩ := DataW.trod_struct hu h
      have hn' : n = n' := by omega
      subst hn'
      obtain ⟨l, h1, h2⟩ := open_fields (fun t cs x ht h => open_cells hS n t cs x ht h) (cs := cs) fs.toList 0 xs (by rw [hcl]; exact hp.1) hp.2 (by simpa using hxl) (fun i f hf => hall i f (by simpa using hf))
      exact ⟨l, by simpa using h1, .st t fs l hu h2⟩
    · cases hp
theorem open_arg (hS : plainAll P S = true) {t : TypeId} (ht : t ∈ S) {v : Value} {d : DataW H} {ps : List MemPlace} {r : Reach} {b0 : Nat} (hval : Value.okWide P w r b0 t v) (h : DataW.Trod enc P w 0 sp held t v d ps) :
    ∃ x, VD w (allI w) v x ∧ TDx P t x := by
  obtain ⟨n, h⟩ := h
  obtain ⟨l, h1, h2⟩ := open_cells hS n t _ _ ht h
  have hp : plainT P S t = true := List.all_eq_true.1 hS t ht
  by_cases hst : ∃ fs, P.underlying t = some (.struct fs)
  · obtain ⟨fs, hfs⟩ := hst
    unfold Value.okWide at hval
    rw [hfs] at hval
    obtain ⟨cs, rfl, _⟩ := hval
    refine ⟨.agg l, ?_, .agg t fs l hfs h2⟩
    have := VD.agg cs.toList l (by simpa [Value.cells] using h1)
    simpa using this
  · obtain ⟨x, rfl, hx⟩ := h2.one (fun fs h => hst ⟨fs, h⟩)
    refine ⟨x, ?_, .one t x (fun fs h => hst ⟨fs, h⟩) h2⟩
    have hone : v.cells.toList = [v] := by
      unfold plainT at hp
      unfold Value.okWide Cell.okWide Cell.ok at hval
      split at hp <;> rename_i hu
      · rw [hu] at hval; cases v <;> simp_all [Value.cells]
      · rw [hu] at hval; cases v <;> simp_all [Value.cells]
      · rw [hu] at hval; cases v <;> simp_all [Value.cells]
      · rw [hu] at hval; cases v <;> simp_all [Value.cells]
      · exact absurd ⟨_, hu⟩ hst
      · cases hp
    rw [hone] at h1
    cases h1 with
    | cons _ h1 _ => exact h1
inductive TDs (P : Program) : List TypeId → List D → Prop
  | nil : TDs P [] []
  | cons {t ts x l} : TDx P t x → TDs P ts l → TDs P (t :: ts) (x :: l)
theorem open_args (hS : plainAll P S = true) {r : Reach} {b0 : Nat} : ∀ {ts : List TypeId} {vs : List Value} {ds : List (DataW H)} {ps : List MemPlace}, (∀ t ∈ ts, t ∈ S) → (∀ (j : Nat) t v, ts[j]? = some t → vs[j]? = some v → Value.okWide P w r b0 t v) →
    DataW.TrodAll enc P w 0 sp held ts vs ds ps → ∃ l, VAs w (allI w) [] vs (l.map A.d) ∧ TDs P ts l
  | [], [], [], _, _, _, _ => ⟨[], .nil, .nil⟩
  | t :: ts, v :: vs, d :: ds, ps, hm, hv, h => by
    obtain ⟨p, q, h1, h2, _⟩ := h
    obtain ⟨x, e1, e2⟩ := open_arg hS (hm t List.mem_cons_self) (hv 0 t v rfl rfl) h1
    obtain ⟨l, e3, e4⟩ := open_args hS (fun u hu => hm u (List.mem_cons_of_mem _ hu)) (fun j u x hu hx => hv (j + 1) u x (by simpa using hu) (by simpa using hx)) h2
    exact ⟨x :: l, .cons (.d e1) e3, .cons e2 e4⟩
  | [], [], _ :: _, _, _, _, h => h.elim
  | [], _ :: _, _, _, _, _, h => h.elim
  | _ :: _, [], _, _, _, _, h => h.elim
  | _ :: _, _ :: _, [], _, _, _, h => h.elim
/-- A law that hands back true has turned nothing that was there. -/
theorem law_runs {f : FuncId} {args : Array Value} {l : List A} (hv : VAs w (allI w) [] args.toList l) (ct : Ct P f l [] (fun _ : Unit => True) (fun _ => .bool true) (fun _ => [])) :
    Calls P f args w fun e w' => e = .returned (.bool true) ∧ Below w.heap.size w w' := by
  have h := ct.2 w (allI w) [] args.toList hv ⟨rfl, fun k g o h => (by simp at h), fun i j gi gj b h => (by simp at h), fun k g b h => (by simp at h), fun b j h => h⟩
  have e : args.toList.toArray = args := by simp
  rw [e] at h
  refine h.mono ?_
  rintro e w' ⟨v, rfl, x, hx, I', G', hv', hrel, hfr, hlen⟩
  obtain rfl := hv'.inv_v
  refine ⟨rfl, hfr.os, hfr.tape, hfr.output, hfr.size, fun k hk => hfr.block k hk ?_⟩
  rintro ⟨q, g, hg, _⟩
  simp at hg
theorem args_still (hl : laidOutB P = true) {w' : World} (hb : Below w.heap.size w w') : ∀ {ts : List TypeId} {vs : List Value} {ds : List (DataW H)} {ps : List MemPlace}, (∀ t ∈ ts, P.readableRec t = true ∧ t < P.types.size) → (∀ x ∈ ps, x.block < w.heap.size) →
    DataW.TrodAll enc P w 0 (fun _ => true) true ts vs ds ps → DataW.TrodAll enc P w' 0 (fun b => decide (b < w.heap.size)) true ts vs ds ps
  | [], [], [], _, _, _, h => h
  | t :: ts, v :: vs, d :: ds, ps, hm, hlt, h => by
    obtain ⟨p, q, h1, h2, rfl⟩ := h
    exact ⟨p, q, Below.trod hl (hm t List.mem_cons_self).1 (hm t List.mem_cons_self).2 h1 hb (fun x hx => hlt x (List.mem_append_left _ hx)),
      args_still hl hb (fun u hu => hm u (List.mem_cons_of_mem _ hu)) (fun x hx => hlt x (List.mem_append_right _ hx)) h2, rfl⟩
  | [], [], _ :: _, _, _, _, h => h.elim
  | [], _ :: _, _, _, _, _, h => h.elim
  | _ :: _, [], _, _, _, _, h => h.elim
  | _ :: _, _ :: _, [], _, _, _, h => h.elim
end
section
variable {P : Program} {t e : TypeId} {l : List D} {x : D}
theorem TD.int_ {k : IntKind} (h : TD P t l) (hu : P.underlying t = some (.int k)) : ∃ n, l = [.v (.int k n)] ∧ (Lit.int k n).wf = true := by
  cases h <;> rename_i h1 <;> simp_all
theorem TD.str_ (h : TD P t l) (hu : P.underlying t = some .string) : ∃ s : ByteArray, l = [.v (.string s)] ∧ s.size ≤ maxLen := by
  cases h <;> rename_i h1 <;> simp_all
theorem TD.bool_ (h : TD P t l) (hu : P.underlying t = some .bool) : ∃ b : Bool, l = [.v (.bool b)] := by
  cases h <;> rename_i h1 <;> simp_all
theorem TD.slc_ : ∀ {t : TypeId} {l : List D}, TD P t l → P.underlying t = some (.slice e) → ∃ m : List D, l = [.lst m] ∧ m.length ≤ maxLen ∧ ∀ x ∈ m, TDx P e x
  | _, _, .slc t e' m h1 h2 h3, hu => by rw [hu] at h1; cases h1; exact ⟨m, rfl, h2, h3⟩
  | _, _, .bool t b h1, hu => by rw [hu] at h1; cases h1
  | _, _, .int t k n h1 _, hu => by rw [hu] at h1; cases h1
  | _, _, .str t s h1 _, hu => by rw [hu] at h1; cases h1
  | _, _, .st t fs l h1 _, hu => by rw [hu] at h1; cases h1
theorem TD.st_ {fs : Array Field} : ∀ {t : TypeId} {l : List D}, TD P t l → P.underlying t = some (.struct fs) → TDf P fs.toList l
  | _, _, .slc t e' m h1 h2 h3, hu => by rw [hu] at h1; cases h1
  | _, _, .bool t b h1, hu => by rw [hu] at h1; cases h1
  | _, _, .int t k n h1 _, hu => by rw [hu] at h1; cases h1
  | _, _, .str t s h1 _, hu => by rw [hu] at h1; cases h1
  | _, _, .st t fs' l h1 h2, hu => by rw [hu] at h1; cases h1; exact h2
theorem TDx.st_ {fs : Array Field} : ∀ {t : TypeId} {x : D}, TDx P t x → P.underlying t = some (.struct fs) → ∃ l, x = .agg l ∧ TDf P fs.toList l
  | _, _, .agg e fs' l h1 h2, hu => ⟨l, rfl, h2.st_ hu⟩
  | _, _, .one e x h1 h2, hu => absurd hu (h1 fs)
theorem TDx.one_ : ∀ {t : TypeId} {x : D}, TDx P t x → (∀ fs, P.underlying t ≠ some (.struct fs)) → TD P t [x]
  | _, _, .agg e fs' l h1 h2, hn => absurd h1 (hn fs')
  | _, _, .one e x h1 h2, _ => h2
theorem TDx.int_ {k : IntKind} (h : TDx P t x) (hu : P.underlying t = some (.int k)) : ∃ n, x = .v (.int k n) ∧ (Lit.int k n).wf = true := by
  obtain ⟨n, h1, h2⟩ := (h.one_ (fun fs h => by rw [hu] at h; cases h)).int_ hu
  exact ⟨n, by simpa using h1, h2⟩
theorem TDx.str_ (h : TDx P t x) (hu : P.underlying t = some .string) : ∃ s : ByteArray, x = .v (.string s) ∧ s.size ≤ maxLen := by
  obtain ⟨n, h1, h2⟩ := (h.one_ (fun fs h => by rw [hu] at h; cases h)).str_ hu
  exact ⟨n, by simpa using h1, h2⟩
theorem TDx.bool_ (h : TDx P t x) (hu : P.underlying t = some .bool) : ∃ b : Bool, x = .v (.bool b) := by
  obtain ⟨n, h1⟩ := (h.one_ (fun fs h => by rw [hu] at h; cases h)).bool_ hu
  exact ⟨n, by simpa using h1⟩
theorem TDx.slc_ (h : TDx P t x) (hu : P.underlying t = some (.slice e)) : ∃ m : List D, x = .lst m ∧ m.length ≤ maxLen ∧ ∀ x ∈ m, TDx P e x := by
  obtain ⟨m, h1, h2⟩ := (h.one_ (fun fs h => by rw [hu] at h; cases h)).slc_ hu
  exact ⟨m, by simpa using h1, h2⟩
theorem TDf.cons_ {f : Field} {fs : List Field} (h : TDf P (f :: fs) l) : ∃ a b, l = a ++ b ∧ TD P f.type a ∧ TDf P fs b := by
  cases h with
  | cons _ _ a b h1 h2 => exact ⟨a, b, rfl, h1, h2⟩
theorem TDf.nil_ (h : TDf P [] l) : l = [] := by cases h; rfl
theorem TDs.cons_ {ts : List TypeId} (h : TDs P (t :: ts) l) : ∃ x m, l = x :: m ∧ TDx P t x ∧ TDs P ts m := by
  cases h with
  | cons h1 h2 => exact ⟨_, _, rfl, h1, h2⟩
theorem TDs.nil_ (h : TDs P [] l) : l = [] := by cases h; rfl
end
theorem choose_row {α : Type} (E : α → D) (ok : α → Prop) : ∀ (m : List D), (∀ x ∈ m, ∃ e, x = E e ∧ ok e) → ∃ a : List α, m = a.map E ∧ ∀ e ∈ a, ok e
  | [], _ => ⟨[], rfl, fun e h => (by cases h)⟩
  | x :: m, h => by
    obtain ⟨e, rfl, h1⟩ := h x List.mem_cons_self
    obtain ⟨a, rfl, h2⟩ := choose_row E ok m (fun y hy => h y (List.mem_cons_of_mem _ hy))
    exact ⟨e :: a, rfl, fun z hz => (List.mem_cons.1 hz).elim (fun h => h ▸ h1) (h2 z)⟩
theorem args_stay {H : Type} {enc : TypeId × Value → H} {P : Program} {w w' : World} (hl : laidOutB P = true) {ts : List TypeId} (hr : (ts.all fun t => P.readableRec t && decide (t < P.types.size)) = true) (hb : Below w.heap.size w w') {vs : List Value} {ds : List (DataW H)} {ps : List MemPlace}
    (hlt : ∀ x ∈ ps, x.block < w.heap.size) (h : DataW.TrodAll enc P w 0 (fun _ => true) true ts vs ds ps) : DataW.TrodAll enc P w' 0 (fun b => decide (b < w.heap.size)) true ts vs ds ps :=
  args_still hl hb (fun t ht => by have := List.all_eq_true.1 hr t ht; simpa using this) hlt h
theorem trodAll_len {H : Type} {enc : TypeId × Value → H} {P : Program} {w : World} {b : Nat} {sp : Nat → Bool} {held : Bool} : ∀ {ts : List TypeId} {vs : List Value} {ds : List (DataW H)} {ps : List MemPlace}, DataW.TrodAll enc P w b sp held ts vs ds ps → ds.length = ts.length
  | [], [], [], _, _ => rfl
  | _ :: _, _ :: _, _ :: _, _, ⟨_, _, _, h, _⟩ => by simp [trodAll_len h]
  | [], [], _ :: _, _, h => h.elim
  | [], _ :: _, _, _, h => h.elim
  | _ :: _, [], _, _, h => h.elim
  | _ :: _, _ :: _, [], _, h => h.elim
theorem list1 {α : Type} : ∀ {l : List α}, l.length = 1 → ∃ a, l = [a]
  | [a], _ => ⟨a, rfl⟩
theorem list2 {α : Type} : ∀ {l : List α}, l.length = 2 → ∃ a b, l = [a, b]
  | [a, b], _ => ⟨a, b, rfl⟩
theorem list3 {α : Type} : ∀ {l : List α}, l.length = 3 → ∃ a b c, l = [a, b, c]
  | [a, b, c], _ => ⟨a, b, c, rfl⟩
theorem list4 {α : Type} : ∀ {l : List α}, l.length = 4 → ∃ a b c d, l = [a, b, c, d]
  | [a, b, c, d], _ => ⟨a, b, c, d, rfl⟩
theorem list5 {α : Type} : ∀ {l : List α}, l.length = 5 → ∃ a b c d e, l = [a, b, c, d, e]
  | [a, b, c, d, e], _ => ⟨a, b, c, d, e, rfl⟩
/-- Expressions. -/
theorem ex_of {P : Program} {tE tS tI tN : TypeId} {f0 f1 f2 : Field} (hE : P.underlying tE = some (.struct #[f0, f1, f2])) (hS : P.underlying tS = some (.slice tE)) (hI : P.underlying tI = some (.int .i64)) (hN : P.underlying tN = some .string)
    (h0 : f0.type = tI) (h1 : f1.type = tN) (h2 : f2.type = tS) : ∀ (n : Nat) (x : D), SizeOf.sizeOf x < n → TDx P tE x → ∃ e : Ex, x = e.E ∧ e.ok
  | 0, x, hn, _ => by omega
  | n + 1, x, hn, h => by
    obtain ⟨l, rfl, hf⟩ := h.st_ hE
    obtain ⟨l0, r0, rfl, t0, hf⟩ := TDf.cons_ hf
    obtain ⟨l1, r1, rfl, t1, hf⟩ := hf.cons_
    obtain ⟨l2, r2, rfl, t2, hf⟩ := hf.cons_
    obtain rfl := hf.nil_
    obtain ⟨k, rfl, _⟩ := t0.int_ (h0 ▸ hI)
    obtain ⟨s, rfl, hs⟩ := t1.str_ (h1 ▸ hN)
    obtain ⟨m, rfl, hm, hx⟩ := t2.slc_ (h2 ▸ hS)
    obtain ⟨a, rfl, ha⟩ := choose_row Ex.E Ex.ok m fun x hx' => ex_of hE hS hI hN h0 h1 h2 n x (by
      have := List.sizeOf_lt_of_mem hx'
      simp at hn; omega) (hx x hx')
    refine ⟨.mk k s a, ?_, ?_⟩
    · simp [Ex.E, Ex.Es_eq]
    · exact ⟨hs, by simpa [maxLen] using hm, Ex.oks_iff.2 ha⟩
end Go.Ab
