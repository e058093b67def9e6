/- Operations that leave the world alone yield what their conditions say. -/
import Derived.Test.YtamicpfjieandaaAbD
namespace Go.Ab
open Go
set_option linter.unusedVariables false
set_option linter.unusedSimpArgs false
section
variable {P : Program} {T : Ty} {w : World} {I : Im} {G : List Gh}
theorem VA.inv_v {x y : Value} (h : VA w I G x (.d (.v y))) : x = y := by
  cases h with
  | d h => cases h with
    | v => rfl
theorem VA.kon1 (v : Value) : VA w I G v (kon1 v) := by
  unfold Ab.kon1
  split
  · exact .nil
  · exact .any _
  · exact .any _
  · exact .any _
  · rename_i h0 h1 h2 h3
    refine .d (.v v ?_)
    cases v <;> first | rfl | (exfalso; first | exact h1 _ _ _ rfl | exact h2 _ rfl | exact h3 _ rfl)
theorem VAs.kons : ∀ l : List Value, VAs w I G l (kons l)
  | [] => .nil
  | v :: l => .cons (VA.kon1 v) (VAs.kons l)
theorem VA.kon (v : Value) : VA w I G v (kon v) := by
  unfold Ab.kon
  split
  · rename_i cs
    split
    · rename_i h
      have := VA.agg (w := w) (I := I) (G := G) cs.toList (kons cs.toList) (VAs.kons _) (List.all_eq_true.mp h)
      rwa [Array.toArray_toList] at this
    · exact .any _
  · exact VA.kon1 v
theorem VA.eval {a : Act} {t : List A} (h : VAs w I G a.tmps.toList t) (x : Operand) : VA w I G (a.eval x) (opd t x) := by
  cases x with
  | tmp i =>
    simp only [Act.eval, opd]
    by_cases hi : i < t.length
    · obtain ⟨y, e1, e2⟩ := h.get (i := i) (a := t[i]) (by simp [hi])
      have : a.tmps.getD i undef = y := by
        have := e1
        simp only [Array.getElem?_toList] at this
        simp [this]
      rw [this]
      simpa [hi] using e2
    · have e : t.getD i .any = .any := by rw [List.getD_eq_getElem?_getD, List.getElem?_eq_none (Nat.le_of_not_lt hi)]; rfl
      rw [e]
      exact .any _
  | const v => exact VA.kon v
  | global g => exact .any _
  | func f => exact .fn f [] [] .nil
theorem VAs.evals {a : Act} {t : List A} (h : VAs w I G a.tmps.toList t) : ∀ l : List Operand, VAs w I G (l.map a.eval) (opds t l)
  | [] => .nil
  | x :: l => .cons (VA.eval h x) (VAs.evals h l)
theorem VAs.evals' {a : Act} {t : List A} (h : VAs w I G a.tmps.toList t) : ∀ l : List Operand, VAs w I G (l.map a.eval) (l.map (opd t))
  | [] => .nil
  | x :: l => .cons (VA.eval h x) (VAs.evals' h l)

/-- All blocks of the one world stand in the other as they were. -/
def Ext (w w' : World) : Prop := ∀ (b : Nat) (x : Obj), w.heap[b]? = some x → w'.heap[b]? = some x
theorem Ext.refl (w : World) : Ext w w := fun _ _ h => h
theorem Ext.cell {w w' : World} (h : Ext w w') {a : Addr} {v : Value} (e : w.cell? a = some v) : w'.cell? a = some v := by
  unfold World.cell? at *
  cases hb : w.heap[a.block]? with
  | none => simp [hb] at e
  | some x => rw [hb] at e; rw [h _ _ hb]; exact e
/-- A computation that leaves the world alone and hands back a value of which K holds, the same in every world that has grown out of this one. -/
def Yields (P : Program) (w : World) (I : Im) (G : List Gh) (m : Sem Value) (K : A → Prop) : Prop := ∃ v r, (∀ w', Ext w w' → m.run P w' = .ok v w') ∧ VA w I G v r ∧ K r

theorem toList_eq (x y : ByteArray) : (x.toList == y.toList) = decide (x = y) := by
  rw [ByteArray.toList_eq, ByteArray.toList_eq, Bool.eq_iff_iff, beq_iff_eq, decide_eq_true_eq]
  constructor
  · intro h
    obtain ⟨⟨x⟩⟩ := x
    obtain ⟨⟨y⟩⟩ := y
    simp at h
    rw [h]
  · intro h; rw [h]
theorem yields_bin {op : BinOp} {t : Nat} {ox oy : Operand} {x y : Value} {a b : A} {K : A → Prop} (hx : VA w I G x a) (hy : VA w I G y b) (h : vcBin op a b K) :
    Yields P w I G (do eqGuard op t ox oy x y; binOp op t x y) K := by
  unfold vcBin at h
  split at h
  · rename_i k n k' m
    obtain rfl := hx.inv_v
    obtain rfl := hy.inv_v
    obtain ⟨rfl, h⟩ := h
    have hg : ∀ op (w : World), (eqGuard op t ox oy (.int k n) (.int k m)).run P w = .ok () w := fun op w => by cases op <;> simp [eqGuard]
    cases op <;> simp only at h <;> first
      | exact h.elim
      | (refine ⟨_, _, fun w' _ => ?_, .d (.v _ rfl), h⟩; simp only [Sem.run_bind, hg, Result.andThen_ok, binOp, Op.intArith, wr, ne_eq, not_true_eq_false, if_false, Sem.run_pure]; done)
      | (refine ⟨_, _, fun w' _ => ?_, .d (.v _ rfl), h.2⟩; simp only [Sem.run_bind, hg, Result.andThen_ok, binOp, Op.intDiv, h.1, wr, ne_eq, not_true_eq_false, if_false, Sem.run_pure]; done)
      | (refine ⟨_, _, fun w' _ => ?_, .d (.v _ rfl), h⟩; simp only [Sem.run_bind, hg, Result.andThen_ok, binOp, Op.intBits, ne_eq, not_true_eq_false, if_false, Sem.run_pure]; done)
      | (refine ⟨_, _, fun w' _ => ?_, .d (.v _ rfl), h⟩; simp only [Sem.run_bind, hg, Result.andThen_ok, binOp, Op.intCmp, ne_eq, not_true_eq_false, if_false, Sem.run_pure]; first | done | rfl | (congr 2; done) | (congr 2; simp [bne, BEq.beq]; done))
  · rename_i n m
    obtain rfl := hx.inv_v
    obtain rfl := hy.inv_v
    have hg : ∀ op (w : World), (eqGuard op t ox oy (.string n) (.string m)).run P w = .ok () w := fun op w => by cases op <;> simp [eqGuard]
    cases op <;> simp only at h <;> first
      | exact h.elim
      | (refine ⟨_, _, fun w' _ => ?_, .d (.v _ rfl), h⟩; simp only [Sem.run_bind, hg, Result.andThen_ok, binOp, Op.stringOp, Sem.run_pure, toList_eq]; done)
      | (have hs := h.1
         refine ⟨_, _, fun w' _ => ?_, .d (.v _ rfl), h.2⟩
         have : ¬ ((n.size + m.size : Nat) : Int) > IntKind.i64.max := by simp only [IntKind.max, IntKind.signed, IntKind.bits, if_true]; omega
         simp only [Sem.run_bind, hg, Result.andThen_ok, binOp, Op.stringOp, this, if_false, Sem.run_pure]; done)
  · exact h.elim
theorem yields_un {op : UnOp} {x : Value} {a : A} {K : A → Prop} (hx : VA w I G x a) (h : vcUn op a K) : Yields P w I G (Op.unary op x) K := by
  unfold vcUn at h
  split at h
  · obtain rfl := hx.inv_v
    exact ⟨_, _, (fun w' _ => by simp [Op.unary]), .d (.v _ rfl), h⟩
  · obtain rfl := hx.inv_v
    exact ⟨_, _, (fun w' _ => by simp [Op.unary, Op.intArith, wr]), .d (.v _ rfl), h⟩
  · exact h.elim

/-! ### Types, asked -/
theorem run_info {t : Nat} {i : TI} (h : TIOk P t i) : ∃ f, (typeInfo t).run P w = .ok f w ∧ f.size = i.sz ∧ f.bytes = i.bytes := by
  obtain ⟨f, z, h1, h2, h3, _⟩ := h
  exact ⟨f, by simp [typeInfo, h1], h2, h3⟩
theorem run_size {t : Nat} {i : TI} (h : TIOk P t i) : (sizeOf t).run P w = .ok i.sz w := by
  obtain ⟨f, h1, h2, _⟩ := run_info (w := w) h
  simp [sizeOf, h1, h2]
theorem run_under {t : Nat} {d : TypeDesc} (h : P.underlying t = some d) : (underlying t).run P w = .ok d w := by
  simp [underlying, h]
theorem isAgg_of {t : Nat} {d : TypeDesc} (h : P.underlying t = some d) (h1 : ∀ q, d ≠ .struct q) (h2 : ∀ n e, d ≠ .array n e) : (isAgg t).run P w = .ok false w := by
  simp only [isAgg, Sem.run_bind, run_under h, Result.andThen_ok]
  rfl
theorem isAgg_st {t : Nat} {q : Array Field} (h : P.underlying t = some (.struct q)) : (isAgg t).run P w = .ok true w := by
  simp only [isAgg, Sem.run_bind, run_under h, Result.andThen_ok]
  rfl
theorem run_isAgg {t : Nat} {i : TI} (h : TIOk P t i) : (isAgg t).run P w = .ok i.ag w := by
  obtain ⟨f, z, _, _, _, _, _, _, _, _, _, hk⟩ := h
  obtain ⟨k, sz, by_, ze⟩ := i
  cases k with
  | one => obtain ⟨_, d, e, e1, e2⟩ := hk; exact isAgg_of e e1 e2
  | boo => exact isAgg_of hk.2 (by intro q h; cases h) (by intro n e h; cases h)
  | str => exact isAgg_of hk.2 (by intro q h; cases h) (by intro n e h; cases h)
  | slc e => exact isAgg_of hk.2 (by intro q h; cases h) (by intro n e h; cases h)
  | st fs => obtain ⟨q, e, _⟩ := hk; exact isAgg_st e
  | mp k e => exact isAgg_of hk.2 (by intro q h; cases h) (by intro n e h; cases h)
theorem ag_one {t : Nat} {i : TI} (h : TIOk P t i) (ha : i.ag = false) : i.sz = 1 := by
  obtain ⟨f, z, _, _, _, _, _, _, _, _, _, hk⟩ := h
  obtain ⟨k, sz, by_, ze⟩ := i
  cases k with
  | one => exact hk.1
  | boo => exact hk.1
  | str => exact hk.1
  | slc e => exact hk.1
  | st fs => cases ha
  | mp k e => exact hk.1
theorem yields_binT (hT : TOk P T) {op : BinOp} {t : Nat} {ox oy : Operand} {x y : Value} {a b : A} {K : A → Prop} (hx : VA w I G x a) (hy : VA w I G y b) (h : vcBinT T op t a b K) :
    Yields P w I G (do eqGuard op t ox oy x y; binOp op t x y) K := by
  unfold vcBinT at h
  split at h
  · rename_i n m
    obtain rfl := hx.inv_v
    obtain rfl := hy.inv_v
    split at h
    · rename_i sz by_ z et
      obtain ⟨_, _, _, _, _, _, _, _, _, _, _, _, hu⟩ := hT t _ et
      have hg : ∀ op (w : World), (eqGuard op t ox oy (.bool n) (.bool m)).run P w = .ok () w := fun op w => by cases op <;> simp [eqGuard]
      have he : ∀ w : World, (Op.equal t (.bool n) (.bool m)).run P w = .ok (n == m) w := fun w => by
        have h1 : ∀ d, (Op.equalIn (d + 1) t (.bool n) (.bool m)).run P w = .ok (n == m) w := fun d => by
          rw [Op.equalIn]
          simp only [Sem.run_bind, run_under hu, Result.andThen_ok, Sem.run_pure]
        exact h1 9999
      split at h
      · refine ⟨_, _, fun w' _ => ?_, .d (.v _ rfl), h⟩
        simp only [Sem.run_bind, hg, Result.andThen_ok, binOp, he, Sem.run_pure]
      · refine ⟨_, _, fun w' _ => ?_, .d (.v _ rfl), h⟩
        simp only [Sem.run_bind, hg, Result.andThen_ok, binOp, he, Sem.run_pure]
      · exact h.elim
    · exact h.elim
  · exact yields_bin hx hy h
theorem add_at (b o j : Nat) : (⟨b, o, none⟩ : Addr).add j = ⟨b, o + j, none⟩ := by
  unfold Addr.add; split <;> simp_all
theorem run_loadVar_ag {t : Nat} {i : TI} (h : TIOk P t i) (ha : i.ag = true) {b off : Nat} {cs : List Value} (hl : cs.length = i.sz)
    (hc : ∀ (j : Nat) (v : Value), cs[j]? = some v → w.cell? ⟨b, off + j, none⟩ = some v) : (loadVar t ⟨b, off, none⟩).run P w = .ok (.agg cs.toArray) w := by
  have hr := run_loadCells_list (P := P) w ⟨b, off, none⟩ cs (fun j v hv => by rw [add_at]; exact hc j v hv)
  rw [hl] at hr
  simp [loadVar, run_isAgg h, ha, run_size h, hr]
theorem run_loadVar_one {t : Nat} {i : TI} (h : TIOk P t i) (ha : i.ag = false) {a : Addr} {v : Value} (hc : w.cell? a = some v) : (loadVar t a).run P w = .ok v w := by
  simp [loadVar, run_isAgg h, ha, hc]
theorem run_part_ag {t : Nat} {q : Array Field} {n : Nat} (hu : P.underlying t = some (.struct q)) (hs : P.cellsOf t = n) (hi : ∃ z, P.info? t = some z) (cs : Array Value) (off : Nat) :
    (part t cs off).run P w = .ok (.agg (cs.extract off (off + n))) w := by
  obtain ⟨z, hz⟩ := hi
  have : z.size = n := by simpa [Program.cellsOf, hz] using hs
  simp [part, isAgg_st hu, sizeOf, typeInfo, hz, this]
theorem fs_get : ∀ {fs : List Field} {is : List FI}, FsOk P fs is → ∀ {f : Nat} {i}, is[f]? = some i → ∃ fd, fs[f]? = some fd ∧ fd.offset = i.off ∧ P.cellsOf fd.type = i.sz ∧ i.sz ≠ 0 ∧
    (i.ag = true → (∃ q, P.underlying fd.type = some (.struct q))) ∧
    (i.ag = false → i.sz = 1 ∧ ∃ d, P.underlying fd.type = some d ∧ (∀ q, d ≠ .struct q) ∧ (∀ n e, d ≠ .array n e)) ∧ ∃ z, P.info? fd.type = some z
  | [], [], _, f, i, h => by simp at h
  | [], _ :: _, h, _, _, _ => h.elim
  | _ :: _, [], h, _, _, _ => h.elim
  | fd :: fs, j :: is, h, 0, i, hi => by
    simp at hi; subst hi
    obtain ⟨⟨h1, h2, h3, h4, h5, h6⟩, _⟩ := h
    exact ⟨fd, rfl, h1, h2, h3, h4, h5, h6⟩
  | fd :: fs, j :: is, h, f + 1, i, hi => by
    obtain ⟨fd', e⟩ := fs_get h.2 (f := f) (by simpa using hi)
    exact ⟨fd', by simpa using e.1, e.2⟩
theorem field_of (hT : TOk P T) {t f : Nat} {i : FI} (h : fieldOf T t f = some i) : ∃ q fd, P.underlying t = some (.struct q) ∧ q[f]? = some fd ∧ fd.offset = i.off ∧ P.cellsOf fd.type = i.sz ∧ i.sz ≠ 0 ∧
    (i.ag = true → (∃ q, P.underlying fd.type = some (.struct q))) ∧
    (i.ag = false → i.sz = 1 ∧ ∃ d, P.underlying fd.type = some d ∧ (∀ q, d ≠ .struct q) ∧ (∀ n e, d ≠ .array n e)) ∧ ∃ z, P.info? fd.type = some z := by
  unfold fieldOf at h
  split at h
  · rename_i fs sz by_ z e
    obtain ⟨_, _, _, _, _, _, _, _, _, _, _, q, hu, hf⟩ := hT t _ e
    obtain ⟨fd, h1, h2⟩ := fs_get hf h
    exact ⟨q, fd, hu, by simpa using h1, h2⟩
  · cases h
theorem yields_partD {i : FI} {b o : Nat} {l : List D} {t : Nat} {ti : TI} {K : A → Prop} (hT : TIOk P t ti) (hs : ti.sz = i.sz) (ha : ti.ag = i.ag) (hl : VDc w I b o l) (h : partD i l K) :
    Yields P w I G (loadVar t ⟨b, o + i.off, none⟩) K := by
  unfold partD at h
  split at h
  · rename_i e
    obtain ⟨h1, h2⟩ := h
    obtain ⟨xs, e1, e2⟩ := ((hl.drop i.off (by omega)).take i.sz).vals
    refine ⟨_, _, fun w' hw => run_loadVar_ag hT (ha.trans e) (cs := xs) (by rw [e1.len, hs]; simp; omega) (fun j v hv => hw.cell (e2 j v hv)), .d (.agg xs _ e1), h2⟩
  · rename_i e
    obtain ⟨x, h1, h2⟩ := h
    obtain ⟨y, e1, _, _, e4⟩ := hl.get h1
    exact ⟨y, _, (fun w' hw => run_loadVar_one hT (ha.trans e) (hw.cell e1)), .d e4, h2⟩
theorem yields_partA {i : FI} {b o : Nat} {l : List A} {t : Nat} {ti : TI} {K : A → Prop} {cs : List Value} (hT : TIOk P t ti) (hs : ti.sz = i.sz) (ha : ti.ag = i.ag) (hl : VAs w I G cs l)
    (h1 : ∀ x ∈ cs, x.oneCell' = true) (hc : ∀ (j : Nat) (v : Value), cs[j]? = some v → w.cell? ⟨b, o + j, none⟩ = some v) (h : partA i l K) :
    Yields P w I G (loadVar t ⟨b, o + i.off, none⟩) K := by
  unfold partA at h
  split at h
  · rename_i e
    obtain ⟨h2, h3⟩ := h
    have hv := (hl.drop i.off).take i.sz
    refine ⟨_, _, fun w' hw => run_loadVar_ag hT (ha.trans e) (cs := (cs.drop i.off).take i.sz) (by have := hl.len; simp; omega) (fun j v hv => ?_), VA.pack (fun x hx => h1 x (List.mem_of_mem_drop (List.mem_of_mem_take hx))) hv, h3⟩
    rw [List.getElem?_take] at hv
    split at hv
    · rw [Nat.add_assoc]; exact hw.cell (hc _ v (by simpa using hv))
    · cases hv
  · rename_i e
    obtain ⟨x, h2, h3⟩ := h
    obtain ⟨y, e1, e2⟩ := hl.get h2
    exact ⟨y, _, (fun w' hw => run_loadVar_one hT (ha.trans e) (hw.cell (hc _ _ e1))), e2, h3⟩
theorem Yields.mono {m : Sem Value} {K K' : A → Prop} (h : Yields P w I G m K) (hk : ∀ r, K r → K' r) : Yields P w I G m K' :=
  let ⟨v, r, h1, h2, h3⟩ := h; ⟨v, r, h1, h2, hk r h3⟩
theorem RelH.get {h : List O} (hh : RelH w I G h) {k : Nat} {o : O} (e : h[k]? = some o) : ∃ g, G[k]? = some g ∧ ObjR w I G g o := by
  have hk : k < G.length := by rw [hh.len]; exact (List.getElem?_eq_some_iff.1 e).1
  exact ⟨G[k], by simp [hk], hh.obj k _ o (by simp [hk]) e⟩
theorem cell_in {b : Nat} {cs : Array Value} {t : Nat} (h : w.heap[b]? = some (.cells cs t (0, 0))) (j : Nat) : w.cell? ⟨b, j, none⟩ = cs[j]? := cell_of_row w b j cs t (0, 0) h
theorem flat_get {sz : Nat} : ∀ {l : List A}, (∀ x ∈ l, x.cells.length = sz) → ∀ {j : Nat} {x : A}, l[j]? = some x → ((l.flatMap A.cells).drop (j * sz)).take sz = x.cells
  | [], _, j, x, h => by simp at h
  | y :: l, hs, 0, x, h => by
    simp at h; subst h
    have := hs y List.mem_cons_self
    simp [← this]
  | y :: l, hs, j + 1, x, h => by
    have hy := hs y List.mem_cons_self
    have ih := flat_get (fun z hz => hs z (List.mem_cons_of_mem _ hz)) (j := j) (x := x) (by simpa using h)
    rw [List.flatMap_cons, List.drop_append, hy]
    rw [List.drop_eq_nil_of_le (by rw [hy, Nat.add_mul]; omega), List.nil_append, show (j + 1) * sz - sz = j * sz by rw [Nat.add_mul]; omega]
    exact ih
theorem flat_getD {sz : Nat} : ∀ {l : List D}, Flat sz l → ∀ {j : Nat} {x : D}, l[j]? = some x → ((l.flatMap D.cells).drop (j * sz)).take sz = x.cells ∧ (j + 1) * sz ≤ (l.flatMap D.cells).length
  | [], _, j, x, h => by simp at h
  | y :: l, hs, 0, x, h => by
    simp at h; subst h
    have := hs y List.mem_cons_self
    simp [← this]
  | y :: l, hs, j + 1, x, h => by
    have hy := hs y List.mem_cons_self
    have ih := flat_getD (fun z hz => hs z (List.mem_cons_of_mem _ hz)) (j := j) (x := x) (by simpa using h)
    rw [List.flatMap_cons, List.drop_append, hy]
    rw [List.drop_eq_nil_of_le (by rw [hy, Nat.add_mul]; omega), List.nil_append, show (j + 1) * sz - sz = j * sz by rw [Nat.add_mul]; omega]
    refine ⟨ih.1, ?_⟩
    rw [List.length_append, hy, show (j + 1 + 1) * sz = sz + (j + 1) * sz by rw [Nat.add_mul (j + 1)]; omega]
    have := ih.2
    omega
theorem flat_getx {sz : Nat} {l : List A} (hs : ∀ x ∈ l, x.cells.length = sz) {j : Nat} {x : A} (h : l[j]? = some x) (r : List A) : ((l.flatMap A.cells ++ r).drop (j * sz)).take sz = x.cells := by
  have h1 := flat_get hs h
  have h2 : ((l.flatMap A.cells).drop (j * sz)).length ≥ sz := by
    have := hs x (List.mem_of_getElem? h)
    have h3 := congrArg List.length h1
    rw [List.length_take, this] at h3; omega
  have h4 : j * sz ≤ (l.flatMap A.cells).length := by
    rw [List.length_drop] at h2
    rcases Nat.eq_zero_or_pos sz with e | e
    · subst e; omega
    · omega
  rw [List.drop_append_of_le_length h4, List.take_append_of_le_length h2, h1]
theorem yields_load (hT : TOk P T) {h : List O} (hh : RelH w I G h) {t : Nat} {x : Value} {a : A} {K : A → Prop} (hx : VA w I G x a) (hk : vcLoad T t a h K) : Yields P w I G (Instr.loadAt t x) K := by
  unfold vcLoad at hk
  split at hk
  · exact hk.elim
  · rename_i i ei
    have hti := hT t i ei
    split at hk
    · rename_i l
      cases hx with
      | rptr b off l hl =>
        have := yields_partD (G := G) hti rfl rfl hl hk
        obtain ⟨v, r, h1, h2, h3⟩ := this
        exact ⟨v, r, (fun w' hw => by simpa [Instr.loadAt, Instr.sureAddr] using h1 w' hw), h2, h3⟩
    · rename_i k o
      cases hx with
      | ref b k off g hg hr =>
        split at hk
        · rename_i u l e
          obtain ⟨g', hg', b', cs, e1, e2, e3, e4, _⟩ := hh.get e
          rw [hg] at hg'; cases hg'
          rw [hr] at e1; cases e1
          have := yields_partA (b := b) (o := 0) hti rfl rfl e3 e4 (fun j v hv => by rw [Nat.zero_add, cell_in e2]; simpa using hv) hk
          obtain ⟨v, r, h1, h2, h3⟩ := this
          exact ⟨v, r, (fun w' hw => by simpa [Instr.loadAt, Instr.sureAddr] using h1 w' hw), h2, h3⟩
        · exact hk.elim
    · rename_i k sz j o
      cases hx with
      | eptr b k sz j o n c g hg hr =>
        split at hk
        · rename_i u sz' l e
          obtain ⟨rfl, hj, hle, hk⟩ := hk
          obtain ⟨g', hg', b', cs, e1, e2, e3, e4, e5, _⟩ := hh.get e
          rw [hg] at hg'; cases hg'
          rw [hr] at e1; cases e1
          have hlj : l[j]? = some l[j] := by simp [hj]
          have hfl := flat_get e5 hlj
          have hv := (e3.drop (j * sz)).take sz
          rw [hfl] at hv
          have := yields_partA (b := b) (o := j * sz) hti rfl rfl hv (fun x hx => e4 x (List.mem_of_mem_drop (List.mem_of_mem_take hx)))
            (fun m v hv => by
              rw [cell_in e2]
              rw [List.getElem?_take] at hv
              split at hv
              · simpa using hv
              · cases hv) (hk _ hlj)
          obtain ⟨v, r, h1, h2, h3⟩ := this
          exact ⟨v, r, (fun w' hw => by simpa [Instr.loadAt, Instr.sureAddr] using h1 w' hw), h2, h3⟩
        · rename_i r u sz' l e
          obtain ⟨rfl, hj, hle, hk⟩ := hk
          obtain ⟨g', hg', hroot, b', cs, t', sp, cap, e1, ecap, e2, e3, e4, e5, _⟩ := hh.get e
          rw [hg] at hg'; cases hg'
          rw [hr, e1] at hroot; cases hroot
          have hlj : l[j]? = some l[j] := by simp [hj]
          have hfl := flat_getx e5 hlj (List.replicate sp .any)
          have hv := (e3.drop (j * sz)).take sz
          rw [hfl] at hv
          have := yields_partA (b := b) (o := j * sz) hti rfl rfl hv (fun x hx => by
              obtain ⟨m, hm⟩ := List.mem_iff_getElem?.1 hx
              rw [List.getElem?_take] at hm
              split at hm
              · rename_i hlt
                rw [List.getElem?_drop] at hm
                exact e4 (j * sz + m) x (by have : j * sz + sz ≤ l.length * sz := by rw [← Nat.succ_mul]; exact Nat.mul_le_mul_right _ hj
                                            omega) (by simpa using hm)
              · cases hm)
            (fun m v hv => by
              rw [cell_in e2]
              rw [List.getElem?_take] at hv
              split at hv
              · simpa using hv
              · cases hv) (hk _ hlj)
          obtain ⟨v, r, h1, h2, h3⟩ := this
          exact ⟨v, r, (fun w' hw => by simpa [Instr.loadAt, Instr.sureAddr] using h1 w' hw), h2, h3⟩
        · exact hk.elim
    · exact hk.elim
end
end Go.Ab
