/- Slices written out; make. -/
import Derived.Test.YtfmllefmfhefpaaAbL
import Derived.Laws.MakeOwn
import Derived.Deep.LoopGhost
namespace Go.Ab
open Go
set_option linter.unusedVariables false
set_option linter.unusedSimpArgs false
section
variable {P : Program} {T : Ty} {w w' : World} {I I' : Im} {G : List Gh} {c : Cx} {s : St} {a : Act}
theorem made_eq (z : Array Value) (n : Nat) : (madeCells z (n * z.size)).toList = (List.replicate n z.toList).flatten := by
  induction n with
  | zero => simp [madeCells]
  | succ n ih =>
    rw [List.replicate_succ', List.flatten_append, ← ih]
    simp only [madeCells, Array.toList_map, Array.toList_range, Nat.add_mul, Nat.one_mul, List.range_add, List.map_append, List.flatten_cons, List.flatten_nil, List.append_nil]
    congr 1
    apply List.ext_getElem?
    intro j
    by_cases hj : j < z.size
    · simp [hj, Nat.mod_eq_of_lt hj]
    · simp [hj, Nat.le_of_not_lt hj]
theorem mkE_zero {t : Nat} {i : TI} (h : TIOk P t i) : (mkE i.ag i.zero).cells = i.zero ∧ i.zero.length = i.sz := by
  have h' := h
  obtain ⟨f, z, h1, h2, h3, h4, h5, h6, h7, h8, h9, h10⟩ := h'
  have hv := zs_as (w := default) (I := fun _ _ => False) (G := []) h5
  have hl : i.zero.length = i.sz := by have := hv.len; simp at this; omega
  refine ⟨mkE_cells (w := default) (I := fun _ _ => False) (G := []) (sz := i.sz) rfl (ag_one h) hl (fun x hx => ?_), hl⟩
  obtain ⟨q, hq⟩ := List.mem_iff_getElem?.1 hx
  obtain ⟨y, f1, f2⟩ := hv.get hq
  exact ⟨y, f2, zs_one h5 y (List.mem_of_getElem? f1)⟩
theorem VAs.flatten_rep {xs : List Value} {l : List A} (h : VAs w I G xs l) : ∀ n, VAs w I G (List.replicate n xs).flatten (List.replicate n l).flatten
  | 0 => .nil
  | n + 1 => by
    rw [List.replicate_succ, List.replicate_succ, List.flatten_cons, List.flatten_cons]
    exact h.append (h.flatten_rep n)
theorem does_make (hT : TOk P T) (hr : RelX c s a w I G) {t : Nat} {x y : Value} {xa ya : A} (hx : VA w I G x xa) (hy : VA w I G y ya) {dst : Option Nat} {K : St → Prop}
    (hK : vcMakeSlice T t xa ya s fun r s' => K (s'.put dst r)) : Does P c a w (Instr.makeSlice t x y) dst K := by
  unfold vcMakeSlice at hK
  split at hK
  · rename_i e sz by_ z n m et
    obtain ⟨rfl, h0, hK⟩ := hK
    obtain rfl := hx.inv_v
    obtain rfl := hy.inv_v
    obtain ⟨_, _, _, _, _, _, _, _, _, _, _, _, hu⟩ := hT t _ et
    split at hK
    · rename_i ie ee
      obtain ⟨hb, hb0, hK⟩ := hK
      have hie := hT e ie ee
      obtain ⟨f, z, i1, i2, i3, i4, i5, i6, _⟩ := hT e ie ee
      have hn : n ≤ 140737488355328 := by
        have : n * 1 ≤ n * (ie.bytes : Int) := Int.mul_le_mul_of_nonneg_left (by omega) h0
        omega
      have hrun := run_make (P := P) w t e f z hu i1 i4 .i64 .i64 n n h0 (Int.le_refl _) (by rw [i3, Int.mul_comm]; omega) (by omega)
      rw [i2] at hrun
      obtain ⟨q1, q2⟩ := mkE_zero hie
      have hg := Grow.alloc w (.cells (madeCells z.cells (n.toNat * ie.sz)) e)
      have hX := hr.grow' hg
      let g : Gh := ⟨.slice (some ⟨w.heap.size, 0, none⟩) n.toNat n.toNat, fun k => k = w.heap.size⟩
      have hin : (w.alloc (.cells (madeCells z.cells (n.toNat * ie.sz)) e)).heap[w.heap.size]? = some (.cells (madeCells z.cells (n.toNat * ie.sz)) e (0, 0)) := heap_alloc_new w _
      have hlen := hr.objs.len
      have hme : (madeCells z.cells (n.toNat * ie.sz)).toList = (List.replicate n.toNat z.cells.toList).flatten := by rw [← i6]; exact made_eq _ _
      have hflat : (List.replicate n.toNat (mkE ie.ag ie.zero)).flatMap A.cells = (List.replicate n.toNat ie.zero).flatten := by
        rw [List.flatMap_def, List.map_replicate, q1]
      have hp := hX.push (g := g) (o := .row e ie.sz (List.replicate n.toNat (mkE ie.ag ie.zero))) ⟨w.heap.size, _, by simp [g], hin, by rw [hme, hflat]; exact (zs_as i5).flatten_rep _, fun y hy => by
          rw [hme] at hy
          obtain ⟨l, hl, hy⟩ := List.mem_flatten.1 hy
          rw [(List.mem_replicate.1 hl).2] at hy
          exact zs_one i5 y hy, fun y hy => by rw [(List.mem_replicate.1 hy).2, q1, q2], fun k => Iff.rfl, fun j hj => by have := hr.objs.lt hj; omega⟩ (fun b hb => by
          have hb' : b = w.heap.size := hb
          subst hb'
          refine ⟨by simp, .inr hr.fr.size, fun k g' e hb => ?_⟩
          have := hr.objs.inb k g' _ e hb
          omega)
      exact ⟨_, _, hrun, _, hK, I, G ++ [g], hp.put (.arr s.h.length g (by rw [← hlen]; simp) rfl rfl) dst⟩
    · exact hK.elim
  · exact hK.elim
theorem cells?_cells {x : A} {l : List A} (h : x.cells? = some l) : x.cells = l := by
  cases x with
  | d y => cases y <;> (simp only [A.cells?] at h; cases h; rfl)
  | any => simp [A.cells?] at h
  | tup l => simp [A.cells?] at h
  | _ => simp only [A.cells?] at h; cases h; rfl
theorem fold_size (off : Nat) : ∀ (ys : List Value) (k : Nat) (cs : Array Value), ((ys.zipIdx k).foldl (fun (cs : Array Value) (c, j) => cs.setIfInBounds (off + j) c) cs).size = cs.size
  | [], k, cs => rfl
  | y :: ys, k, cs => by
    rw [List.zipIdx_cons, List.foldl_cons, fold_size off ys (k + 1)]
    simp
/-- A slice's parts, each in its place. -/
theorem fill_slice {sz : Nat} : ∀ {parts : List (Nat × Value)} {l : List A} {k : Nat} {cs : Array Value}, VAs w I G (parts.map (·.2)) l → parts.map (·.1) = List.range' k parts.length →
    (∀ x ∈ l, ∃ q, x.cells? = some q ∧ q.length = sz) → (k + parts.length) * sz ≤ cs.size →
    ∃ (cs' : Array Value) (vs : List Value), Instr.fill (fun i => some (i * sz, sz)) cs parts = some cs' ∧ cs'.toList = cs.toList.take (k * sz) ++ vs ++ cs.toList.drop ((k + parts.length) * sz) ∧
      VAs w I G vs (l.flatMap A.cells) ∧ (∀ x ∈ vs, x.oneCell' = true)
  | [], [], k, cs, _, _, _, _ => ⟨cs, [], rfl, by simp, .nil, fun x h => (by cases h)⟩
  | [], _ :: _, _, _, h, _, _, _ => by cases h
  | _ :: _, [], _, _, h, _, _, _ => by cases h
  | (i, v) :: parts, x :: l, k, cs, hv, hi, hc, hs => by
    cases hv with
    | cons hv hvs =>
      simp only [List.map_cons, List.length_cons, List.range'_succ, List.cons.injEq] at hi
      obtain ⟨rfl, hi⟩ := hi
      obtain ⟨q, hq, hql⟩ := hc x List.mem_cons_self
      obtain ⟨hx, hx1⟩ := VA.cells hv hq
      have hsz : v.cells.size = sz := by have := hx.len; simp at this; omega
      simp only [List.length_cons] at hs
      have hmul : (i + (parts.length + 1)) * sz = i * sz + (parts.length * sz + sz) := by rw [Nat.add_mul, Nat.add_mul, Nat.one_mul]
      have hfold := fold_set (i * sz) v.cells.toList 0 cs (by simp; omega)
      simp only [Nat.add_zero] at hfold
      have hsize := fold_size (i * sz) v.cells.toList 0 cs
      obtain ⟨cs', vs, e1, e2, e3, e4⟩ := fill_slice hvs hi (fun y hy => hc y (List.mem_cons_of_mem _ hy)) (cs := (v.cells.toList.zipIdx 0).foldl (fun (cs : Array Value) (c, j) => cs.setIfInBounds (i * sz + j) c) cs)
        (by rw [hsize, show i + 1 + parts.length = i + (parts.length + 1) by omega]; exact hs)
      refine ⟨cs', v.cells.toList ++ vs, ?_, ?_, ?_, ?_⟩
      · have hb : (decide (v.cells.size ≠ sz) || decide (i * sz + v.cells.size > cs.size)) = false := by
          rw [Bool.or_eq_false_iff, decide_eq_false_iff_not, decide_eq_false_iff_not]; omega
        rw [Instr.fill]
        simp only
        rw [hb, ← Array.foldl_toList, Array.toList_zipIdx]
        exact e1
      · rw [e2, hfold]
        have hvl : v.cells.toList.length = sz := by simpa using hsz
        have h1 : (i + 1) * sz = i * sz + sz := by rw [Nat.add_mul, Nat.one_mul]
        have htl : (cs.toList.take (i * sz)).length = i * sz := by simp; omega
        rw [h1, List.take_append, List.take_append, htl, List.drop_append, List.drop_append, htl]
        simp only [List.length_append, htl, hvl, List.length_cons]
        rw [List.take_of_length_le (l := cs.toList.take (i * sz)) (by omega), List.take_of_length_le (l := v.cells.toList) (by omega)]
        rw [show (i * sz + sz - (i * sz + sz)) = 0 by omega, List.take_zero, List.append_nil]
        rw [List.drop_eq_nil_of_le (as := cs.toList.take (i * sz)) (by rw [htl]; exact Nat.mul_le_mul_right _ (by omega)), List.drop_eq_nil_of_le (as := v.cells.toList) (by rw [hvl, show i + 1 + parts.length = i + (parts.length + 1) by omega, hmul]; omega)]
        rw [List.drop_drop]
        simp only [List.append_assoc, List.nil_append]
        congr 4
        rw [show i + 1 + parts.length = i + (parts.length + 1) by omega, hmul]
        omega
      · rw [List.flatMap_cons, cells?_cells hq]
        exact hx.append e3
      · intro y hy
        rcases List.mem_append.1 hy with hy | hy
        · exact hx1 y hy
        · exact e4 y hy
theorem VAc.of_vals : ∀ {xs : List Value} {l : List A}, VAs w I G xs l → (∀ x ∈ xs, x.oneCell' = true) → ∀ {b off : Nat}, (∀ (j : Nat) (v : Value), xs[j]? = some v → w.cell? ⟨b, off + j, none⟩ = some v ∧ I b (off + j)) → VAc w I G b off l
  | _, _, .nil, _, b, off, _ => .nil b off
  | _, _, .cons h1 h2, h0, b, off, h => by
    obtain ⟨e1, e2⟩ := h 0 _ rfl
    exact .cons e1 e2 (h0 _ List.mem_cons_self) h1 (VAc.of_vals h2 (fun x hx => h0 x (List.mem_cons_of_mem _ hx)) (fun j v hv => by
      have := h (j + 1) v (by simpa using hv)
      rwa [show off + (j + 1) = off + 1 + j by omega] at this))
theorem does_buildSlice (hT : TOk P T) (hr : RelX c s a w I G) {t n : Nat} {parts : List (Nat × Value)} {l : List A} (hv : VAs w I G (parts.map (·.2)) l) {dst : Option Nat} {K : St → Prop}
    (hK : vcBuildSlice T t n (parts.map (·.1)) l s fun r s' => K (s'.put dst r)) : Does P c a w (Instr.buildSlice t n parts.toArray) dst K := by
  unfold vcBuildSlice at hK
  split at hK
  · rename_i e sz by_ z et
    obtain ⟨_, _, _, _, _, _, _, _, _, _, _, _, hu⟩ := hT t _ et
    split at hK
    · rename_i ie ee
      obtain ⟨hidx, hbig, hcells, hK⟩ := hK
      have hie := hT e ie ee
      obtain ⟨f, z, i1, i2, i3, i4, i5, i6, i7, _⟩ := hT e ie ee
      have hpn : parts.length = n := by have := congrArg List.length hidx; simpa using this
      let zc : Array Value := (Array.range (n * ie.sz)).map ((if n * ie.sz = 0 then #[] else z.cells)[· % (if n * ie.sz = 0 then #[] else z.cells).size]!)
      have hzs : zc.size = n * ie.sz := by simp [zc]
      obtain ⟨cs', vs, e1, e2, e3, e4⟩ := fill_slice (sz := ie.sz) (k := 0) (cs := zc) hv (by rw [hidx, List.range_eq_range', hpn]) hcells (by rw [hzs, hpn]; simp)
      have hcs' : cs' = vs.toArray := by
        apply Array.ext'
        rw [e2, hpn]
        simp [hzs]
      subst hcs'
      have hvl : vs.length = n * ie.sz := by
        have h1 := e3.len
        have h2 : (l.flatMap A.cells).length = l.length * ie.sz := flat_lenA (fun x hx => by obtain ⟨q, q1, q2⟩ := hcells x hx; rw [cells?_cells q1]; exact q2)
        have h3 := hv.len
        simp at h3
        rw [h1, h2, ← h3, hpn]
      have hnb : ¬ n * ie.sz > 2 ^ 24 := by omega
      have hrun : (Instr.buildSlice t n parts.toArray).run P w = .ok (.slice (some ⟨w.heap.size, 0, none⟩) n n) (w.alloc (.cells vs.toArray e)) := by
        by_cases h0 : n * ie.sz = 0
        · simp only [zc, h0, if_true] at e1
          simp [Instr.buildSlice, run_under hu, run_size hie, hnb, h0, newRow]
          try simp at e1
          rw [e1]; rfl
        · simp only [zc, h0, if_false] at e1
          simp [Instr.buildSlice, run_under hu, run_size hie, hnb, h0, zeroValue, typeInfo, i1, i4, newRow]
          try simp at e1
          rw [e1]; rfl
      have hg := Grow.alloc w (.cells vs.toArray e)
      have hin : (w.alloc (.cells vs.toArray e)).heap[w.heap.size]? = some (.cells vs.toArray e (0, 0)) := heap_alloc_new w _
      have hcell : ∀ j, (w.alloc (.cells vs.toArray e)).cell? ⟨w.heap.size, j, none⟩ = vs[j]? := fun j => by rw [cell_in hin]; simp
      let I' : Im := fun b j => I b j ∨ (b = w.heap.size ∧ j < n * ie.sz)
      have hX := hr.grow (I' := I') hg (fun _ _ h => .inl h) (fun b j hi => by
        rcases hi with hi | ⟨rfl, hj⟩
        · exact .inl hi
        · exact .inr ⟨Nat.le_refl _, _, (hcell j).trans (List.getElem?_eq_getElem (by omega))⟩)
      let g : Gh := ⟨.slice (some ⟨w.heap.size, 0, none⟩) n n, fun k => k = w.heap.size⟩
      have hlen := hr.objs.len
      have hml : maxLen = 9223372036854775807 := rfl
      have hnm : n ≤ maxLen := by
        have : n ≤ n * ie.sz := Nat.le_mul_of_pos_right n (Nat.pos_of_ne_zero i7)
        omega
      have hp := hX.push (g := g) (o := .app e ie.sz (match giveEs? l with | some (_, []) => true | _ => false)) (.inr (.inr ⟨w.heap.size, n, n, _, rfl, hin, Nat.le_refl _, hnm, by simpa using hvl, rfl, fun j hj hi => by
          rcases hi with hi | ⟨_, hi⟩
          · have := hr.objs.lt hi; omega
          · omega, fun hd => by
          split at hd
          · rename_i r eg
            obtain ⟨own, o1, o2, o3⟩ := gives_deep (giveEs_cells eg) e3 e4
            refine ⟨fun _ _ => False, fun j x hx => .one _ x (fun a m q ex => ?_), fun _ _ h => h.elim, fun _ _ _ _ h => h.elim⟩
            rcases o3 j x (by simpa using hx) with ⟨_, h2⟩ | ⟨m', gm, h1, _⟩
            · exact absurd ex (h2 a m q)
            · have : m' ∈ own.filterMap id := by rw [List.mem_filterMap]; exact ⟨some m', List.mem_of_getElem? h1, rfl⟩
              rw [o2] at this; cases this
          · cases hd⟩)) (fun b hb => by
          have hb' : b = w.heap.size := hb
          subst hb'
          refine ⟨by simp, .inr hr.fr.size, fun k g' e hb => ?_⟩
          have := hr.objs.inb k g' _ e hb
          omega)
      refine ⟨_, _, hrun, _, hK, I', G ++ [g], hp.put ?_ dst⟩
      have hvn := e3.mono (fun _ _ h => .inl h : ∀ b j, I b j → I' b j) (fun b j hi => hg.cell (hr.objs.lt hi)) (roots_push G g)
      refine .sl w.heap.size n s.h.length l g (by rw [← hlen]; simp) rfl (by have := hv.len; simp at this; omega) (VAc.of_vals hvn e4 (fun j v hj => ?_))
      have hlt := (List.getElem?_eq_some_iff.1 hj).1
      exact ⟨by rw [Nat.zero_add, hcell]; exact hj, .inr ⟨rfl, by omega⟩⟩
    · exact hK.elim
  · exact hK.elim
end
end Go.Ab
/- A piece of code whose condition holds does what is asked. -/
namespace Go.Ab
open Go
set_option linter.unusedVariables false
set_option linter.unusedSimpArgs false
section
variable {P : Program} {T : Ty} {w w' : World} {I I' : Im} {G : List Gh} {c : Cx} {s : St} {a : Act}
theorem upon_does {o : Oper} {K : St → Prop} {N : Act → World → Prop} {Q : Exit → Act → World → Prop} (hN : ∀ s a w, K s → Rel c s a w → N a w) {m : Sem Value} (h : Does P c a w m o.dst K) :
    o.upon P a N Q ((do pure (Next.value (← m)) : Sem Next).run P w) := by
  obtain ⟨v, w', h1, s', h2, h3⟩ := h
  simp only [Sem.run_bind, h1, Result.andThen_ok, Sem.run_pure]
  exact hN _ _ _ h2 h3
theorem upon_doesU {o : Oper} {K : St → Prop} {N : Act → World → Prop} {Q : Exit → Act → World → Prop} (hN : ∀ s a w, K s → Rel c s a w → N a w) {m : Sem Unit} (h : DoesU P c a w m o.dst K) :
    o.upon P a N Q ((do m; pure Next.skip : Sem Next).run P w) := by
  obtain ⟨w', h1, s', h2, h3⟩ := h
  simp only [Sem.run_bind, h1, Result.andThen_ok, Sem.run_pure]
  exact hN _ _ _ h2 h3
theorem upon_now {o : Oper} {K : St → Prop} {N : Act → World → Prop} {Q : Exit → Act → World → Prop} (hN : ∀ s a w, K s → Rel c s a w → N a w) (hr : RelX c s a w I G) {v : Value} {r : A} (hv : VA w I G v r)
    (hk : K (s.put o.dst r)) : o.upon P a N Q ((pure (Next.value v) : Sem Next).run P w) := hN _ _ _ hk ⟨I, G, hr.put hv o.dst⟩
theorem VA.inv_fn {x : Value} {f : Nat} {l : List A} (h : VA w I G x (.fn f l)) : ∃ cs : List Value, x = .func (.func f) #[] cs.toArray ∧ VAs w I G cs l := by
  cases h with
  | fn f cs l h => exact ⟨cs, rfl, h⟩
theorem VAs.inv1 {x : List Value} {p : A} (h : VAs w I G x [p]) : ∃ v, x = [v] ∧ VA w I G v p := by
  cases h with
  | cons h1 h2 => cases h2; exact ⟨_, rfl, h1⟩
theorem VAs.inv2 {x : List Value} {p q : A} (h : VAs w I G x [p, q]) : ∃ v u, x = [v, u] ∧ VA w I G v p ∧ VA w I G u q := by
  cases h with
  | cons h1 h2 => obtain ⟨u, rfl, h3⟩ := h2.inv1; exact ⟨_, _, rfl, h1, h3⟩
theorem run_builtin {b : Builtin} {args : Array Operand} {ts : Array TypeId} {ty : TypeId} (ρ : Operand → Value) :
    ((do let d ← resolve ρ { callee := .builtin b, args, argTypes := ts } ty; invoke d.target d.args : Sem Next)) = builtin b ts ty (args.map fun | .const _ => true | _ => false) (args.map ρ) := rfl
theorem run_callFunc {g : FuncId} {fn : Func} (hfn : P.funcs[g]? = some fn) (hname : (fn.name == "runtime.NumGoroutine") = false) (hbody : fn.body.isNone = false) (args : Array Value) :
    (callFunc g args).run P w = .ok (.enter g args) w := by
  simp only [callFunc, Sem.run_bind, run_program, Result.andThen_ok, hfn, hname, hbody]
  rfl
theorem builtin_sound (hT : TOk P T) {b : Builtin} {args : Array Operand} {ts : Array TypeId} {dst : Option Nat} {type : TypeId} {pos : String} {after : Array Edge} {guard : Option (Nat × Bool)} {K : St → Prop} {N : Act → World → Prop} {Q : Exit → Act → World → Prop}
    (hN : ∀ s a w, K s → Rel c s a w → N a w) (h : vcBuiltin T b ts.toList (opds s.t args.toList) s dst K) (hr : RelX c s a w I G) : (Oper.mk dst (.call ⟨.builtin b, args, ts⟩) type pos after guard).wp P a w N Q := by
  have ev := fun x => VA.eval hr.tmps x
  unfold Oper.wp
  have hargs := VAs.evals hr.tmps args.toList
  have hmap : args.map a.eval = (args.toList.map a.eval).toArray := by apply Array.ext'; simp
  have hexec : execOp a.eval ⟨dst, .call ⟨.builtin b, args, ts⟩, type, pos, after, guard⟩ = builtin b ts type (args.map fun | .const _ => true | _ => false) (args.toList.map a.eval).toArray := by
    rw [← hmap]; rfl
  rw [hexec]
  have htl : ts = ts.toList.toArray := by simp
  unfold vcBuiltin at h
  split at h
  · rename_i t x ets eargs
    rw [eargs] at hargs
    obtain ⟨v, ev', hv⟩ := hargs.inv1
    obtain ⟨h1, h2⟩ := h
    split at h2
    · rename_i n en
      rw [ev', htl, ets]
      have := yields_len (P := P) (ty := type) hT hr.objs hv h1 en
      simp only [builtin, Sem.run_bind]
      rw [this]
      exact hN _ _ _ h2 ⟨I, G, hr.put (.d (.v _ rfl)) dst⟩
    · exact h2.elim
  · rename_i t u x y ets eargs
    rw [eargs] at hargs
    obtain ⟨v1, v2, ev', hv1, hv2⟩ := hargs.inv2
    rw [ev', htl, ets]
    exact upon_does hN (does_append hT hr hv1 hv2 h)
  · rename_i x y eargs
    rw [eargs] at hargs
    obtain ⟨v1, v2, ev', hv1, hv2⟩ := hargs.inv2
    obtain rfl := hv1.inv_v
    obtain rfl := hv2.inv_v
    rw [ev']
    have hrun : (Builtin.min_ ts type [Value.int .i64 x, Value.int .i64 y].toArray).run P w = .ok (.int .i64 (if y < x then y else x)) w := by
      simp [Builtin.min_, Builtin.min2]
    simp only [builtin, Sem.run_bind]
    rw [hrun]
    exact hN _ _ _ h ⟨I, G, hr.put (.d (.v _ rfl)) dst⟩
  · rename_i x y eargs
    rw [eargs] at hargs
    obtain ⟨v1, v2, ev', hv1, hv2⟩ := hargs.inv2
    obtain rfl := hv1.inv_v
    obtain rfl := hv2.inv_v
    rw [ev']
    have hrun : (Builtin.max_ ts type [Value.int .i64 x, Value.int .i64 y].toArray).run P w = .ok (.int .i64 (if x < y then y else x)) w := by
      simp [Builtin.max_, Builtin.max2]
    simp only [builtin, Sem.run_bind]
    rw [hrun]
    exact hN _ _ _ h ⟨I, G, hr.put (.d (.v _ rfl)) dst⟩
  · exact h.elim
theorem op_sound (hT : TOk P T) {o : Oper} {K : St → Prop} {N : Act → World → Prop} {Q : Exit → Act → World → Prop} (hN : ∀ s a w, K s → Rel c s a w → N a w) (h : vcOp P T o.op o.dst s K) (hR : Rel c s a w) :
    o.wp P a w N Q := by
  obtain ⟨I, G, hr⟩ := hR
  obtain ⟨dst, op, type, pos, after, guard⟩ := o
  have ev := fun x => VA.eval hr.tmps x
  unfold Oper.wp
  simp only at h
  unfold vcOp at h
  split at h
  · exact upon_now hN hr (ev _) h
  · exact upon_now hN hr (ev _) h
  · rename_i x y z
    split at h
    · rename_i b e
      have hx := ev x
      rw [e] at hx
      have hx := hx.inv_v
      have hrun : (execOp a.eval ⟨dst, .pick x y z, type, pos, after, guard⟩).run P w = .ok (.value (if b then a.eval y else a.eval z)) w := by
        simp [execOp, hx, asBool]
      rw [hrun]
      cases b with
      | true => exact hN _ _ _ (h.1 rfl) ⟨I, G, hr.put (ev y) dst⟩
      | false => exact hN _ _ _ (h.2 rfl) ⟨I, G, hr.put (ev z) dst⟩
    · exact h.elim
  · split at h
    · rename_i l e
      exact upon_does hN (does_box hr (ev _) e h)
    · exact h.elim
  · split at h
    · rename_i i e
      exact upon_does hN (does_alloc hT hr e h)
    · exact h.elim
  · exact upon_does hN (Yields.does hr (yields_load hT hr.objs (ev _) h))
  · exact upon_doesU hN (does_store hT hr (ev _) (ev _) h)
  · rename_i x
    have hx := ev x
    split at h
    · rename_i l e
      rw [e] at hx
      have hrun : (execOp a.eval ⟨dst, .nilCheck x, type, pos, after, guard⟩).run P w = .ok (.value (a.eval x)) w := by
        cases hx' : a.eval x <;> rw [hx'] at hx <;> cases hx <;> simp [execOp, hx']
      rw [hrun]; exact hN _ _ _ h ⟨I, G, hr.put hx dst⟩
    · rename_i k o e
      rw [e] at hx
      have hrun : (execOp a.eval ⟨dst, .nilCheck x, type, pos, after, guard⟩).run P w = .ok (.value (a.eval x)) w := by
        cases hx' : a.eval x <;> rw [hx'] at hx <;> cases hx <;> simp [execOp, hx']
      rw [hrun]; exact hN _ _ _ h ⟨I, G, hr.put hx dst⟩
    · rename_i k sz j o e
      rw [e] at hx
      have hrun : (execOp a.eval ⟨dst, .nilCheck x, type, pos, after, guard⟩).run P w = .ok (.value (a.eval x)) w := by
        cases hx' : a.eval x <;> rw [hx'] at hx <;> cases hx <;> simp [execOp, hx']
      rw [hrun]; exact hN _ _ _ h ⟨I, G, hr.put hx dst⟩
    · rename_i f l e
      rw [e] at hx
      have hrun : (execOp a.eval ⟨dst, .nilCheck x, type, pos, after, guard⟩).run P w = .ok (.value (a.eval x)) w := by
        cases hx' : a.eval x <;> rw [hx'] at hx <;> cases hx <;> simp [execOp, hx']
      rw [hrun]; exact hN _ _ _ h ⟨I, G, hr.put hx dst⟩
    · exact h.elim
  · exact upon_does hN (Yields.does hr (yields_binT hT (ev _) (ev _) h))
  · exact upon_does hN (Yields.does hr (yields_un (ev _) h))
  · exact upon_does hN (Yields.does hr (yields_fieldAddr hT (ev _) h))
  · exact upon_does hN (Yields.does hr (yields_field hT (ev _) h))
  · exact upon_does hN (Yields.does hr (yields_indexAddr hT hr.objs (ev _) (ev _) h))
  · exact upon_does hN (Yields.does hr (yields_index hT (ev _) (ev _) h))
  · rename_i t x lo hi
    have hsub : ∀ (o : Option Operand) (v : Value) (q : A), o.map a.eval = some v → o.map (opd s.t) = some q → VA w I G v q := fun o v q h1 h2 => by
      cases o with
      | none => simp at h1
      | some y => simp at h1 h2; rw [← h1, ← h2]; exact ev y
    split at h
    · exact h _ _ _ _ c a w ⟨I, G, hr⟩ N Q hN
    · exact upon_does hN (Yields.does hr (yields_slice hT (ev _) (hsub lo) (by cases lo <;> simp) (hsub hi) (by cases hi <;> simp) h))
  · rename_i t parts
    have := yields_build (w := w) (I := I) (G := G) hT (t := t) (parts := parts.toList.map fun p => (p.1, a.eval p.2)) (ap := parts.toList.map fun p => (p.1, opd s.t p.2)) (K := fun r => K (s.put dst r))
      (by simpa [Function.comp_def] using VAs.evals' hr.tmps (parts.toList.map (·.2))) (by simp [Function.comp_def]) h
    have e : (parts.map fun (i, x) => (i, a.eval x)) = (parts.toList.map fun p => (p.1, a.eval p.2)).toArray := by
      apply Array.ext'; simp
    have hd := Yields.does (dst := dst) hr this
    rw [← e] at hd
    exact upon_does hN hd
  · rename_i t n parts
    have := does_buildSlice (dst := dst) (K := K) (P := P) hT hr (t := t) (n := n) (parts := parts.toList.map fun p => (p.1, a.eval p.2)) (l := parts.toList.map fun p => opd s.t p.2)
      (by simpa [Function.comp_def] using VAs.evals' hr.tmps (parts.toList.map (·.2))) (by simpa [Function.comp_def] using h)
    have e : (parts.map fun (i, x) => (i, a.eval x)) = (parts.toList.map fun p => (p.1, a.eval p.2)).toArray := by
      apply Array.ext'; simp
    rw [← e] at this
    exact upon_does hN this
  · exact upon_does hN (does_make hT hr (ev _) (ev _) h)
  · rename_i f caps
    have hv : VA w I G (.func (.func f) #[] (caps.map a.eval)) (.fn f (opds s.t caps.toList)) := by
      have := VA.fn f _ _ (VAs.evals hr.tmps caps.toList)
      have e : (caps.toList.map a.eval).toArray = caps.map a.eval := by apply Array.ext'; simp
      rwa [e] at this
    have hrun : (execOp a.eval ⟨dst, .makeFunc (.func f) ⟨[]⟩ caps, type, pos, after, guard⟩).run P w = .ok (.value (.func (.func f) #[] (caps.map a.eval))) w := by
      simp [execOp, Instr.makeFunc]
    rw [hrun]; exact hN _ _ _ h ⟨I, G, hr.put hv dst⟩
  · rename_i x i
    have hx := ev x
    split at h
    · rename_i l e
      obtain ⟨y, hy, h⟩ := h
      rw [e] at hx
      generalize hv : a.eval x = v at hx
      cases hx with
      | tup cs l hl =>
        obtain ⟨z, h1, h2⟩ := hl.get hy
        have hrun : (execOp a.eval ⟨dst, .extract x i, type, pos, after, guard⟩).run P w = .ok (.value z) w := by
          simp [execOp, hv, Instr.extract, h1]
        rw [hrun]; exact hN _ _ _ h ⟨I, G, hr.put h2 dst⟩
    · exact h.elim
  · exact h _ _ _ _ c a w ⟨I, G, hr⟩ N Q hN
  · exact h _ _ _ _ c a w ⟨I, G, hr⟩ N Q hN
  · exact h _ _ _ _ c a w ⟨I, G, hr⟩ N Q hN
  · rename_i args ts
    split at h
    · exact h _ _ _ _ c a w ⟨I, G, hr⟩ N Q hN
    · rename_i el hne
      exact builtin_sound hT hN (b := .append) (args := args) (ts := ts) h hr
  · exact builtin_sound hT hN h hr
  · rename_i f args ts
    have hargs := VAs.evals hr.tmps args.toList
    have hf := ev f
    unfold vcCall at h
    split at h
    · rename_i g caps ef
      rw [ef] at hf
      obtain ⟨cs, hcs, hcaps⟩ := hf.inv_fn
      obtain ⟨⟨fn, hfn, hname, hbody⟩, hcall⟩ := h
      have hrun : (execOp a.eval ⟨dst, .call ⟨.value f, args, ts⟩, type, pos, after, guard⟩).run P w = .ok (.enter g (args.toList.map a.eval ++ cs).toArray) w := by
        have hmap : args.map a.eval ++ cs.toArray = (args.toList.map a.eval ++ cs).toArray := by apply Array.ext'; simp
        have h1 : execOp a.eval ⟨dst, .call ⟨.value f, args, ts⟩, type, pos, after, guard⟩ = callFunc g (args.map a.eval ++ cs.toArray) := by
          simp only [execOp, resolve, hcs, Deferred.ofValue, pure_bind, invoke, Array.empty_append]
        rw [h1, run_callFunc hfn hname hbody, hmap]
      rw [hrun]
      exact (hcall c a w I G hr _ (hargs.append hcaps)).mono fun e w' ⟨v, he, s', hs', hrel⟩ => by
        subst he; exact hN _ _ _ hs' hrel
    · exact h.elim
  · exact h _ _ _ _ c a w ⟨I, G, hr⟩ N Q hN
theorem VAs.set_at : ∀ {xs : List Value} {l : List A}, VAs w I G xs l → ∀ {d : Nat} {q : A}, (∀ x, xs[d]? = some x → VA w I G x q) → VAs w I G xs (l.set d q)
  | _, _, .nil, _, _, _ => .nil
  | _, _, .cons _ h2, 0, _, h => .cons (h _ rfl) h2
  | _, _, .cons h1 h2, d + 1, _, h => .cons h1 (h2.set_at (fun x hx => h x (by simpa using hx)))
theorem VA.inv_unit {x : Value} (h : VA w I G x (.tup [])) : x = undef := by
  cases h with
  | tup cs l h => cases h; rfl
/-- What hangs on an operation that was left out is left out. -/
theorem unwanted {ops : Array Oper} {o : Oper} {j d : Nat} {want : Bool} (eg : o.guard = some (j, want)) (ed : (ops.toList[j]?).bind (·.dst) = some d) (eb : s.t.getD d .any = .tup []) (hr : RelX c s a w I G) : Region.wanted o (yielded ops a.tmps) = false := by
  have hd : d < s.t.length := by
    rcases Nat.lt_or_ge d s.t.length with h | h
    · exact h
    · rw [List.getD_eq_getElem?_getD, List.getElem?_eq_none h] at eb; cases eb
  have hget : s.t[d]? = some (.tup []) := by
    rw [List.getD_eq_getElem?_getD, List.getElem?_eq_getElem hd] at eb
    rw [List.getElem?_eq_getElem hd]
    simpa using eb
  obtain ⟨x, hx, hv⟩ := hr.tmps.get hget
  obtain rfl := hv.inv_unit
  have e1 : (ops[j]?).bind (·.dst) = some d := by simpa using ed
  have e2 : a.tmps[d]? = some undef := by simpa using hx
  simp [Region.wanted, eg, yielded, e1, e2, undef]
theorem ops_sound (hT : TOk P T) {ops : Array Oper} {K : St → Prop} {Q : Exit → Act → World → Prop} (hQ : ∀ s a w, K s → Rel c s a w → Q .normal a w) :
    ∀ (l : List Oper) (s : St) (a : Act) (w : World), vcOps P T ops.toList l s K → Rel c s a w → wpList P ops Q l a w
  | [], s, a, w, h, hR => hQ _ _ _ h hR
  | o :: l, s, a, w, h, hR => by
    have yes : ∀ s, Rel c s a w → Region.wanted o (yielded ops a.tmps) = true → (vcOp P T o.op o.dst s fun s => vcOps P T ops.toList l s K) → wpList P ops Q (o :: l) a w := fun s hR hw h => by
      unfold wpList
      rw [if_pos hw]
      exact .inl (op_sound hT (fun s a w h hR => ops_sound hT hQ l s a w h hR) h hR)
    have no : ∀ s, Rel c s a w → Region.wanted o (yielded ops a.tmps) = false → vcOps P T ops.toList l (s.put o.dst (.tup [])) K → wpList P ops Q (o :: l) a w := fun s hR hw h => by
      unfold wpList
      rw [if_neg (by rw [hw]; decide)]
      obtain ⟨I, G, hr⟩ := hR
      exact ops_sound hT hQ l _ _ _ h ⟨I, G, hr.put (v := undef) (.tup [] [] .nil) _⟩
    simp only [vcOps] at h
    unfold vcGuard at h
    split at h
    · rename_i eg
      exact yes s hR (by simp [Region.wanted, eg]) h
    · rename_i j want eg
      split at h
      · exact h.elim
      · rename_i d ed
        split at h
        · rename_i b eb
          obtain ⟨I, G, hr⟩ := hR
          have hd : d < s.t.length := by
            rcases Nat.lt_or_ge d s.t.length with h | h
            · exact h
            · rw [List.getD_eq_getElem?_getD, List.getElem?_eq_none h] at eb; cases eb
          have hget : s.t[d]? = some (.d (.v (.bool b))) := by
            rw [List.getD_eq_getElem?_getD, List.getElem?_eq_getElem hd] at eb
            rw [List.getElem?_eq_getElem hd]
            simpa using eb
          obtain ⟨x, hx, hv⟩ := hr.tmps.get hget
          obtain rfl := hv.inv_v
          have hy : yielded ops a.tmps j = some b := by
            have e1 : (ops[j]?).bind (·.dst) = some d := by simpa using ed
            have e2 : a.tmps[d]? = some (.bool b) := by simpa using hx
            simp [yielded, e1, e2]
          have hw : Region.wanted o (yielded ops a.tmps) = (b == want) := by
            simp [Region.wanted, eg, hy]
          have hX : ∀ b' : Bool, b = b' → Rel c ⟨s.t.set d (.bool b'), s.h, s.p⟩ a w := fun b' e => by
            subst e
            exact ⟨I, G, hr.defers, hr.tmps.set_at (fun y hy => by rw [hx] at hy; cases hy; exact .d (.v _ rfl)), hr.objs, hr.fr, hr.pr⟩
          by_cases hbw : b = want
          · exact yes _ (hX want hbw) (by rw [hw, hbw]; simp) (h.1 hbw)
          · have hbn : b = !want := by cases b <;> cases want <;> simp_all
            exact no _ (hX _ hbn) (by rw [hw]; simp [hbw]) (h.2 hbn)
        · rename_i eb
          obtain ⟨I, G, hr⟩ := hR
          exact no _ ⟨I, G, hr⟩ (unwanted eg ed eb hr) h
        · exact h.elim
theorem post_mono {Kn Kr Kn' Kr' : St → Prop} {Kx Kx' : Nat → St → Prop} (hn : ∀ s, Kn s → Kn' s) (hr : ∀ s, Kr s → Kr' s) (hx : ∀ i s, Kx i s → Kx' i s) (e : Exit) (a : Act) (w : World) (h : post c Kn Kr Kx e a w) : post c Kn' Kr' Kx' e a w := by
  cases e with
  | normal => obtain ⟨s, h1, h2⟩ := h; exact ⟨s, hn s h1, h2⟩
  | ret => obtain ⟨s, h1, h2⟩ := h; exact ⟨s, hr s h1, h2⟩
  | exit i => obtain ⟨s, h1, h2⟩ := h; exact ⟨s, hx i s h1, h2⟩
  | _ => exact h
/-- **A piece of code whose condition holds does what is asked.** -/
theorem vc_sound (hT : TOk P T) : ∀ (code : Code) (Kn Kr : St → Prop) (Kx : Nat → St → Prop) (s : St) (a : Act) (w : World), vc P T code Kn Kr Kx s → Rel c s a w → code.wp P (post c Kn Kr Kx) a w
  | .skip, Kn, Kr, Kx, s, a, w, h, hR => wp_skip ⟨s, h, hR⟩
  | .region id ops false, Kn, Kr, Kx, s, a, w, h, hR => by
    simp only [vc] at h
    exact wp_region_list (ops_sound (c := c) hT (fun s a w h hR => ⟨s, h, hR⟩) _ _ _ _ h hR)
  | .region id ops true, Kn, Kr, Kx, s, a, w, h, hR => by
    simp only [vc] at h
    exact Code.wp_mono (fun e a w hp => post_mono (fun _ h => h) (fun _ h => h.elim) (fun _ _ h => h.elim) e a w hp) (h c a w hR)
  | .seq x y, Kn, Kr, Kx, s, a, w, h, hR => by
    simp only [vc] at h
    have h1 := vc_sound hT x (fun s => vc P T y Kn Kr Kx s) Kr Kx s a w h hR
    refine wp_seq (Code.wp_mono (fun e a w hp => ?_) h1)
    cases e with
    | normal => obtain ⟨s, h1, h2⟩ := hp; exact vc_sound hT y Kn Kr Kx s a w h1 h2
    | ret => exact hp
    | exit i => exact hp
    | _ => exact hp.elim
  | .cond x y z, Kn, Kr, Kx, s, a, w, h, hR => by
    simp only [vc] at h
    split at h
    · rename_i t e
      obtain ⟨I, G, hr⟩ := hR
      have hx := VA.eval hr.tmps x
      rw [e] at hx
      exact wp_cond_split hx.inv_v (fun ht => vc_sound hT y Kn Kr Kx s a w (h.1 ht) ⟨I, G, hr⟩) (fun ht => vc_sound hT z Kn Kr Kx s a w (h.2 ht) ⟨I, G, hr⟩)
    · exact h.elim
  | .block id x, Kn, Kr, Kx, s, a, w, h, hR => by
    simp only [vc] at h
    have h1 := vc_sound hT x Kn Kr _ s a w h hR
    refine wp_block (Code.wp_mono (fun e a w hp => ?_) h1)
    cases e with
    | exit i =>
      obtain ⟨s, h1, h2⟩ := hp
      simp only [Exit.inBlock]
      by_cases hi : i = id
      · rw [if_pos hi] at h1 ⊢; exact ⟨s, h1, h2⟩
      · rw [if_neg hi] at h1 ⊢; exact ⟨s, h1, h2⟩
    | normal => exact hp
    | ret => exact hp
    | _ => exact hp.elim
  | .exit id, Kn, Kr, Kx, s, a, w, h, hR => wp_exit ⟨s, h, hR⟩
  | .ret, Kn, Kr, Kx, s, a, w, h, hR => wp_ret ⟨s, h, hR⟩
  | .loop x, Kn, Kr, Kx, s, a, w, h, hR => h c a w hR
  | .rangeFunc _ _ _ _, _, _, _, _, _, _, h, _ => h.elim
  | .scope _, _, _, _, _, _, _, h, _ => h.elim
  | .label _, _, _, _, _, _, _, h, _ => h.elim
  | .goto _, _, _, _, _, _, _, h, _ => h.elim
  | .refuse _, _, _, _, _, _, _, h, _ => h.elim
end
end Go.Ab
/- Contracts of functions; how one is shown, and how it is used; loops. -/
namespace Go.Ab
open Go
set_option linter.unusedVariables false
set_option linter.unusedSimpArgs false

mutual
/-- What is said of a value may be said less exactly: below n the objects stay, from n to m they are rows of no element. -/
def A.le (n m : Nat) : A → A → Prop
  | .d x, b => match b with
    | .any => True
    | .d y => x = y
    | .agg l => ∃ q, x = .agg q ∧ l = q.map A.d
    | _ => False
  | .nil, b => match b with
    | .any => True
    | .d y => y = .lst []
    | .nil => True
    | .own k l => n ≤ k ∧ k < m ∧ l = []
    | .raw y => y = .slice none 0 0
    | _ => False
  | .own k l, b => match b with
    | .any => True
    | .d y => y = .lst l
    | .own k' l' => k = k' ∧ k < n ∧ l = l'
    | _ => False
  | .sl k l, b => match b with
    | .any => True
    | .d y => ∃ r, toEs? l = some r ∧ y = .lst r
    | .own k' l' => k = k' ∧ k < n ∧ toEs? l = some l'
    | _ => False
  | .agg l, b => match b with
    | .any => True
    | .d y => ∃ q, toDs? l = some q ∧ y = .agg q
    | .agg l' => A.lel n m l l'
    | _ => False
  | .tup l, b => match b with
    | .any => True
    | .tup l' => A.lel n m l l'
    | _ => False
  | .rptr l, b => match b with
    | .any => True
    | .rptr l' => l = l'
    | _ => False
  | .ref k o, b => match b with
    | .any => True
    | .ref k' o' => k = k' ∧ o = o' ∧ k < n
    | _ => False
  | .arr k, b => match b with
    | .any => True
    | .arr k' => k = k' ∧ k < n
    | _ => False
  | .eptr k sz i o, b => match b with
    | .any => True
    | .eptr k' sz' i' o' => k = k' ∧ sz = sz' ∧ i = i' ∧ o = o' ∧ k < n
    | _ => False
  | .fn f l, b => match b with
    | .any => True
    | .fn f' l' => f = f' ∧ A.lel n m l l'
    | _ => False
  | .mp k, b => match b with
    | .any => True
    | .mp k' => k = k' ∧ k < n
    | _ => False
  | .raw x, b => match b with
    | .any => True
    | .raw y => x = y
    | _ => False
  | .any, b => match b with
    | .any => True
    | _ => False
def A.lel (n m : Nat) : List A → List A → Prop
  | [], b => match b with
    | [] => True
    | _ => False
  | x :: l, b => match b with
    | y :: l' => A.le n m x y ∧ A.lel n m l l'
    | [] => False
end
def O.le (n m : Nat) : O → O → Prop
  | .box t l, .box t' l' => t = t' ∧ A.lel n m l l'
  | .app t sz dp, .app t' sz' dp' => t = t' ∧ sz = sz' ∧ (dp' = true → dp = true)
  | .row t sz l, .row t' sz' l' => t = t' ∧ sz = sz' ∧ ((∃ q, toEs? l = some q ∧ l' = q.map A.d) ∨ (l = l' ∧ ∀ x ∈ l, A.le n m x x))
  | .map k v l, .map k' v' l' => k = k' ∧ v = v' ∧ l = l'
  | .opn r t sz l, .opn r' t' sz' l' => r = r' ∧ t = t' ∧ sz = sz' ∧ l = l' ∧ ∀ x ∈ l, A.le n m x x
  | .forest l, .forest l' => l'.Sublist l
  | _, .dead => True
  | _, _ => False
def O.lel (n m : Nat) : List O → List O → Prop
  | [], [] => True
  | [], .app _ _ _ :: r => O.lel n m [] r
  | [], .forest l :: r => (∀ p ∈ l, p = (.slice none 0 0, .lst [])) ∧ O.lel n m [] r
  | o :: l, o' :: l' => O.le n m o o' ∧ O.lel n m l l'
  | _, _ => False
/-- s may be taken for s'. -/
def St.Le (n : Nat) (s s' : St) : Prop := n ≤ s.h.length ∧ s.p ≤ n ∧ s'.p = s.p ∧ A.lel n s'.h.length s.t s'.t ∧ O.lel n s'.h.length (s.h.take n) s'.h

section
variable {P : Program} {T : Ty} {w w' : World} {I I' : Im} {G G' : List Gh} {c : Cx} {s s' : St} {a : Act}
def nilGh : Gh := ⟨.slice none 0 0, fun _ => False⟩
structure Roots (G G' : List Gh) (n m : Nat) : Prop where
  low : ∀ (k : Nat) (g : Gh), k < n → G[k]? = some g → G'[k]? = some g
  new : ∀ k, n ≤ k → k < m → G'[k]? = some nilGh
mutual
theorem VA.le {n m : Nat} (hG : Roots G G' n m) : ∀ {x a b}, VA w I G x a → A.le n m a b → VA w I G' x b
  | _, _, b, .d h, hl => by
    cases b <;> simp only [A.le] at hl
    · subst hl; exact .d h
    · obtain ⟨q, rfl, rfl⟩ := hl
      cases h with
      | agg cs l h => exact .agg cs _ h.toA h.one
    · exact .any _
  | _, _, b, .nil, hl => by
    cases b <;> simp only [A.le] at hl
    · subst hl; exact .d .lnil
    · exact .nil
    · obtain ⟨h1, h2, rfl⟩ := hl
      exact .own _ [] nilGh (hG.new _ h1 h2) rfl .lnil
    · subst hl; exact .raw _ rfl
    · exact .any _
  | _, _, b, .own k l g h1 h2 h3, hl => by
    cases b <;> simp only [A.le] at hl
    · subst hl; exact .d h3
    · obtain ⟨rfl, h, rfl⟩ := hl; exact .own k l g (hG.low k g h h1) h2 h3
    · exact .any _
  | _, _, b, .sl bb nn k l g h1 h2 h3 h4, hl => by
    have hv : VA w I G _ (.sl k l) := .sl bb nn k l g h1 h2 h3 h4
    cases b <;> simp only [A.le] at hl
    · obtain ⟨r, e, rfl⟩ := hl; exact .d (hv.row e)
    · obtain ⟨rfl, h, e⟩ := hl; exact .own k _ g (hG.low k g h h1) h2 (hv.row e)
    · exact .any _
  | _, _, b, .agg cs l h h1, hl => by
    cases b <;> simp only [A.le] at hl
    · obtain ⟨q, e, rfl⟩ := hl; exact .d (.agg cs q (toDs_cells h1 h e))
    · exact .agg cs _ (VAs.le hG h hl) h1
    · exact .any _
  | _, _, b, .tup cs l h, hl => by
    cases b <;> simp only [A.le] at hl
    · exact .tup cs _ (VAs.le hG h hl)
    · exact .any _
  | _, _, b, .rptr bb o l h, hl => by
    cases b <;> simp only [A.le] at hl
    · subst hl; exact .rptr bb o l h
    · exact .any _
  | _, _, b, .ref bb k o g h1 h2, hl => by
    cases b <;> simp only [A.le] at hl
    · obtain ⟨rfl, rfl, h⟩ := hl; exact .ref bb k o g (hG.low k g h h1) h2
    · exact .any _
  | _, _, b, .arr k g h1 h2 h3, hl => by
    cases b <;> simp only [A.le] at hl
    · obtain ⟨rfl, h⟩ := hl; exact .arr k g (hG.low k g h h1) h2 h3
    · exact .any _
  | _, _, b, .eptr bb k sz i o nn cc g h1 h2, hl => by
    cases b <;> simp only [A.le] at hl
    · obtain ⟨rfl, rfl, rfl, rfl, h⟩ := hl; exact .eptr bb k sz i o nn cc g (hG.low k g h h1) h2
    · exact .any _
  | _, _, b, .fn f cs l h, hl => by
    cases b <;> simp only [A.le] at hl
    · obtain ⟨rfl, h1⟩ := hl; exact .fn f cs _ (VAs.le hG h h1)
    · exact .any _
  | _, _, b, .mp r k g h1 h2, hl => by
    cases b <;> simp only [A.le] at hl
    · obtain ⟨rfl, h⟩ := hl; exact .mp r k g (hG.low k g h h1) h2
    · exact .any _
  | _, _, b, .raw x h, hl => by
    cases b <;> simp only [A.le] at hl
    · subst hl; exact .raw _ h
    · exact .any _
  | _, _, b, .any x, hl => by
    cases b <;> simp only [A.le] at hl
    exact .any _
theorem VAs.le {n m : Nat} (hG : Roots G G' n m) : ∀ {x a b}, VAs w I G x a → A.lel n m a b → VAs w I G' x b
  | _, _, [], .nil, _ => .nil
  | _, _, _ :: _, .nil, h => h.elim
  | _, _, [], .cons _ _, h => h.elim
  | _, _, _ :: _, .cons h1 h2, h => .cons (VA.le hG h1 h.1) (VAs.le hG h2 h.2)
end
theorem VAs.le_each {n m : Nat} (hG : Roots G G' n m) : ∀ {xs : List Value} {l : List A}, VAs w I G xs l → (∀ x ∈ l, A.le n m x x) → VAs w I G' xs l
  | _, _, .nil, _ => .nil
  | _, _, .cons h1 h2, h => .cons (VA.le hG h1 (h _ List.mem_cons_self)) (VAs.le_each hG h2 (fun x hx => h x (List.mem_cons_of_mem _ hx)))
theorem le_cells {n m : Nat} {x : A} (h : A.le n m x x) : ∀ y ∈ x.cells, A.le n m y y := by
  have list : ∀ {l : List A}, A.lel n m l l → ∀ y ∈ l, A.le n m y y := fun {l} => by
    induction l with
    | nil => intro _ y hy; cases hy
    | cons z l ih =>
      intro h y hy
      cases hy with
      | head => exact h.1
      | tail _ hy => exact ih h.2 y hy
  cases x with
  | d x => cases x with
    | agg l => intro y hy; simp only [A.cells] at hy; obtain ⟨z, _, rfl⟩ := List.mem_map.1 hy; simp [A.le]
    | _ => intro y hy; simp only [A.cells, List.mem_singleton] at hy; subst hy; exact h
  | agg l => intro y hy; simp only [A.cells] at hy; exact list (by simpa [A.le] using h) y hy
  | _ => intro y hy; simp only [A.cells, List.mem_singleton] at hy; subst hy; exact h
theorem toEs_map (q : List D) : toEs? (q.map A.d) = some q := by
  induction q with
  | nil => rfl
  | cons x q ih => simp only [List.map_cons, toEs?, A.toE?, A.toD?, ih]
theorem flat_d (q : List D) : (q.map A.d).flatMap A.cells = (q.flatMap D.cells).map A.d := by
  induction q with
  | nil => rfl
  | cons x q ih =>
    rw [List.map_cons, List.flatMap_cons, ih, List.flatMap_cons, List.map_append]
    congr 1
    cases x <;> rfl
theorem cellsE {x : A} {y : D} (e : x.toE? = some y) : x.cells.length = y.cells.length := by
  have := toDs_len (toE_cells e); exact this
theorem Forest.sub {l l' : List (Value × D)} (hs : l'.Sublist l) : ∀ {F : Nat → Prop}, Forest w F l → Forest w F l' := by
  induction hs with
  | slnil => exact fun h => h
  | cons a hs ih =>
    rintro F ⟨Fs, h1, h2, h3⟩
    exact ih ⟨fun m => Fs (m + 1), fun m v d e => h1 (m + 1) v d (by simpa using e), fun m k => h2 (m + 1) k, fun i j k hij => h3 (i + 1) (j + 1) k (by omega)⟩
  | cons_cons a hs ih =>
    rintro F ⟨Fs, h1, h2, h3⟩
    obtain ⟨Fs1, k1, k2, k3⟩ := ih (F := fun b => ∃ m, Fs (m + 1) b) ⟨fun m => Fs (m + 1), fun m v d e => h1 (m + 1) v d (by simpa using e), fun m k h => ⟨m, h⟩, fun i j k hij => h3 (i + 1) (j + 1) k (by omega)⟩
    refine ⟨fun m => match m with | 0 => Fs 0 | m + 1 => Fs1 m, fun m v d e => ?_, fun m k h => ?_, fun i j k hij hi hj => ?_⟩
    · cases m with
      | zero => exact h1 0 v d (by simpa using e)
      | succ m => exact k1 m v d (by simpa using e)
    · cases m with
      | zero => exact h2 0 k h
      | succ m => obtain ⟨q, hq⟩ := k2 m k h; exact h2 _ k hq
    · cases i with
      | zero => cases j with
        | zero => exact hij rfl
        | succ j => obtain ⟨q, hq⟩ := k2 j k hj; exact h3 0 (q + 1) k (by omega) hi hq
      | succ i => cases j with
        | zero => obtain ⟨q, hq⟩ := k2 i k hi; exact h3 0 (q + 1) k (by omega) hj hq
        | succ j => exact k3 i j k (by omega) hi hj
theorem ObjR.le {n m : Nat} (hG : Roots G G' n m) {g : Gh} {o o' : O} (h : ObjR w I G g o) (hl : O.le n m o o') (hd : o' = .dead → ∀ k, ¬ g.F k) : ObjR w I G' g o' := by
  cases o' with
  | dead => exact hd rfl
  | box t' l' =>
    cases o <;> simp only [O.le] at hl
    obtain ⟨rfl, hl⟩ := hl
    obtain ⟨b, cs, h1, h2, h3, h4, h5, h6⟩ := h
    exact ⟨b, cs, h1, h2, VAs.le hG h3 hl, h4, h5, h6⟩
  | app t' sz' dp' =>
    cases o <;> simp only [O.le] at hl
    obtain ⟨rfl, rfl, hl⟩ := hl
    exact ObjR.shallow h hl
  | row t' sz' l' =>
    cases o <;> simp only [O.le] at hl
    obtain ⟨rfl, rfl, hl⟩ := hl
    obtain ⟨b, cs, h1, h2, h3, h4, h5, h6, h7⟩ := h
    rcases hl with ⟨q, eq, rfl⟩ | ⟨rfl, hl⟩
    · refine ⟨b, cs, by rw [h1, List.length_map, toEs_len eq], h2, ?_, h4, ?_, h6, h7⟩
      · rw [flat_d]
        exact (toDs_cells h4 h3 (toEs_cells eq)).toA
      · intro x hx
        obtain ⟨y, hy, rfl⟩ := List.mem_map.1 hx
        have hsame : ∀ {z : Nat} {l : List A} {q : List D}, toEs? l = some q → (∀ x ∈ l, x.cells.length = z) → ∀ y ∈ q, y.cells.length = z := by
          intro sz'
          intro l
          induction l with
          | nil => intro q e _ y hy; simp [toEs?] at e; subst e; cases hy
          | cons z l ih =>
            intro q e hz y hy
            simp only [toEs?] at e
            split at e
            · rename_i y0 q0 e1 e2; cases e
              cases hy with
              | head => rw [← cellsE e1]; exact hz z List.mem_cons_self
              | tail _ hy => exact ih e2 (fun x hx => hz x (List.mem_cons_of_mem _ hx)) y hy
            · cases e
        have := hsame eq h5 y hy
        cases y <;> simpa [A.cells, D.cells] using this
    · exact ⟨b, cs, h1, h2, VAs.le_each hG h3 (fun x hx => by
        obtain ⟨z, hz, hx⟩ := List.mem_flatMap.1 hx
        exact le_cells (hl z hz) x hx), h4, h5, h6, h7⟩
  | map k' v' l' =>
    cases o <;> simp only [O.le] at hl
    obtain ⟨rfl, rfl, rfl⟩ := hl
    exact h
  | opn r' t' sz' l' =>
    cases o <;> simp only [O.le] at hl
    obtain ⟨rfl, rfl, rfl, rfl, hl⟩ := hl
    obtain ⟨h0, b, cs, t2, sp, cap, h1, hcap, h2, h3, h4, h5, h6, h7⟩ := h
    refine ⟨h0, b, cs, t2, sp, cap, h1, hcap, h2, VAs.le_each hG h3 (fun x hx => ?_), h4, h5, h6, h7⟩
    rcases List.mem_append.1 hx with hx | hx
    · obtain ⟨z, hz, hx⟩ := List.mem_flatMap.1 hx
      exact le_cells (hl z hz) x hx
    · rw [List.eq_of_mem_replicate hx]; simp [A.le]
  | forest l' =>
    cases o <;> simp only [O.le] at hl
    exact ⟨h.1, h.2.1.sub hl, h.2.2⟩
theorem olel_get {n m : Nat} : ∀ {l l' : List O}, O.lel n m l l' → ∀ {k : Nat} {o' : O}, l'[k]? = some o' → (∃ o, l[k]? = some o ∧ O.le n m o o') ∨ (l.length ≤ k ∧ ((∃ t sz dp, o' = .app t sz dp) ∨ ∃ q, o' = .forest q ∧ ∀ p ∈ q, p = (.slice none 0 0, .lst [])))
  | [], [], _, k, o', h => by simp at h
  | [], .app t sz dp :: r, hl, k, o', h => by
    cases k with
    | zero => simp at h; exact .inr ⟨Nat.le_refl _, .inl ⟨t, sz, dp, h.symm⟩⟩
    | succ k =>
      have hl' : O.lel n m [] r := hl
      rcases olel_get hl' (k := k) (o' := o') (by simpa using h) with ⟨o, e, _⟩ | h
      · simp at e
      · exact .inr ⟨by simp, h.2⟩
  | [], .forest q :: r, hl, k, o', h => by
    cases k with
    | zero => simp at h; exact .inr ⟨Nat.le_refl _, .inr ⟨q, h.symm, hl.1⟩⟩
    | succ k =>
      have hl' : O.lel n m [] r := hl.2
      rcases olel_get hl' (k := k) (o' := o') (by simpa using h) with ⟨o, e, _⟩ | h
      · simp at e
      · exact .inr ⟨by simp, h.2⟩
  | [], .opn _ _ _ _ :: _, hl, _, _, _ => hl.elim
  | [], .box _ _ :: _, hl, _, _, _ => hl.elim
  | [], .row _ _ _ :: _, hl, _, _, _ => hl.elim
  | [], .map _ _ _ :: _, hl, _, _, _ => hl.elim
  | [], .dead :: _, hl, _, _, _ => hl.elim
  | o :: l, [], hl, _, _, _ => hl.elim
  | o :: l, o' :: l', hl, k, q, h => by
    cases k with
    | zero => simp at h; subst h; exact .inl ⟨o, rfl, hl.1⟩
    | succ k =>
      rcases olel_get hl.2 (k := k) (by simpa using h) with ⟨o, e, h⟩ | h
      · exact .inl ⟨o, by simpa using e, h⟩
      · exact .inr ⟨by simpa using h.1, h.2⟩
theorem olel_len {n m : Nat} : ∀ {l l' : List O}, O.lel n m l l' → l.length ≤ l'.length
  | [], _, _ => Nat.zero_le _
  | _ :: _, [], h => h.elim
  | _ :: _, _ :: _, h => by simp; exact olel_len h.2
/-- A state may be taken for one of which less is said. -/
theorem RelX.le {n : Nat} (h : RelX c s a w I G) (hl : s.Le n s') : ∃ G', RelX c s' a w I G' := by
  obtain ⟨hn, hp, hp', ht, ho⟩ := hl
  have hlen := h.objs.len
  have htl : (s.h.take n).length = n := by simp; omega
  have hm : n ≤ s'.h.length := by rw [← htl]; exact olel_len ho
  -- an object that is given up gives up its blocks
  let dd : Nat → Gh → Gh := fun k g => match s'.h[k]? with | some .dead => ⟨g.root, fun _ => False⟩ | _ => g
  have ddr : ∀ k g, (dd k g).root = g.root := fun k g => by simp only [dd]; split <;> rfl
  have ddF : ∀ k g b, (dd k g).F b → g.F b := fun k g b hb => by
    simp only [dd] at hb
    split at hb
    · exact hb.elim
    · exact hb
  let G1 : List Gh := (G.take n).mapIdx dd
  let G' : List Gh := G1 ++ List.replicate (s'.h.length - n) nilGh
  have h1l : G1.length = n := by simp [G1]; omega
  have get1 : ∀ {k : Nat} {g : Gh}, G'[k]? = some g → (k < n ∧ ∃ g0, G[k]? = some g0 ∧ g = dd k g0) ∨ (n ≤ k ∧ k < s'.h.length ∧ g = nilGh) := fun {k g} e => by
    rcases Nat.lt_or_ge k n with hk | hk
    · simp only [G'] at e
      rw [List.getElem?_append_left (by omega)] at e
      simp only [G1, List.getElem?_mapIdx, List.getElem?_take, hk, if_true] at e
      obtain ⟨g0, e1, e2⟩ := Option.map_eq_some_iff.1 e
      exact .inl ⟨hk, g0, e1, e2.symm⟩
    · simp only [G'] at e
      rw [List.getElem?_append_right (by omega), List.getElem?_replicate] at e
      split at e
      · rename_i hlt; cases e; exact .inr ⟨hk, by omega, rfl⟩
      · cases e
  have low' : ∀ (k : Nat) (g : Gh), k < n → G[k]? = some g → G'[k]? = some (dd k g) := fun k g hk e => by
    simp only [G']
    rw [List.getElem?_append_left (by omega)]
    simp only [G1, List.getElem?_mapIdx, List.getElem?_take, hk, if_true, e, Option.map_some]
  -- first the roots alone: the same list, every root kept
  let Gm : List Gh := G.take n ++ List.replicate (s'.h.length - n) nilGh
  have hRm : Roots G Gm n s'.h.length := ⟨fun k g hk e => by
      simp only [Gm]; rw [List.getElem?_append_left (by simp; omega), List.getElem?_take, if_pos hk]; exact e, fun k hk hk' => by
      simp only [Gm]; rw [List.getElem?_append_right (by simp; omega), List.getElem?_replicate, if_pos (by simp; omega)]⟩
  have toG' : ∀ (k : Nat) (g : Gh), Gm[k]? = some g → ∃ g' : Gh, G'[k]? = some g' ∧ g'.root = g.root := fun k g e => by
    rcases Nat.lt_or_ge k n with hk | hk
    · simp only [Gm] at e
      rw [List.getElem?_append_left (by simp; omega), List.getElem?_take, if_pos hk] at e
      exact ⟨_, low' k g hk e, ddr k g⟩
    · simp only [Gm] at e
      rw [List.getElem?_append_right (by simp; omega)] at e
      refine ⟨g, ?_, rfl⟩
      simp only [G']
      rw [List.getElem?_append_right (by omega)]
      rw [h1l]
      have : (G.take n).length = n := by simp; omega
      rwa [this] at e
  refine ⟨G', h.defers, (VAs.le hRm h.tmps ht).mono (fun _ _ h => h) (fun _ _ _ => rfl) toG', ?_, ?_, fun k v e => ?_⟩
  · refine ⟨by simp [G', h1l]; omega, fun k g o' e1 e2 => ?_, fun i j gi gj b e1 e2 hij hb hb' => ?_, fun k g b e hb => ?_, h.objs.imm⟩
    · rcases get1 e1 with ⟨hk, g0, e0, rfl⟩ | ⟨hk, hk', rfl⟩
      · rcases olel_get ho e2 with ⟨o, f1, f2⟩ | ⟨f1, _⟩
        · rw [List.getElem?_take, if_pos hk] at f1
          have hobj := h.objs.obj k g0 o e0 f1
          by_cases hdead : o' = .dead
          · subst hdead
            intro q hq
            simp only [dd, e2] at hq
          · have hdd : dd k g0 = g0 := by
              simp only [dd, e2]
              cases o' <;> first | rfl | exact absurd rfl hdead
            rw [hdd]
            exact (hobj.le hRm f2 (fun h => absurd h hdead)).keep (fun _ _ h => h) (fun _ _ _ => rfl) toG' (fun _ _ => rfl) (fun _ _ _ h => h)
        · omega
      · rcases olel_get ho e2 with ⟨o, f1, f2⟩ | ⟨_, ⟨t, sz, dp, rfl⟩ | ⟨q, rfl, hq⟩⟩
        · have := (List.getElem?_eq_some_iff.1 f1).1; omega
        · exact .inl ⟨rfl, fun _ h => h⟩
        · exact ⟨rfl, ⟨fun _ _ => False, fun m v d e => (by
            have := hq _ (List.mem_of_getElem? e)
            cases this
            exact ⟨rfl, .nil _⟩), fun _ _ h => h.elim, fun _ _ _ _ h => h.elim⟩, fun _ _ h => h.elim⟩
    · rcases get1 e1 with ⟨hi, gi0, e1', rfl⟩ | ⟨_, _, rfl⟩
      · rcases get1 e2 with ⟨hj, gj0, e2', rfl⟩ | ⟨_, _, rfl⟩
        · exact h.objs.disj i j gi0 gj0 b e1' e2' hij (ddF _ _ _ hb) (ddF _ _ _ hb')
        · exact hb'
      · exact hb
    · rcases get1 e with ⟨hk, g0, e', rfl⟩ | ⟨_, _, rfl⟩
      · exact h.objs.inb k g0 b e' (ddF _ _ _ hb)
      · exact hb.elim
  · exact ⟨h.fr.os, h.fr.tape, h.fr.output, h.fr.size, h.fr.block, h.fr.cell, h.fr.im, fun k g b e hb => by
      rcases get1 e with ⟨hk, g0, e', rfl⟩ | ⟨_, _, rfl⟩
      · exact h.fr.own k g0 b e' (ddF _ _ _ hb)
      · exact hb.elim⟩
  · obtain ⟨h1, h2, g, h3, h4⟩ := h.pr k v e
    exact ⟨by rw [hp']; exact h1, h2, _, low' k g (by omega) h3, (ddr k g).trans h4⟩
theorem Rel.le {n : Nat} (h : Rel c s a w) (hl : s.Le n s') : Rel c s' a w := by
  obtain ⟨I, G, h⟩ := h
  obtain ⟨G', h⟩ := h.le hl
  exact ⟨I, G', h⟩
/-- A loop: f tells the state at the head of a round, by what has been reckoned so far. -/
theorem loop_rule (hT : TOk P T) {body : Code} {Kn Kr : St → Prop} {Kx : Nat → St → Prop} {ι : Type} (f : ι → St) (φ : ι → Prop) (μ : ι → Nat) (i0 : ι) (n0 : Nat) (h0 : φ i0) (hs : s.Le n0 (f i0))
    (hr : ∀ i, φ i → vc P T body (fun s' => ∃ j n, φ j ∧ μ j < μ i ∧ s'.Le n (f j)) Kr Kx (f i)) : loopVC P body Kn Kr Kx s := by
  intro c a w hR
  refine wp_loop_ghost (fun n a w => ∃ i, φ i ∧ μ i = n ∧ Rel c (f i) a w) (μ i0) ⟨i0, h0, rfl, hR.le hs⟩ ?_
  rintro n a w ⟨i, hi, rfl, hR⟩
  have := vc_sound (c := c) hT body _ _ _ _ _ _ (hr i hi) hR
  refine Code.wp_mono (fun e a w hp => ?_) this
  cases e with
  | normal =>
    obtain ⟨s', ⟨j, n, h1, h2, h3⟩, h4⟩ := hp
    exact ⟨μ j, h2, j, h1, rfl, h4.le h3⟩
  | ret => exact hp
  | exit i => exact hp
  | _ => exact hp.elim
end
end Go.Ab
/- A made row that will be written no more becomes data. -/
namespace Go.Ab
open Go
set_option linter.unusedVariables false
set_option linter.unusedSimpArgs false
mutual
def A.pub (k : Nat) (q : List D) : A → A
  | .agg l => .agg (A.pubs k q l)
  | .tup l => .tup (A.pubs k q l)
  | .sl j l => if j = k then .any else .sl j (A.pubs k q l)
  | .ref j off => if j = k then .any else .ref j off
  | .own j l => if j = k then .d (.lst l) else .own j l
  | .arr j => if j = k then .d (.lst q) else .arr j
  | .eptr j sz i off => if j = k then .any else .eptr j sz i off
  | .fn f l => .fn f (A.pubs k q l)
  | .mp j => if j = k then .any else .mp j
  | .raw x => .raw x
  | .d x => .d x
  | .nil => .nil
  | .rptr l => .rptr l
  | .any => .any
def A.pubs (k : Nat) (q : List D) : List A → List A
  | [] => []
  | a :: l => a.pub k q :: A.pubs k q l
end
theorem A.pubs_eq (k : Nat) (q : List D) (l : List A) : A.pubs k q l = l.map (A.pub k q) := by
  induction l with
  | nil => rfl
  | cons a l ih => simp [A.pubs, ih]
theorem A.cells_pub (k : Nat) (q : List D) (a : A) : (a.pub k q).cells = a.cells.map (A.pub k q) := by
  cases a with
  | d x => cases x <;> simp [A.pub, A.cells, Function.comp_def]
  | agg l => simp [A.pub, A.cells, A.pubs_eq]
  | ref j off => simp only [A.pub]; split <;> simp_all [A.cells, A.pub]
  | own j l => simp only [A.pub]; split <;> simp_all [A.cells, A.pub]
  | arr j => simp only [A.pub]; split <;> simp_all [A.cells, A.pub]
  | eptr j sz i off => simp only [A.pub]; split <;> simp_all [A.cells, A.pub]
  | mp j => simp only [A.pub]; split <;> simp_all [A.cells, A.pub]
  | sl j l => simp only [A.pub]; split <;> simp_all [A.cells, A.pub]
  | _ => simp [A.pub, A.cells, A.pubs_eq]
theorem A.flat_pub (k : Nat) (q : List D) (l : List A) : (l.map (A.pub k q)).flatMap A.cells = (l.flatMap A.cells).map (A.pub k q) := by
  induction l with
  | nil => rfl
  | cons a l ih => simp [A.cells_pub, ih]
section
variable {w w' : World} {I I' : Im} {G G' : List Gh}
mutual
theorem VA.pub (hI : ∀ b j, I b j → I' b j) (hc : ∀ b j, I b j → w'.cell? ⟨b, j, none⟩ = w.cell? ⟨b, j, none⟩) (q : Nat) (r : List D)
    (hG : ∀ (k : Nat) (g : Gh), k ≠ q → G[k]? = some g → ∃ g' : Gh, G'[k]? = some g' ∧ g'.root = g.root) (hq : ∀ g : Gh, G[q]? = some g → VD w' I' g.root (.lst r)) : ∀ {x c}, VA w I G x c → VA w' I' G' x (c.pub q r)
  | _, _, .d h => .d (h.mono hI hc)
  | _, _, .agg cs l h h1 => by rw [A.pub]; exact .agg cs _ (VAs.pub hI hc q r hG hq h) h1
  | _, _, .tup cs l h => by rw [A.pub]; exact .tup cs _ (VAs.pub hI hc q r hG hq h)
  | _, _, .nil => .nil
  | _, _, .sl b n k l g e1 e2 h1 h => by
    rw [A.pub, A.pubs_eq]; split
    · exact .any _
    · obtain ⟨g', f1, f2⟩ := hG k g (by assumption) e1
      exact .sl b n _ _ g' f1 (f2.trans e2) (by simpa using h1) (by rw [A.flat_pub]; exact VAc.pub hI hc q r hG hq h)
  | _, _, .rptr b off l h => .rptr b off l (h.mono hI hc)
  | _, _, .ref b k off g h1 h2 => by
    rw [A.pub]; split
    · exact .any _
    · obtain ⟨g', e1, e2⟩ := hG k g (by assumption) h1; exact .ref b _ off g' e1 (e2.trans h2)
  | _, _, .own k l g h1 h2 h3 => by
    rw [A.pub]; split
    · exact .d (h3.mono hI hc)
    · obtain ⟨g', e1, e2⟩ := hG k g (by assumption) h1; exact .own _ l g' e1 (e2.trans h2) (h3.mono hI hc)
  | _, _, .arr k g h1 h2 h3 => by
    rw [A.pub]; split
    · rename_i e; subst e; have := hq g h1; rw [h2] at this; exact .d this
    · obtain ⟨g', e1, e2⟩ := hG k g (by assumption) h1; exact .arr _ g' e1 (e2.trans h2) h3
  | _, _, .eptr b k sz i off n c g h1 h2 => by
    rw [A.pub]; split
    · exact .any _
    · obtain ⟨g', e1, e2⟩ := hG k g (by assumption) h1; exact .eptr b _ sz i off n c g' e1 (e2.trans h2)
  | _, _, .fn f cs l h => by rw [A.pub]; exact .fn f cs _ (VAs.pub hI hc q r hG hq h)
  | _, _, .mp m k g h1 h2 => by
    rw [A.pub]; split
    · exact .any _
    · obtain ⟨g', e1, e2⟩ := hG k g (by assumption) h1; exact .mp m _ g' e1 (e2.trans h2)
  | _, _, .raw x h => .raw x h
  | _, _, .any x => .any x
theorem VAs.pub (hI : ∀ b j, I b j → I' b j) (hc : ∀ b j, I b j → w'.cell? ⟨b, j, none⟩ = w.cell? ⟨b, j, none⟩) (q : Nat) (r : List D)
    (hG : ∀ (k : Nat) (g : Gh), k ≠ q → G[k]? = some g → ∃ g' : Gh, G'[k]? = some g' ∧ g'.root = g.root) (hq : ∀ g : Gh, G[q]? = some g → VD w' I' g.root (.lst r)) : ∀ {x c}, VAs w I G x c → VAs w' I' G' x (A.pubs q r c)
  | _, _, .nil => .nil
  | _, _, .cons h1 h2 => .cons (VA.pub hI hc q r hG hq h1) (VAs.pub hI hc q r hG hq h2)
theorem VAc.pub (hI : ∀ b j, I b j → I' b j) (hc : ∀ b j, I b j → w'.cell? ⟨b, j, none⟩ = w.cell? ⟨b, j, none⟩) (q : Nat) (r : List D)
    (hG : ∀ (k : Nat) (g : Gh), k ≠ q → G[k]? = some g → ∃ g' : Gh, G'[k]? = some g' ∧ g'.root = g.root) (hq : ∀ g : Gh, G[q]? = some g → VD w' I' g.root (.lst r)) : ∀ {b off l}, VAc w I G b off l → VAc w' I' G' b off (l.map (A.pub q r))
  | _, _, _, .nil b off => .nil b off
  | _, _, _, .cons h1 h2 h3 h4 h5 => .cons ((hc _ _ h2).trans h1) (hI _ _ h2) h3 (VA.pub hI hc q r hG hq h4) (VAc.pub hI hc q r hG hq h5)
end
end
def O.pub (k : Nat) (q : List D) : O → O
  | .box t l => .box t (A.pubs k q l)
  | .row t sz l => .row t sz (A.pubs k q l)
  | .opn r t sz l => .opn r t sz (A.pubs k q l)
  | o => o
def O.pubL (k : Nat) (q : List D) : List O → List O
  | [] => []
  | o :: l => o.pub k q :: O.pubL k q l
theorem pubL_get (k : Nat) (q : List D) : ∀ (l : List O) (i : Nat), (O.pubL k q l)[i]? = (l[i]?).map (O.pub k q)
  | [], i => by simp [O.pubL]
  | o :: l, 0 => by simp [O.pubL]
  | o :: l, i + 1 => by simp [O.pubL, pubL_get k q l i]
theorem pubL_len (k : Nat) (q : List D) : ∀ l : List O, (O.pubL k q l).length = l.length
  | [] => rfl
  | o :: l => by simp [O.pubL, pubL_len k q l]
def St.pub (s : St) (k : Nat) (q : List D) : St := ⟨A.pubs k q s.t, (O.pubL k q s.h).set k .dead, s.p⟩
def pub? (k : Nat) (s : St) : Option St :=
  match s.h[k]? with
  | some (.row _ _ l) => match toEs? l with
    | some q => some (s.pub k q)
    | none => none
  | _ => none
def pubs? : List Nat → St → Option St
  | [], s => some s
  | k :: r, s => match pub? k s with
    | some s' => pubs? r s'
    | none => none
section
variable {P : Program} {T : Ty} {w w' : World} {I I' : Im} {G G' : List Gh} {c : Cx} {s s' : St} {a : Act}
theorem ObjR.pub {g : Gh} {o : O} (q : Nat) (r : List D) (hI : ∀ b j, I b j → I' b j) (hc : ∀ b j, I b j → w'.cell? ⟨b, j, none⟩ = w.cell? ⟨b, j, none⟩)
    (hG : ∀ (k : Nat) (g : Gh), k ≠ q → G[k]? = some g → ∃ g' : Gh, G'[k]? = some g' ∧ g'.root = g.root) (hq : ∀ g : Gh, G[q]? = some g → VD w' I' g.root (.lst r))
    (hF : ∀ b, g.F b → w'.heap[b]? = w.heap[b]?) (hIF : ∀ b j, g.F b → I' b j → I b j) (h : ObjR w I G g o) : ObjR w' I' G' g (o.pub q r) := by
  cases o with
  | box t l =>
    obtain ⟨b, cs, h1, h2, h3, h4, h5, h6⟩ := h
    have hb := (h5 b).2 rfl
    exact ⟨b, cs, h1, (hF b hb).trans h2, h3.pub hI hc q r hG hq, h4, h5, fun j hj => h6 j (hIF b j hb hj)⟩
  | app t sz dp =>
    rcases h with h | h | ⟨b, n, cap, cs, h1, h2, h3, h4, h5, h6, h7, h9⟩
    · exact .inl h
    · exact .inr (.inl h)
    · exact .inr (.inr ⟨b, n, cap, cs, h1, (hF b h6).trans h2, h3, h4, h5, h6, fun j hj hi => h7 j hj (hIF b j h6 hi), fun hd => (h9 hd).keep hF⟩)
  | row t sz l =>
    obtain ⟨b, cs, h1, h2, h3, h4, h5, h6, h7⟩ := h
    have hb := (h6 b).2 rfl
    refine ⟨b, cs, ?_, (hF b hb).trans h2, ?_, h4, ?_, h6, fun j hj => h7 j (hIF b j hb hj)⟩
    · rw [A.pubs_eq, List.length_map]; exact h1
    · have := h3.pub hI hc q r hG hq
      rw [A.pubs_eq, A.flat_pub]
      rwa [A.pubs_eq] at this
    · intro x hx
      rw [A.pubs_eq] at hx
      obtain ⟨y, hy, rfl⟩ := List.mem_map.1 hx
      rw [A.cells_pub, List.length_map]
      exact h5 y hy
  | opn r0 t sz l =>
    obtain ⟨h0, b, cs, t', sp, cap, h1, hcap, h2, h3, h4, h5, h6, h7⟩ := h
    have hb := (h6 b).2 rfl
    refine ⟨h0, b, cs, t', sp, cap, ?_, ?_, (hF b hb).trans h2, ?_, by rw [A.pubs_eq, List.length_map]; exact h4, ?_, h6, fun j hj => h7 j (hIF b j hb hj)⟩
    · rw [A.pubs_eq, List.length_map]; exact h1
    · rw [A.pubs_eq, List.length_map]; exact hcap
    · have := h3.pub hI hc q r hG hq
      rw [A.pubs_eq, A.flat_pub]
      rw [A.pubs_eq, List.map_append, List.map_replicate] at this
      exact this
    · intro x hx
      rw [A.pubs_eq] at hx
      obtain ⟨y, hy, rfl⟩ := List.mem_map.1 hx
      rw [A.cells_pub, List.length_map]
      exact h5 y hy
  | forest l => exact ⟨h.1, h.2.1.keep hF, fun b j hb hi => h.2.2 b j hb (hIF b j hb hi)⟩
  | map kt vt l =>
    obtain ⟨m, es, c, h1, h2, h3, h4⟩ := h
    exact ⟨m, es, c, h1, (hF m ((h4 m).2 rfl)).trans h2, ⟨h3.1, VDs.mono hI hc h3.2⟩, h4⟩
  | dead => exact h
theorem vdc_of {b : Nat} : ∀ {cs : List Value} {l : List D} {off : Nat}, VDs w I cs l → (∀ (j : Nat) (v : Value), cs[j]? = some v → w.cell? ⟨b, off + j, none⟩ = some v) → (∀ j, j < cs.length → I b (off + j)) → VDc w I b off l
  | _, _, off, .nil, _, _ => .nil _ _
  | _, _, off, .cons h0 h1 h2, hc, hi => .cons (hc 0 _ rfl) (hi 0 (by simp)) h0 h1 (vdc_of h2 (fun j v hv => by
      have := hc (j + 1) v (by simpa using hv); rwa [show off + 1 + j = off + (j + 1) by omega]) (fun j hj => by
      have := hi (j + 1) (by simp; omega); rwa [show off + 1 + j = off + (j + 1) by omega]))
/-- A made row becomes data. -/
theorem RelX.pub (h : RelX c s a w I G) {k t sz : Nat} {l : List A} {q : List D} (ek : s.h[k]? = some (.row t sz l)) (eq : toEs? l = some q) : ∃ I' G', RelX c (s.pub k q) a w I' G' := by
  have hlen := h.objs.len
  have hk : k < G.length := by rw [hlen]; exact (List.getElem?_eq_some_iff.1 ek).1
  have egk : G[k]? = some G[k] := List.getElem?_eq_getElem hk
  obtain ⟨b, cs, h1, h2, h3, h4, h5, h6, h7⟩ := h.objs.obj k _ _ egk ek
  let I' : Im := fun b' j => I b' j ∨ (b' = b ∧ j < cs.size)
  let G' : List Gh := G.set k ⟨G[k].root, fun _ => False⟩
  have hI : ∀ b' j, I b' j → I' b' j := fun _ _ h => .inl h
  have hc : ∀ b' j, I b' j → w.cell? ⟨b', j, none⟩ = w.cell? ⟨b', j, none⟩ := fun _ _ _ => rfl
  have hb := (h6 b).2 rfl
  have gne : ∀ (i : Nat) (g : Gh), i ≠ k → G[i]? = some g → G'[i]? = some g := fun i g hi e => by
    simp only [G']; rw [List.getElem?_set, if_neg (fun h => hi h.symm)]; exact e
  have geq : G'[k]? = some ⟨G[k].root, fun _ => False⟩ := by simp only [G']; rw [List.getElem?_set]; simp [hk]
  have hG : ∀ (i : Nat) (g : Gh), i ≠ k → G[i]? = some g → ∃ g' : Gh, G'[i]? = some g' ∧ g'.root = g.root := fun i g hi e => ⟨g, gne i g hi e, rfl⟩
  have hq : ∀ g : Gh, G[k]? = some g → VD w I' g.root (.lst q) := fun g e => by
    rw [egk] at e; cases e
    rw [h1]
    have hd : VDs w I cs.toList (q.flatMap D.cells) := toDs_cells h4 h3 (toEs_cells eq)
    refine .lst b 0 _ _ q (toEs_len eq) (Nat.le_refl _) (vdc_of (hd.mono' hI hc) (fun j v hv => ?_) (fun j hj => .inr ⟨rfl, by simpa using hj⟩))
    rw [Nat.zero_add, cell_in h2]; simpa using hv
  have gback : ∀ {i : Nat} {g : Gh}, G'[i]? = some g → (i ≠ k ∧ G[i]? = some g) ∨ (i = k ∧ g = ⟨G[k].root, fun _ => False⟩) := fun {i g} e => by
    by_cases hi : i = k
    · subst hi; rw [geq] at e; cases e; exact .inr ⟨rfl, rfl⟩
    · simp only [G'] at e; rw [List.getElem?_set, if_neg (fun h => hi h.symm)] at e; exact .inl ⟨hi, e⟩
  refine ⟨I', G', h.defers, h.tmps.pub hI hc k q hG hq, ⟨?_, ?_, ?_, ?_, ?_⟩, ⟨h.fr.os, h.fr.tape, h.fr.output, h.fr.size, h.fr.block, fun b' j hb' => ⟨hI _ _ (h.fr.cell b' j hb').1, (h.fr.cell b' j hb').2⟩, ?_, ?_⟩, fun i v e => ?_⟩
  · simp [G', St.pub, pubL_len, hlen]
  · intro i g o e1 e2
    rcases gback e1 with ⟨hi, e⟩ | ⟨rfl, rfl⟩
    · simp only [St.pub] at e2
      rw [List.getElem?_set, if_neg (fun h => hi h.symm), pubL_get] at e2
      obtain ⟨o', f1, rfl⟩ := Option.map_eq_some_iff.1 e2
      refine ObjR.pub k q hI hc hG hq (fun _ _ => rfl) (fun b' j hF hi' => ?_) (h.objs.obj i g o' e f1)
      rcases hi' with hi' | ⟨rfl, _⟩
      · exact hi'
      · exact absurd hb (h.objs.disj i k g _ b' e egk hi hF)
    · simp only [St.pub] at e2
      rw [List.getElem?_set, if_pos rfl] at e2
      split at e2
      · cases e2; intro b' hF; exact hF
      · cases e2
  · intro i j gi gj b' e1 e2 hij hF hF'
    rcases gback e1 with ⟨hi, e⟩ | ⟨rfl, rfl⟩
    · rcases gback e2 with ⟨hj, e'⟩ | ⟨rfl, rfl⟩
      · exact h.objs.disj i j gi gj b' e e' hij hF hF'
      · exact hF'
    · exact hF
  · intro i g b' e hF
    rcases gback e with ⟨hi, e⟩ | ⟨rfl, rfl⟩
    · exact h.objs.inb i g b' e hF
    · exact hF.elim
  · rintro b' j (hi | ⟨rfl, hj⟩)
    · exact h.objs.imm b' j hi
    · exact ⟨cs[j], by rw [cell_in h2]; simp [hj]⟩
  · rintro b' j (hi | ⟨rfl, hj⟩)
    · exact h.fr.im b' j hi
    · exact .inr (h.fr.own k _ b' egk hb)
  · intro i g b' e hF
    rcases gback e with ⟨hi, e⟩ | ⟨rfl, rfl⟩
    · exact h.fr.own i g b' e hF
    · exact hF.elim
  · obtain ⟨p1, p2, g, p3, p4⟩ := h.pr i v e
    by_cases hi : i = k
    · subst hi
      rw [egk] at p3; cases p3
      exact absurd (p4.symm.trans h1) (p2 _ _ _)
    · exact ⟨p1, p2, g, gne i g hi p3, p4⟩
theorem RelX.pub? (h : RelX c s a w I G) {k : Nat} (e : pub? k s = some s') : ∃ I' G', RelX c s' a w I' G' := by
  unfold Ab.pub? at e
  split at e
  · rename_i t sz l ek
    split at e
    · rename_i q eq
      cases e
      exact h.pub ek eq
    · cases e
  · cases e
theorem RelX.pubs? : ∀ {ks : List Nat} {s s' : St} {I : Im} {G : List Gh}, RelX c s a w I G → pubs? ks s = some s' → ∃ I' G', RelX c s' a w I' G'
  | [], s, s', I, G, h, e => by simp only [Ab.pubs?] at e; cases e; exact ⟨I, G, h⟩
  | k :: r, s, s', I, G, h, e => by
    simp only [Ab.pubs?] at e
    split at e
    · rename_i s1 e1
      obtain ⟨I', G', h'⟩ := h.pub? e1
      exact RelX.pubs? h' e
    · cases e
end
end Go.Ab
