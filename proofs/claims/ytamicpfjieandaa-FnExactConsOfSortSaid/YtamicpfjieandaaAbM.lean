/- Slices written out; make. -/
import Derived.Test.YtamicpfjieandaaAbL
import Derived.Laws.MakeOwn
namespace Go.Ab
open Go
set_option linter.unusedVariables false
set_option linter.unusedSimpArgs false
section
variable {P : Program} {T : Ty} {w w' : World} {I I' : Im} {G : List Gh} {c : Cx} {s : St} {a : Act}
theorem made_eq (z : Array Value) (n : Nat) : (madeCells z (n * z.size)).toList = (List.replicate n z.toList).flatten := by
  induction n with
  | zero => simp [madeCells]
  | succ n ih =>
    rw [List.replicate_succ', List.flatten_append, ← ih]
    simp only [madeCells, Array.toList_map, Array.toList_range, Nat.add_mul, Nat.one_mul, List.range_add, List.map_append, List.flatten_cons, List.flatten_nil, List.append_nil]
    congr 1
    apply List.ext_getElem?
    intro j
    by_cases hj : j < z.size
    · simp [hj, Nat.mod_eq_of_lt hj]
    · simp [hj, Nat.le_of_not_lt hj]
theorem mkE_zero {t : Nat} {i : TI} (h : TIOk P t i) : (mkE i.ag i.zero).cells = i.zero ∧ i.zero.length = i.sz := by
  have h' := h
  obtain ⟨f, z, h1, h2, h3, h4, h5, h6, h7, h8, h9, h10⟩ := h'
  have hv := zs_as (w := default) (I := fun _ _ => False) (G := []) h5
  have hl : i.zero.length = i.sz := by have := hv.len; simp at this; omega
  refine ⟨mkE_cells (w := default) (I := fun _ _ => False) (G := []) (sz := i.sz) rfl (ag_one h) hl (fun x hx => ?_), hl⟩
  obtain ⟨q, hq⟩ := List.mem_iff_getElem?.1 hx
  obtain ⟨y, f1, f2⟩ := hv.get hq
  exact ⟨y, f2, zs_one h5 y (List.mem_of_getElem? f1)⟩
theorem VAs.flatten_rep {xs : List Value} {l : List A} (h : VAs w I G xs l) : ∀ n, VAs w I G (List.replicate n xs).flatten (List.replicate n l).flatten
  | 0 => .nil
  | n + 1 => by
    rw [List.replicate_succ, List.replicate_succ, List.flatten_cons, List.flatten_cons]
    exact h.append (h.flatten_rep n)
theorem does_make (hT : TOk P T) (hr : RelX c s a w I G) {t : Nat} {x y : Value} {xa ya : A} (hx : VA w I G x xa) (hy : VA w I G y ya) {dst : Option Nat} {K : St → Prop}
    (hK : vcMakeSlice T t xa ya s fun r s' => K (s'.put dst r)) : Does P c a w (Instr.makeSlice t x y) dst K := by
  unfold vcMakeSlice at hK
  split at hK
  · rename_i e sz by_ z n m et
    obtain ⟨rfl, h0, hK⟩ := hK
    obtain rfl := hx.inv_v
    obtain rfl := hy.inv_v
    obtain ⟨_, _, _, _, _, _, _, _, _, _, _, _, hu⟩ := hT t _ et
    split at hK
    · rename_i ie ee
      obtain ⟨hb, hb0, hK⟩ := hK
      have hie := hT e ie ee
      obtain ⟨f, z, i1, i2, i3, i4, i5, i6, _⟩ := hT e ie ee
      have hn : n ≤ 140737488355328 := by
        have : n * 1 ≤ n * (ie.bytes : Int) := Int.mul_le_mul_of_nonneg_left (by omega) h0
        omega
      have hrun := run_make (P := P) w t e f z hu i1 i4 .i64 .i64 n n h0 (Int.le_refl _) (by rw [i3, Int.mul_comm]; omega) (by omega)
      rw [i2] at hrun
      obtain ⟨q1, q2⟩ := mkE_zero hie
      have hg := Grow.alloc w (.cells (madeCells z.cells (n.toNat * ie.sz)) e)
      have hX := hr.grow' hg
      let g : Gh := ⟨.slice (some ⟨w.heap.size, 0, none⟩) n.toNat n.toNat, fun k => k = w.heap.size⟩
      have hin : (w.alloc (.cells (madeCells z.cells (n.toNat * ie.sz)) e)).heap[w.heap.size]? = some (.cells (madeCells z.cells (n.toNat * ie.sz)) e (0, 0)) := heap_alloc_new w _
      have hlen := hr.objs.len
      have hme : (madeCells z.cells (n.toNat * ie.sz)).toList = (List.replicate n.toNat z.cells.toList).flatten := by rw [← i6]; exact made_eq _ _
      have hflat : (List.replicate n.toNat (mkE ie.ag ie.zero)).flatMap A.cells = (List.replicate n.toNat ie.zero).flatten := by
        rw [List.flatMap_def, List.map_replicate, q1]
      have hp := hX.push (g := g) (o := .row e ie.sz (List.replicate n.toNat (mkE ie.ag ie.zero))) ⟨w.heap.size, _, by simp [g], hin, by rw [hme, hflat]; exact (zs_as i5).flatten_rep _, fun y hy => by
          rw [hme] at hy
          obtain ⟨l, hl, hy⟩ := List.mem_flatten.1 hy
          rw [(List.mem_replicate.1 hl).2] at hy
          exact zs_one i5 y hy, fun y hy => by rw [(List.mem_replicate.1 hy).2, q1, q2], fun k => Iff.rfl, fun j hj => by have := hr.objs.lt hj; omega⟩ (fun b hb => by
          have hb' : b = w.heap.size := hb
          subst hb'
          refine ⟨by simp, .inr hr.fr.size, fun k g' e hb => ?_⟩
          have := hr.objs.inb k g' _ e hb
          omega)
      exact ⟨_, _, hrun, _, hK, I, G ++ [g], hp.put (.arr s.h.length g (by rw [← hlen]; simp) rfl rfl) dst⟩
    · exact hK.elim
  · exact hK.elim
theorem cells?_cells {x : A} {l : List A} (h : x.cells? = some l) : x.cells = l := by
  cases x with
  | d y => cases y <;> (simp only [A.cells?] at h; cases h; rfl)
  | any => simp [A.cells?] at h
  | tup l => simp [A.cells?] at h
  | _ => simp only [A.cells?] at h; cases h; rfl
theorem fold_size (off : Nat) : ∀ (ys : List Value) (k : Nat) (cs : Array Value), ((ys.zipIdx k).foldl (fun (cs : Array Value) (c, j) => cs.setIfInBounds (off + j) c) cs).size = cs.size
  | [], k, cs => rfl
  | y :: ys, k, cs => by
    rw [List.zipIdx_cons, List.foldl_cons, fold_size off ys (k + 1)]
    simp
/-- A slice's parts, each in its place. -/
theorem fill_slice {sz : Nat} : ∀ {parts : List (Nat × Value)} {l : List A} {k : Nat} {cs : Array Value}, VAs w I G (parts.map (·.2)) l → parts.map (·.1) = List.range' k parts.length →
    (∀ x ∈ l, ∃ q, x.cells? = some q ∧ q.length = sz) → (k + parts.length) * sz ≤ cs.size →
    ∃ (cs' : Array Value) (vs : List Value), Instr.fill (fun i => some (i * sz, sz)) cs parts = some cs' ∧ cs'.toList = cs.toList.take (k * sz) ++ vs ++ cs.toList.drop ((k + parts.length) * sz) ∧
      VAs w I G vs (l.flatMap A.cells) ∧ (∀ x ∈ vs, x.oneCell' = true)
  | [], [], k, cs, _, _, _, _ => ⟨cs, [], rfl, by simp, .nil, fun x h => (by cases h)⟩
  | [], _ :: _, _, _, h, _, _, _ => by cases h
  | _ :: _, [], _, _, h, _, _, _ => by cases h
  | (i, v) :: parts, x :: l, k, cs, hv, hi, hc, hs => by
    cases hv with
    | cons hv hvs =>
      simp only [List.map_cons, List.length_cons, List.range'_succ, List.cons.injEq] at hi
      obtain ⟨rfl, hi⟩ := hi
      obtain ⟨q, hq, hql⟩ := hc x List.mem_cons_self
      obtain ⟨hx, hx1⟩ := VA.cells hv hq
      have hsz : v.cells.size = sz := by have := hx.len; simp at this; omega
      simp only [List.length_cons] at hs
      have hmul : (i + (parts.length + 1)) * sz = i * sz + (parts.length * sz + sz) := by rw [Nat.add_mul, Nat.add_mul, Nat.one_mul]
      have hfold := fold_set (i * sz) v.cells.toList 0 cs (by simp; omega)
      simp only [Nat.add_zero] at hfold
      have hsize := fold_size (i * sz) v.cells.toList 0 cs
      obtain ⟨cs', vs, e1, e2, e3, e4⟩ := fill_slice hvs hi (fun y hy => hc y (List.mem_cons_of_mem _ hy)) (cs := (v.cells.toList.zipIdx 0).foldl (fun (cs : Array Value) (c, j) => cs.setIfInBounds (i * sz + j) c) cs)
        (by rw [hsize, show i + 1 + parts.length = i + (parts.length + 1) by omega]; exact hs)
      refine ⟨cs', v.cells.toList ++ vs, ?_, ?_, ?_, ?_⟩
      · have hb : (decide (v.cells.size ≠ sz) || decide (i * sz + v.cells.size > cs.size)) = false := by
          rw [Bool.or_eq_false_iff, decide_eq_false_iff_not, decide_eq_false_iff_not]; omega
        rw [Instr.fill]
        simp only
        rw [hb, ← Array.foldl_toList, Array.toList_zipIdx]
        exact e1
      · rw [e2, hfold]
        have hvl : v.cells.toList.length = sz := by simpa using hsz
        have h1 : (i + 1) * sz = i * sz + sz := by rw [Nat.add_mul, Nat.one_mul]
        have htl : (cs.toList.take (i * sz)).length = i * sz := by simp; omega
        rw [h1, List.take_append, List.take_append, htl, List.drop_append, List.drop_append, htl]
        simp only [List.length_append, htl, hvl, List.length_cons]
        rw [List.take_of_length_le (l := cs.toList.take (i * sz)) (by omega), List.take_of_length_le (l := v.cells.toList) (by omega)]
        rw [show (i * sz + sz - (i * sz + sz)) = 0 by omega, List.take_zero, List.append_nil]
        rw [List.drop_eq_nil_of_le (as := cs.toList.take (i * sz)) (by rw [htl]; exact Nat.mul_le_mul_right _ (by omega)), List.drop_eq_nil_of_le (as := v.cells.toList) (by rw [hvl, show i + 1 + parts.length = i + (parts.length + 1) by omega, hmul]; omega)]
        rw [List.drop_drop]
        simp only [List.append_assoc, List.nil_append]
        congr 4
        rw [show i + 1 + parts.length = i + (parts.length + 1) by omega, hmul]
        omega
      · rw [List.flatMap_cons, cells?_cells hq]
        exact hx.append e3
      · intro y hy
        rcases List.mem_append.1 hy with hy | hy
        · exact hx1 y hy
        · exact e4 y hy
theorem VAc.of_vals : ∀ {xs : List Value} {l : List A}, VAs w I G xs l → (∀ x ∈ xs, x.oneCell' = true) → ∀ {b off : Nat}, (∀ (j : Nat) (v : Value), xs[j]? = some v → w.cell? ⟨b, off + j, none⟩ = some v ∧ I b (off + j)) → VAc w I G b off l
  | _, _, .nil, _, b, off, _ => .nil b off
  | _, _, .cons h1 h2, h0, b, off, h => by
    obtain ⟨e1, e2⟩ := h 0 _ rfl
    exact .cons e1 e2 (h0 _ List.mem_cons_self) h1 (VAc.of_vals h2 (fun x hx => h0 x (List.mem_cons_of_mem _ hx)) (fun j v hv => by
      have := h (j + 1) v (by simpa using hv)
      rwa [show off + (j + 1) = off + 1 + j by omega] at this))
theorem does_buildSlice (hT : TOk P T) (hr : RelX c s a w I G) {t n : Nat} {parts : List (Nat × Value)} {l : List A} (hv : VAs w I G (parts.map (·.2)) l) {dst : Option Nat} {K : St → Prop}
    (hK : vcBuildSlice T t n (parts.map (·.1)) l s fun r s' => K (s'.put dst r)) : Does P c a w (Instr.buildSlice t n parts.toArray) dst K := by
  unfold vcBuildSlice at hK
  split at hK
  · rename_i e sz by_ z et
    obtain ⟨_, _, _, _, _, _, _, _, _, _, _, _, hu⟩ := hT t _ et
    split at hK
    · rename_i ie ee
      obtain ⟨hidx, hbig, hcells, hK⟩ := hK
      have hie := hT e ie ee
      obtain ⟨f, z, i1, i2, i3, i4, i5, i6, i7, _⟩ := hT e ie ee
      have hpn : parts.length = n := by have := congrArg List.length hidx; simpa using this
      let zc : Array Value := (Array.range (n * ie.sz)).map ((if n * ie.sz = 0 then #[] else z.cells)[· % (if n * ie.sz = 0 then #[] else z.cells).size]!)
      have hzs : zc.size = n * ie.sz := by simp [zc]
      obtain ⟨cs', vs, e1, e2, e3, e4⟩ := fill_slice (sz := ie.sz) (k := 0) (cs := zc) hv (by rw [hidx, List.range_eq_range', hpn]) hcells (by rw [hzs, hpn]; simp)
      have hcs' : cs' = vs.toArray := by
        apply Array.ext'
        rw [e2, hpn]
        simp [hzs]
      subst hcs'
      have hvl : vs.length = n * ie.sz := by
        have h1 := e3.len
        have h2 : (l.flatMap A.cells).length = l.length * ie.sz := flat_lenA (fun x hx => by obtain ⟨q, q1, q2⟩ := hcells x hx; rw [cells?_cells q1]; exact q2)
        have h3 := hv.len
        simp at h3
        rw [h1, h2, ← h3, hpn]
      have hnb : ¬ n * ie.sz > 2 ^ 24 := by omega
      have hrun : (Instr.buildSlice t n parts.toArray).run P w = .ok (.slice (some ⟨w.heap.size, 0, none⟩) n n) (w.alloc (.cells vs.toArray e)) := by
        by_cases h0 : n * ie.sz = 0
        · simp only [zc, h0, if_true] at e1
          simp [Instr.buildSlice, run_under hu, run_size hie, hnb, h0, newRow]
          try simp at e1
          rw [e1]; rfl
        · simp only [zc, h0, if_false] at e1
          simp [Instr.buildSlice, run_under hu, run_size hie, hnb, h0, zeroValue, typeInfo, i1, i4, newRow]
          try simp at e1
          rw [e1]; rfl
      have hg := Grow.alloc w (.cells vs.toArray e)
      have hin : (w.alloc (.cells vs.toArray e)).heap[w.heap.size]? = some (.cells vs.toArray e (0, 0)) := heap_alloc_new w _
      have hcell : ∀ j, (w.alloc (.cells vs.toArray e)).cell? ⟨w.heap.size, j, none⟩ = vs[j]? := fun j => by rw [cell_in hin]; simp
      let I' : Im := fun b j => I b j ∨ (b = w.heap.size ∧ j < n * ie.sz)
      have hX := hr.grow (I' := I') hg (fun _ _ h => .inl h) (fun b j hi => by
        rcases hi with hi | ⟨rfl, hj⟩
        · exact .inl hi
        · exact .inr ⟨Nat.le_refl _, _, (hcell j).trans (List.getElem?_eq_getElem (by omega))⟩)
      let g : Gh := ⟨.slice (some ⟨w.heap.size, 0, none⟩) n n, fun k => k = w.heap.size⟩
      have hlen := hr.objs.len
      have hml : maxLen = 9223372036854775807 := rfl
      have hnm : n ≤ maxLen := by
        have : n ≤ n * ie.sz := Nat.le_mul_of_pos_right n (Nat.pos_of_ne_zero i7)
        omega
      have hp := hX.push (g := g) (o := .app e ie.sz (match giveEs? l with | some (_, []) => true | _ => false)) (.inr (.inr ⟨w.heap.size, n, n, _, rfl, hin, Nat.le_refl _, hnm, by simpa using hvl, rfl, fun j hj hi => by
          rcases hi with hi | ⟨_, hi⟩
          · have := hr.objs.lt hi; omega
          · omega, fun hd => by
          split at hd
          · rename_i r eg
            obtain ⟨own, o1, o2, o3⟩ := gives_deep (giveEs_cells eg) e3 e4
            refine ⟨fun _ _ => False, fun j x hx => .one _ x (fun a m q ex => ?_), fun _ _ h => h.elim, fun _ _ _ _ h => h.elim⟩
            rcases o3 j x (by simpa using hx) with ⟨_, h2⟩ | ⟨m', gm, h1, _⟩
            · exact absurd ex (h2 a m q)
            · have : m' ∈ own.filterMap id := by rw [List.mem_filterMap]; exact ⟨some m', List.mem_of_getElem? h1, rfl⟩
              rw [o2] at this; cases this
          · cases hd⟩)) (fun b hb => by
          have hb' : b = w.heap.size := hb
          subst hb'
          refine ⟨by simp, .inr hr.fr.size, fun k g' e hb => ?_⟩
          have := hr.objs.inb k g' _ e hb
          omega)
      refine ⟨_, _, hrun, _, hK, I', G ++ [g], hp.put ?_ dst⟩
      have hvn := e3.mono (fun _ _ h => .inl h : ∀ b j, I b j → I' b j) (fun b j hi => hg.cell (hr.objs.lt hi)) (roots_push G g)
      refine .sl w.heap.size n s.h.length l g (by rw [← hlen]; simp) rfl (by have := hv.len; simp at this; omega) (VAc.of_vals hvn e4 (fun j v hj => ?_))
      have hlt := (List.getElem?_eq_some_iff.1 hj).1
      exact ⟨by rw [Nat.zero_add, hcell]; exact hj, .inr ⟨rfl, by omega⟩⟩
    · exact hK.elim
  · exact hK.elim
end
end Go.Ab
