/- append: in place, or into a new row; what was read of the old one stays. -/
import Derived.Test.YtamicpfjieandaaAbJ
namespace Go.Ab
open Go
set_option linter.unusedVariables false
set_option linter.unusedSimpArgs false
section
variable {P : Program} {T : Ty} {w w' : World} {I I' : Im} {G : List Gh} {c : Cx} {s : St} {a : Act}
theorem VDc.of_vals : ∀ {xs : List Value} {l : List D}, VDs w I xs l → ∀ {b off : Nat}, (∀ (j : Nat) (v : Value), xs[j]? = some v → w.cell? ⟨b, off + j, none⟩ = some v ∧ I b (off + j)) → VDc w I b off l
  | _, _, .nil, b, off, _ => .nil b off
  | _, _, .cons h1 h2 h3, b, off, h => by
    obtain ⟨e1, e2⟩ := h 0 _ rfl
    exact .cons e1 e2 h1 h2 (VDc.of_vals h3 (fun j v hv => by
      have := h (j + 1) v (by simpa using hv)
      rwa [show off + (j + 1) = off + 1 + j by omega] at this))
theorem VDs.append {xs ys : List Value} {l m : List D} (h : VDs w I xs l) (h2 : VDs w I ys m) : VDs w I (xs ++ ys) (l ++ m) := by
  induction xs generalizing l with
  | nil => cases h; exact h2
  | cons x xs ih => cases h with | cons e1 e2 e3 => exact .cons e1 e2 (ih e3)
/-- What is appended: its cells, as values that can be read at x. -/
structure Src (w : World) (I : Im) (sz : Nat) (x : Value) (ns : List Value) (ds : List D) : Prop where
  vals : VDs w I ns (ds.flatMap D.cells)
  len : ns.length = ds.length * sz
  at_ : (∃ b o cx, x = .slice (some ⟨b, o, none⟩) ds.length cx ∧ ∀ (j : Nat) (v : Value), ns[j]? = some v → w.cell? ⟨b, o + j, none⟩ = some v) ∨ (((∃ ad cx, x = .slice (some ad) 0 cx) ∨ x = .slice none 0 0) ∧ ds = [])
structure Deep (w : World) (c : Cx) (G : List Gh) (ns : List Value) (fs : Nat → Nat → Prop) : Prop where
  shp : ∀ (j : Nat) (x : Value), ns[j]? = some x → Shp w (fs j) x
  disj : ∀ i j b, i ≠ j → fs i b → ¬ fs j b
  free : ∀ j b, fs j b → b < w.heap.size ∧ (c.F b ∨ c.w.heap.size ≤ b) ∧ ∀ (q : Nat) (gq : Gh), G[q]? = some gq → ¬ gq.F b
theorem run_append_zero {t ty e : Nat} {ie : TI} (hu : P.underlying t = some (.slice e)) (hie : TIOk P e ie) (base : Option Addr) (n cap : Nat) (h : n ≤ cap) (x : Value) (hx : (∃ ad cx, x = .slice (some ad) 0 cx) ∨ x = .slice none 0 0) :
    (Builtin.append_ #[t, t] ty #[.slice base n cap, x]).run P w = .ok (.slice base n cap) w := by
  obtain ⟨f, h1, h2, h3⟩ := run_info (w := w) hie
  have hs := run_size (w := w) hie
  rcases hx with ⟨ad, cx, rfl⟩ | rfl <;> cases base <;>
    simp [Builtin.append_, run_under hu, hs, Builtin.lenOf, h, Builtin.firstCells, loadCells, loadCellsFrom, storeCells]
theorem Upd.refl (hr : RelX c s a w I G) {k : Nat} {g : Gh} (hk : G[k]? = some g) : Upd c w w I I G k g g where
  at_ := hk
  os := rfl
  tape := rfl
  output := rfl
  size := Nat.le_refl _
  block _ _ _ := rfl
  keep _ _ h := ⟨h, rfl⟩
  im b j h := ⟨.inl h, hr.objs.imm b j h⟩
  F b hb := ⟨hr.objs.inb k g b hk hb, hr.fr.own k g b hk hb, fun j gj hne e hb' => hr.objs.disj j k gj g b e hk hne hb' hb⟩
theorem set_self {G : List Gh} {k : Nat} {g : Gh} (hk : G[k]? = some g) : G.set k g = G := by
  apply List.ext_getElem?
  intro j
  rw [List.getElem?_set]
  split
  · rename_i e; subst e
    simp [(List.getElem?_eq_some_iff.1 hk).1]
    exact ((List.getElem?_eq_some_iff.1 hk).2).symm
  · rfl
theorem zeroCells_flat {z : Array Value} {l : List A} (hz : ZsOk z.toList l) (n : Nat) : ∀ (j : Nat) (x : Value), (Builtin.zeroCells z n)[j]? = some x → ∀ a m c, x = .slice (some a) m c → m = 0 := by
  intro j x hx
  simp only [Builtin.zeroCells, Array.getElem?_map, Option.map_eq_some_iff] at hx
  obtain ⟨i, hi, rfl⟩ := hx
  have hsz : 0 < z.size := by
    rcases Nat.eq_zero_or_pos z.size with h0 | h0
    · rw [h0] at hi; simp at hi
    · exact h0
  have hlt : i % z.size < z.size := Nat.mod_lt _ hsz
  have : z[i % z.size]! = z[i % z.size] := by simp [hlt]
  rw [this]
  exact zs_flat hz _ (by simp)
/-- The new row. -/
theorem grown_ok (hr : RelX c s a w I G) {k : Nat} {g : Gh} (hk : G[k]? = some g) {e : Nat} {sz n m : Nat} {dp : Bool} {l ds : List D} {os ns zs : List Value} {cap : Nat} (hos : VDs w I os (l.flatMap D.cells)) (hns : VDs w I ns (ds.flatMap D.cells))
    (hlo : os.length = n * sz) (hln : ns.length = m * sz) (hn : n = l.length) (hm : m = ds.length) (hcap : n + m ≤ cap) (hmax : cap ≤ maxLen) (hzs : zs.length = (cap - (n + m)) * sz)
    (fo fs : Nat → Nat → Prop) (hd : dp = true → (∀ (j : Nat) (x : Value), os[j]? = some x → Shp w (fo j) x) ∧ (∀ j b, fo j b → g.F b) ∧ (∀ i j b, i ≠ j → fo i b → ¬ fo j b) ∧ Deep w c G ns fs ∧
      (∀ (j : Nat) (x : Value), zs[j]? = some x → ∀ a n c, x = .slice (some a) n c → n = 0)) :
    let w' := w.drew.alloc (.cells (os ++ ns ++ zs).toArray e)
    let v' := Value.slice (some ⟨w.heap.size, 0, none⟩) (n + m) cap
    let I' : Im := fun b j => I b j ∨ (b = w.heap.size ∧ j < (n + m) * sz)
    let g' : Gh := ⟨v', fun q => q = w.heap.size ∨ (dp = true ∧ (g.F q ∨ ∃ j, fs j q))⟩
    Upd c w w' I I' G k g g' ∧ ObjR w' I' (G.set k g') g' (.app e sz dp) ∧ VD w' I' v' (.lst (l ++ ds)) := by
  intro w' v' I' g'
  have hg : Grow w w' := (Grow.drew w).trans (Grow.alloc _ _)
  have hnew : w'.heap[w.heap.size]? = some (.cells (os ++ ns ++ zs).toArray e (0, 0)) := heap_alloc_new w.drew _
  have hsize : w'.heap.size = w.heap.size + 1 := by simp [w']
  have hcellnew : ∀ j, w'.cell? ⟨w.heap.size, j, none⟩ = (os ++ ns ++ zs)[j]? := fun j => by rw [cell_in hnew]; simp
  have hnlt : ∀ {b j}, I b j → b < w.heap.size := fun hi => hr.objs.lt hi
  have hfd := fun b => hr.objs.inb k g b hk
  refine ⟨⟨hk, hg.os, hg.tape, hg.output, hg.size, fun b hb _ => hg.block b hb, fun b j hi => ⟨.inl hi, hg.cell (hnlt hi)⟩, fun b j hi => ?_, fun b hb => ?_⟩, ?_, ?_⟩
  · rcases hi with hi | ⟨rfl, hj⟩
    · obtain ⟨x, hx⟩ := hr.objs.imm b j hi
      exact ⟨.inl hi, x, (hg.cell (hnlt hi)).trans hx⟩
    · refine ⟨.inr (.inr (Nat.le_refl _)), _, (hcellnew j).trans (List.getElem?_eq_getElem (by simp [hlo, hln]; rw [Nat.add_mul] at hj; omega))⟩
  · rcases hb with rfl | ⟨hdp, hb | ⟨j, hb⟩⟩
    · exact ⟨by omega, .inr hr.fr.size, fun q gq _ e hb => by have := hr.objs.inb q gq _ e hb; omega⟩
    · exact ⟨by have := hfd b hb; omega, hr.fr.own k g b hk hb, fun q gq hne e hb' => hr.objs.disj q k gq g b e hk hne hb' hb⟩
    · obtain ⟨h1, h2, h3⟩ := ((hd hdp).2.2.2.1).free j b hb
      exact ⟨by omega, h2, fun q gq _ e hb' => h3 q gq e hb'⟩
  · refine .inr (.inr ⟨w.heap.size, n + m, cap, _, rfl, hnew, hcap, hmax, ?_, .inl rfl, fun j hj hi => ?_, fun hdp => ?_⟩)
    · simp [hlo, hln, hzs]
      rw [← Nat.add_mul, ← Nat.add_mul]; congr 1; omega
    · rcases hi with hi | ⟨_, hi⟩
      · have := hnlt hi; omega
      · omega
    · obtain ⟨d1, d2, d3, d4, d5⟩ := hd hdp
      have keep : ∀ {F : Nat → Prop} {x : Value}, (∀ b, F b → b < w.heap.size) → Shp w F x → Shp w' F x := fun hF hs => hs.keep (fun b hb => hg.block b (hF b hb))
      refine ⟨fun j => if j < n * sz then fo j else if j < (n + m) * sz then fs (j - n * sz) else fun _ => False, fun j x hx => ?_, fun j q hq => ?_, fun i j q hij hi hj => ?_⟩
      · dsimp only
        simp only [List.getElem?_toArray] at hx
        by_cases h1 : j < n * sz
        · rw [if_pos h1]
          rw [List.append_assoc, List.getElem?_append_left (by omega)] at hx
          exact keep (fun b hb => hfd b (d2 j b hb)) (d1 j x hx)
        · rw [if_neg h1]
          rw [List.append_assoc, List.getElem?_append_right (by omega)] at hx
          by_cases h2 : j < (n + m) * sz
          · rw [if_pos h2]
            rw [List.getElem?_append_left (by rw [Nat.add_mul] at h2; omega), hlo] at hx
            exact keep (fun b hb => (d4.free _ b hb).1) (d4.shp _ x hx)
          · rw [if_neg h2]
            rw [List.getElem?_append_right (by rw [Nat.add_mul] at h2; omega)] at hx
            exact .one _ x (d5 _ x hx)
      · have q1 : ∀ i, fo i q → (q = w.heap.size ∨ (dp = true ∧ (g.F q ∨ ∃ j, fs j q))) ∧ q ≠ w.heap.size := fun i h => ⟨.inr ⟨hdp, .inl (d2 i q h)⟩, by have := hfd q (d2 i q h); omega⟩
        have q2 : ∀ i, fs i q → (q = w.heap.size ∨ (dp = true ∧ (g.F q ∨ ∃ j, fs j q))) ∧ q ≠ w.heap.size := fun i h => ⟨.inr ⟨hdp, .inr ⟨i, h⟩⟩, by have := (d4.free i q h).1; omega⟩
        dsimp only at hq
        split at hq
        · exact q1 _ hq
        · split at hq
          · exact q2 _ hq
          · exact hq.elim
      · have x1 : ∀ i j, fo i q → fs j q → False := fun i j h1 h2 => (d4.free j q h2).2.2 k g hk (d2 i q h1)
        dsimp only at hi hj
        split at hi
        · split at hj
          · exact d3 i j q hij hi hj
          · split at hj
            · exact x1 _ _ hi hj
            · exact hj.elim
        · split at hi
          · split at hj
            · exact x1 _ _ hj hi
            · split at hj
              · exact d4.disj _ _ q (by omega) hi hj
              · exact hj.elim
          · exact hi.elim
  · refine .lst w.heap.size 0 _ _ _ (by simp [hn, hm]) hcap ?_
    rw [List.flatMap_append]
    have hv : VDs w' I' (os ++ ns) (l.flatMap D.cells ++ ds.flatMap D.cells) := by
      have := hos.append hns
      exact VDs.mono (fun b j h => .inl h) (fun b j hi => hg.cell (hnlt hi)) this
    refine VDc.of_vals hv (fun j v hj => ?_)
    have hlt : j < (os ++ ns).length := (List.getElem?_eq_some_iff.1 hj).1
    refine ⟨?_, .inr ⟨rfl, ?_⟩⟩
    · rw [hcellnew, Nat.zero_add, List.getElem?_append_left hlt]; exact hj
    · simp [hlo, hln] at hlt; rw [Nat.add_mul]; omega
/-- In place. -/
theorem room_ok (hr : RelX c s a w I G) {k : Nat} {g : Gh} (hk : G[k]? = some g) {e b : Nat} {sz n m : Nat} {dp dp0 : Bool} {l ds : List D} {ns : List Value} {cap : Nat} {cur : Array Value}
    (hroot : g.root = .slice (some ⟨b, 0, none⟩) n cap) (hb : w.heap[b]? = some (.cells cur e (0, 0))) (hmax : cap ≤ maxLen) (hcs : cur.size = cap * sz) (hF : g.F b) (hni : ∀ j, n * sz ≤ j → ¬ I b j)
    (hv : VDc w I b 0 (l.flatMap D.cells)) (hll : (l.flatMap D.cells).length = n * sz) (hn : n = l.length)
    (hns : VDs w I ns (ds.flatMap D.cells)) (hln : ns.length = m * sz) (hm : m = ds.length) (hroom : n + m ≤ cap)
    (fs : Nat → Nat → Prop) (hd : dp = true → ShpB w g.F b cur ∧ Deep w c G ns fs) :
    let w' := w.setRow b (cur.toList.take (n * sz) ++ ns ++ cur.toList.drop (n * sz + ns.length)).toArray
    let v' := Value.slice (some ⟨b, 0, none⟩) (n + m) cap
    let I' : Im := fun q j => I q j ∨ (q = b ∧ j < (n + m) * sz)
    let g' : Gh := ⟨v', fun q => g.F q ∨ (dp = true ∧ ∃ j, fs j q)⟩
    Upd c w w' I I' G k g g' ∧ ObjR w' I' (G.set k g') g' (.app e sz dp) ∧ VD w' I' v' (.lst (l ++ ds)) := by
  intro w' v' I' g'
  have hle : n * sz + m * sz ≤ cap * sz := by rw [← Nat.add_mul]; exact Nat.mul_le_mul_right _ hroom
  have hnew : w'.heap[b]? = some (.cells (cur.toList.take (n * sz) ++ ns ++ cur.toList.drop (n * sz + ns.length)).toArray e (0, 0)) := setRow_heap w b cur _ e _ hb
  have hother : ∀ q, q ≠ b → w'.heap[q]? = w.heap[q]? := fun q hq => setRow_other w b q _ hq
  have hsize : w'.heap.size = w.heap.size := Go.setRow_size _ _ _
  have hcell : ∀ j, w'.cell? ⟨b, j, none⟩ = (cur.toList.take (n * sz) ++ ns ++ cur.toList.drop (n * sz + ns.length))[j]? := fun j => by rw [cell_in hnew]; simp
  have htl : (cur.toList.take (n * sz)).length = n * sz := by simp; omega
  have hlow : ∀ j, j < n * sz → w'.cell? ⟨b, j, none⟩ = w.cell? ⟨b, j, none⟩ := fun j hj => by
    rw [hcell, cell_in hb, List.append_assoc, List.getElem?_append_left (by omega), List.getElem?_take, if_pos hj]; simp
  have hkeep : ∀ q j, I q j → w'.cell? ⟨q, j, none⟩ = w.cell? ⟨q, j, none⟩ := fun q j hi => by
    by_cases hq : q = b
    · subst hq
      exact hlow j (Nat.lt_of_not_le (fun h => hni j h hi))
    · exact World.cell?_of_block (w := w) (hother q hq)
  have hfd := fun q => hr.objs.inb k g q hk
  have hblt := hfd b hF
  refine ⟨⟨hk, rfl, rfl, rfl, by rw [hsize]; exact Nat.le_refl _, fun q _ hq => hother q (fun h => hq (h ▸ hF)), fun q j hi => ⟨.inl hi, hkeep q j hi⟩, fun q j hi => ?_, fun q hq => ?_⟩, ?_, ?_⟩
  · rcases hi with hi | ⟨rfl, hj⟩
    · obtain ⟨x, hx⟩ := hr.objs.imm q j hi
      exact ⟨.inl hi, x, (hkeep q j hi).trans hx⟩
    · refine ⟨.inr (.inl hF), _, (hcell j).trans (List.getElem?_eq_getElem (by simp; rw [Nat.add_mul] at hj; omega))⟩
  · rcases hq with hq | ⟨hdp, j, hq⟩
    · exact ⟨by rw [hsize]; exact hfd q hq, hr.fr.own k g q hk hq, fun i gi hne e hq' => hr.objs.disj i k gi g q e hk hne hq' hq⟩
    · obtain ⟨h1, h2, h3⟩ := (hd hdp).2.free j q hq
      exact ⟨by rw [hsize]; exact h1, h2, fun i gi _ e hq' => h3 i gi e hq'⟩
  · refine .inr (.inr ⟨b, n + m, cap, _, rfl, hnew, hroom, hmax, ?_, .inl hF, fun j hj hi => ?_, fun hdp => ?_⟩)
    · simp; omega
    · rcases hi with hi | ⟨_, hi⟩
      · exact hni j (by rw [Nat.add_mul] at hj; omega) hi
      · omega
    · obtain ⟨d1, d2⟩ := hd hdp
      obtain ⟨Fs, f1, f2, f3⟩ := d1
      have keep : ∀ {F : Nat → Prop} {x : Value}, (∀ q, F q → q ≠ b) → Shp w F x → Shp w' F x := fun hF hs => hs.keep (fun q hq => hother q (hF q hq))
      refine ⟨fun j => if n * sz ≤ j ∧ j < n * sz + m * sz then fs (j - n * sz) else Fs j, fun j x hx => ?_, fun j q hq => ?_, fun i j q hij hi hj => ?_⟩
      · dsimp only
        simp only [List.getElem?_toArray] at hx
        by_cases h1 : n * sz ≤ j ∧ j < n * sz + m * sz
        · rw [if_pos h1]
          rw [List.append_assoc, List.getElem?_append_right (by omega), List.getElem?_append_left (by omega), htl] at hx
          exact keep (fun q hq h => (d2.free _ q hq).2.2 k g hk (h ▸ hF)) (d2.shp _ x hx)
        · rw [if_neg h1]
          refine keep (fun q hq => (f2 j q hq).2) (f1 j x ?_)
          by_cases h2 : j < n * sz
          · rw [List.append_assoc, List.getElem?_append_left (by omega), List.getElem?_take, if_pos h2] at hx
            simpa using hx
          · rw [List.getElem?_append_right (by simp; omega), List.getElem?_drop] at hx
            have : n * sz + ns.length + (j - (cur.toList.take (n * sz) ++ ns).length) = j := by simp; omega
            rw [this] at hx
            simpa using hx
      · dsimp only at hq
        split at hq
        · exact ⟨.inr ⟨hdp, _, hq⟩, fun h => (d2.free _ q hq).2.2 k g hk (h ▸ hF)⟩
        · exact ⟨.inl (f2 j q hq).1, (f2 j q hq).2⟩
      · dsimp only at hi hj
        split at hi <;> split at hj
        · exact d2.disj _ _ q (by omega) hi hj
        · exact (d2.free _ q hi).2.2 k g hk (f2 j q hj).1
        · exact (d2.free _ q hj).2.2 k g hk (f2 i q hi).1
        · exact f3 i j q hij hi hj
  · refine .lst b 0 _ _ _ (by simp [hn, hm]) hroom ?_
    rw [List.flatMap_append]
    have h1 : VDc w' I' b 0 (l.flatMap D.cells) := VDc.mono (fun _ _ h => .inl h) hkeep hv
    refine h1.append ?_
    have h2 : VDs w' I' ns (ds.flatMap D.cells) := VDs.mono (fun _ _ h => .inl h) hkeep hns
    refine VDc.of_vals h2 (fun j v hj => ?_)
    have hlt : j < ns.length := (List.getElem?_eq_some_iff.1 hj).1
    rw [Nat.zero_add, hll]
    refine ⟨?_, .inr ⟨rfl, by rw [Nat.add_mul]; omega⟩⟩
    rw [hcell, List.append_assoc, List.getElem?_append_right (by omega), htl, List.getElem?_append_left (by omega), show n * sz + j - n * sz = j by omega]
    exact hj
end
end Go.Ab
