/- Cuts, structs out of parts, lengths. -/
import Derived.Test.YtfmllefmfhefpaaAbF
namespace Go.Ab
open Go
set_option linter.unusedVariables false
set_option linter.unusedSimpArgs false
section
variable {P : Program} {T : Ty} {w : World} {I : Im} {G : List Gh}
theorem cut_lo {lo : Option A} {v : Option Value} {K : Int → Prop} (hv : ∀ x a, v = some x → lo = some a → VA w I G x a) (hn : v = none ↔ lo = none) (h : cutLo lo K) :
    ∃ l, K l ∧ ((v = none ∧ l = 0) ∨ ∃ k, v = some (.int k l)) := by
  unfold cutLo at h
  split at h
  · exact ⟨0, h, .inl ⟨hn.2 rfl, rfl⟩⟩
  · rename_i k n
    cases v with
    | none => exact absurd (hn.1 rfl) (by simp)
    | some x => obtain rfl := (hv x _ rfl rfl).inv_v; exact ⟨_, h, .inr ⟨_, rfl⟩⟩
  · exact h.elim
theorem cut_hi {hi : Option A} {v : Option Value} {len : Nat} {K : Int → Prop} (hv : ∀ x a, v = some x → hi = some a → VA w I G x a) (hn : v = none ↔ hi = none) (h : cutHi hi len K) :
    ∃ l, K l ∧ ((v = none ∧ l = len) ∨ ∃ k, v = some (.int k l)) := by
  unfold cutHi at h
  split at h
  · exact ⟨len, h, .inl ⟨hn.2 rfl, rfl⟩⟩
  · rename_i k n
    cases v with
    | none => exact absurd (hn.1 rfl) (by simp)
    | some x => obtain rfl := (hv x _ rfl rfl).inv_v; exact ⟨_, h, .inr ⟨_, rfl⟩⟩
  · exact h.elim
theorem run_bounds (b : Bool) {len cap : Nat} {vl vh : Option Value} {l h : Int} (h0 : 0 ≤ l) (h1 : l ≤ h) (h2 : h ≤ len) (h3 : len ≤ cap)
    (hl : (vl = none ∧ l = 0) ∨ ∃ k, vl = some (.int k l)) (hh : (vh = none ∧ h = len) ∨ ∃ k, vh = some (.int k h)) :
    (Instr.sliceBounds b len cap vl vh none).run P w = .ok (l.toNat, h.toNat, cap) w := by
  have hb : ∀ (k : IntKind) (i : Int) (y : Nat) (c : BoundsCode), 0 ≤ i → i ≤ y → (Instr.sliceBound (.int k i) y c).run P w = .ok i.toNat w := fun k i y c a1 a2 => by
    simp [Instr.sliceBound, asIntOf, a1, a2]
  have hht : ((h.toNat : Nat) : Int) = h := by omega
  rcases hl with ⟨rfl, rfl⟩ | ⟨k, rfl⟩ <;> rcases hh with ⟨rfl, rfl⟩ | ⟨k', rfl⟩
  · simp [Instr.sliceBounds]
  · simp [Instr.sliceBounds, hb k' h cap _ (by omega) (by omega)]
  · simp [Instr.sliceBounds, hb k l len _ h0 (by omega)]
  · simp [Instr.sliceBounds, hb k' h cap _ (by omega) (by omega), hb k l h.toNat _ h0 (by omega)]
theorem flat_take {sz : Nat} {l : List D} (hf : Flat sz l) (n : Nat) : (l.take n).flatMap D.cells = (l.flatMap D.cells).take (n * sz) := by
  induction l generalizing n with
  | nil => simp
  | cons y l ih =>
    cases n with
    | zero => simp
    | succ n =>
      have hy := hf y List.mem_cons_self
      rw [List.take_succ_cons, List.flatMap_cons, List.flatMap_cons, ih (fun z hz => hf z (List.mem_cons_of_mem _ hz)), List.take_append, hy]
      rw [List.take_of_length_le (l := y.cells) (by rw [hy, Nat.add_mul]; omega), show (n + 1) * sz - sz = n * sz by rw [Nat.add_mul]; omega]
theorem flat_drop {sz : Nat} {l : List D} (hf : Flat sz l) (n : Nat) : (l.drop n).flatMap D.cells = (l.flatMap D.cells).drop (n * sz) := by
  induction l generalizing n with
  | nil => simp
  | cons y l ih =>
    cases n with
    | zero => simp
    | succ n =>
      have hy := hf y List.mem_cons_self
      rw [List.drop_succ_cons, List.flatMap_cons, ih (fun z hz => hf z (List.mem_cons_of_mem _ hz)), List.drop_append, hy]
      rw [List.drop_eq_nil_of_le (as := y.cells) (by rw [hy, Nat.add_mul]; omega), List.nil_append, show (n + 1) * sz - sz = n * sz by rw [Nat.add_mul]; omega]
theorem flat_len {sz : Nat} {l : List D} (hf : Flat sz l) : (l.flatMap D.cells).length = l.length * sz := by
  induction l with
  | nil => simp
  | cons y l ih =>
    rw [List.flatMap_cons, List.length_append, hf y List.mem_cons_self, ih (fun z hz => hf z (List.mem_cons_of_mem _ hz)), List.length_cons, Nat.add_mul]; omega
theorem Flat.take {sz : Nat} {l : List D} (hf : Flat sz l) (n : Nat) : Flat sz (l.take n) := fun x hx => hf x (List.mem_of_mem_take hx)
theorem yields_slice (hT : TOk P T) {t : Nat} {x : Value} {a : A} {lo hi : Option A} {vl vh : Option Value} {K : A → Prop} (hx : VA w I G x a)
    (hlo : ∀ x a, vl = some x → lo = some a → VA w I G x a) (hnl : vl = none ↔ lo = none) (hhi : ∀ x a, vh = some x → hi = some a → VA w I G x a) (hnh : vh = none ↔ hi = none)
    (hk : vcSlice T t a lo hi K) : Yields P w I G (Instr.sliceAt t x vl vh none) K := by
  unfold vcSlice at hk
  split at hk
  · rename_i sz by_ z et
    obtain ⟨_, _, _, _, _, _, _, _, _, _, _, _, hu⟩ := hT t _ et
    split at hk
    · rename_i s
      obtain rfl := hx.inv_v
      obtain ⟨l, hk, hl⟩ := cut_lo hlo hnl hk
      obtain ⟨h, hk, hh⟩ := cut_hi hhi hnh hk
      obtain ⟨⟨h0, h1, h2⟩, hk⟩ := hk
      refine ⟨_, _, fun w' _ => ?_, .d (.v _ rfl), hk⟩
      simp [Instr.sliceAt, Instr.slice, run_under hu, run_bounds false h0 h1 h2 (Nat.le_refl _) hl hh]
    · exact hk.elim
  · rename_i e sz by_ z et
    obtain ⟨_, _, _, _, _, _, _, _, _, _, _, _, hu⟩ := hT t _ et
    split at hk
    · rename_i ie r ee er
      obtain ⟨l, hk, hl⟩ := cut_lo hlo hnl hk
      obtain ⟨h, hk, hh⟩ := cut_hi hhi hnh hk
      obtain ⟨⟨h0, h1, h2⟩, hf, hk⟩ := hk
      obtain ⟨AA, c, rfl, hc, hA, hn⟩ := (hx.row er).row
      have hrun : ∀ w : World, (Instr.sliceAt t (.slice AA r.length c) vl vh none).run P w = .ok (.slice (if c = l.toNat then AA else AA.map (·.add (l.toNat * ie.sz))) (h.toNat - l.toNat) (c - l.toNat)) w := fun w => by
        simp [Instr.sliceAt, Instr.slice, run_under hu, run_bounds true h0 h1 h2 hc hl hh, run_size (hT _ _ ee)]
      refine ⟨_, _, fun w' _ => hrun w', .d ?_, hk⟩
      have hlen : h.toNat - l.toNat = ((r.take h.toNat).drop l.toNat).length := by simp; omega
      cases AA with
      | none =>
        have hr := hn rfl
        subst hr
        have : h.toNat = 0 := by simp at h2; omega
        have hc0 : l.toNat = 0 := by omega
        cases hx.row er with
        | lnil => simp [this, hc0]; exact .lnil
      | some ad =>
        obtain ⟨b, o, s⟩ := ad
        obtain ⟨hs, hcells⟩ := hA b o s rfl
        by_cases hr0 : r = []
        · subst hr0
          have h3 : h.toNat = 0 := by simp at h2; omega
          have h4 : l.toNat = 0 := by omega
          rw [h3, h4]
          simp only [List.take_zero, List.drop_zero, Nat.sub_zero]
          split
          · exact .lemp _ _
          · exact .lemp _ _
        obtain rfl : s = none := hs.elim id fun h => absurd h hr0
        have hcc : VDc w I b (o + l.toNat * ie.sz) (((r.take h.toNat).drop l.toNat).flatMap D.cells) := by
          rw [flat_drop (hf.take _), flat_take hf]
          refine (hcells.take _).drop _ ?_
          rw [List.length_take, flat_len hf]
          have h3 : l.toNat ≤ h.toNat := by omega
          have h4 : h.toNat ≤ r.length := by omega
          exact Nat.le_min.2 ⟨Nat.mul_le_mul_right _ h3, Nat.mul_le_mul_right _ (by omega)⟩
        by_cases hcl : c = l.toNat
        · rw [if_pos hcl]
          have h0 : (r.take h.toNat).drop l.toNat = [] := List.eq_nil_of_length_eq_zero (by omega)
          rw [h0]
          exact .lst b o _ _ [] (by rw [hlen, h0]) (by omega) (.nil _ _)
        · rw [if_neg hcl]
          simp only [Option.map_some, add_at]
          exact .lst b _ _ _ _ hlen (by omega) hcc
    · exact hk.elim
  · exact hk.elim
theorem yields_len (hT : TOk P T) {h : List O} (hh : RelH w I G h) {t : Nat} {ty : TypeId} {x : Value} {a : A} {n : Nat} (hx : VA w I G x a) (hok : lenOk T t a) (hl : a.len? h = some n) :
    (Builtin.len_ #[t] ty #[x]).run P w = .ok (.int .i64 n) w := by
  have row : ∀ {l : List D}, VD w I x (.lst l) → (∃ e, P.underlying t = some (.slice e)) → (Builtin.len_ #[t] ty #[x]).run P w = .ok (.int .i64 l.length) w := fun {l} hv ⟨e, hu⟩ => by
    obtain ⟨AA, c, rfl, _⟩ := hv.row
    simp [Builtin.len_, run_under hu, goInt]
  unfold lenOk at hok
  split at hok
  · rename_i sz by_ z s et
    obtain ⟨_, _, _, _, _, _, _, _, _, _, _, _, hu⟩ := hT t _ et
    obtain rfl := hx.inv_v
    simp only [A.len?] at hl; cases hl
    simp [Builtin.len_, run_under hu, goInt]
  · rename_i kk ee sz by_ z k et
    obtain ⟨_, _, _, _, _, _, _, _, _, _, _, _, hu⟩ := hT t _ et
    simp only [A.len?] at hl
    split at hl
    · rename_i kt vt l e
      cases hl
      cases hx with
      | mp r k g hg hr =>
        obtain ⟨g', hg', r', es, c, e1, e2, e3, _⟩ := hh.get e
        rw [hg] at hg'; cases hg'
        rw [hr] at e1; cases e1
        have hlen : es.size = l.length := by
          have := congrArg List.length e3.1
          simpa using this
        simp [Builtin.len_, run_under hu, goInt, getObj, Sem.run, e2, hlen]
    · cases hl
  · exact hok.elim
  · exact hok.elim
  · rename_i e sz by_ z et hns hnm
    obtain ⟨_, _, _, _, _, _, _, _, _, _, _, _, hu⟩ := hT t _ et
    cases hx with
    | d hv =>
      cases hv with
      | v x h1 =>
        cases x <;> first | exact absurd rfl (hns _) | (simp [A.len?, A.row?] at hl)
      | agg cs l hv => simp [A.len?, A.row?] at hl
      | lnil => simp only [A.len?, A.row?] at hl; cases hl; exact row .lnil ⟨e, hu⟩
      | lemp a c => simp only [A.len?, A.row?] at hl; cases hl; exact row (.lemp a c) ⟨e, hu⟩
      | lst b off n cap l h1 h2 h3 => simp only [A.len?, A.row?] at hl; cases hl; exact row (.lst b off n cap l h1 h2 h3) ⟨e, hu⟩
    | own k l g h1 h2 h3 => simp only [A.len?, A.row?] at hl; cases hl; exact row h3 ⟨e, hu⟩
    | nil => simp only [A.len?, A.row?] at hl; cases hl; exact row .lnil ⟨e, hu⟩
    | sl b n k l g h1 h2 h3 h4 =>
      simp only [A.len?] at hl; cases hl
      simp [Builtin.len_, run_under hu, goInt, h3]
    | arr k g hg hr h1 =>
      simp only [A.len?] at hl
      split at hl
      · rename_i u sz l e'
        cases hl
        obtain ⟨g', hg', b, cs, e1, _⟩ := hh.get e'
        rw [hg] at hg'; cases hg'
        rw [← hr, e1]
        simp [Builtin.len_, run_under hu, goInt]
      · rename_i r u sz l e'
        cases hl
        obtain ⟨g', hg', hroot, b, cs, t', sp, cap, e1, _⟩ := hh.get e'
        rw [hg] at hg'; cases hg'
        rw [← hr, hroot, e1]
        simp [Builtin.len_, run_under hu, goInt]
      · cases hl
    | mp r k g hg hr => exact absurd rfl (hnm _)
    | raw x h1 => simp [A.len?, A.row?] at hl
    | agg cs l h1 h2 => simp [A.len?, A.row?] at hl
    | tup cs l h1 => simp [A.len?, A.row?] at hl
    | rptr b off l h1 => simp [A.len?, A.row?] at hl
    | ref b k off g h1 h2 => simp [A.len?, A.row?] at hl
    | eptr b k sz i off n c g h1 h2 => simp [A.len?, A.row?] at hl
    | fn f cs l h1 => simp [A.len?, A.row?] at hl
    | any x => simp [A.len?, A.row?] at hl
  · exact hok.elim
end
end Go.Ab
/- Structs out of parts; how a world that grows or is written holds what it held. -/
namespace Go.Ab
open Go
set_option linter.unusedVariables false
set_option linter.unusedSimpArgs false
section
variable {P : Program} {T : Ty} {w : World} {I : Im} {G : List Gh}
theorem zs_one : ∀ {xs : List Value} {l : List A}, ZsOk xs l → ∀ x ∈ xs, x.oneCell' = true
  | [], [], _, x, h => by cases h
  | [], _ :: _, h, _, _ => h.elim
  | _ :: _, [], h, _, _ => h.elim
  | y :: xs, a :: l, h, x, hx => by
    cases hx with
    | head =>
      have h1 := h.1
      unfold ZOk at h1
      split at h1
      · rw [h1]; rfl
      · rw [h1.1]; exact sc_one h1.2
      · exact h1.elim
    | tail _ hx => exact zs_one h.2 x hx
theorem zs_flat : ∀ {xs : List Value} {l : List A}, ZsOk xs l → ∀ x ∈ xs, ∀ a n c, x = .slice (some a) n c → n = 0
  | [], [], _, x, h => by cases h
  | [], _ :: _, h, _, _ => h.elim
  | _ :: _, [], h, _, _ => h.elim
  | y :: xs, a :: l, h, x, hx => by
    cases hx with
    | head =>
      have h1 := h.1
      unfold ZOk at h1
      split at h1
      · intro a n c e; rw [h1] at e; cases e
      · intro a n c e; rw [h1.1] at e; exact absurd e (sc_slice h1.2 _ _ _)
      · exact h1.elim
    | tail _ hx => exact zs_flat h.2 x hx
theorem zs_as : ∀ {xs : List Value} {l : List A}, ZsOk xs l → VAs w I G xs l
  | [], [], _ => .nil
  | [], _ :: _, h => h.elim
  | _ :: _, [], h => h.elim
  | y :: xs, a :: l, h => by
    refine .cons ?_ (zs_as h.2)
    have h1 := h.1
    unfold ZOk at h1
    split at h1
    · rw [h1]; exact .nil
    · obtain ⟨rfl, h2⟩ := h1; exact .d (.v _ h2)
    · exact h1.elim
theorem VAs.splice {xs ys : List Value} {l c : List A} (h : VAs w I G xs l) (h2 : VAs w I G ys c) (o : Nat) : VAs w I G (xs.take o ++ ys ++ xs.drop (o + ys.length)) (splice l o c) := by
  unfold Ab.splice
  rw [h2.len]
  exact ((h.take o).append h2).append (h.drop _)
theorem fold_set (off : Nat) : ∀ (ys : List Value) (k : Nat) (cs : Array Value), off + k + ys.length ≤ cs.size →
    ((ys.zipIdx k).foldl (fun (cs : Array Value) (c, j) => cs.setIfInBounds (off + j) c) cs).toList = cs.toList.take (off + k) ++ ys ++ cs.toList.drop (off + k + ys.length)
  | [], k, cs, _ => by simp
  | y :: ys, k, cs, h => by
    simp only [List.length_cons] at h
    have hlt : off + k < cs.size := by omega
    rw [List.zipIdx_cons, List.foldl_cons, fold_set off ys (k + 1) _ (by rw [Array.size_setIfInBounds]; omega)]
    simp only [Array.toList_setIfInBounds]
    rw [show off + (k + 1) = off + k + 1 by omega]
    have hl : off + k < cs.toList.length := by simpa using hlt
    have e1 : (cs.toList.set (off + k) y).take (off + k + 1) = cs.toList.take (off + k) ++ [y] := by
      rw [List.take_succ_eq_append_getElem (by simpa using hl), List.take_set_of_le (Nat.le_refl _)]; simp
    have e2 : (cs.toList.set (off + k) y).drop (off + k + 1 + ys.length) = cs.toList.drop (off + k + 1 + ys.length) := List.drop_set_of_lt (by omega)
    rw [e1, e2]
    simp [Nat.add_assoc, Nat.add_comm 1]
/-- The places of a struct's fields, as the model asks for them. -/
theorem places_ok : ∀ {fs : List Field} {is : List FI}, FsOk P fs is → fs.mapM (fun f => (P.info? f.type).map fun i => (f.offset, i.size)) = some (is.map fun i => (i.off, i.sz))
  | [], [], _ => rfl
  | [], _ :: _, h => h.elim
  | _ :: _, [], h => h.elim
  | f :: fs, i :: is, h => by
    obtain ⟨⟨h1, h2, _, _, _, z, hz⟩, h3⟩ := h
    have hs : z.size = i.sz := by simpa [Program.cellsOf, hz] using h2
    simp [List.mapM_cons, hz, places_ok h3, h1, hs]
theorem fill_ok {fs : List FI} : ∀ {parts : List (Nat × Value)} {ap : List (Nat × A)} {cs : Array Value} {l r : List A}, VAs w I G (parts.map (·.2)) (ap.map (·.2)) → parts.map (·.1) = ap.map (·.1) →
    VAs w I G cs.toList l → (∀ x ∈ cs.toList, x.oneCell' = true) → fillA T fs l ap = some r →
    ∃ cs' : Array Value, Instr.fill (fun i => (fs.map fun i => (i.off, i.sz))[i]?) cs parts = some cs' ∧ VAs w I G cs'.toList r ∧ (∀ x ∈ cs'.toList, x.oneCell' = true)
  | [], [], cs, l, r, _, _, h1, h2, h => by
    simp only [fillA] at h; cases h
    exact ⟨cs, rfl, h1, h2⟩
  | [], _ :: _, _, _, _, h, _, _, _, _ => by cases h
  | _ :: _, [], _, _, _, h, _, _, _, _ => by cases h
  | (i, v) :: parts, (i', a) :: ap, cs, l, r, hv, hi, h1, h2, h => by
    cases hv with
    | cons hv hvs =>
      simp only [List.map_cons, List.cons.injEq] at hi
      obtain ⟨rfl, hi⟩ := hi
      simp only [fillA] at h
      split at h
      · rename_i f x ef ex
        split at h
        · rename_i hc
          obtain ⟨c1, c2⟩ := hc
          obtain ⟨hx, hx1⟩ := VA.cells hv ex
          have hsz : v.cells.size = f.sz := by
            have := hx.len; simp at this; omega
          have hcl : cs.size = l.length := by
            have := h1.len; simpa using this
          have hfold := fold_set f.off v.cells.toList 0 cs (by simp; omega)
          simp only [Nat.add_zero] at hfold
          have hnext := h1.splice hx f.off
          rw [← hfold] at hnext
          have hone : ∀ y ∈ ((v.cells.toList.zipIdx 0).foldl (fun (cs : Array Value) (c, j) => cs.setIfInBounds (f.off + j) c) cs).toList, y.oneCell' = true := by
            rw [hfold]
            intro y hy
            rcases List.mem_append.1 hy with hy | hy
            · rcases List.mem_append.1 hy with hy | hy
              · exact h2 y (List.mem_of_mem_take hy)
              · exact hx1 y hy
            · exact h2 y (List.mem_of_mem_drop hy)
          obtain ⟨cs', e1, e2, e3⟩ := fill_ok hvs hi hnext hone h
          refine ⟨cs', ?_, e2, e3⟩
          have hb : (decide (v.cells.size ≠ f.sz) || decide (f.off + v.cells.size > cs.size)) = false := by
            rw [Bool.or_eq_false_iff, decide_eq_false_iff_not, decide_eq_false_iff_not]; omega
          rw [Instr.fill]
          simp only [List.getElem?_map, ef, Option.map_some]
          rw [hb, ← Array.foldl_toList, Array.toList_zipIdx]
          simp only [List.getElem?_map] at e1
          exact e1
        · cases h
      · cases h
theorem yields_build (hT : TOk P T) {t : Nat} {parts : List (Nat × Value)} {ap : List (Nat × A)} {K : A → Prop} (hv : VAs w I G (parts.map (·.2)) (ap.map (·.2))) (hi : parts.map (·.1) = ap.map (·.1))
    (hk : vcBuild T t ap K) : Yields P w I G (Instr.build t parts.toArray) K := by
  unfold vcBuild at hk
  split at hk
  · rename_i fs sz by_ z et
    split at hk
    · rename_i c ec
      obtain ⟨f, zv, h1, h2, h3, h4, h5, h6, h7, h8, h9, q, hu, hf⟩ := hT t _ et
      obtain ⟨cs', e1, e2, e3⟩ := fill_ok (T := T) hv hi (zs_as (w := w) (I := I) (G := G) h5) (zs_one h5) ec
      refine ⟨_, _, fun w' _ => run_build w' t parts.toArray cs' ?_, VA.pack' e3 e2, hk⟩
      unfold Program.built
      simp only [h1, hu, h4, places_ok hf]
      simpa using e1
    · exact hk.elim
  · exact hk.elim
end
end Go.Ab
/- Worlds that grow, objects that turn: what was held is held. -/
namespace Go.Ab
open Go
set_option linter.unusedVariables false
set_option linter.unusedSimpArgs false
section
variable {w w' : World} {I I' : Im} {G G' : List Gh}
theorem Shp.keep {F : Nat → Prop} {v : Value} (h : Shp w F v) : (∀ b, F b → w'.heap[b]? = w.heap[b]?) → Shp w' F v := by
  induction h with
  | one F x h => intro _; exact .one F x h
  | slc F Fs b n c t cs h1 h2 h3 h4 h5 ih =>
    intro hF
    exact .slc F Fs b n c t cs h1 ((hF b h1).trans h2) (fun j x hx => ih j x hx (fun k hk => hF k (h4 j k hk).1)) h4 h5
theorem ShpB.keep {F : Nat → Prop} {b : Nat} {cs : Array Value} (h : ShpB w F b cs) (hF : ∀ b, F b → w'.heap[b]? = w.heap[b]?) : ShpB w' F b cs := by
  obtain ⟨Fs, h1, h2, h3⟩ := h
  exact ⟨Fs, fun j x hx => (h1 j x hx).keep (fun k hk => hF k (h2 j k hk).1), h2, h3⟩
theorem ShpB.shp {F : Nat → Prop} {b : Nat} {cs : Array Value} {t n c : Nat} (h : ShpB w F b cs) (hF : F b) (hb : w.heap[b]? = some (.cells cs t (0, 0))) : Shp w F (.slice (some ⟨b, 0, none⟩) n c) := by
  obtain ⟨Fs, h1, h2, h3⟩ := h
  exact .slc F Fs b n c t cs hF hb h1 h2 h3
theorem Shp.up {F F' : Nat → Prop} {v : Value} (h : Shp w F v) (hF : ∀ b, F b → F' b) : Shp w F' v := by
  cases h with
  | one F _ h => exact .one F' _ h
  | slc F Fs b n c t cs h1 h2 h3 h4 h5 => exact .slc F' Fs b n c t cs (hF b h1) h2 h3 (fun j k hk => ⟨hF k (h4 j k hk).1, (h4 j k hk).2⟩) h5
theorem VDs.mono' (hI : ∀ b j, I b j → I' b j) (hc : ∀ b j, I b j → w'.cell? ⟨b, j, none⟩ = w.cell? ⟨b, j, none⟩) {xs : List Value} {l : List D} (h : VDs w I xs l) : VDs w' I' xs l := VDs.mono hI hc h
theorem TreeV.keep : ∀ {F : Nat → Prop} {x : Value} {d : D}, TreeV w F x d → (∀ b, F b → w'.heap[b]? = w.heap[b]?) → TreeV w' F x d
  | _, _, _, .v F x h, _ => .v F x h
  | _, _, _, .nil F, _ => .nil F
  | _, _, _, .emp F a c, _ => .emp F a c
  | _, _, _, .lst F Fs xs b n c t cs l hb hh hn hc h1 h2 h4 h5, hF =>
    .lst F Fs xs b n c t cs l hb ((hF b hb).trans hh) hn hc h1 (fun j d e => (h2 j d e).keep fun k hk => hF k (h4 j k hk).1) h4 h5
theorem Forest.keep {F : Nat → Prop} {l : List (Value × D)} (h : Forest w F l) (hF : ∀ b, F b → w'.heap[b]? = w.heap[b]?) : Forest w' F l := by
  obtain ⟨Fs, h1, h2, h3⟩ := h
  exact ⟨Fs, fun m v d e => ⟨(h1 m v d e).1, (h1 m v d e).2.keep fun k hk => hF k (h2 m k hk)⟩, h2, h3⟩
/-- An object whose own blocks have not been touched. -/
theorem ObjR.keep {g : Gh} {o : O} (hI : ∀ b j, I b j → I' b j) (hc : ∀ b j, I b j → w'.cell? ⟨b, j, none⟩ = w.cell? ⟨b, j, none⟩)
    (hG : ∀ (k : Nat) (g : Gh), G[k]? = some g → ∃ g' : Gh, G'[k]? = some g' ∧ g'.root = g.root)
    (hF : ∀ b, g.F b → w'.heap[b]? = w.heap[b]?) (hIF : ∀ b j, g.F b → I' b j → I b j) (h : ObjR w I G g o) : ObjR w' I' G' g o := by
  cases o with
  | box t l =>
    obtain ⟨b, cs, h1, h2, h3, h4, h5, h6⟩ := h
    have hb := (h5 b).2 rfl
    exact ⟨b, cs, h1, (hF b hb).trans h2, h3.mono hI hc hG, h4, h5, fun j hj => h6 j (hIF b j hb hj)⟩
  | app t sz dp =>
    rcases h with h | h | ⟨b, n, cap, cs, h1, h2, h3, h4, h5, h6, h7, h9⟩
    · exact .inl h
    · exact .inr (.inl h)
    · exact .inr (.inr ⟨b, n, cap, cs, h1, (hF b h6).trans h2, h3, h4, h5, h6, fun j hj hi => h7 j hj (hIF b j h6 hi), fun hd => (h9 hd).keep hF⟩)
  | row t sz l =>
    obtain ⟨b, cs, h1, h2, h3, h4, h5, h6, h7⟩ := h
    have hb := (h6 b).2 rfl
    exact ⟨b, cs, h1, (hF b hb).trans h2, h3.mono hI hc hG, h4, h5, h6, fun j hj => h7 j (hIF b j hb hj)⟩
  | opn r t sz l =>
    obtain ⟨h0, b, cs, t', sp, cap, h1, hcap, h2, h3, h4, h5, h6, h7⟩ := h
    have hb := (h6 b).2 rfl
    exact ⟨h0, b, cs, t', sp, cap, h1, hcap, (hF b hb).trans h2, h3.mono hI hc hG, h4, h5, h6, fun j hj => h7 j (hIF b j hb hj)⟩
  | forest l => exact ⟨h.1, h.2.1.keep hF, fun b j hb hi => h.2.2 b j hb (hIF b j hb hi)⟩
  | map kt vt l =>
    obtain ⟨r, es, c, h1, h2, h3, h4⟩ := h
    exact ⟨r, es, c, h1, (hF r ((h4 r).2 rfl)).trans h2, ⟨h3.1, VDs.mono hI hc h3.2⟩, h4⟩
  | dead => exact h
theorem ObjR.demK {g : Gh} {o : O} (q : Nat) (hI : ∀ b j, I b j → I' b j) (hc : ∀ b j, I b j → w'.cell? ⟨b, j, none⟩ = w.cell? ⟨b, j, none⟩)
    (hG : ∀ (k : Nat) (g : Gh), k ≠ q → G[k]? = some g → ∃ g' : Gh, G'[k]? = some g' ∧ g'.root = g.root)
    (hF : ∀ b, g.F b → w'.heap[b]? = w.heap[b]?) (hIF : ∀ b j, g.F b → I' b j → I b j) (h : ObjR w I G g o) : ObjR w' I' G' g (o.dem q) := by
  cases o with
  | box t l =>
    obtain ⟨b, cs, h1, h2, h3, h4, h5, h6⟩ := h
    have hb := (h5 b).2 rfl
    exact ⟨b, cs, h1, (hF b hb).trans h2, h3.dem hI hc q hG, h4, h5, fun j hj => h6 j (hIF b j hb hj)⟩
  | app t sz dp =>
    rcases h with h | h | ⟨b, n, cap, cs, h1, h2, h3, h4, h5, h6, h7, h9⟩
    · exact .inl h
    · exact .inr (.inl h)
    · exact .inr (.inr ⟨b, n, cap, cs, h1, (hF b h6).trans h2, h3, h4, h5, h6, fun j hj hi => h7 j hj (hIF b j h6 hi), fun hd => (h9 hd).keep hF⟩)
  | row t sz l =>
    obtain ⟨b, cs, h1, h2, h3, h4, h5, h6, h7⟩ := h
    have hb := (h6 b).2 rfl
    refine ⟨b, cs, ?_, (hF b hb).trans h2, ?_, h4, ?_, h6, fun j hj => h7 j (hIF b j hb hj)⟩
    · rw [A.dems_eq, List.length_map]; exact h1
    · have := h3.dem hI hc q hG
      rw [A.dems_eq, A.flat_dem]
      rwa [A.dems_eq] at this
    · intro x hx
      rw [A.dems_eq] at hx
      obtain ⟨y, hy, rfl⟩ := List.mem_map.1 hx
      rw [A.cells_dem, List.length_map]
      exact h5 y hy
  | opn r t sz l =>
    obtain ⟨h0, b, cs, t', sp, cap, h1, hcap, h2, h3, h4, h5, h6, h7⟩ := h
    have hb := (h6 b).2 rfl
    refine ⟨h0, b, cs, t', sp, cap, ?_, ?_, (hF b hb).trans h2, ?_, by rw [A.dems_eq, List.length_map]; exact h4, ?_, h6, fun j hj => h7 j (hIF b j hb hj)⟩
    · rw [A.dems_eq, List.length_map]; exact h1
    · rw [A.dems_eq, List.length_map]; exact hcap
    · have := h3.dem hI hc q hG
      rw [A.dems_eq, A.flat_dem]
      rw [A.dems_eq, List.map_append, List.map_replicate] at this
      exact this
    · intro x hx
      rw [A.dems_eq] at hx
      obtain ⟨y, hy, rfl⟩ := List.mem_map.1 hx
      rw [A.cells_dem, List.length_map]
      exact h5 y hy
  | forest l => exact ⟨h.1, h.2.1.keep hF, fun b j hb hi => h.2.2 b j hb (hIF b j hb hi)⟩
  | map kt vt l =>
    obtain ⟨r, es, c, h1, h2, h3, h4⟩ := h
    exact ⟨r, es, c, h1, (hF r ((h4 r).2 rfl)).trans h2, ⟨h3.1, VDs.mono hI hc h3.2⟩, h4⟩
  | dead => exact h

structure Grow (w w' : World) : Prop where
  os : w'.os = w.os
  tape : w'.tape = w.tape
  output : w'.output = w.output
  size : w.heap.size ≤ w'.heap.size
  block : ∀ b, b < w.heap.size → w'.heap[b]? = w.heap[b]?
theorem Grow.alloc (w : World) (o : Obj) : Grow w (w.alloc o) := ⟨rfl, rfl, rfl, by simp, fun b hb => by show (w.heap.push o)[b]? = _; rw [Array.getElem?_push, if_neg (by omega)]⟩
theorem Grow.refl (w : World) : Grow w w := ⟨rfl, rfl, rfl, Nat.le_refl _, fun _ _ => rfl⟩
theorem Grow.trans {a b c : World} (h : Grow a b) (k : Grow b c) : Grow a c :=
  ⟨k.os.trans h.os, k.tape.trans h.tape, k.output.trans h.output, Nat.le_trans h.size k.size, fun i hi => (k.block i (Nat.lt_of_lt_of_le hi h.size)).trans (h.block i hi)⟩
theorem Grow.drew (w : World) : Grow w w.drew := ⟨rfl, rfl, rfl, Nat.le_refl _, fun _ _ => rfl⟩
theorem RelH.lt {h : List O} (hh : RelH w I G h) {b j : Nat} (hi : I b j) : b < w.heap.size := by
  obtain ⟨x, hx⟩ := hh.imm b j hi
  exact World.block_lt_of_cell? w _ hx
theorem Grow.cell (hg : Grow w w') {b j : Nat} (hb : b < w.heap.size) : w'.cell? ⟨b, j, none⟩ = w.cell? ⟨b, j, none⟩ := World.cell?_of_block (w := w) (hg.block b hb)
theorem same_roots (G : List Gh) : ∀ (k : Nat) (g : Gh), G[k]? = some g → ∃ g' : Gh, G[k]? = some g' ∧ g'.root = g.root := fun k g h => ⟨g, h, rfl⟩
theorem RelH.grow {h : List O} (hh : RelH w I G h) (hg : Grow w w') (hI : ∀ b j, I b j → I' b j)
    (hI' : ∀ b j, I' b j → I b j ∨ (w.heap.size ≤ b ∧ ∃ x, w'.cell? ⟨b, j, none⟩ = some x)) : RelH w' I' G h where
  len := hh.len
  obj k g o e1 e2 := (hh.obj k g o e1 e2).keep hI (fun b j hi => hg.cell (hh.lt hi)) (same_roots G) (fun b hb => hg.block b (hh.inb k g b e1 hb))
    (fun b j hb hi => (hI' b j hi).resolve_right (fun hr => by have := hh.inb k g b e1 hb; omega))
  disj := hh.disj
  inb k g b e1 e2 := Nat.lt_of_lt_of_le (hh.inb k g b e1 e2) hg.size
  imm b j hi := by
    rcases hI' b j hi with h1 | h1
    · obtain ⟨x, hx⟩ := hh.imm b j h1
      exact ⟨x, (hg.cell (hh.lt h1)).trans hx⟩
    · exact h1.2
theorem Fr.grow {c : Cx} {h : List O} (hf : Fr c w I G) (hh : RelH w I G h) (hg : Grow w w') (hI : ∀ b j, I b j → I' b j)
    (hI' : ∀ b j, I' b j → I b j ∨ (w.heap.size ≤ b ∧ ∃ x, w'.cell? ⟨b, j, none⟩ = some x)) : Fr c w' I' G where
  os := hg.os.trans hf.os
  tape := hg.tape.trans hf.tape
  output := hg.output.trans hf.output
  size := Nat.le_trans hf.size hg.size
  block b hb hn := (hg.block b (Nat.lt_of_lt_of_le hb hf.size)).trans (hf.block b hb hn)
  cell b j hi := by
    obtain ⟨h1, h2⟩ := hf.cell b j hi
    exact ⟨hI b j h1, (hg.cell (hh.lt h1)).trans h2⟩
  im b j hi := by
    rcases hI' b j hi with h1 | h1
    · exact hf.im b j h1
    · exact .inr (.inr (Nat.le_trans hf.size h1.1))
  own := hf.own
theorem RelX.grow {c : Cx} {s : St} {a : Act} (h : RelX c s a w I G) (hg : Grow w w') (hI : ∀ b j, I b j → I' b j)
    (hI' : ∀ b j, I' b j → I b j ∨ (w.heap.size ≤ b ∧ ∃ x, w'.cell? ⟨b, j, none⟩ = some x)) : RelX c s a w' I' G where
  defers := h.defers
  tmps := h.tmps.mono hI (fun b j hi => hg.cell (h.objs.lt hi)) (same_roots G)
  objs := h.objs.grow hg hI hI'
  fr := h.fr.grow h.objs hg hI hI'
  pr := h.pr
theorem RelX.grow' {c : Cx} {s : St} {a : Act} (h : RelX c s a w I G) (hg : Grow w w') : RelX c s a w' I G := h.grow hg (fun _ _ h => h) (fun _ _ h => .inl h)
theorem roots_push (G : List Gh) (g : Gh) : ∀ (k : Nat) (g' : Gh), G[k]? = some g' → ∃ g'' : Gh, (G ++ [g])[k]? = some g'' ∧ g''.root = g'.root := fun k g' h =>
  ⟨g', by rw [List.getElem?_append_left (List.getElem?_eq_some_iff.1 h).1]; exact h, rfl⟩
/-- One object more. -/
theorem RelX.push {c : Cx} {s : St} {a : Act} (h : RelX c s a w I G) {g : Gh} {o : O} (ho : ObjR w I (G ++ [g]) g o)
    (hF : ∀ b, g.F b → b < w.heap.size ∧ (c.F b ∨ c.w.heap.size ≤ b) ∧ ∀ (k : Nat) (g' : Gh), G[k]? = some g' → ¬ g'.F b) : RelX c ⟨s.t, s.h ++ [o], s.p⟩ a w I (G ++ [g]) where
  defers := h.defers
  tmps := h.tmps.mono (fun _ _ h => h) (fun _ _ _ => rfl) (roots_push G g)
  objs := by
    have hl := h.objs.len
    have low : ∀ {k : Nat} {g' : Gh}, (G ++ [g])[k]? = some g' → (k < G.length ∧ G[k]? = some g') ∨ (k = G.length ∧ g' = g) := fun {k g'} e => by
      rcases Nat.lt_or_ge k G.length with hk | hk
      · rw [List.getElem?_append_left hk] at e; exact .inl ⟨hk, e⟩
      · rw [List.getElem?_append_right hk] at e
        have : k - G.length = 0 := by
          rcases Nat.eq_zero_or_pos (k - G.length) with h0 | h0
          · exact h0
          · rw [List.getElem?_eq_none (by simp; omega)] at e; cases e
        rw [this] at e
        simp at e
        exact .inr ⟨by omega, e.symm⟩
    refine ⟨by simp [hl], fun k g' o' e1 e2 => ?_, fun i j gi gj b e1 e2 hij hb hb' => ?_, fun k g' b e1 hb => ?_, h.objs.imm⟩
    · rcases low e1 with ⟨hk, e1⟩ | ⟨hk, rfl⟩
      · rw [List.getElem?_append_left (by omega)] at e2
        exact (h.objs.obj k g' o' e1 e2).keep (fun _ _ h => h) (fun _ _ _ => rfl) (roots_push G g) (fun _ _ => rfl) (fun _ _ _ h => h)
      · rw [List.getElem?_append_right (by omega)] at e2
        rw [show k - s.h.length = 0 by omega] at e2
        simp at e2; subst e2; exact ho
    · rcases low e1 with ⟨hi, e1⟩ | ⟨hi, rfl⟩ <;> rcases low e2 with ⟨hj, e2⟩ | ⟨hj, rfl⟩
      · exact h.objs.disj i j gi gj b e1 e2 hij hb hb'
      · exact (hF b hb').2.2 i gi (by assumption) hb
      · exact (hF b hb).2.2 j gj (by assumption) hb'
      · omega
    · rcases low e1 with ⟨hk, e1⟩ | ⟨hk, rfl⟩
      · exact h.objs.inb k g' b e1 hb
      · exact (hF b hb).1
  fr := ⟨h.fr.os, h.fr.tape, h.fr.output, h.fr.size, h.fr.block, h.fr.cell, h.fr.im, fun k g' b e1 hb => by
    rcases Nat.lt_or_ge k G.length with hk | hk
    · rw [List.getElem?_append_left hk] at e1; exact h.fr.own k g' b e1 hb
    · rw [List.getElem?_append_right hk] at e1
      have : k - G.length = 0 := by
        rcases Nat.eq_zero_or_pos (k - G.length) with h0 | h0
        · exact h0
        · rw [List.getElem?_eq_none (by simp; omega)] at e1; cases e1
      rw [this] at e1
      simp at e1; subst e1
      exact (hF b hb).2.1⟩
  pr k v e := by
    obtain ⟨h1, h2, g', h3, h4⟩ := h.pr k v e
    exact ⟨h1, h2, g', by rw [List.getElem?_append_left (List.getElem?_eq_some_iff.1 h3).1]; exact h3, h4⟩
theorem RelX.put {c : Cx} {s : St} {a : Act} (h : RelX c s a w I G) {v : Value} {r : A} (hv : VA w I G v r) (d : Option Nat) : RelX c (s.put d r) (a.put d v) w I G := by
  cases d with
  | none => exact h
  | some d =>
    refine ⟨h.defers, ?_, h.objs, h.fr, h.pr⟩
    simp only [Act.put, St.put]
    have := h.tmps.set d hv
    rwa [← Array.toList_setIfInBounds] at this
end
end Go.Ab
/- One object turns: a variable is written, a row is appended to. -/
namespace Go.Ab
open Go
set_option linter.unusedVariables false
set_option linter.unusedSimpArgs false
section
variable {w w' : World} {I I' : Im} {G : List Gh} {c : Cx} {s : St} {a : Act}
/-- What a step that turns object k alone does to the world. -/
structure Upd (c : Cx) (w w' : World) (I I' : Im) (G : List Gh) (k : Nat) (g g' : Gh) : Prop where
  at_ : G[k]? = some g
  os : w'.os = w.os
  tape : w'.tape = w.tape
  output : w'.output = w.output
  size : w.heap.size ≤ w'.heap.size
  block : ∀ b, b < w.heap.size → ¬ g.F b → w'.heap[b]? = w.heap[b]?
  keep : ∀ b j, I b j → I' b j ∧ w'.cell? ⟨b, j, none⟩ = w.cell? ⟨b, j, none⟩
  im : ∀ b j, I' b j → (I b j ∨ g.F b ∨ w.heap.size ≤ b) ∧ ∃ x, w'.cell? ⟨b, j, none⟩ = some x
  F : ∀ b, g'.F b → b < w'.heap.size ∧ (c.F b ∨ c.w.heap.size ≤ b) ∧ ∀ (j : Nat) (gj : Gh), j ≠ k → G[j]? = some gj → ¬ gj.F b
theorem set_get {G : List Gh} {k j : Nat} {g' gj : Gh} (h : (G.set k g')[j]? = some gj) : (j = k ∧ gj = g' ∧ k < G.length) ∨ (j ≠ k ∧ G[j]? = some gj) := by
  rw [List.getElem?_set] at h
  split at h
  · rename_i e
    split at h
    · simp at h; exact .inl ⟨e.symm, h.symm, by assumption⟩
    · cases h
  · rename_i e; exact .inr ⟨fun h => e h.symm, h⟩
theorem Upd.fr {k : Nat} {g g' : Gh} (u : Upd c w w' I I' G k g g') {h : List O} (hh : RelH w I G h) (hf : Fr c w I G) : Fr c w' I' (G.set k g') where
  os := u.os.trans hf.os
  tape := u.tape.trans hf.tape
  output := u.output.trans hf.output
  size := Nat.le_trans hf.size u.size
  block b hb hn := by
    refine (u.block b (Nat.lt_of_lt_of_le hb hf.size) (fun hg => ?_)).trans (hf.block b hb hn)
    rcases hf.own k g b u.at_ hg with h1 | h1
    · exact hn h1
    · omega
  cell b j hi := by
    obtain ⟨h1, h2⟩ := hf.cell b j hi
    exact ⟨(u.keep b j h1).1, (u.keep b j h1).2.trans h2⟩
  im b j hi := by
    rcases (u.im b j hi).1 with h1 | h1 | h1
    · exact hf.im b j h1
    · exact .inr (hf.own k g b u.at_ h1)
    · exact .inr (.inr (Nat.le_trans hf.size h1))
  own j gj b e hb := by
    rcases set_get e with ⟨_, rfl, _⟩ | ⟨_, e⟩
    · exact (u.F b hb).2.1
    · exact hf.own j gj b e hb
theorem Upd.relH {k : Nat} {g g' : Gh} (u : Upd c w w' I I' G k g g') {h h' : List O} (hh : RelH w I G h) (hl : h'.length = h.length)
    (ho : ∀ o', h'[k]? = some o' → ObjR w' I' (G.set k g') g' o')
    (hj : ∀ (j : Nat) (o' : O), j ≠ k → h'[j]? = some o' → ∃ o, h[j]? = some o ∧ ∀ gj, G[j]? = some gj → (∀ b, gj.F b → w'.heap[b]? = w.heap[b]?) → (∀ b i, gj.F b → I' b i → I b i) →
      ObjR w I G gj o → ObjR w' I' (G.set k g') gj o') : RelH w' I' (G.set k g') h' where
  len := by rw [List.length_set, hh.len, hl]
  obj j gj o' e1 e2 := by
    rcases set_get e1 with ⟨rfl, rfl, _⟩ | ⟨hne, e⟩
    · exact ho o' e2
    · obtain ⟨o, f1, f2⟩ := hj j o' hne e2
      refine f2 gj e (fun b hb => u.block b (hh.inb j gj b e hb) (fun hg => hh.disj j k gj g b e u.at_ hne hb hg)) (fun b i hb hi => ?_) (hh.obj j gj o e f1)
      rcases (u.im b i hi).1 with h1 | h1 | h1
      · exact h1
      · exact absurd h1 (hh.disj j k gj g b e u.at_ hne hb)
      · have := hh.inb j gj b e hb; omega
  disj i j gi gj b e1 e2 hij hb hb' := by
    rcases set_get e1 with ⟨rfl, rfl, _⟩ | ⟨hi, e1⟩ <;> rcases set_get e2 with ⟨rfl, rfl, _⟩ | ⟨hj', e2⟩
    · exact hij rfl
    · exact (u.F b hb).2.2 j gj hj' (by assumption) hb'
    · exact (u.F b hb').2.2 i gi hi (by assumption) hb
    · exact hh.disj i j gi gj b e1 e2 hij hb hb'
  inb j gj b e hb := by
    rcases set_get e with ⟨rfl, rfl, _⟩ | ⟨_, e⟩
    · exact (u.F b hb).1
    · exact Nat.lt_of_lt_of_le (hh.inb j gj b e hb) u.size
  imm b j hi := (u.im b j hi).2
theorem Upd.roots {k : Nat} {g g' : Gh} (u : Upd c w w' I I' G k g g') (hr : g'.root = g.root) : ∀ (j : Nat) (gj : Gh), G[j]? = some gj → ∃ g'' : Gh, (G.set k g')[j]? = some g'' ∧ g''.root = gj.root := fun j gj e => by
  by_cases hjk : j = k
  · subst hjk
    rw [u.at_] at e; cases e
    exact ⟨g', by rw [List.getElem?_set]; simp [(List.getElem?_eq_some_iff.1 u.at_).1], hr⟩
  · exact ⟨gj, by rw [List.getElem?_set, if_neg (fun h => hjk h.symm)]; exact e, rfl⟩
theorem Upd.roots' {k : Nat} {g g' : Gh} (u : Upd c w w' I I' G k g g') : ∀ (j : Nat) (gj : Gh), j ≠ k → G[j]? = some gj → ∃ g'' : Gh, (G.set k g')[j]? = some g'' ∧ g''.root = gj.root := fun j gj hjk e =>
  ⟨gj, by rw [List.getElem?_set, if_neg (fun h => hjk h.symm)]; exact e, rfl⟩
/-- Its root stays. -/
theorem RelX.updK (h : RelX c s a w I G) {k : Nat} {g g' : Gh} (u : Upd c w w' I I' G k g g') (hr : g'.root = g.root) {o' : O} (ho : ObjR w' I' (G.set k g') g' o') :
    RelX c ⟨s.t, s.h.set k o', s.p⟩ a w' I' (G.set k g') where
  defers := h.defers
  tmps := h.tmps.mono (fun b j hi => (u.keep b j hi).1) (fun b j hi => (u.keep b j hi).2) (u.roots hr)
  objs := u.relH h.objs (by simp) (fun o'' e => by
      rw [List.getElem?_set] at e
      simp at e
      obtain ⟨_, rfl⟩ := e
      exact ho) (fun j o'' hne e => by
      rw [List.getElem?_set, if_neg (fun h => hne h.symm)] at e
      exact ⟨o'', e, fun gj _ hF hI ho => ho.keep (fun b j hi => (u.keep b j hi).1) (fun b j hi => (u.keep b j hi).2) (u.roots hr) hF hI⟩)
  fr := u.fr h.objs h.fr
  pr k' v e := by
    obtain ⟨h1, h2, g1, h3, h4⟩ := h.pr k' v e
    obtain ⟨g2, h5, h6⟩ := u.roots hr k' g1 h3
    exact ⟨h1, h2, g2, h5, h6.trans h4⟩
theorem demL_get (q : Nat) : ∀ (h : List O) (j : Nat), (O.demL q h)[j]? = (h[j]?).map (O.dem q)
  | [], j => by simp [O.demL]
  | o :: h, 0 => by simp [O.demL]
  | o :: h, j + 1 => by simp [O.demL, demL_get q h j]
theorem demL_len (q : Nat) : ∀ h : List O, (O.demL q h).length = h.length
  | [] => rfl
  | o :: h => by simp [O.demL, demL_len q h]
/-- Its root turns: what stood for it is taken back. -/
theorem RelX.updD (h : RelX c s a w I G) {k : Nat} {g g' : Gh} (u : Upd c w w' I I' G k g g') (hs : (∃ a n q, g.root = .slice a n q) ∨ g'.root = g.root) {o' : O} (ho : ObjR w' I' (G.set k g') g' o') :
    RelX c ⟨A.dems k s.t, (O.demL k s.h).set k o', s.p⟩ a w' I' (G.set k g') where
  defers := h.defers
  tmps := h.tmps.dem (fun b j hi => (u.keep b j hi).1) (fun b j hi => (u.keep b j hi).2) k u.roots'
  objs := u.relH h.objs (by simp [demL_len]) (fun o'' e => by
      rw [List.getElem?_set] at e
      simp at e
      obtain ⟨_, rfl⟩ := e
      exact ho) (fun j o'' hne e => by
      rw [List.getElem?_set, if_neg (fun h => hne h.symm), demL_get] at e
      obtain ⟨o, e1, rfl⟩ := Option.map_eq_some_iff.1 e
      exact ⟨o, e1, fun gj _ hF hI ho => ho.demK k (fun b j hi => (u.keep b j hi).1) (fun b j hi => (u.keep b j hi).2) u.roots' hF hI⟩)
  fr := u.fr h.objs h.fr
  pr k' v e := by
    obtain ⟨h1, h2, g1, h3, h4⟩ := h.pr k' v e
    by_cases hk : k' = k
    · subst hk
      rw [u.at_] at h3; cases h3
      rcases hs with ⟨a, n, q, hs⟩ | hs
      · exact absurd (h4.symm.trans hs) (h2 a n q)
      · obtain ⟨g2, h5, h6⟩ := u.roots hs k' g u.at_
        exact ⟨h1, h2, g2, h5, h6.trans h4⟩
    · obtain ⟨g2, h5, h6⟩ := u.roots' k' g1 hk h3
      exact ⟨h1, h2, g2, h5, h6.trans h4⟩
/-- What an operation that may turn the world comes to. -/
def Does (P : Program) (c : Cx) (a : Act) (w : World) (m : Sem Value) (dst : Option Nat) (K : St → Prop) : Prop :=
  ∃ v w', m.run P w = .ok v w' ∧ ∃ s', K s' ∧ Rel c s' (a.put dst v) w'
def DoesU (P : Program) (c : Cx) (a : Act) (w : World) (m : Sem Unit) (dst : Option Nat) (K : St → Prop) : Prop :=
  ∃ w', m.run P w = .ok () w' ∧ ∃ s', K s' ∧ Rel c s' (a.put dst undef) w'
variable {P : Program} {T : Ty}
theorem Yields.does {m : Sem Value} {dst : Option Nat} {K : St → Prop} (hr : RelX c s a w I G) (h : Yields P w I G m fun r => K (s.put dst r)) : Does P c a w m dst K :=
  let ⟨v, r, h1, h2, h3⟩ := h
  ⟨v, w, h1 w (Ext.refl w), _, h3, I, G, hr.put h2 dst⟩
/-- A new variable. -/
theorem does_new (hr : RelX c s a w I G) {t : Nat} {cs : Array Value} {l : List A} (hc : VAs w I G cs.toList l) (h1 : ∀ x ∈ cs.toList, x.oneCell' = true) {m : Sem Value}
    (hm : m.run P w = .ok (.pointer (some ⟨w.heap.size, 0, none⟩)) (w.alloc (.cells cs t))) {dst : Option Nat} {K : St → Prop}
    (hk : K ((St.mk s.t (s.h ++ [.box t l]) s.p).put dst (.ref s.h.length 0))) : Does P c a w m dst K := by
  have hg := Grow.alloc w (.cells cs t)
  have hx := hr.grow' hg
  let g : Gh := ⟨.pointer (some ⟨w.heap.size, 0, none⟩), fun k => k = w.heap.size⟩
  have hlen := hr.objs.len
  have hin : (w.alloc (.cells cs t)).heap[w.heap.size]? = some (.cells cs t (0, 0)) := heap_alloc_new w _
  have hpush := hx.push (g := g) (o := .box t l) ⟨w.heap.size, cs, rfl, hin, hc.mono (fun _ _ h => h) (fun b j hi => hg.cell (hr.objs.lt hi)) (roots_push G g), h1, fun k => Iff.rfl, fun j hj => by
      have := hr.objs.lt hj; omega⟩ (fun b hb => by
      have hb' : b = w.heap.size := hb
      subst hb'
      refine ⟨by simp, .inr hr.fr.size, fun k g' e hb => ?_⟩
      have := hr.objs.inb k g' _ e hb
      omega)
  refine ⟨_, _, hm, _, hk, I, G ++ [g], hpush.put ?_ dst⟩
  exact .ref w.heap.size s.h.length 0 g (by rw [← hlen]; simp) rfl
theorem does_box (hr : RelX c s a w I G) {t : Nat} {x : Value} {r : A} {l : List A} (hx : VA w I G x r) (hl : r.cells? = some l) {dst : Option Nat} {K : St → Prop}
    (hk : K ((St.mk s.t (s.h ++ [.box t l]) s.p).put dst (.ref s.h.length 0))) : Does P c a w (Instr.box t x) dst K := by
  obtain ⟨h1, h2⟩ := VA.cells hx hl
  exact does_new hr h1 h2 (by simp [Instr.box, newVar, newRow]) hk
theorem does_alloc (hT : TOk P T) (hr : RelX c s a w I G) {t : Nat} {i : TI} (hi : T t = some i) {dst : Option Nat} {K : St → Prop}
    (hk : K ((St.mk s.t (s.h ++ [.box t i.zero]) s.p).put dst (.ref s.h.length 0))) : Does P c a w (Instr.alloc t true (.tuple #[])) dst K := by
  obtain ⟨f, z, h1, h2, h3, h4, h5, _⟩ := hT t i hi
  exact does_new hr (zs_as h5) (zs_one h5) (by simp [Instr.alloc, newVar, newRow, zeroValue, typeInfo, h1, h4]) hk
theorem run_storeVar {t : Nat} {i : TI} (hti : TIOk P t i) {v : Value} (h1 : ∀ x ∈ v.cells.toList, x.oneCell' = true) (hs : v.cells.size = i.sz) {b o : Nat} {cur : Array Value} {u : TypeId}
    (hb : w.heap[b]? = some (.cells cur u (0, 0))) (hle : o + i.sz ≤ cur.size) :
    (storeVar t ⟨b, o, none⟩ v).run P w = .ok () (w.setRow b (cur.toList.take o ++ v.cells.toList ++ cur.toList.drop (o + i.sz)).toArray) := by
  have := run_storeCells_at P b o u v.cells.toList 0 cur w hb (by simp; omega) h1
  simp only [Nat.add_zero, Array.length_toList, hs] at this
  simp [storeVar, run_size hti, hs, this]
theorem upd_write (hr : RelX c s a w I G) {k : Nat} {g : Gh} (hg : G[k]? = some g) {b : Nat} {cur cs : Array Value} {u : TypeId} (hb : w.heap[b]? = some (.cells cur u (0, 0)))
    (hF : ∀ j, g.F j ↔ j = b) (hni : ∀ j, ¬ I b j) : Upd c w (w.setRow b cs) I I G k g g where
  at_ := hg
  os := rfl
  tape := rfl
  output := rfl
  size := by rw [Go.setRow_size]; exact Nat.le_refl _
  block j hj hn := setRow_other w b j cs (fun e => hn ((hF j).2 e))
  keep j i hi := ⟨hi, World.cell?_of_block (w := w) (setRow_other w b j cs (fun e => hni i (e ▸ hi)))⟩
  im j i hi := ⟨.inl hi, by
    obtain ⟨x, hx⟩ := hr.objs.imm j i hi
    exact ⟨x, (World.cell?_of_block (w := w) (a := ⟨j, i, none⟩) (setRow_other w b j cs (fun e => hni i (e ▸ hi)))).trans hx⟩⟩
  F j hj := by
    refine ⟨by rw [Go.setRow_size]; exact hr.objs.inb k g j hg hj, hr.fr.own k g j hg hj, fun i gi hne e hb' => ?_⟩
    exact hr.objs.disj i k gi g j e hg hne hb' hj
theorem flat_set {sz : Nat} : ∀ {l : List A}, (∀ x ∈ l, x.cells.length = sz) → ∀ {j : Nat} {y : A}, j < l.length → y.cells.length = sz →
    (l.set j y).flatMap A.cells = (l.flatMap A.cells).take (j * sz) ++ y.cells ++ (l.flatMap A.cells).drop (j * sz + sz)
  | [], _, j, y, h, _ => by simp at h
  | x :: l, hs, 0, y, _, hy => by
    have := hs x List.mem_cons_self
    simp [← this]
  | x :: l, hs, j + 1, y, h, hy => by
    have hx := hs x List.mem_cons_self
    have ih := flat_set (fun z hz => hs z (List.mem_cons_of_mem _ hz)) (j := j) (y := y) (by simpa using h) hy
    rw [List.set_cons_succ, List.flatMap_cons, ih, List.flatMap_cons, List.take_append, List.drop_append, hx]
    rw [List.take_of_length_le (l := x.cells) (by rw [hx, Nat.add_mul]; omega), List.drop_eq_nil_of_le (as := x.cells) (by rw [hx, Nat.add_mul]; omega), List.nil_append,
      show (j + 1) * sz - sz = j * sz by rw [Nat.add_mul]; omega, show (j + 1) * sz + sz - sz = j * sz + sz by rw [Nat.add_mul]; omega]
    simp only [List.append_assoc]
theorem mkE_cells {iu : TI} {sz : Nat} (hsz : sz = iu.sz) (hone : iu.ag = false → iu.sz = 1) {l : List A} (hl : l.length = sz) (h1 : ∀ x ∈ l, ∃ y : Value, VA w I G y x ∧ y.oneCell' = true) :
    (mkE iu.ag l).cells = l := by
  have hp : (pack l).cells = l := by
    unfold pack
    split
    · rename_i r e; rw [unDs_spec e]; rfl
    · rfl
  cases e : iu.ag with
  | true => cases l <;> exact hp
  | false =>
    have : l.length = 1 := by rw [hl, hsz]; exact hone e
    match l, this with
    | [x], _ =>
      obtain ⟨y, hy, h2⟩ := h1 x List.mem_cons_self
      simp only [mkE]
      cases hy with
      | d h => cases h with
        | agg cs l h => simp [Value.oneCell'] at h2
        | _ => rfl
      | agg cs l h => simp [Value.oneCell'] at h2
      | _ => rfl
theorem splice_app {l : List A} (r c : List A) {o : Nat} (h : o + c.length ≤ l.length) : splice (l ++ r) o c = splice l o c ++ r := by
  unfold splice
  rw [List.take_append_of_le_length (by omega), List.drop_append_of_le_length (by omega)]
  simp
theorem flat_lenA {sz : Nat} {l : List A} (hf : ∀ x ∈ l, x.cells.length = sz) : (l.flatMap A.cells).length = l.length * sz := by
  induction l with
  | nil => simp
  | cons y l ih =>
    rw [List.flatMap_cons, List.length_append, hf y List.mem_cons_self, ih (fun z hz => hf z (List.mem_cons_of_mem _ hz)), List.length_cons, Nat.add_mul]; omega
theorem splice_in {sz o p : Nat} (L : List A) {l : List A} (h : p + sz ≤ L.length) (hle : o + l.length ≤ sz) :
    splice L (p + o) l = L.take p ++ splice ((L.drop p).take sz) o l ++ L.drop (p + sz) := by
  have hL : L = L.take p ++ ((L.drop p).take sz ++ L.drop (p + sz)) := by
    rw [← List.drop_drop, List.take_append_drop, List.take_append_drop]
  have h1 : (L.take p).length = p := by simp; omega
  have h2 : ((L.drop p).take sz).length = sz := by simp; omega
  generalize L.take p = a at *
  generalize (L.drop p).take sz = b at *
  generalize L.drop (p + sz) = d at *
  subst hL
  unfold splice
  simp only [List.take_append, List.drop_append, h1, h2]
  rw [List.take_of_length_le (l := a) (by omega), List.drop_eq_nil_of_le (as := a) (by omega)]
  simp only [List.append_assoc, List.nil_append]
  rw [show p + o - p = o by omega, show p + o + l.length - p = o + l.length by omega, show o - sz = 0 by omega, show o + l.length - sz = 0 by omega]
  simp
theorem does_store (hT : TOk P T) (hr : RelX c s a w I G) {t : Nat} {p x : Value} {pa xa : A} (hp : VA w I G p pa) (hx : VA w I G x xa) {dst : Option Nat} {K : St → Prop}
    (hk : vcStore T t pa xa s.h fun h => K ((St.mk s.t h s.p).put dst .any)) : DoesU P c a w (Instr.storeAt t p x) dst K := by
  unfold vcStore at hk
  split at hk
  · rename_i i l ei el
    obtain ⟨hlen, hk⟩ := hk
    obtain ⟨hxc, hx1⟩ := VA.cells hx el
    have hxs : x.cells.size = i.sz := by have := hxc.len; simp at this; omega
    split at hk
    · rename_i k o
      cases hp with
      | ref b k o' g hg hroot =>
        split at hk
        · rename_i u lb e
          obtain ⟨hle, hk⟩ := hk
          obtain ⟨g', hg', b', cs, e1, e2, e3, e4, e5, e6⟩ := hr.objs.get e
          rw [hg] at hg'; cases hg'
          rw [hroot] at e1; cases e1
          have hcs : cs.size = lb.length := by have := e3.len; simpa using this
          have hrun := run_storeVar (w := w) (hT t i ei) hx1 hxs e2 (o := o) (by omega)
          have hu := upd_write (cs := (cs.toList.take o ++ x.cells.toList ++ cs.toList.drop (o + i.sz)).toArray) hr hg e2 e5 e6
          have hmono := fun {xs : List Value} {l : List A} (h : VAs w I G xs l) => h.mono (fun b j hi => (hu.keep b j hi).1) (fun b j hi => (hu.keep b j hi).2) (hu.roots rfl)
          have hspl := e3.splice hxc o
          rw [Array.length_toList, hxs] at hspl
          have hX := hr.updK hu rfl (o' := .box u (splice lb o l)) ⟨b, _, hroot, setRow_heap w b cs _ u _ e2, by simpa using hmono hspl, fun y hy => by
            simp only [List.toList_toArray] at hy
            rcases List.mem_append.1 hy with hy | hy
            · rcases List.mem_append.1 hy with hy | hy
              · exact e4 y (List.mem_of_mem_take hy)
              · exact hx1 y hy
            · exact e4 y (List.mem_of_mem_drop hy), e5, e6⟩
          exact ⟨_, by simpa [Instr.storeAt, Instr.sureAddr] using hrun, _, hk, I, _, hX.put (.any _) dst⟩
        · exact hk.elim
    · rename_i k sz j o
      cases hp with
      | eptr b k sz j o' n cc g hg hroot =>
        split at hk
        · rename_i u sz' lb e
          split at hk
          · rename_i iu eu
            obtain ⟨rfl, hsz, hj, hk⟩ := hk
            replace hk : o + l.length ≤ sz ∧ ∀ y, lb[j]? = some y → y.cells.length = sz → K ((St.mk s.t (s.h.set k (.row u sz (lb.set j (mkE iu.ag (splice y.cells o l))))) s.p).put dst .any) := by
              split at hk
              · rename_i hl
                have hl : l.length = sz := by simpa using hl
                refine ⟨by omega, fun y hy hys => ?_⟩
                have : splice y.cells 0 l = l := by unfold splice; rw [List.take_zero, List.nil_append, List.drop_eq_nil_of_le (by omega), List.append_nil]
                rw [this]; exact hk
              · exact hk
            obtain ⟨hle, hk⟩ := hk
            obtain ⟨g', hg', b', cs, e1, e2, e3, e4, e5, e6, e7⟩ := hr.objs.get e
            rw [hg] at hg'; cases hg'
            rw [hroot] at e1; cases e1
            have hlj : lb[j]? = some lb[j] := by simp [hj]
            have hy := e5 _ (List.mem_of_getElem? hlj)
            have hfl : (lb.flatMap A.cells).length = lb.length * sz := flat_lenA e5
            have hcs : cs.size = lb.length * sz := by have := e3.len; simpa [hfl] using this
            have hjs : j * sz + sz ≤ lb.length * sz := by rw [← Nat.succ_mul]; exact Nat.mul_le_mul_right _ hj
            have hrun := run_storeVar (w := w) (hT t i ei) hx1 hxs e2 (o := j * sz + o) (by omega)
            have hu := upd_write (cs := (cs.toList.take (j * sz + o) ++ x.cells.toList ++ cs.toList.drop (j * sz + o + i.sz)).toArray) hr hg e2 e6 e7
            have hmono := fun {xs : List Value} {l : List A} (h : VAs w I G xs l) => h.mono (fun b j hi => (hu.keep b j hi).1) (fun b j hi => (hu.keep b j hi).2) (hu.roots rfl)
            have hspl := e3.splice hxc (j * sz + o)
            rw [Array.length_toList, hxs] at hspl
            have hone : ∀ y ∈ cs.toList.take (j * sz + o) ++ x.cells.toList ++ cs.toList.drop (j * sz + o + i.sz), y.oneCell' = true := fun y hy => by
              rcases List.mem_append.1 hy with hy | hy
              · rcases List.mem_append.1 hy with hy | hy
                · exact e4 y (List.mem_of_mem_take hy)
                · exact hx1 y hy
              · exact e4 y (List.mem_of_mem_drop hy)
            have hsl : (splice lb[j].cells o l).length = sz := by unfold splice; simp; omega
            have hspf : splice (lb.flatMap A.cells) (j * sz + o) l = (lb.flatMap A.cells).take (j * sz) ++ splice lb[j].cells o l ++ (lb.flatMap A.cells).drop (j * sz + sz) := by
              rw [← flat_get e5 hlj]
              exact splice_in _ (by omega) hle
            have hparts : ∀ z ∈ splice lb[j].cells o l, ∃ y : Value, VA w I G y z ∧ y.oneCell' = true := fun z hz => by
              have hmem : z ∈ splice (lb.flatMap A.cells) (j * sz + o) l := by rw [hspf]; simp [hz]
              obtain ⟨q, hq⟩ := List.mem_iff_getElem?.1 hmem
              obtain ⟨y, f1, f2⟩ := hspl.get hq
              exact ⟨y, f2, hone y (List.mem_of_getElem? f1)⟩
            have hcell := mkE_cells hsz (ag_one (hT u iu eu)) hsl hparts
            have hX := hr.updK hu rfl (o' := .row u sz (lb.set j (mkE iu.ag (splice lb[j].cells o l)))) ⟨b, _, by rw [List.length_set]; exact hroot, setRow_heap w b cs _ u _ e2, by
                rw [flat_set e5 hj (by rw [hcell]; exact hsl), hcell, ← hspf]
                simpa using hmono hspl, fun y hy => hone y (by simpa using hy), fun y hy => by
                rcases List.mem_or_eq_of_mem_set hy with hy | hy
                · exact e5 y hy
                · rw [hy, hcell]; exact hsl, e6, e7⟩
            exact ⟨_, by simpa [Instr.storeAt, Instr.sureAddr] using hrun, _, hk _ hlj hy, I, _, hX.put (.any _) dst⟩
          · exact hk.elim
        · rename_i r u sz' lb e
          split at hk
          · rename_i iu eu
            obtain ⟨rfl, hsz, hj, hle, hk⟩ := hk
            obtain ⟨g', hg', hrt, b', cs, t', sp, cap, e1, ecap, e2, e3, e4, e5, e6, e7⟩ := hr.objs.get e
            rw [hg] at hg'; cases hg'
            have hrt0 := hrt
            rw [hroot, e1] at hrt; cases hrt
            have hlj : lb[j]? = some lb[j] := by simp [hj]
            have hy := e5 _ (List.mem_of_getElem? hlj)
            have hfl : (lb.flatMap A.cells).length = lb.length * sz := flat_lenA e5
            have hcs : cs.size = lb.length * sz + sp := by have := e3.len; simpa [hfl] using this
            have hjs : j * sz + sz ≤ lb.length * sz := by rw [← Nat.succ_mul]; exact Nat.mul_le_mul_right _ hj
            have hrun := run_storeVar (w := w) (hT t i ei) hx1 hxs e2 (o := j * sz + o) (by omega)
            have hu := upd_write (cs := (cs.toList.take (j * sz + o) ++ x.cells.toList ++ cs.toList.drop (j * sz + o + i.sz)).toArray) hr hg e2 e6 e7
            have hmono := fun {xs : List Value} {l : List A} (h : VAs w I G xs l) => h.mono (fun b j hi => (hu.keep b j hi).1) (fun b j hi => (hu.keep b j hi).2) (hu.roots rfl)
            have hspl := e3.splice hxc (j * sz + o)
            rw [Array.length_toList, hxs] at hspl
            have hone : ∀ (m : Nat) (y : Value), m < lb.length * sz → (cs.toList.take (j * sz + o) ++ x.cells.toList ++ cs.toList.drop (j * sz + o + i.sz))[m]? = some y → y.oneCell' = true := fun m y hm hy => by
              have hxl : x.cells.toList.length = i.sz := by simpa using hxs
              have htl : (cs.toList.take (j * sz + o)).length = j * sz + o := by simp; omega
              rcases Nat.lt_or_ge m (j * sz + o) with g1 | g1
              · rw [List.append_assoc, List.getElem?_append_left (by omega), List.getElem?_take, if_pos g1] at hy
                exact e4 m y hm (by simpa using hy)
              · rcases Nat.lt_or_ge m (j * sz + o + i.sz) with g2 | g2
                · rw [List.append_assoc, List.getElem?_append_right (by omega), List.getElem?_append_left (by omega)] at hy
                  exact hx1 y (List.mem_of_getElem? hy)
                · rw [List.append_assoc, List.getElem?_append_right (by omega), List.getElem?_append_right (by omega), List.getElem?_drop] at hy
                  refine e4 m y hm ?_
                  have : j * sz + o + i.sz + (m - (cs.toList.take (j * sz + o)).length - x.cells.toList.length) = m := by omega
                  rw [this] at hy
                  simpa using hy
            have hsl : (splice lb[j].cells o l).length = sz := by unfold splice; simp; omega
            have hspf : splice (lb.flatMap A.cells ++ List.replicate sp .any) (j * sz + o) l = ((lb.flatMap A.cells).take (j * sz) ++ splice lb[j].cells o l ++ (lb.flatMap A.cells).drop (j * sz + sz)) ++ List.replicate sp .any := by
              rw [splice_app _ _ (by omega), ← flat_get e5 hlj]
              congr 1
              exact splice_in _ (by omega) hle
            have hparts : ∀ z ∈ splice lb[j].cells o l, ∃ y : Value, VA w I G y z ∧ y.oneCell' = true := fun z hz => by
              obtain ⟨q0, hq0⟩ := List.mem_iff_getElem?.1 hz
              have hq0l := (List.getElem?_eq_some_iff.1 hq0).1
              have htk : ((lb.flatMap A.cells).take (j * sz)).length = j * sz := by rw [List.length_take]; omega
              have hq : (splice (lb.flatMap A.cells ++ List.replicate sp .any) (j * sz + o) l)[j * sz + q0]? = some z := by
                rw [hspf, List.append_assoc, List.append_assoc, List.getElem?_append_right (by omega), List.getElem?_append_left (by omega), htk, Nat.add_sub_cancel_left]
                exact hq0
              obtain ⟨y, f1, f2⟩ := hspl.get hq
              exact ⟨y, f2, hone _ y (by omega) f1⟩
            have hcell := mkE_cells hsz (ag_one (hT u iu eu)) hsl hparts
            have hX := hr.updK hu rfl (o' := .opn r u sz (lb.set j (mkE iu.ag (splice lb[j].cells o l)))) ⟨hrt0, b, _, t', sp, _, by rw [List.length_set]; exact e1, by rw [List.length_set]; exact ecap, setRow_heap w b cs _ t' _ e2, by
                rw [flat_set e5 hj (by rw [hcell]; exact hsl), hcell, ← hspf]
                simpa using hmono hspl, fun m y hm hy => hone m y (by simpa using hm) (by simpa using hy), fun y hy => by
                rcases List.mem_or_eq_of_mem_set hy with hy | hy
                · exact e5 y hy
                · rw [hy, hcell]; exact hsl, e6, e7⟩
            exact ⟨_, by simpa [Instr.storeAt, Instr.sureAddr] using hrun, _, hk _ hlj hy, I, _, hX.put (.any _) dst⟩
          · exact hk.elim
        · exact hk.elim
    · exact hk.elim
  · exact hk.elim
end
end Go.Ab
/- append: in place, or into a new row; what was read of the old one stays. -/
namespace Go.Ab
open Go
set_option linter.unusedVariables false
set_option linter.unusedSimpArgs false
section
variable {P : Program} {T : Ty} {w w' : World} {I I' : Im} {G : List Gh} {c : Cx} {s : St} {a : Act}
theorem VDc.of_vals : ∀ {xs : List Value} {l : List D}, VDs w I xs l → ∀ {b off : Nat}, (∀ (j : Nat) (v : Value), xs[j]? = some v → w.cell? ⟨b, off + j, none⟩ = some v ∧ I b (off + j)) → VDc w I b off l
  | _, _, .nil, b, off, _ => .nil b off
  | _, _, .cons h1 h2 h3, b, off, h => by
    obtain ⟨e1, e2⟩ := h 0 _ rfl
    exact .cons e1 e2 h1 h2 (VDc.of_vals h3 (fun j v hv => by
      have := h (j + 1) v (by simpa using hv)
      rwa [show off + (j + 1) = off + 1 + j by omega] at this))
theorem VDs.append {xs ys : List Value} {l m : List D} (h : VDs w I xs l) (h2 : VDs w I ys m) : VDs w I (xs ++ ys) (l ++ m) := by
  induction xs generalizing l with
  | nil => cases h; exact h2
  | cons x xs ih => cases h with | cons e1 e2 e3 => exact .cons e1 e2 (ih e3)
/-- What is appended: its cells, as values that can be read at x. -/
structure Src (w : World) (I : Im) (sz : Nat) (x : Value) (ns : List Value) (ds : List D) : Prop where
  vals : VDs w I ns (ds.flatMap D.cells)
  len : ns.length = ds.length * sz
  at_ : (∃ b o cx, x = .slice (some ⟨b, o, none⟩) ds.length cx ∧ ∀ (j : Nat) (v : Value), ns[j]? = some v → w.cell? ⟨b, o + j, none⟩ = some v) ∨ (((∃ ad cx, x = .slice (some ad) 0 cx) ∨ x = .slice none 0 0) ∧ ds = [])
structure Deep (w : World) (c : Cx) (G : List Gh) (ns : List Value) (fs : Nat → Nat → Prop) : Prop where
  shp : ∀ (j : Nat) (x : Value), ns[j]? = some x → Shp w (fs j) x
  disj : ∀ i j b, i ≠ j → fs i b → ¬ fs j b
  free : ∀ j b, fs j b → b < w.heap.size ∧ (c.F b ∨ c.w.heap.size ≤ b) ∧ ∀ (q : Nat) (gq : Gh), G[q]? = some gq → ¬ gq.F b
theorem run_append_zero {t ty e : Nat} {ie : TI} (hu : P.underlying t = some (.slice e)) (hie : TIOk P e ie) (base : Option Addr) (n cap : Nat) (h : n ≤ cap) (x : Value) (hx : (∃ ad cx, x = .slice (some ad) 0 cx) ∨ x = .slice none 0 0) :
    (Builtin.append_ #[t, t] ty #[.slice base n cap, x]).run P w = .ok (.slice base n cap) w := by
  obtain ⟨f, h1, h2, h3⟩ := run_info (w := w) hie
  have hs := run_size (w := w) hie
  rcases hx with ⟨ad, cx, rfl⟩ | rfl <;> cases base <;>
    simp [Builtin.append_, run_under hu, hs, Builtin.lenOf, h, Builtin.firstCells, loadCells, loadCellsFrom, storeCells]
theorem Upd.refl (hr : RelX c s a w I G) {k : Nat} {g : Gh} (hk : G[k]? = some g) : Upd c w w I I G k g g where
  at_ := hk
  os := rfl
  tape := rfl
  output := rfl
  size := Nat.le_refl _
  block _ _ _ := rfl
  keep _ _ h := ⟨h, rfl⟩
  im b j h := ⟨.inl h, hr.objs.imm b j h⟩
  F b hb := ⟨hr.objs.inb k g b hk hb, hr.fr.own k g b hk hb, fun j gj hne e hb' => hr.objs.disj j k gj g b e hk hne hb' hb⟩
theorem set_self {G : List Gh} {k : Nat} {g : Gh} (hk : G[k]? = some g) : G.set k g = G := by
  apply List.ext_getElem?
  intro j
  rw [List.getElem?_set]
  split
  · rename_i e; subst e
    simp [(List.getElem?_eq_some_iff.1 hk).1]
    exact ((List.getElem?_eq_some_iff.1 hk).2).symm
  · rfl
theorem zeroCells_flat {z : Array Value} {l : List A} (hz : ZsOk z.toList l) (n : Nat) : ∀ (j : Nat) (x : Value), (Builtin.zeroCells z n)[j]? = some x → ∀ a m c, x = .slice (some a) m c → m = 0 := by
  intro j x hx
  simp only [Builtin.zeroCells, Array.getElem?_map, Option.map_eq_some_iff] at hx
  obtain ⟨i, hi, rfl⟩ := hx
  have hsz : 0 < z.size := by
    rcases Nat.eq_zero_or_pos z.size with h0 | h0
    · rw [h0] at hi; simp at hi
    · exact h0
  have hlt : i % z.size < z.size := Nat.mod_lt _ hsz
  have : z[i % z.size]! = z[i % z.size] := by simp [hlt]
  rw [this]
  exact zs_flat hz _ (by simp)
/-- The new row. -/
theorem grown_ok (hr : RelX c s a w I G) {k : Nat} {g : Gh} (hk : G[k]? = some g) {e : Nat} {sz n m : Nat} {dp : Bool} {l ds : List D} {os ns zs : List Value} {cap : Nat} (hos : VDs w I os (l.flatMap D.cells)) (hns : VDs w I ns (ds.flatMap D.cells))
    (hlo : os.length = n * sz) (hln : ns.length = m * sz) (hn : n = l.length) (hm : m = ds.length) (hcap : n + m ≤ cap) (hmax : cap ≤ maxLen) (hzs : zs.length = (cap - (n + m)) * sz)
    (fo fs : Nat → Nat → Prop) (hd : dp = true → (∀ (j : Nat) (x : Value), os[j]? = some x → Shp w (fo j) x) ∧ (∀ j b, fo j b → g.F b) ∧ (∀ i j b, i ≠ j → fo i b → ¬ fo j b) ∧ Deep w c G ns fs ∧
      (∀ (j : Nat) (x : Value), zs[j]? = some x → ∀ a n c, x = .slice (some a) n c → n = 0)) :
    let w' := w.drew.alloc (.cells (os ++ ns ++ zs).toArray e)
    let v' := Value.slice (some ⟨w.heap.size, 0, none⟩) (n + m) cap
    let I' : Im := fun b j => I b j ∨ (b = w.heap.size ∧ j < (n + m) * sz)
    let g' : Gh := ⟨v', fun q => q = w.heap.size ∨ (dp = true ∧ (g.F q ∨ ∃ j, fs j q))⟩
    Upd c w w' I I' G k g g' ∧ ObjR w' I' (G.set k g') g' (.app e sz dp) ∧ VD w' I' v' (.lst (l ++ ds)) := by
  intro w' v' I' g'
  have hg : Grow w w' := (Grow.drew w).trans (Grow.alloc _ _)
  have hnew : w'.heap[w.heap.size]? = some (.cells (os ++ ns ++ zs).toArray e (0, 0)) := heap_alloc_new w.drew _
  have hsize : w'.heap.size = w.heap.size + 1 := by simp [w']
  have hcellnew : ∀ j, w'.cell? ⟨w.heap.size, j, none⟩ = (os ++ ns ++ zs)[j]? := fun j => by rw [cell_in hnew]; simp
  have hnlt : ∀ {b j}, I b j → b < w.heap.size := fun hi => hr.objs.lt hi
  have hfd := fun b => hr.objs.inb k g b hk
  refine ⟨⟨hk, hg.os, hg.tape, hg.output, hg.size, fun b hb _ => hg.block b hb, fun b j hi => ⟨.inl hi, hg.cell (hnlt hi)⟩, fun b j hi => ?_, fun b hb => ?_⟩, ?_, ?_⟩
  · rcases hi with hi | ⟨rfl, hj⟩
    · obtain ⟨x, hx⟩ := hr.objs.imm b j hi
      exact ⟨.inl hi, x, (hg.cell (hnlt hi)).trans hx⟩
    · refine ⟨.inr (.inr (Nat.le_refl _)), _, (hcellnew j).trans (List.getElem?_eq_getElem (by simp [hlo, hln]; rw [Nat.add_mul] at hj; omega))⟩
  · rcases hb with rfl | ⟨hdp, hb | ⟨j, hb⟩⟩
    · exact ⟨by omega, .inr hr.fr.size, fun q gq _ e hb => by have := hr.objs.inb q gq _ e hb; omega⟩
    · exact ⟨by have := hfd b hb; omega, hr.fr.own k g b hk hb, fun q gq hne e hb' => hr.objs.disj q k gq g b e hk hne hb' hb⟩
    · obtain ⟨h1, h2, h3⟩ := ((hd hdp).2.2.2.1).free j b hb
      exact ⟨by omega, h2, fun q gq _ e hb' => h3 q gq e hb'⟩
  · refine .inr (.inr ⟨w.heap.size, n + m, cap, _, rfl, hnew, hcap, hmax, ?_, .inl rfl, fun j hj hi => ?_, fun hdp => ?_⟩)
    · simp [hlo, hln, hzs]
      rw [← Nat.add_mul, ← Nat.add_mul]; congr 1; omega
    · rcases hi with hi | ⟨_, hi⟩
      · have := hnlt hi; omega
      · omega
    · obtain ⟨d1, d2, d3, d4, d5⟩ := hd hdp
      have keep : ∀ {F : Nat → Prop} {x : Value}, (∀ b, F b → b < w.heap.size) → Shp w F x → Shp w' F x := fun hF hs => hs.keep (fun b hb => hg.block b (hF b hb))
      refine ⟨fun j => if j < n * sz then fo j else if j < (n + m) * sz then fs (j - n * sz) else fun _ => False, fun j x hx => ?_, fun j q hq => ?_, fun i j q hij hi hj => ?_⟩
      · dsimp only
        simp only [List.getElem?_toArray] at hx
        by_cases h1 : j < n * sz
        · rw [if_pos h1]
          rw [List.append_assoc, List.getElem?_append_left (by omega)] at hx
          exact keep (fun b hb => hfd b (d2 j b hb)) (d1 j x hx)
        · rw [if_neg h1]
          rw [List.append_assoc, List.getElem?_append_right (by omega)] at hx
          by_cases h2 : j < (n + m) * sz
          · rw [if_pos h2]
            rw [List.getElem?_append_left (by rw [Nat.add_mul] at h2; omega), hlo] at hx
            exact keep (fun b hb => (d4.free _ b hb).1) (d4.shp _ x hx)
          · rw [if_neg h2]
            rw [List.getElem?_append_right (by rw [Nat.add_mul] at h2; omega)] at hx
            exact .one _ x (d5 _ x hx)
      · have q1 : ∀ i, fo i q → (q = w.heap.size ∨ (dp = true ∧ (g.F q ∨ ∃ j, fs j q))) ∧ q ≠ w.heap.size := fun i h => ⟨.inr ⟨hdp, .inl (d2 i q h)⟩, by have := hfd q (d2 i q h); omega⟩
        have q2 : ∀ i, fs i q → (q = w.heap.size ∨ (dp = true ∧ (g.F q ∨ ∃ j, fs j q))) ∧ q ≠ w.heap.size := fun i h => ⟨.inr ⟨hdp, .inr ⟨i, h⟩⟩, by have := (d4.free i q h).1; omega⟩
        dsimp only at hq
        split at hq
        · exact q1 _ hq
        · split at hq
          · exact q2 _ hq
          · exact hq.elim
      · have x1 : ∀ i j, fo i q → fs j q → False := fun i j h1 h2 => (d4.free j q h2).2.2 k g hk (d2 i q h1)
        dsimp only at hi hj
        split at hi
        · split at hj
          · exact d3 i j q hij hi hj
          · split at hj
            · exact x1 _ _ hi hj
            · exact hj.elim
        · split at hi
          · split at hj
            · exact x1 _ _ hj hi
            · split at hj
              · exact d4.disj _ _ q (by omega) hi hj
              · exact hj.elim
          · exact hi.elim
  · refine .lst w.heap.size 0 _ _ _ (by simp [hn, hm]) hcap ?_
    rw [List.flatMap_append]
    have hv : VDs w' I' (os ++ ns) (l.flatMap D.cells ++ ds.flatMap D.cells) := by
      have := hos.append hns
      exact VDs.mono (fun b j h => .inl h) (fun b j hi => hg.cell (hnlt hi)) this
    refine VDc.of_vals hv (fun j v hj => ?_)
    have hlt : j < (os ++ ns).length := (List.getElem?_eq_some_iff.1 hj).1
    refine ⟨?_, .inr ⟨rfl, ?_⟩⟩
    · rw [hcellnew, Nat.zero_add, List.getElem?_append_left hlt]; exact hj
    · simp [hlo, hln] at hlt; rw [Nat.add_mul]; omega
/-- In place. -/
theorem room_ok (hr : RelX c s a w I G) {k : Nat} {g : Gh} (hk : G[k]? = some g) {e b : Nat} {sz n m : Nat} {dp dp0 : Bool} {l ds : List D} {ns : List Value} {cap : Nat} {cur : Array Value}
    (hroot : g.root = .slice (some ⟨b, 0, none⟩) n cap) (hb : w.heap[b]? = some (.cells cur e (0, 0))) (hmax : cap ≤ maxLen) (hcs : cur.size = cap * sz) (hF : g.F b) (hni : ∀ j, n * sz ≤ j → ¬ I b j)
    (hv : VDc w I b 0 (l.flatMap D.cells)) (hll : (l.flatMap D.cells).length = n * sz) (hn : n = l.length)
    (hns : VDs w I ns (ds.flatMap D.cells)) (hln : ns.length = m * sz) (hm : m = ds.length) (hroom : n + m ≤ cap)
    (fs : Nat → Nat → Prop) (hd : dp = true → ShpB w g.F b cur ∧ Deep w c G ns fs) :
    let w' := w.setRow b (cur.toList.take (n * sz) ++ ns ++ cur.toList.drop (n * sz + ns.length)).toArray
    let v' := Value.slice (some ⟨b, 0, none⟩) (n + m) cap
    let I' : Im := fun q j => I q j ∨ (q = b ∧ j < (n + m) * sz)
    let g' : Gh := ⟨v', fun q => g.F q ∨ (dp = true ∧ ∃ j, fs j q)⟩
    Upd c w w' I I' G k g g' ∧ ObjR w' I' (G.set k g') g' (.app e sz dp) ∧ VD w' I' v' (.lst (l ++ ds)) := by
  intro w' v' I' g'
  have hle : n * sz + m * sz ≤ cap * sz := by rw [← Nat.add_mul]; exact Nat.mul_le_mul_right _ hroom
  have hnew : w'.heap[b]? = some (.cells (cur.toList.take (n * sz) ++ ns ++ cur.toList.drop (n * sz + ns.length)).toArray e (0, 0)) := setRow_heap w b cur _ e _ hb
  have hother : ∀ q, q ≠ b → w'.heap[q]? = w.heap[q]? := fun q hq => setRow_other w b q _ hq
  have hsize : w'.heap.size = w.heap.size := Go.setRow_size _ _ _
  have hcell : ∀ j, w'.cell? ⟨b, j, none⟩ = (cur.toList.take (n * sz) ++ ns ++ cur.toList.drop (n * sz + ns.length))[j]? := fun j => by rw [cell_in hnew]; simp
  have htl : (cur.toList.take (n * sz)).length = n * sz := by simp; omega
  have hlow : ∀ j, j < n * sz → w'.cell? ⟨b, j, none⟩ = w.cell? ⟨b, j, none⟩ := fun j hj => by
    rw [hcell, cell_in hb, List.append_assoc, List.getElem?_append_left (by omega), List.getElem?_take, if_pos hj]; simp
  have hkeep : ∀ q j, I q j → w'.cell? ⟨q, j, none⟩ = w.cell? ⟨q, j, none⟩ := fun q j hi => by
    by_cases hq : q = b
    · subst hq
      exact hlow j (Nat.lt_of_not_le (fun h => hni j h hi))
    · exact World.cell?_of_block (w := w) (hother q hq)
  have hfd := fun q => hr.objs.inb k g q hk
  have hblt := hfd b hF
  refine ⟨⟨hk, rfl, rfl, rfl, by rw [hsize]; exact Nat.le_refl _, fun q _ hq => hother q (fun h => hq (h ▸ hF)), fun q j hi => ⟨.inl hi, hkeep q j hi⟩, fun q j hi => ?_, fun q hq => ?_⟩, ?_, ?_⟩
  · rcases hi with hi | ⟨rfl, hj⟩
    · obtain ⟨x, hx⟩ := hr.objs.imm q j hi
      exact ⟨.inl hi, x, (hkeep q j hi).trans hx⟩
    · refine ⟨.inr (.inl hF), _, (hcell j).trans (List.getElem?_eq_getElem (by simp; rw [Nat.add_mul] at hj; omega))⟩
  · rcases hq with hq | ⟨hdp, j, hq⟩
    · exact ⟨by rw [hsize]; exact hfd q hq, hr.fr.own k g q hk hq, fun i gi hne e hq' => hr.objs.disj i k gi g q e hk hne hq' hq⟩
    · obtain ⟨h1, h2, h3⟩ := (hd hdp).2.free j q hq
      exact ⟨by rw [hsize]; exact h1, h2, fun i gi _ e hq' => h3 i gi e hq'⟩
  · refine .inr (.inr ⟨b, n + m, cap, _, rfl, hnew, hroom, hmax, ?_, .inl hF, fun j hj hi => ?_, fun hdp => ?_⟩)
    · simp; omega
    · rcases hi with hi | ⟨_, hi⟩
      · exact hni j (by rw [Nat.add_mul] at hj; omega) hi
      · omega
    · obtain ⟨d1, d2⟩ := hd hdp
      obtain ⟨Fs, f1, f2, f3⟩ := d1
      have keep : ∀ {F : Nat → Prop} {x : Value}, (∀ q, F q → q ≠ b) → Shp w F x → Shp w' F x := fun hF hs => hs.keep (fun q hq => hother q (hF q hq))
      refine ⟨fun j => if n * sz ≤ j ∧ j < n * sz + m * sz then fs (j - n * sz) else Fs j, fun j x hx => ?_, fun j q hq => ?_, fun i j q hij hi hj => ?_⟩
      · dsimp only
        simp only [List.getElem?_toArray] at hx
        by_cases h1 : n * sz ≤ j ∧ j < n * sz + m * sz
        · rw [if_pos h1]
          rw [List.append_assoc, List.getElem?_append_right (by omega), List.getElem?_append_left (by omega), htl] at hx
          exact keep (fun q hq h => (d2.free _ q hq).2.2 k g hk (h ▸ hF)) (d2.shp _ x hx)
        · rw [if_neg h1]
          refine keep (fun q hq => (f2 j q hq).2) (f1 j x ?_)
          by_cases h2 : j < n * sz
          · rw [List.append_assoc, List.getElem?_append_left (by omega), List.getElem?_take, if_pos h2] at hx
            simpa using hx
          · rw [List.getElem?_append_right (by simp; omega), List.getElem?_drop] at hx
            have : n * sz + ns.length + (j - (cur.toList.take (n * sz) ++ ns).length) = j := by simp; omega
            rw [this] at hx
            simpa using hx
      · dsimp only at hq
        split at hq
        · exact ⟨.inr ⟨hdp, _, hq⟩, fun h => (d2.free _ q hq).2.2 k g hk (h ▸ hF)⟩
        · exact ⟨.inl (f2 j q hq).1, (f2 j q hq).2⟩
      · dsimp only at hi hj
        split at hi <;> split at hj
        · exact d2.disj _ _ q (by omega) hi hj
        · exact (d2.free _ q hi).2.2 k g hk (f2 j q hj).1
        · exact (d2.free _ q hj).2.2 k g hk (f2 i q hi).1
        · exact f3 i j q hij hi hj
  · refine .lst b 0 _ _ _ (by simp [hn, hm]) hroom ?_
    rw [List.flatMap_append]
    have h1 : VDc w' I' b 0 (l.flatMap D.cells) := VDc.mono (fun _ _ h => .inl h) hkeep hv
    refine h1.append ?_
    have h2 : VDs w' I' ns (ds.flatMap D.cells) := VDs.mono (fun _ _ h => .inl h) hkeep hns
    refine VDc.of_vals h2 (fun j v hj => ?_)
    have hlt : j < ns.length := (List.getElem?_eq_some_iff.1 hj).1
    rw [Nat.zero_add, hll]
    refine ⟨?_, .inr ⟨rfl, by rw [Nat.add_mul]; omega⟩⟩
    rw [hcell, List.append_assoc, List.getElem?_append_right (by omega), htl, List.getElem?_append_left (by omega), show n * sz + j - n * sz = j by omega]
    exact hj
end
end Go.Ab
/- append, whole; slices written out; make. -/
namespace Go.Ab
open Go
set_option linter.unusedVariables false
set_option linter.unusedSimpArgs false
section
variable {P : Program} {T : Ty} {w w' : World} {I I' : Im} {G : List Gh} {c : Cx} {s : St} {a : Act}
theorem ObjR.shallow {g : Gh} {e sz : Nat} {dp dp' : Bool} (h : ObjR w I G g (.app e sz dp)) (hd : dp' = true → dp = true) : ObjR w I G g (.app e sz dp') := by
  rcases h with h | ⟨b, o, n, h1, h2, h3⟩ | ⟨b, n, cap, cs, h1, h2, h3, h4, h5, h6, h7, h8⟩
  · exact .inl h
  · exact .inr (.inl ⟨b, o, n, h1, h2, fun h => h3 (hd h)⟩)
  · exact .inr (.inr ⟨b, n, cap, cs, h1, h2, h3, h4, h5, h6, h7, fun h => h8 (hd h)⟩)
theorem append_core (hr : RelX c s a w I G) {t ty e : Nat} {ie : TI} (hu : P.underlying t = some (.slice e)) (hie : TIOk P e ie) (hby : ie.bytes ≠ 0) {k : Nat} {g : Gh} (hk : G[k]? = some g) {dp0 dp : Bool}
    (ho : ObjR w I G g (.app e ie.sz dp0)) {l ds : List D} (hv : VD w I g.root (.lst l)) (hfl : Flat ie.sz l) {x : Value} {ns : List Value} (hsrc : Src w I ie.sz x ns ds) (hfd : Flat ie.sz ds)
    (hbound : (l.length + ds.length) * ie.bytes ≤ 140737488355328) (fs : Nat → Nat → Prop) (hd : dp = true → dp0 = true ∧ Deep w c G ns fs) :
    ∃ v' w' I' g', (Builtin.append_ #[t, t] ty #[g.root, x]).run P w = .ok v' w' ∧ Upd c w w' I I' G k g g' ∧ g'.root = v' ∧ ObjR w' I' (G.set k g') g' (.app e ie.sz dp) ∧ VD w' I' v' (.lst (l ++ ds)) := by
  obtain ⟨AA, cap, hroot, hcap, hA, hnil⟩ := hv.row
  by_cases hm : ds.length = 0
  · have hds : ds = [] := List.eq_nil_of_length_eq_zero hm
    subst hds
    have hx : (∃ ad cx, x = .slice (some ad) 0 cx) ∨ x = .slice none 0 0 := by
      rcases hsrc.at_ with ⟨b, o, cx, h1, _⟩ | ⟨h1, _⟩
      · exact .inl ⟨_, _, h1⟩
      · exact h1
    refine ⟨g.root, w, I, g, ?_, Upd.refl hr hk, rfl, ?_, by simpa using hv⟩
    · rw [hroot]; exact run_append_zero hu hie AA l.length cap hcap x hx
    · rw [set_self hk]; exact ho.shallow (fun h => (hd h).1)
  · have hxs : ∃ b o cx, x = .slice (some ⟨b, o, none⟩) ds.length cx ∧ ∀ (j : Nat) (v : Value), ns[j]? = some v → w.cell? ⟨b, o + j, none⟩ = some v := by
      rcases hsrc.at_ with h | ⟨_, h⟩
      · exact h
      · rw [h] at hm; exact absurd rfl hm
    obtain ⟨bx, ox, cx, rfl, hat⟩ := hxs
    obtain ⟨f, z, i1, i2, i3, i4, i5, i6, i7, _⟩ := hie
    have hnews : ∀ (j : Nat) (v : Value), ns[j]? = some v → w.cell? ((⟨bx, ox, none⟩ : Addr).add j) = some v := fun j v hj => by rw [add_at]; exact hat j v hj
    have hlen : ns.length = ds.length * f.size := by rw [i2]; exact hsrc.len
    have hmul : ∀ {n : Nat}, n * ie.bytes ≤ 140737488355328 → n ≤ 140737488355328 := fun {n} h => Nat.le_trans (Nat.le_mul_of_pos_right n (Nat.pos_of_ne_zero hby)) h
    have hsum := hmul hbound
    have hzz : ∀ n, (Builtin.zeroCells z.cells n).toList.length = n * ie.sz := fun n => by rw [Array.length_toList, size_zeroCells, i6]
    have hzf : ∀ n (j : Nat) (x : Value), (Builtin.zeroCells z.cells n).toList[j]? = some x → ∀ a m c, x = .slice (some a) m c → m = 0 := fun n j x hx => zeroCells_flat i5 n j x (by simpa using hx)
    have hml : maxLen = 9223372036854775807 := rfl
    -- a new row
    have new : ∀ (os : List Value) (fo : Nat → Nat → Prop) (old : Nat), VDs w I os (l.flatMap D.cells) → os.length = l.length * ie.sz →
        (dp = true → (∀ (j : Nat) (x : Value), os[j]? = some x → Shp w (fo j) x) ∧ (∀ j b, fo j b → g.F b) ∧ (∀ i j b, i ≠ j → fo i b → ¬ fo j b)) →
        (Builtin.append_ #[t, t] ty #[g.root, .slice (some ⟨bx, ox, none⟩) ds.length cx]).run P w =
          .ok (.slice (some ⟨w.heap.size, 0, none⟩) (l.length + ds.length) (grownCap w (l.length + ds.length) old e))
            (w.drew.alloc (.cells (os.toArray ++ ns.toArray ++ Builtin.zeroCells z.cells (grownCap w (l.length + ds.length) old e - (l.length + ds.length))) e)) →
        ∃ v' w' I' g', (Builtin.append_ #[t, t] ty #[g.root, .slice (some ⟨bx, ox, none⟩) ds.length cx]).run P w = .ok v' w' ∧ Upd c w w' I I' G k g g' ∧ g'.root = v' ∧ ObjR w' I' (G.set k g') g' (.app e ie.sz dp) ∧ VD w' I' v' (.lst (l ++ ds)) := by
      intro os fo old h1 h2 h3 hrun
      have hge := grownCap_ge w (l.length + ds.length) old e
      have hcm := grownCap_le_maxLen w (l.length + ds.length) old e (by omega)
      have key := grown_ok hr hk (e := e) (sz := ie.sz) (n := l.length) (m := ds.length) (dp := dp) h1 hsrc.vals h2 hsrc.len rfl rfl hge hcm
        (zs := (Builtin.zeroCells z.cells (grownCap w (l.length + ds.length) old e - (l.length + ds.length))).toList) (hzz _) fo fs (fun hdp => by
          obtain ⟨d1, d2⟩ := hd hdp
          obtain ⟨e1, e2, e3⟩ := h3 hdp
          exact ⟨e1, e2, e3, d2, hzf _⟩)
      obtain ⟨k1, k2, k3⟩ := key
      have harr : os.toArray ++ ns.toArray ++ Builtin.zeroCells z.cells (grownCap w (l.length + ds.length) old e - (l.length + ds.length)) = (os ++ ns ++ (Builtin.zeroCells z.cells (grownCap w (l.length + ds.length) old e - (l.length + ds.length))).toList).toArray := by
        apply Array.ext'; simp
      rw [harr] at hrun
      exact ⟨_, _, _, _, hrun, k1, rfl, k2, k3⟩
    have hbytes : Builtin.nextslicecap (l.length + ds.length) cap * f.bytes ≤ 281474976710656 ∨ ¬ cap < l.length + ds.length := by
      by_cases h : cap < l.length + ds.length
      · exact .inl (growslice_fits h (by rw [i3]; exact hbound))
      · exact .inr h
    rcases ho with ⟨h1, h2⟩ | ⟨b, o, n, h1, h2, h3⟩ | ⟨b, n, cp, cs, h1, h2, h3, h4, h5, h6, h7, h8⟩
    · -- nil
      have hl : l = [] := by
        rw [h1] at hroot
        injection hroot with q1
        exact hnil q1.symm
      subst hl
      have hrun := run_append_nil (P := P) w t ty e f z hu i1 i4 ⟨bx, ox, none⟩ ds.length cx ns hlen hnews (by omega) (by simp at hsum; omega) (by rw [i3]; simp at hbound; omega)
      refine new [] (fun _ _ => False) 0 .nil (by simp) (fun _ => ⟨fun j x hx => by simp at hx, fun _ _ h => h.elim, fun _ _ _ _ h => h.elim⟩) ?_
      rw [h1]
      simpa using hrun
    · -- no room by its kind
      rw [h1] at hroot
      injection hroot with q1 q2 q3
      subst q2; subst q3
      obtain ⟨_, hcells⟩ := hA b o none q1.symm
      obtain ⟨os, o1, o2⟩ := hcells.vals
      have hol : os.length = l.length * ie.sz := by rw [o1.len, flat_len hfl]
      have hrun := run_append_grow (P := P) w t ty e f z hu i1 i4 ⟨b, o, none⟩ l.length l.length os (by rw [i2]; exact hol) (fun j v hj => by rw [add_at]; exact o2 j v hj) ⟨bx, ox, none⟩ ds.length cx ns hlen hnews (by omega) (by omega)
        (growslice_fits (by omega) (by rw [i3]; exact hbound))
      refine new os (fun _ _ => False) l.length o1 hol (fun hdp => ⟨fun j x hx => ?_, fun _ _ h => h.elim, fun _ _ _ _ h => h.elim⟩) ?_
      · have := h3 (hd hdp).1
        have hlt := (List.getElem?_eq_some_iff.1 hx).1
        rw [hol, this] at hlt
        simp at hlt
      · rw [h1]; exact hrun
    · -- the call's own block
      rw [h1] at hroot
      injection hroot with q1 q2 q3
      subst q2; subst q3
      obtain ⟨_, hcells⟩ := hA b 0 none q1.symm
      by_cases hroom : l.length + ds.length ≤ cp
      · have hfit : l.length * f.size + ns.length ≤ cs.size := by rw [hlen, h5, i2, ← Nat.add_mul]; exact Nat.mul_le_mul_right _ hroom
        have hrun := run_append_room (P := P) w t ty e f hu i1 b l.length cp cs h2 ⟨bx, ox, none⟩ ds.length cx ns hlen hnews hsrc.vals.one hroom hfit
        have key := room_ok hr hk (e := e) (sz := ie.sz) (dp := dp) (dp0 := dp0) h1 h2 h4 h5 h6 h7 hcells (flat_len hfl) rfl hsrc.vals hsrc.len rfl hroom fs (fun hdp => ⟨h8 (hd hdp).1, (hd hdp).2⟩)
        obtain ⟨k1, k2, k3⟩ := key
        rw [i2] at hrun
        refine ⟨_, _, _, _, by rw [h1]; exact hrun, k1, rfl, k2, k3⟩
      · obtain ⟨os, o1, o2⟩ := hcells.vals
        have hol : os.length = l.length * ie.sz := by rw [o1.len, flat_len hfl]
        have hrun := run_append_grow (P := P) w t ty e f z hu i1 i4 ⟨b, 0, none⟩ l.length cp os (by rw [i2]; exact hol) (fun j v hj => by rw [add_at]; exact o2 j v hj) ⟨bx, ox, none⟩ ds.length cx ns hlen hnews (by omega) (by omega)
          (growslice_fits (by omega) (by rw [i3]; exact hbound))
        by_cases hdp : dp = true
        · obtain ⟨Fs, f1, f2, f3⟩ := h8 (hd hdp).1
          refine new os (fun j q => j < os.length ∧ Fs j q) cp o1 hol (fun _ => ⟨fun j x hx => ?_, fun j q h => (f2 j q h.2).1, fun i j q hij h h' => f3 i j q hij h.2 h'.2⟩) (by rw [h1]; exact hrun)
          have hlt := (List.getElem?_eq_some_iff.1 hx).1
          have hc := o2 j x hx
          rw [Nat.zero_add, cell_in h2] at hc
          exact (f1 j x hc).up (fun q hq => ⟨hlt, hq⟩)
        · exact new os (fun _ _ => False) cp o1 hol (fun h => absurd h hdp) (by rw [h1]; exact hrun)
/-! ### The conditions met -/
theorem Src.of_row {sz : Nat} {x : Value} {l : List D} (h : VD w I x (.lst l)) (hf : Flat sz l) : ∃ ns, Src w I sz x ns l := by
  obtain ⟨AA, cap, rfl, hcap, hA, hn⟩ := h.row
  cases AA with
  | none =>
    have := hn rfl
    subst this
    cases h with
    | lnil => exact ⟨[], .nil, by simp, .inr ⟨.inr rfl, rfl⟩⟩
  | some ad =>
    obtain ⟨b, o, sp⟩ := ad
    obtain ⟨hs, hc⟩ := hA b o sp rfl
    rcases hs with rfl | rfl
    case inr => exact ⟨[], .nil, by simp, .inr ⟨.inl ⟨_, _, rfl⟩, rfl⟩⟩
    obtain ⟨ns, h1, h2⟩ := hc.vals
    exact ⟨ns, h1, by rw [h1.len, flat_len hf], .inl ⟨b, o, cap, rfl, h2⟩⟩
theorem give_toD {a : A} {x : D} {ms : List Nat} (h : a.give? = some (x, ms)) : a.toD? = some x := by
  cases a with
  | d y => cases y with
    | v y => simp only [A.give?] at h; cases h; rfl
    | _ => simp [A.give?] at h
  | nil => simp only [A.give?] at h; cases h; rfl
  | own m l => simp only [A.give?] at h; cases h; rfl
  | _ => simp [A.give?] at h
theorem gives_toDs : ∀ {l : List A} {r : List D} {ms : List Nat}, gives? l = some (r, ms) → toDs? l = some r
  | [], r, ms, h => by simp [gives?] at h; obtain ⟨rfl, _⟩ := h; rfl
  | a :: l, r, ms, h => by
    simp only [gives?] at h
    split at h
    · rename_i y q1 s q2 e1 e2; cases h
      simp only [toDs?, give_toD e1, gives_toDs e2]
    · cases h
theorem giveE_toE {a : A} {x : D} {ms : List Nat} (h : a.giveE? = some (x, ms)) : a.toE? = some x := by
  cases a with
  | agg l =>
    simp only [A.giveE?] at h
    split at h
    · rename_i r ms' e; cases h; simp only [A.toE?, gives_toDs e]
    · cases h
  | d y => cases y with
    | agg l =>
      simp only [A.giveE?] at h
      split at h
      · cases h; rfl
      · cases h
    | v y => simp only [A.giveE?] at h; exact give_toD h
    | lst y => simp only [A.giveE?] at h; exact give_toD h
  | _ => simp only [A.giveE?] at h; exact give_toD h
theorem giveEs_toEs : ∀ {l : List A} {r : List D} {ms : List Nat}, giveEs? l = some (r, ms) → toEs? l = some r
  | [], r, ms, h => by simp [giveEs?] at h; obtain ⟨rfl, _⟩ := h; rfl
  | a :: l, r, ms, h => by
    simp only [giveEs?] at h
    split at h
    · rename_i y q1 s q2 e1 e2; cases h
      simp only [toEs?, giveE_toE e1, giveEs_toEs e2]
    · cases h
theorem row_of_giveEs {k : Nat} {l : List A} {r : List D} {ms : List Nat} (h : giveEs? l = some (r, ms)) : (A.sl k l).row? = some r := giveEs_toEs h
/-- Cells of which each goes with a row of its own. -/
theorem gives_deep : ∀ {l : List A} {r : List D} {ms : List Nat} {xs : List Value}, gives? l = some (r, ms) → VAs w I G xs l → (∀ x ∈ xs, x.oneCell' = true) →
    ∃ own : List (Option Nat), own.length = xs.length ∧ own.filterMap id = ms ∧ ∀ (j : Nat) (x : Value), xs[j]? = some x →
      (own[j]? = some none ∧ ∀ a n c, x ≠ .slice (some a) n c) ∨ (∃ (m : Nat) (g : Gh), own[j]? = some (some m) ∧ G[m]? = some g ∧ g.root = x)
  | [], r, ms, xs, h, hv, h1 => by
    cases hv
    simp [gives?] at h
    obtain ⟨rfl, rfl⟩ := h
    exact ⟨[], rfl, rfl, fun j x hx => by simp at hx⟩
  | a :: l, r, ms, xs, h, hv, h1 => by
    cases hv with
    | cons hx hxs =>
      simp only [gives?] at h
      split at h
      · rename_i y q1 s q2 e1 e2; cases h
        obtain ⟨own, o1, o2, o3⟩ := gives_deep e2 hxs (fun z hz => h1 z (List.mem_cons_of_mem _ hz))
        cases hx with
        | d hd =>
          cases hd with
          | v x hv =>
            simp only [A.give?] at e1; cases e1
            refine ⟨none :: own, by simp [o1], by simp [o2], fun j z hz => ?_⟩
            cases j with
            | zero => simp at hz; subst hz; exact .inl ⟨rfl, fun a n c => sc_slice hv _ _ _⟩
            | succ j => simpa using o3 j z (by simpa using hz)
          | _ => simp [A.give?] at e1
        | nil =>
          simp only [A.give?] at e1; cases e1
          refine ⟨none :: own, by simp [o1], by simp [o2], fun j x hx => ?_⟩
          cases j with
          | zero => simp at hx; subst hx; exact .inl ⟨rfl, fun a n c e => (by cases e)⟩
          | succ j => simpa using o3 j x (by simpa using hx)
        | own m l' g g1 g2 g3 =>
          simp only [A.give?] at e1; cases e1
          refine ⟨some m :: own, by simp [o1], by simp [o2], fun j x hx => ?_⟩
          cases j with
          | zero => simp at hx; subst hx; exact .inr ⟨m, g, rfl, g1, g2⟩
          | succ j => simpa using o3 j x (by simpa using hx)
        | _ => simp [A.give?] at e1
      · cases h
theorem gives_append : ∀ {l m : List A} {r s : List D} {ms ns : List Nat}, gives? l = some (r, ms) → gives? m = some (s, ns) → gives? (l ++ m) = some (r ++ s, ms ++ ns)
  | [], m, r, s, ms, ns, h, h2 => by simp [gives?] at h; obtain ⟨rfl, rfl⟩ := h; simpa using h2
  | a :: l, m, r, s, ms, ns, h, h2 => by
    simp only [gives?] at h
    split at h
    · rename_i y q1 t q2 e1 e2; cases h
      simp only [List.cons_append, gives?, e1, gives_append e2 h2, List.append_assoc]
    · cases h
theorem dvs_gives : ∀ {l : List D}, dvs? l = true → gives? (l.map A.d) = some (l, [])
  | [], _ => rfl
  | .v x :: l, h => by
    simp only [dvs?, Bool.and_eq_true] at h
    simp only [List.map_cons, gives?, A.give?, dvs_gives h.2, List.append_nil]
  | .agg _ :: l, h => by simp [dvs?, D.plain] at h
  | .lst _ :: l, h => by simp [dvs?, D.plain] at h
theorem giveE_cells {a : A} {x : D} {ms : List Nat} (h : a.giveE? = some (x, ms)) : gives? a.cells = some (x.cells, ms) := by
  have one : ∀ {b : A}, b.cells = [b] → b.give? = some (x, ms) → (∀ l, x ≠ .agg l) → gives? b.cells = some (x.cells, ms) := fun {b} e1 e2 e3 => by
    rw [e1]
    simp only [gives?, e2, List.append_nil]
    cases x with
    | agg l => exact absurd rfl (e3 l)
    | v y => rfl
    | lst y => rfl
  cases a with
  | agg l =>
    simp only [A.giveE?] at h
    split at h
    · rename_i r ms' e; cases h; exact e
    · cases h
  | d y => cases y with
    | agg l =>
      simp only [A.giveE?] at h
      split at h
      · rename_i e; cases h; exact dvs_gives e
      · cases h
    | v y => simp only [A.giveE?] at h; refine one rfl h (fun l e => ?_); subst e; simp [A.give?] at h
    | lst y => simp only [A.giveE?] at h; simp [A.give?] at h
  | nil => simp only [A.giveE?] at h; refine one rfl h (fun l e => ?_); subst e; simp [A.give?] at h
  | own k l => simp only [A.giveE?] at h; refine one rfl h (fun l e => ?_); subst e; simp [A.give?] at h
  | _ => simp only [A.giveE?] at h; simp [A.give?] at h
theorem giveEs_cells : ∀ {l : List A} {r : List D} {ms : List Nat}, giveEs? l = some (r, ms) → gives? (l.flatMap A.cells) = some (r.flatMap D.cells, ms)
  | [], r, ms, h => by simp [giveEs?] at h; obtain ⟨rfl, rfl⟩ := h; rfl
  | a :: l, r, ms, h => by
    simp only [giveEs?] at h
    split at h
    · rename_i y q1 s q2 e1 e2; cases h
      simp only [List.flatMap_cons]
      exact gives_append (giveE_cells e1) (giveEs_cells e2)
    · cases h
/-- An object is given up. -/
theorem RelX.kill (h : RelX c s a w I G) {m : Nat} {g : Gh} (hm : G[m]? = some g) : RelX c (s.kill m) a w I (G.set m ⟨g.root, fun _ => False⟩) := by
  have u := Upd.refl h hm
  exact h.updD (g' := ⟨g.root, fun _ => False⟩) ⟨hm, rfl, rfl, rfl, Nat.le_refl _, u.block, u.keep, u.im, fun b hb => hb.elim⟩ (.inr rfl) (o' := .dead) (fun k hk => hk)
theorem dem_app {o : O} {q u sz : Nat} {dp : Bool} (h : o = .app u sz dp) : o.dem q = .app u sz dp := by subst h; rfl
theorem RelX.kills : ∀ {ms : List Nat} {s : St} {G : List Gh}, RelX c s a w I G → deepApps s.h ms → ∃ G', RelX c (s.kills ms) a w I G' ∧ G'.length = G.length ∧
    (∀ q, q ∉ ms → G'[q]? = G[q]?) ∧ (∀ q g, q ∈ ms → G'[q]? = some g → ∀ b, ¬ g.F b) ∧ (∀ q u sz dp, q ∉ ms → s.h[q]? = some (.app u sz dp) → (s.kills ms).h[q]? = some (.app u sz dp))
  | [], s, G, h, _ => ⟨G, h, rfl, fun _ _ => rfl, (fun q g hq => (by cases hq)), fun _ _ _ _ _ h => h⟩
  | m :: ms, s, G, h, hd => by
    obtain ⟨⟨t, sz, e⟩, hnot, hd⟩ := hd
    obtain ⟨g, hg, _⟩ := h.objs.get e
    have h1 := h.kill hg
    have keep : ∀ q u sz dp, q ≠ m → s.h[q]? = some (.app u sz dp) → (s.kill m).h[q]? = some (.app u sz dp) := fun q u sz dp hq e => by
      simp only [St.kill]
      rw [List.getElem?_set, if_neg (fun h => hq h.symm), demL_get, e]; rfl
    have hd' : ∀ {ns : List Nat}, m ∉ ns → deepApps s.h ns → deepApps (s.kill m).h ns := fun {ns} => by
      induction ns with
      | nil => intro _ _; trivial
      | cons n ns ih =>
        intro hn hh
        obtain ⟨⟨t, sz, e⟩, h2, h3⟩ := hh
        exact ⟨⟨t, sz, keep n t sz true (fun h => hn (h ▸ List.mem_cons_self)) e⟩, h2, ih (fun h => hn (List.mem_cons_of_mem _ h)) h3⟩
    obtain ⟨G', k1, k2, k3, k4, k5⟩ := RelX.kills h1 (hd' hnot hd)
    have hlen : m < G.length := (List.getElem?_eq_some_iff.1 hg).1
    refine ⟨G', k1, by simpa using k2, fun q hq => ?_, fun q g' hq e' => ?_, fun q u sz dp hq e' => ?_⟩
    · rw [k3 q (fun h => hq (List.mem_cons_of_mem _ h)), List.getElem?_set, if_neg (fun (h : m = q) => hq (h ▸ List.mem_cons_self))]
    · by_cases hqm : q ∈ ms
      · exact k4 q g' hqm e'
      · have : q = m := by
          cases hq with
          | head => rfl
          | tail _ h => exact absurd h hqm
        subst this
        rw [k3 q hqm, List.getElem?_set] at e'
        simp [hlen] at e'
        subst e'
        exact fun b hb => hb
    · exact k5 q u sz dp (fun h => hq (List.mem_cons_of_mem _ h)) (keep q u sz dp (fun (h : q = m) => hq (h ▸ List.mem_cons_self)) e')
theorem deepApps_nodup {h : List O} : ∀ {ms : List Nat}, deepApps h ms → ms.Nodup
  | [], _ => List.nodup_nil
  | m :: ms, ⟨_, h1, h2⟩ => List.nodup_cons.2 ⟨h1, deepApps_nodup h2⟩
theorem deepApps_mem {h : List O} : ∀ {ms : List Nat}, deepApps h ms → ∀ m ∈ ms, ∃ t sz, h[m]? = some (.app t sz true)
  | [], _, m, hm => by cases hm
  | n :: ms, ⟨h0, _, h2⟩, m, hm => by
    cases hm with
    | head => exact h0
    | tail _ hm => exact deepApps_mem h2 m hm
theorem app_shp {g : Gh} {t sz : Nat} (h : ObjR w I G g (.app t sz true)) : Shp w g.F g.root := by
  rcases h with ⟨h1, _⟩ | ⟨b, o, n, h1, _, h3⟩ | ⟨b, n, cap, cs, h1, h2, _, _, _, h6, _, h8⟩
  · rw [h1]; exact .one _ _ (fun a n c e => by cases e)
  · rw [h1]; exact .one _ _ (fun a m c e => by injection e with e1 e2; rw [← e2]; exact h3 rfl)
  · rw [h1]; exact (h8 rfl).shp h6 h2
theorem nodup_own {own : List (Option Nat)} (h : (own.filterMap id).Nodup) : ∀ {i j m : Nat}, own[i]? = some (some m) → own[j]? = some (some m) → i = j := by
  induction own with
  | nil => intro i j m h1; simp at h1
  | cons o own ih =>
    have mem : ∀ {i m : Nat}, own[i]? = some (some m) → m ∈ own.filterMap id := fun {i m} e => by
      rw [List.mem_filterMap]; exact ⟨some m, List.mem_of_getElem? e, rfl⟩
    intro i j m h1 h2
    cases o with
    | none =>
      cases i with
      | zero => simp at h1
      | succ i => cases j with
        | zero => simp at h2
        | succ j => exact congrArg (· + 1) (ih (by simpa using h) (i := i) (j := j) (m := m) (by simpa using h1) (by simpa using h2))
    | some q =>
      simp only [List.filterMap_cons, id] at h
      have hn := List.nodup_cons.1 h
      cases i with
      | zero =>
        simp at h1; subst h1
        cases j with
        | zero => rfl
        | succ j => exact absurd (mem (by simpa using h2)) hn.1
      | succ i => cases j with
        | zero =>
          simp at h2; subst h2
          exact absurd (mem (by simpa using h1)) hn.1
        | succ j => exact congrArg (· + 1) (ih hn.2 (i := i) (j := j) (m := m) (by simpa using h1) (by simpa using h2))
theorem set_dem (h : List O) (k u sz : Nat) (dp : Bool) (e : h[k]? = some (.app u sz dp)) : (O.demL k h).set k (.app u sz dp) = O.demL k h := by
  apply List.ext_getElem?
  intro j
  rw [List.getElem?_set]
  split
  · rename_i hj; subst hj
    have : k < (O.demL k h).length := by rw [demL_len]; exact (List.getElem?_eq_some_iff.1 e).1
    rw [if_pos this, demL_get, e]; rfl
  · rfl
theorem does_grow (hT : TOk P T) (hr : RelX c s a w I G) {t ty e : Nat} {ie : TI} (hu : P.underlying t = some (.slice e)) (he : T e = some ie) (hby : ie.bytes ≠ 0) {k : Nat} {g : Gh} (hk : G[k]? = some g)
    {l : List D} (hv : VD w I g.root (.lst l)) {x : Value} {xa : A} (hx : VA w I G x xa) {dst : Option Nat} {K : St → Prop} (hK : vcGrow e ie s k l xa fun r s' => K (s'.put dst r)) :
    Does P c a w (Builtin.append_ #[t, t] ty #[g.root, x]) dst K := by
  have hie := hT e ie he
  have fin : ∀ {s0 : St} {G0 : List Gh}, RelX c s0 a w I G0 → G0[k]? = some g → ∀ {ds : List D} {ns : List Value} {dp : Bool}, s0.h[k]? = some (.app e ie.sz dp) → Src w I ie.sz x ns ds → Flat ie.sz l → Flat ie.sz ds →
      (l.length + ds.length) * ie.bytes ≤ 140737488355328 → ∀ fs : Nat → Nat → Prop, (dp = true → Deep w c G0 ns fs) → K ((s0.dem k).put dst (.own k (l ++ ds))) →
      Does P c a w (Builtin.append_ #[t, t] ty #[g.root, x]) dst K := by
    intro s0 G0 hr0 hk0 ds ns dp eh hs hfl hfd hb fs hd hK
    obtain ⟨g', hg', ho⟩ := hr0.objs.get eh
    rw [hk0] at hg'; cases hg'
    obtain ⟨v', w', I', g', q1, q2, q3, q4, q5⟩ := append_core hr0 (ty := ty) hu hie hby hk0 ho hv hfl hs hfd hb fs (dp := dp) (fun h => ⟨h, hd h⟩)
    have hX := hr0.updD q2 (.inl (by
      rcases ho with ⟨h1, _⟩ | ⟨_, _, _, h1, _⟩ | ⟨_, _, _, _, h1, _⟩ <;> exact ⟨_, _, _, h1⟩)) q4
    rw [set_dem _ _ _ _ _ eh] at hX
    refine ⟨v', w', q1, _, hK, I', _, hX.put ?_ dst⟩
    have hkl : k < G0.length := (List.getElem?_eq_some_iff.1 hk0).1
    exact .own k _ g' (by rw [List.getElem?_set]; simp [hkl]) q3 q5
  unfold vcGrow at hK
  split at hK
  · rename_i u sz eh
    obtain ⟨rfl, rfl, hfl, hK⟩ := hK
    split at hK
    · rename_i kx lx
      split at hK
      · rename_i ds ms eg
        obtain ⟨hb, hfd, hda, hkm, hK⟩ := hK
        cases hx with
        | sl b n kx lx gx g1 g2 g3 hc =>
          obtain ⟨xs, x1, x2, x3⟩ := hc.vals
          have hcells := giveEs_cells eg
          have hvd : VDs w I xs (ds.flatMap D.cells) := toDs_cells x2 x1 (gives_toDs hcells)
          obtain ⟨own, o1, o2, o3⟩ := gives_deep hcells x1 x2
          obtain ⟨G', k1, k2, k3, k4, k5⟩ := hr.kills hda
          have hnd := deepApps_nodup hda
          rw [← o2] at hnd
          have hlen : n = ds.length := g3.trans (toEs_len (giveEs_toEs eg))
          have hF : ∀ {m : Nat} {gm : Gh}, m ∈ ms → G[m]? = some gm → Shp w gm.F gm.root := fun {m gm} hm e => by
            obtain ⟨t', sz', e'⟩ := deepApps_mem hda m hm
            exact app_shp (hr.objs.obj m gm _ e e')
          have hmem : ∀ {j m : Nat}, own[j]? = some (some m) → m ∈ ms := fun {j m} e => by
            rw [← o2, List.mem_filterMap]; exact ⟨some m, List.mem_of_getElem? e, rfl⟩
          refine fin k1 ((k3 k hkm).trans hk) (k5 k _ _ _ hkm eh) ⟨hvd, by rw [hvd.len, flat_len hfd], .inl ⟨b, 0, n, by rw [hlen], x3⟩⟩ hfl hfd hb
            (fun j q => ∃ m gm, own[j]? = some (some m) ∧ G[m]? = some gm ∧ gm.F q) (fun _ => ⟨fun j y hy => ?_, fun i j q hij => ?_, fun j q => ?_⟩) hK
          · rcases o3 j y hy with ⟨_, h2⟩ | ⟨m, gm, h1, h2, h3⟩
            · exact .one _ _ (fun a n c e => absurd e (h2 a n c))
            · rw [← h3]
              exact (hF (hmem h1) h2).up (fun q hq => ⟨m, gm, h1, h2, hq⟩)
          · rintro ⟨m, gm, h1, h2, h3⟩ ⟨m', gm', h1', h2', h3'⟩
            by_cases hmm : m = m'
            · subst hmm; exact hij (nodup_own hnd h1 h1')
            · exact hr.objs.disj m m' gm gm' q h2 h2' hmm h3 h3'
          · rintro ⟨m, gm, h1, h2, h3⟩
            refine ⟨hr.objs.inb m gm q h2 h3, hr.fr.own m gm q h2 h3, fun i gi ei hi => ?_⟩
            by_cases him : i ∈ ms
            · exact k4 i gi him ei q hi
            · rw [k3 i him] at ei
              exact hr.objs.disj i m gi gm q ei h2 (fun h => him (h ▸ hmem h1)) hi h3
      · exact hK.elim
    · rename_i xa' hns
      split at hK
      · rename_i ds er
        obtain ⟨hb, hfd, hpl, hK⟩ := hK
        obtain ⟨ns, hs⟩ := Src.of_row (hx.row er) hfd
        refine fin hr hk eh hs hfl hfd hb (fun _ _ => False) (fun _ => ⟨fun j y hy => ?_, fun _ _ _ _ h => h.elim, fun _ _ h => h.elim⟩) hK
        obtain ⟨q, hq⟩ : ∃ q, (ds.flatMap D.cells)[j]? = some q := by
          have hlt := (List.getElem?_eq_some_iff.1 hy).1
          rw [hs.vals.len] at hlt
          exact ⟨_, List.getElem?_eq_getElem hlt⟩
        obtain ⟨y', e1, e2, _⟩ := hs.vals.get hq
        rw [hy] at e1; cases e1
        obtain ⟨z, hz, hqz⟩ := List.mem_flatMap.1 (List.mem_of_getElem? hq)
        have := hpl z hz q hqz
        cases e2 with
        | v y h => exact .one _ _ (fun a n c e => absurd e (sc_slice h _ _ _))
        | _ => simp [D.plain] at this
      · exact hK.elim
  · rename_i u sz eh
    obtain ⟨rfl, rfl, hfl, hK⟩ := hK
    split at hK
    · rename_i ds er
      obtain ⟨hb, hfd, hK⟩ := hK
      obtain ⟨ns, hs⟩ := Src.of_row (hx.row er) hfd
      exact fin hr hk eh hs hfl hfd hb (fun _ _ => False) (fun h => by cases h) hK
    · exact hK.elim
  · exact hK.elim
theorem does_append (hT : TOk P T) (hr : RelX c s a w I G) {t u ty : Nat} {x y : Value} {xa ya : A} (hx : VA w I G x xa) (hy : VA w I G y ya) {dst : Option Nat} {K : St → Prop}
    (hK : vcAppend T t u xa ya s fun r s' => K (s'.put dst r)) : Does P c a w (Builtin.append_ #[t, u] ty #[x, y]) dst K := by
  unfold vcAppend at hK
  split at hK
  · rename_i e sz by_ z et
    obtain ⟨rfl, hK⟩ := hK
    obtain ⟨_, _, _, _, _, _, _, _, _, _, _, _, hu⟩ := hT t _ et
    split at hK
    · rename_i ie ee
      obtain ⟨hby, hK⟩ := hK
      split at hK
      · cases hx with
        | nil =>
          have hlen := hr.objs.len
          have hp := hr.push (g := ⟨.slice none 0 0, fun _ => False⟩) (o := .app e ie.sz false) (.inl ⟨rfl, fun _ h => h⟩) (fun b hb => hb.elim)
          exact does_grow hT hp (t := t) (ty := ty) hu ee hby (k := s.h.length) (g := ⟨.slice none 0 0, fun _ => False⟩) (by rw [← hlen]; simp) .lnil
            (hy.mono (fun _ _ h => h) (fun _ _ _ => rfl) (roots_push G _)) hK
      · rename_i k l
        cases hx with
        | own k l g h1 h2 h3 =>
          rw [← h2] at h3 ⊢
          exact does_grow hT hr hu ee hby h1 h3 hy hK
      · rename_i k l
        split at hK
        · rename_i ds ed
          cases hx with
          | sl b n k l g h1 h2 h3 h4 =>
            have hrow : VD w I (.slice (some ⟨b, 0, none⟩) n n) (.lst ds) := (VA.sl b n k l g h1 h2 h3 h4).row ed
            rw [← h2] at hrow ⊢
            exact does_grow hT hr hu ee hby h1 hrow hy hK
        · exact hK.elim
      · exact hK.elim
    · exact hK.elim
  · exact hK.elim
end
end Go.Ab
