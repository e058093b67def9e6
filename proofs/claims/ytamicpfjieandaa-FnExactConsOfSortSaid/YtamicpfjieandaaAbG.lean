/- Cuts, structs out of parts, lengths. -/
import Derived.Test.YtamicpfjieandaaAbF
namespace Go.Ab
open Go
set_option linter.unusedVariables false
set_option linter.unusedSimpArgs false
section
variable {P : Program} {T : Ty} {w : World} {I : Im} {G : List Gh}
theorem cut_lo {lo : Option A} {v : Option Value} {K : Int → Prop} (hv : ∀ x a, v = some x → lo = some a → VA w I G x a) (hn : v = none ↔ lo = none) (h : cutLo lo K) :
    ∃ l, K l ∧ ((v = none ∧ l = 0) ∨ ∃ k, v = some (.int k l)) := by
  unfold cutLo at h
  split at h
  · exact ⟨0, h, .inl ⟨hn.2 rfl, rfl⟩⟩
  · rename_i k n
    cases v with
    | none => exact absurd (hn.1 rfl) (by simp)
    | some x => obtain rfl := (hv x _ rfl rfl).inv_v; exact ⟨_, h, .inr ⟨_, rfl⟩⟩
  · exact h.elim
theorem cut_hi {hi : Option A} {v : Option Value} {len : Nat} {K : Int → Prop} (hv : ∀ x a, v = some x → hi = some a → VA w I G x a) (hn : v = none ↔ hi = none) (h : cutHi hi len K) :
    ∃ l, K l ∧ ((v = none ∧ l = len) ∨ ∃ k, v = some (.int k l)) := by
  unfold cutHi at h
  split at h
  · exact ⟨len, h, .inl ⟨hn.2 rfl, rfl⟩⟩
  · rename_i k n
    cases v with
    | none => exact absurd (hn.1 rfl) (by simp)
    | some x => obtain rfl := (hv x _ rfl rfl).inv_v; exact ⟨_, h, .inr ⟨_, rfl⟩⟩
  · exact h.elim
theorem run_bounds (b : Bool) {len cap : Nat} {vl vh : Option Value} {l h : Int} (h0 : 0 ≤ l) (h1 : l ≤ h) (h2 : h ≤ len) (h3 : len ≤ cap)
    (hl : (vl = none ∧ l = 0) ∨ ∃ k, vl = some (.int k l)) (hh : (vh = none ∧ h = len) ∨ ∃ k, vh = some (.int k h)) :
    (Instr.sliceBounds b len cap vl vh none).run P w = .ok (l.toNat, h.toNat, cap) w := by
  have hb : ∀ (k : IntKind) (i : Int) (y : Nat) (c : BoundsCode), 0 ≤ i → i ≤ y → (Instr.sliceBound (.int k i) y c).run P w = .ok i.toNat w := fun k i y c a1 a2 => by
    simp [Instr.sliceBound, asIntOf, a1, a2]
  have hht : ((h.toNat : Nat) : Int) = h := by omega
  rcases hl with ⟨rfl, rfl⟩ | ⟨k, rfl⟩ <;> rcases hh with ⟨rfl, rfl⟩ | ⟨k', rfl⟩
  · simp [Instr.sliceBounds]
  · simp [Instr.sliceBounds, hb k' h cap _ (by omega) (by omega)]
  · simp [Instr.sliceBounds, hb k l len _ h0 (by omega)]
  · simp [Instr.sliceBounds, hb k' h cap _ (by omega) (by omega), hb k l h.toNat _ h0 (by omega)]
theorem flat_take {sz : Nat} {l : List D} (hf : Flat sz l) (n : Nat) : (l.take n).flatMap D.cells = (l.flatMap D.cells).take (n * sz) := by
  induction l generalizing n with
  | nil => simp
  | cons y l ih =>
    cases n with
    | zero => simp
    | succ n =>
      have hy := hf y List.mem_cons_self
      rw [List.take_succ_cons, List.flatMap_cons, List.flatMap_cons, ih (fun z hz => hf z (List.mem_cons_of_mem _ hz)), List.take_append, hy]
      rw [List.take_of_length_le (l := y.cells) (by rw [hy, Nat.add_mul]; omega), show (n + 1) * sz - sz = n * sz by rw [Nat.add_mul]; omega]
theorem flat_drop {sz : Nat} {l : List D} (hf : Flat sz l) (n : Nat) : (l.drop n).flatMap D.cells = (l.flatMap D.cells).drop (n * sz) := by
  induction l generalizing n with
  | nil => simp
  | cons y l ih =>
    cases n with
    | zero => simp
    | succ n =>
      have hy := hf y List.mem_cons_self
      rw [List.drop_succ_cons, List.flatMap_cons, ih (fun z hz => hf z (List.mem_cons_of_mem _ hz)), List.drop_append, hy]
      rw [List.drop_eq_nil_of_le (as := y.cells) (by rw [hy, Nat.add_mul]; omega), List.nil_append, show (n + 1) * sz - sz = n * sz by rw [Nat.add_mul]; omega]
theorem flat_len {sz : Nat} {l : List D} (hf : Flat sz l) : (l.flatMap D.cells).length = l.length * sz := by
  induction l with
  | nil => simp
  | cons y l ih =>
    rw [List.flatMap_cons, List.length_append, hf y List.mem_cons_self, ih (fun z hz => hf z (List.mem_cons_of_mem _ hz)), List.length_cons, Nat.add_mul]; omega
theorem Flat.take {sz : Nat} {l : List D} (hf : Flat sz l) (n : Nat) : Flat sz (l.take n) := fun x hx => hf x (List.mem_of_mem_take hx)
theorem yields_slice (hT : TOk P T) {t : Nat} {x : Value} {a : A} {lo hi : Option A} {vl vh : Option Value} {K : A → Prop} (hx : VA w I G x a)
    (hlo : ∀ x a, vl = some x → lo = some a → VA w I G x a) (hnl : vl = none ↔ lo = none) (hhi : ∀ x a, vh = some x → hi = some a → VA w I G x a) (hnh : vh = none ↔ hi = none)
    (hk : vcSlice T t a lo hi K) : Yields P w I G (Instr.sliceAt t x vl vh none) K := by
  unfold vcSlice at hk
  split at hk
  · rename_i sz by_ z et
    obtain ⟨_, _, _, _, _, _, _, _, _, _, _, _, hu⟩ := hT t _ et
    split at hk
    · rename_i s
      obtain rfl := hx.inv_v
      obtain ⟨l, hk, hl⟩ := cut_lo hlo hnl hk
      obtain ⟨h, hk, hh⟩ := cut_hi hhi hnh hk
      obtain ⟨⟨h0, h1, h2⟩, hk⟩ := hk
      refine ⟨_, _, fun w' _ => ?_, .d (.v _ rfl), hk⟩
      simp [Instr.sliceAt, Instr.slice, run_under hu, run_bounds false h0 h1 h2 (Nat.le_refl _) hl hh]
    · exact hk.elim
  · rename_i e sz by_ z et
    obtain ⟨_, _, _, _, _, _, _, _, _, _, _, _, hu⟩ := hT t _ et
    split at hk
    · rename_i ie r ee er
      obtain ⟨l, hk, hl⟩ := cut_lo hlo hnl hk
      obtain ⟨h, hk, hh⟩ := cut_hi hhi hnh hk
      obtain ⟨⟨h0, h1, h2⟩, hf, hk⟩ := hk
      obtain ⟨AA, c, rfl, hc, hA, hn⟩ := (hx.row er).row
      have hrun : ∀ w : World, (Instr.sliceAt t (.slice AA r.length c) vl vh none).run P w = .ok (.slice (if c = l.toNat then AA else AA.map (·.add (l.toNat * ie.sz))) (h.toNat - l.toNat) (c - l.toNat)) w := fun w => by
        simp [Instr.sliceAt, Instr.slice, run_under hu, run_bounds true h0 h1 h2 hc hl hh, run_size (hT _ _ ee)]
      refine ⟨_, _, fun w' _ => hrun w', .d ?_, hk⟩
      have hlen : h.toNat - l.toNat = ((r.take h.toNat).drop l.toNat).length := by simp; omega
      cases AA with
      | none =>
        have hr := hn rfl
        subst hr
        have : h.toNat = 0 := by simp at h2; omega
        have hc0 : l.toNat = 0 := by omega
        cases hx.row er with
        | lnil => simp [this, hc0]; exact .lnil
      | some ad =>
        obtain ⟨b, o, s⟩ := ad
        obtain ⟨hs, hcells⟩ := hA b o s rfl
        by_cases hr0 : r = []
        · subst hr0
          have h3 : h.toNat = 0 := by simp at h2; omega
          have h4 : l.toNat = 0 := by omega
          rw [h3, h4]
          simp only [List.take_zero, List.drop_zero, Nat.sub_zero]
          split
          · exact .lemp _ _
          · exact .lemp _ _
        obtain rfl : s = none := hs.elim id fun h => absurd h hr0
        have hcc : VDc w I b (o + l.toNat * ie.sz) (((r.take h.toNat).drop l.toNat).flatMap D.cells) := by
          rw [flat_drop (hf.take _), flat_take hf]
          refine (hcells.take _).drop _ ?_
          rw [List.length_take, flat_len hf]
          have h3 : l.toNat ≤ h.toNat := by omega
          have h4 : h.toNat ≤ r.length := by omega
          exact Nat.le_min.2 ⟨Nat.mul_le_mul_right _ h3, Nat.mul_le_mul_right _ (by omega)⟩
        by_cases hcl : c = l.toNat
        · rw [if_pos hcl]
          have h0 : (r.take h.toNat).drop l.toNat = [] := List.eq_nil_of_length_eq_zero (by omega)
          rw [h0]
          exact .lst b o _ _ [] (by rw [hlen, h0]) (by omega) (.nil _ _)
        · rw [if_neg hcl]
          simp only [Option.map_some, add_at]
          exact .lst b _ _ _ _ hlen (by omega) hcc
    · exact hk.elim
  · exact hk.elim
theorem yields_len (hT : TOk P T) {h : List O} (hh : RelH w I G h) {t : Nat} {ty : TypeId} {x : Value} {a : A} {n : Nat} (hx : VA w I G x a) (hok : lenOk T t a) (hl : a.len? h = some n) :
    (Builtin.len_ #[t] ty #[x]).run P w = .ok (.int .i64 n) w := by
  have row : ∀ {l : List D}, VD w I x (.lst l) → (∃ e, P.underlying t = some (.slice e)) → (Builtin.len_ #[t] ty #[x]).run P w = .ok (.int .i64 l.length) w := fun {l} hv ⟨e, hu⟩ => by
    obtain ⟨AA, c, rfl, _⟩ := hv.row
    simp [Builtin.len_, run_under hu, goInt]
  unfold lenOk at hok
  split at hok
  · rename_i sz by_ z s et
    obtain ⟨_, _, _, _, _, _, _, _, _, _, _, _, hu⟩ := hT t _ et
    obtain rfl := hx.inv_v
    simp only [A.len?] at hl; cases hl
    simp [Builtin.len_, run_under hu, goInt]
  · rename_i kk ee sz by_ z k et
    obtain ⟨_, _, _, _, _, _, _, _, _, _, _, _, hu⟩ := hT t _ et
    simp only [A.len?] at hl
    split at hl
    · rename_i kt vt l e
      cases hl
      cases hx with
      | mp r k g hg hr =>
        obtain ⟨g', hg', r', es, c, e1, e2, e3, _⟩ := hh.get e
        rw [hg] at hg'; cases hg'
        rw [hr] at e1; cases e1
        have hlen : es.size = l.length := by
          have := congrArg List.length e3.1
          simpa using this
        simp [Builtin.len_, run_under hu, goInt, getObj, Sem.run, e2, hlen]
    · cases hl
  · exact hok.elim
  · exact hok.elim
  · rename_i e sz by_ z et hns hnm
    obtain ⟨_, _, _, _, _, _, _, _, _, _, _, _, hu⟩ := hT t _ et
    cases hx with
    | d hv =>
      cases hv with
      | v x h1 =>
        cases x <;> first | exact absurd rfl (hns _) | (simp [A.len?, A.row?] at hl)
      | agg cs l hv => simp [A.len?, A.row?] at hl
      | lnil => simp only [A.len?, A.row?] at hl; cases hl; exact row .lnil ⟨e, hu⟩
      | lemp a c => simp only [A.len?, A.row?] at hl; cases hl; exact row (.lemp a c) ⟨e, hu⟩
      | lst b off n cap l h1 h2 h3 => simp only [A.len?, A.row?] at hl; cases hl; exact row (.lst b off n cap l h1 h2 h3) ⟨e, hu⟩
    | own k l g h1 h2 h3 => simp only [A.len?, A.row?] at hl; cases hl; exact row h3 ⟨e, hu⟩
    | nil => simp only [A.len?, A.row?] at hl; cases hl; exact row .lnil ⟨e, hu⟩
    | sl b n k l g h1 h2 h3 h4 =>
      simp only [A.len?] at hl; cases hl
      simp [Builtin.len_, run_under hu, goInt, h3]
    | arr k g hg hr h1 =>
      simp only [A.len?] at hl
      split at hl
      · rename_i u sz l e'
        cases hl
        obtain ⟨g', hg', b, cs, e1, _⟩ := hh.get e'
        rw [hg] at hg'; cases hg'
        rw [← hr, e1]
        simp [Builtin.len_, run_under hu, goInt]
      · rename_i r u sz l e'
        cases hl
        obtain ⟨g', hg', hroot, b, cs, t', sp, cap, e1, _⟩ := hh.get e'
        rw [hg] at hg'; cases hg'
        rw [← hr, hroot, e1]
        simp [Builtin.len_, run_under hu, goInt]
      · cases hl
    | mp r k g hg hr => exact absurd rfl (hnm _)
    | raw x h1 => simp [A.len?, A.row?] at hl
    | agg cs l h1 h2 => simp [A.len?, A.row?] at hl
    | tup cs l h1 => simp [A.len?, A.row?] at hl
    | rptr b off l h1 => simp [A.len?, A.row?] at hl
    | ref b k off g h1 h2 => simp [A.len?, A.row?] at hl
    | eptr b k sz i off n c g h1 h2 => simp [A.len?, A.row?] at hl
    | fn f cs l h1 => simp [A.len?, A.row?] at hl
    | any x => simp [A.len?, A.row?] at hl
  · exact hok.elim
end
end Go.Ab
