/- Fields, places, cuts. -/
import Derived.Test.YtamicpfjieandaaAbE
namespace Go.Ab
open Go
set_option linter.unusedVariables false
set_option linter.unusedSimpArgs false
section
variable {P : Program} {T : Ty} {w : World} {I : Im} {G : List Gh}
theorem VDs.extract {xs : List Value} {l : List D} (h : VDs w I xs l) (a n : Nat) : VDs w I ((xs.toArray.extract a (a + n)).toList) ((l.drop a).take n) := by
  have : (xs.toArray.extract a (a + n)).toList = (xs.drop a).take n := by
    simp [List.extract_eq_take_drop]
  rw [this]
  exact (h.drop a).take n
theorem VAs.extract {xs : List Value} {l : List A} (h : VAs w I G xs l) (a n : Nat) : VAs w I G ((xs.toArray.extract a (a + n)).toList) ((l.drop a).take n) := by
  have : (xs.toArray.extract a (a + n)).toList = (xs.drop a).take n := by
    simp [List.extract_eq_take_drop]
  rw [this]
  exact (h.drop a).take n
theorem VDs.toE {xs : List Value} {l : List D} (h : VDs w I xs l) : VD w I (.agg xs.toArray) (.agg l) := .agg xs l h
theorem VDs.toE' {xs : Array Value} {l : List D} (h : VDs w I xs.toList l) : VD w I (.agg xs) (.agg l) := by
  have := VD.agg xs.toList l h
  rwa [Array.toArray_toList] at this
theorem VA.pack' {xs : Array Value} {l : List A} (h1 : ∀ x ∈ xs.toList, x.oneCell' = true) (h : VAs w I G xs.toList l) : VA w I G (.agg xs) (Ab.pack l) := by
  have := VA.pack h1 h
  rwa [Array.toArray_toList] at this
theorem yields_field (hT : TOk P T) {t f : Nat} {x : Value} {a : A} {K : A → Prop} (hx : VA w I G x a) (hk : vcField T t a f K) : Yields P w I G (Instr.field t x f) K := by
  unfold vcField at hk
  split at hk
  · rename_i i l e
    obtain ⟨q, fd, hu, hf, ho, hs, h0, hag, hon, hin⟩ := field_of hT e
    cases hx with
    | d hx => cases hx with
      | agg cs l hl =>
        have hr : ∀ w : World, (Instr.field t (.agg cs.toArray) f).run P w = (part fd.type cs.toArray fd.offset).run P w := fun w => by
          simp [Instr.field, run_under hu, hf, asAgg]
        unfold partD at hk
        split at hk
        · rename_i ea
          obtain ⟨q', hq'⟩ := hag ea
          refine ⟨_, _, fun w' _ => (hr w').trans (run_part_ag hq' hs hin _ _), .d (VDs.toE' ?_), hk.2⟩
          rw [ho]; exact hl.extract _ _
        · rename_i ea
          obtain ⟨y, hy, hk⟩ := hk
          obtain ⟨_, d, hd, hd1, hd2⟩ := hon ea
          obtain ⟨v, e1, e2, _⟩ := hl.get hy
          refine ⟨v, _, fun w' _ => ?_, .d e2, hk⟩
          rw [hr]
          simp [part, isAgg_of hd hd1 hd2, ho, e1]
  · rename_i i l e
    obtain ⟨q, fd, hu, hf, ho, hs, h0, hag, hon, hin⟩ := field_of hT e
    cases hx with
    | agg cs l hl h1 =>
      have hr : ∀ w : World, (Instr.field t (.agg cs.toArray) f).run P w = (part fd.type cs.toArray fd.offset).run P w := fun w => by
        simp [Instr.field, run_under hu, hf, asAgg]
      unfold partA at hk
      split at hk
      · rename_i ea
        obtain ⟨q', hq'⟩ := hag ea
        refine ⟨_, _, fun w' _ => (hr w').trans (run_part_ag hq' hs hin _ _), VA.pack' (fun x hx => ?_) (by rw [ho]; exact hl.extract _ _), hk.2⟩
        have : x ∈ (cs.drop fd.offset).take i.sz := by
          simpa [List.extract_eq_take_drop] using hx
        exact h1 x (List.mem_of_mem_drop (List.mem_of_mem_take this))
      · rename_i ea
        obtain ⟨y, hy, hk⟩ := hk
        obtain ⟨_, d, hd, hd1, hd2⟩ := hon ea
        obtain ⟨v, e1, e2⟩ := hl.get hy
        refine ⟨v, _, fun w' _ => ?_, e2, hk⟩
        rw [hr]
        simp [part, isAgg_of hd hd1 hd2, ho, e1]
  · exact hk.elim
theorem run_fieldAt (hT : TOk P T) {t f : Nat} {i : FI} (e : fieldOf T t f = some i) (b o : Nat) : (Instr.fieldAt t (.pointer (some ⟨b, o, none⟩)) f).run P w = .ok (.pointer (some ⟨b, o + i.off, none⟩)) w := by
  obtain ⟨q, fd, hu, hf, ho, hs, h0, hag, hon, z, hz⟩ := field_of hT e
  have hsz : z.size = i.sz := by simpa [Program.cellsOf, hz] using hs
  have hpl : (fieldPlace ⟨b, o, none⟩ fd).run P w = .ok ⟨b, o + i.off, none⟩ w := by
    simp [fieldPlace, sizeOf, typeInfo, hz, hsz, h0, ho, add_at]
  simp [Instr.fieldAt, run_under hu, hf, Instr.sureAddr, hpl]
theorem yields_fieldAddr (hT : TOk P T) {t f : Nat} {x : Value} {a : A} {K : A → Prop} (hx : VA w I G x a) (hk : vcFieldAddr T t a f K) : Yields P w I G (Instr.fieldAt t x f) K := by
  unfold vcFieldAddr at hk
  split at hk
  · rename_i i l e
    cases hx with
    | rptr b off l hl => exact ⟨_, _, (fun w' _ => run_fieldAt hT e b off), .rptr b _ _ (hl.drop i.off hk.1), hk.2⟩
  · rename_i i k o e
    cases hx with
    | ref b k o' g h1 h2 => exact ⟨_, _, (fun w' _ => run_fieldAt hT e b _), VA.ref b _ _ g h1 h2, hk⟩
  · rename_i i k sz j o e
    cases hx with
    | eptr b k sz j off n c g h1 h2 =>
      refine ⟨_, _, fun w' _ => run_fieldAt hT e _ _, ?_, hk⟩
      rw [Nat.add_assoc]
      exact VA.eptr b _ _ _ _ n c g h1 h2
  · exact hk.elim
/-- A row that is read. -/
theorem VD.row {x : Value} {l : List D} (h : VD w I x (.lst l)) : ∃ A c, x = .slice A l.length c ∧ l.length ≤ c ∧ (∀ b o s, A = some ⟨b, o, s⟩ → (s = none ∨ l = []) ∧ VDc w I b o (l.flatMap D.cells)) ∧ (A = none → l = []) := by
  cases h with
  | lnil => exact ⟨none, 0, rfl, Nat.le_refl _, (fun b o s h => (by cases h)), fun _ => rfl⟩
  | lemp a c => exact ⟨some a, c, rfl, Nat.zero_le _, (fun b o s h => ⟨.inr rfl, .nil _ _⟩), fun h => (by cases h)⟩
  | lst b off n cap l h1 h2 h3 => subst h1; exact ⟨_, cap, rfl, h2, (fun b o s h => (by cases h; exact ⟨.inl rfl, h3⟩)), fun h => (by cases h)⟩
theorem toDs_cells : ∀ {cs : List Value} {l : List A} {r : List D}, (∀ x ∈ cs, x.oneCell' = true) → VAs w I G cs l → toDs? l = some r → VDs w I cs r
  | _, _, r, _, .nil, h => by simp [toDs?] at h; subst h; exact .nil
  | x :: xs, a :: l, r, h1, .cons h2 h3, h => by
    simp only [toDs?] at h
    split at h
    · rename_i y q e1 e2
      cases h
      refine .cons (h1 x List.mem_cons_self) ?_ (toDs_cells (fun z hz => h1 z (List.mem_cons_of_mem _ hz)) h3 e2)
      cases h2 with
      | d h2 => simp only [A.toD?] at e1; cases e1; exact h2
      | own k l g _ _ h4 => simp only [A.toD?] at e1; cases e1; exact h4
      | nil => simp only [A.toD?] at e1; cases e1; exact .lnil
      | _ => simp [A.toD?] at e1
    · cases h
theorem toD_val {x : Value} {a : A} {c : D} (h : VA w I G x a) (e : a.toD? = some c) : VD w I x c := by
  cases h with
  | d h2 => simp only [A.toD?] at e; cases e; exact h2
  | own k l g _ _ h4 => simp only [A.toD?] at e; cases e; exact h4
  | nil => simp only [A.toD?] at e; cases e; exact .lnil
  | _ => simp [A.toD?] at e
theorem toDs_len : ∀ {l : List A} {r : List D}, toDs? l = some r → l.length = r.length
  | [], r, h => by simp [toDs?] at h; subst h; rfl
  | a :: l, r, h => by
    simp only [toDs?] at h
    split at h
    · rename_i y q e1 e2; cases h; simp [toDs_len e2]
    · cases h
theorem toEs_len : ∀ {l : List A} {r : List D}, toEs? l = some r → l.length = r.length
  | [], r, h => by simp [toEs?] at h; subst h; rfl
  | a :: l, r, h => by
    simp only [toEs?] at h
    split at h
    · rename_i y q e1 e2; cases h; simp [toEs_len e2]
    · cases h
theorem toE_cells {a : A} {c : D} (e : a.toE? = some c) : toDs? a.cells = some c.cells := by
  cases a with
  | agg l =>
    simp only [A.toE?] at e
    split at e
    · rename_i r e1; cases e; simpa [A.cells, D.cells] using e1
    · cases e
  | d x =>
    simp only [A.toE?, A.toD?] at e; cases e
    cases c with
    | agg l =>
      simp only [A.cells, D.cells]
      induction l with
      | nil => rfl
      | cons y l ih => simp only [List.map_cons, toDs?, A.toD?, ih]
    | v x => simp [A.cells, D.cells, toDs?, A.toD?]
    | lst x => simp [A.cells, D.cells, toDs?, A.toD?]
  | own k l => simp only [A.toE?, A.toD?] at e; cases e; simp [A.cells, D.cells, toDs?, A.toD?]
  | nil => simp only [A.toE?, A.toD?] at e; cases e; simp [A.cells, D.cells, toDs?, A.toD?]
  | _ => simp [A.toE?, A.toD?] at e
theorem toDs_append : ∀ {l m : List A} {r s : List D}, toDs? l = some r → toDs? m = some s → toDs? (l ++ m) = some (r ++ s)
  | [], m, r, s, h, h2 => by simp [toDs?] at h; subst h; simpa using h2
  | a :: l, m, r, s, h, h2 => by
    simp only [toDs?] at h
    split at h
    · rename_i y q e1 e2; cases h
      simp only [List.cons_append, toDs?, e1, toDs_append e2 h2]
    · cases h
theorem toEs_cells : ∀ {l : List A} {r : List D}, toEs? l = some r → toDs? (l.flatMap A.cells) = some (r.flatMap D.cells)
  | [], r, h => by simp [toEs?] at h; subst h; rfl
  | a :: l, r, h => by
    simp only [toEs?] at h
    split at h
    · rename_i y q e1 e2; cases h
      simp only [List.flatMap_cons]
      exact toDs_append (toE_cells e1) (toEs_cells e2)
    · cases h
theorem VAc.toD : ∀ {b off} {l : List A} {r : List D}, VAc w I G b off l → toDs? l = some r → VDc w I b off r
  | _, _, _, r, .nil b off, h => by simp [toDs?] at h; subst h; exact .nil b off
  | _, _, _, r, .cons h1 h2 h3 h4 h5, h => by
    simp only [toDs?] at h
    split at h
    · rename_i y q e1 e2; cases h
      exact .cons h1 h2 h3 (toD_val h4 e1) (h5.toD e2)
    · cases h
theorem VA.row {x : Value} {a : A} {l : List D} (h : VA w I G x a) (e : a.row? = some l) : VD w I x (.lst l) := by
  cases h with
  | d h =>
    cases h with
    | v x h => simp [A.row?] at e
    | agg cs l h => simp [A.row?] at e
    | lnil => simp only [A.row?] at e; cases e; exact .lnil
    | lemp a c => simp only [A.row?] at e; cases e; exact .lemp a c
    | lst b off n cap l h1 h2 h3 => simp only [A.row?] at e; cases e; exact .lst b off n cap l h1 h2 h3
  | own k l g h1 h2 h3 => simp only [A.row?] at e; cases e; exact h3
  | nil => simp only [A.row?] at e; cases e; exact .lnil
  | sl b n k l g h1 h2 h3 h4 =>
    simp only [A.row?] at e
    refine .lst b 0 n n _ (h3.trans (toEs_len e)) (Nat.le_refl _) (h4.toD (toEs_cells e))
  | _ => simp [A.row?] at e
theorem run_indexAt {t e : Nat} {ie : TI} (hu : P.underlying t = some (.slice e)) (hie : TIOk P e ie) {b o len cap : Nat} {k : IntKind} {n : Int} (h0 : 0 ≤ n) (h1 : n < len) :
    (Instr.indexAt t (.slice (some ⟨b, o, none⟩) len cap) (.int k n)).run P w = .ok (.pointer (some ⟨b, o + n.toNat * ie.sz, none⟩)) w := by
  simp [Instr.indexAt, asIntOf, run_under hu, h0, h1, run_size hie, add_at]
theorem yields_indexAddr (hT : TOk P T) {h : List O} (hh : RelH w I G h) {t : Nat} {x y : Value} {a i : A} {K : A → Prop} (hx : VA w I G x a) (hy : VA w I G y i) (hk : vcIndexAddr T t a i h K) :
    Yields P w I G (Instr.indexAt t x y) K := by
  unfold vcIndexAddr at hk
  split at hk
  · rename_i e sz by_ z k n et
    obtain ⟨_, _, _, _, _, _, _, _, _, _, _, _, hu⟩ := hT t _ et
    obtain rfl := hy.inv_v
    split at hk
    · rename_i ie kk ee
      cases hx with
      | arr kk g hg hr h1 =>
        split at hk
        · rename_i u sz' l e'
          obtain ⟨rfl, ⟨h0, h1⟩, hk⟩ := hk
          obtain ⟨g', hg', b, cs, e1, e2, _⟩ := hh.get e'
          rw [hg] at hg'; cases hg'
          rw [← hr, e1]
          refine ⟨_, _, fun w' _ => run_indexAt hu (hT _ _ ee) h0 h1, ?_, hk⟩
          have := VA.eptr (w := w) (I := I) b kk ie.sz n.toNat 0 _ _ g hg e1
          rwa [Nat.add_zero, ← Nat.zero_add (n.toNat * ie.sz)] at this
        · rename_i r u sz' l e'
          obtain ⟨rfl, ⟨h0, h1⟩, hk⟩ := hk
          obtain ⟨g', hg', hroot, b, cs, t', sp, cap, e1, ecap, e2, _⟩ := hh.get e'
          rw [hg] at hg'; cases hg'
          rw [← hr, hroot, e1]
          refine ⟨_, _, fun w' _ => run_indexAt hu (hT _ _ ee) h0 h1, ?_, hk⟩
          have := VA.eptr (w := w) (I := I) b kk ie.sz n.toNat 0 _ _ g hg (hroot.trans e1)
          rwa [Nat.add_zero, ← Nat.zero_add (n.toNat * ie.sz)] at this
        · exact hk.elim
    · rename_i ie a' ee hna
      split at hk
      · rename_i l el
        obtain ⟨⟨h0, h1⟩, hf, hk⟩ := hk
        obtain ⟨AA, c, rfl, hc, hA, hn⟩ := (hx.row el).row
        have hlt : n.toNat < l.length := by omega
        have hget : l[n.toNat]? = some l[n.toNat] := by simp [hlt]
        cases AA with
        | none => have := hn rfl; subst this; simp at hlt
        | some ad =>
          obtain ⟨b, o, s⟩ := ad
          obtain ⟨hs, hcells⟩ := hA b o s rfl
          obtain rfl : s = none := hs.elim id fun h => by subst h; simp at hlt
          have hfl := flat_getD hf hget
          refine ⟨_, _, fun w' _ => run_indexAt hu (hT _ _ ee) h0 h1, ?_, hk _ hget⟩
          rw [← hfl.1]
          exact .rptr _ _ _ ((hcells.drop _ (by have := hfl.2; rw [Nat.add_mul] at this; omega)).take _)
      · exact hk.elim
    · exact hk.elim
  · exact hk.elim
theorem yields_index (hT : TOk P T) {t : Nat} {x y : Value} {a i : A} {K : A → Prop} (hx : VA w I G x a) (hy : VA w I G y i) (hk : vcIndex T t a i K) : Yields P w I G (Instr.index t x y) K := by
  unfold vcIndex at hk
  split at hk
  · rename_i sz by_ z s k n et
    obtain ⟨_, _, _, _, _, _, _, _, _, _, _, _, hu⟩ := hT t _ et
    obtain rfl := hx.inv_v
    obtain rfl := hy.inv_v
    obtain ⟨⟨h0, h1⟩, hk⟩ := hk
    have hlt : n.toNat < s.data.size := by have : s.data.size = s.size := rfl; omega
    have hget : s.data[n.toNat]? = some s.data[n.toNat] := by simp
    have hs : s[n.toNat]? = some s.data[n.toNat] := by
      have : n.toNat < s.size := by omega
      simp [this]; rfl
    refine ⟨_, _, fun w' _ => ?_, .d (.v _ rfl), hk _ hget⟩
    simp [Instr.index, asIntOf, run_under hu, h0, hs]
  · exact hk.elim
end
end Go.Ab
