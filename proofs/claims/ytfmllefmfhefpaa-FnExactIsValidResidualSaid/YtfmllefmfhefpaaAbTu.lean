/- A row of texts of one's own, opened, cut and closed again inside a function. -/
import Derived.Test.YtfmllefmfhefpaaAbTv
import Derived.Laws.CopyRow
namespace Go.Ab
open Go
set_option linter.unusedVariables false
set_option linter.unusedSimpArgs false
section
variable {P : Program} {T : Ty} {s : St} {K : St → Prop} {t : List A} {h : List O} {p : Nat} {Q : St → Prop}
/-- The texts as elements of an opened row. -/
def strA (l : List ByteArray) : List A := l.map fun x => A.str x
theorem strA_flat (l : List ByteArray) : (strA l).flatMap A.cells = strA l := by
  induction l with
  | nil => rfl
  | cons x l ih => show (A.str x).cells ++ (strA l).flatMap A.cells = _; rw [ih]; rfl
theorem dstr_flat (l : List ByteArray) : (l.map D.str).flatMap D.cells = l.map D.str := by
  induction l with
  | nil => rfl
  | cons x l ih => show (D.str x).cells ++ (l.map D.str).flatMap D.cells = _; rw [ih]; rfl
theorem strs_vas {w : World} {I : Im} {G : List Gh} (l : List ByteArray) : VAs w I G (l.map fun x => Value.string x) (strA l) := by
  induction l with
  | nil => exact .nil
  | cons x l ih => exact .cons (.d (.v _ rfl)) ih
/-- A tree of texts turns into an opened row. -/
theorem Turns.openS {q d : Nat} {v : Value} {l : List ByteArray} {u : TypeId} (hq : h[q]? = some (.forest [(v, .lst (l.map D.str))])) (hl : l ≠ []) (hd : t[d]? = some (.raw v))
    (hQ : ∀ b cap, v = .slice (some ⟨b, 0, none⟩) l.length cap → l.length ≤ cap → Q ⟨(A.dems q t).set d (.arr q), (O.demL q h).set q (.opn v u 1 (strA l)), p⟩) : Turns ⟨t, h, p⟩ Q := fun c a w ⟨I, G, hr⟩ => by
  obtain ⟨g, hg, hroot, hfor, hni⟩ := hr.objs.get hq
  obtain ⟨hone, htree⟩ := hfor.mem (v := v) (d := .lst (l.map D.str)) List.mem_cons_self
  have key : ∃ (b c t : Nat) (cs : Array Value), v = .slice (some ⟨b, 0, none⟩) l.length c ∧ g.F b ∧ w.heap[b]? = some (.cells cs t (0, 0)) ∧ l.length ≤ c ∧ ∀ (j : Nat) (x : ByteArray), l[j]? = some x → cs[j]? = some (.string x) := by
    generalize hF : g.F = F at htree
    generalize hdl : l.map D.str = dl at htree
    cases htree with
    | nil => exact absurd (List.map_eq_nil_iff.1 hdl) hl
    | emp a c => exact absurd (List.map_eq_nil_iff.1 hdl) hl
    | lst _ Fs xs b n c t cs _ h1 h2 h3 h4 h5 h6 h7 h8 =>
      subst hdl
      subst hF
      rw [List.length_map] at h3
      refine ⟨b, c, t, cs, by rw [h3], h1, h2, by omega, fun j x hx => ?_⟩
      have e : ((l.map D.str).flatMap D.cells)[j]? = some (D.str x) := by rw [dstr_flat]; simp [hx]
      have h6' := h6 j _ e
      have h5' := (h5 j _ e).1
      rw [h5']
      generalize xs j = y at h6' ⊢
      cases h6' with
      | v _ _ _ => rfl
  obtain ⟨b, cap, tt, cs, rfl, hb, hh, hnc, hcs⟩ := key
  have hlen : l.length ≤ cs.size := by
    rcases Nat.lt_or_ge cs.size l.length with h' | h'
    · have hl' : l[cs.size]? = some l[cs.size] := by simp [h']
      have := hcs cs.size _ hl'
      simp at this
    · exact h'
  have hq' : q < G.length := (List.getElem?_eq_some_iff.1 hg).1
  have hu := Upd.refl hr hg
  let g' : Gh := ⟨.slice (some ⟨b, 0, none⟩) l.length cap, fun k => k = b⟩
  have hF : ∀ k, g'.F k → g.F k := fun k hk => by
    have : k = b := hk
    subst this; exact hb
  have hX := hr.updD (k := q) (g := g) (g' := g') ⟨hg, rfl, rfl, rfl, Nat.le_refl _, hu.block, hu.keep, hu.im, fun k hk => hu.F k (hF k hk)⟩ (.inl ⟨none, 0, 0, hroot⟩)
    (o' := .opn (.slice (some ⟨b, 0, none⟩) l.length cap) u 1 (strA l)) ⟨rfl, b, cs, tt, cs.size - l.length, cap, by simp [strA], by simpa [strA] using hnc, hh, by
      rw [strA_flat]
      have hpt : ∀ j, j < l.length → cs[j]? = some (l.map (fun x => Value.string x))[j]! := fun j hj => by
        have hl' : l[j]? = some l[j] := by simp [hj]
        rw [hcs j _ hl']; simp [hj]
      have e : cs.toList = l.map (fun x => Value.string x) ++ cs.toList.drop l.length := by
        apply List.ext_getElem?
        intro j
        rcases Nat.lt_or_ge j l.length with h' | h'
        · rw [List.getElem?_append_left (by simpa using h')]
          have hl' : l[j]? = some l[j] := by simp [h']
          have := hcs j _ hl'
          simp [this, hl']
        · rw [List.getElem?_append_right (by simpa using h'), List.getElem?_drop, List.length_map]
          congr 1; omega
      rw [e]
      have hd' : (cs.toList.drop l.length).length = cs.size - l.length := by simp
      rw [← hd']
      exact VAs.append (strs_vas l) (VAs.anys _), fun j x hj hx => by
        rw [Nat.mul_one] at hj
        have hj' : j < l.length := by simpa [strA] using hj
        have hl' : l[j]? = some l[j] := by simp [hj']
        rw [hcs j _ hl'] at hx
        cases hx; rfl, fun x hx => by
        obtain ⟨y, _, rfl⟩ := List.mem_map.1 hx; rfl, fun k => Iff.rfl, fun j => hni b j hb⟩
  refine ⟨_, hQ b cap rfl hnc, I, _, hX.defers, ?_, hX.objs, hX.fr, hX.pr⟩
  refine hX.tmps.set_at fun y hy => ?_
  obtain ⟨x, hx, hv⟩ := hr.tmps.get hd
  rw [hx] at hy; cases hy
  cases hv
  exact .arr q g' (by rw [List.getElem?_set]; simp [hq']) rfl rfl
/-- Slicing an opened row: from a place on. -/
theorem sem_slice_from {ut e : TypeId} {ie : TI} {x lo : Operand} {d : Nat} {k b cap i : Nat} {u : TypeId} {L : List A} (hT : TOk P T) (hu : P.underlying ut = some (.slice e)) (he : T e = some ie) (h1 : ie.sz = 1) (hx : opd t x = .arr k) {N : Nat} (hN0 : L.length = N) (hk : h[k]? = some (.opn (.slice (some ⟨b, 0, none⟩) N cap) u 1 L))
    (hlo : opd t lo = .int i) (hi : i < N) (hc : N ≤ cap) (hK : K (St.put ⟨t, h, p⟩ (some d) (.raw (.slice (some ⟨b, i, none⟩) (N - i) (cap - i))))) : semVC P (.slice ut x (some lo) none none) (some d) ⟨t, h, p⟩ K := fun ty pos after guard c a w hR NN Q hN => by
  subst hN0
  obtain ⟨I, G, hr⟩ := hR
  have ev := VA.eval hr.tmps x
  rw [hx] at ev
  have el := VA.eval hr.tmps lo
  rw [hlo] at el
  have el := el.inv_v
  generalize hv : a.eval x = v at ev
  cases ev with
  | arr _ g hg hroot hone =>
  obtain ⟨g', hg', hobj⟩ := hr.objs.get hk
  rw [hg] at hg'; cases hg'
  have hrt := hobj.1
  rw [hroot] at hrt
  subst hrt
  unfold Oper.wp
  have hrun : (execOp a.eval ⟨some d, .slice ut x (some lo) none none, ty, pos, after, guard⟩).run P w = .ok (.value (.slice (some ⟨b, i, none⟩) (L.length - i) (cap - i))) w := by
    have hb := run_bounds (P := P) (w := w) true (len := L.length) (cap := cap) (vl := some (.int .i64 i)) (vh := none) (l := (i : Int)) (h := (L.length : Int)) (by omega) (by omega) (by omega) hc (.inr ⟨_, rfl⟩) (.inl ⟨rfl, rfl⟩)
    have hne : ¬ cap = i := by omega
    simp [execOp, hv, el, Instr.sliceAt, Instr.slice, run_under hu, hb, run_size (hT _ _ he), h1, hne, Addr.add]
    try (intros; omega)
  rw [hrun]
  exact hN _ _ _ hK ⟨I, G, hr.put (.raw _ rfl) (some d)⟩
/-- Slicing an opened row: up to a place. -/
theorem sem_slice_to {ut e : TypeId} {ie : TI} {x hi : Operand} {d : Nat} {k b cap i : Nat} {u : TypeId} {L : List A} (hT : TOk P T) (hu : P.underlying ut = some (.slice e)) (he : T e = some ie) (h1 : ie.sz = 1) (hx : opd t x = .arr k) {N : Nat} (hN0 : L.length = N) (hk : h[k]? = some (.opn (.slice (some ⟨b, 0, none⟩) N cap) u 1 L))
    (hhi : opd t hi = .int i) (hi' : i ≤ N) (hc : N ≤ cap) (hK : K (St.put ⟨t, h, p⟩ (some d) (.raw (.slice (some ⟨b, 0, none⟩) i cap)))) : semVC P (.slice ut x none (some hi) none) (some d) ⟨t, h, p⟩ K := fun ty pos after guard c a w hR NN Q hN => by
  subst hN0
  obtain ⟨I, G, hr⟩ := hR
  have ev := VA.eval hr.tmps x
  rw [hx] at ev
  have el := VA.eval hr.tmps hi
  rw [hhi] at el
  have el := el.inv_v
  generalize hv : a.eval x = v at ev
  cases ev with
  | arr _ g hg hroot hone =>
  obtain ⟨g', hg', hobj⟩ := hr.objs.get hk
  rw [hg] at hg'; cases hg'
  have hrt := hobj.1
  rw [hroot] at hrt
  subst hrt
  unfold Oper.wp
  have hrun : (execOp a.eval ⟨some d, .slice ut x none (some hi) none, ty, pos, after, guard⟩).run P w = .ok (.value (.slice (some ⟨b, 0, none⟩) i cap)) w := by
    have hb := run_bounds (P := P) (w := w) true (len := L.length) (cap := cap) (vl := none) (vh := some (.int .i64 i)) (l := 0) (h := (i : Int)) (by omega) (by omega) (by omega) hc (.inl ⟨rfl, rfl⟩) (.inr ⟨_, rfl⟩)
    by_cases h0 : cap = 0
    · subst h0
      simp [execOp, hv, el, Instr.sliceAt, Instr.slice, run_under hu, hb, run_size (hT _ _ he), h1]
    · simp [execOp, hv, el, Instr.sliceAt, Instr.slice, run_under hu, hb, run_size (hT _ _ he), h1, h0, Addr.add]
  rw [hrun]
  exact hN _ _ _ hK ⟨I, G, hr.put (.raw _ rfl) (some d)⟩
/-- What is struck off is cleared. -/
theorem sem_clear {ut e : TypeId} {ie : TI} {x : Operand} {dst : Option Nat} {k b cap i n cc : Nat} {u : TypeId} {l : List ByteArray} (hT : TOk P T) (hu : P.underlying ut = some (.slice e)) (he : T e = some ie) (h1 : ie.sz = 1) (hx : opd t x = .raw (.slice (some ⟨b, i, none⟩) n cc))
    {N : Nat} (hN0 : l.length = N) (hk : h[k]? = some (.opn (.slice (some ⟨b, 0, none⟩) N cap) u 1 (strA l))) (hin : i + n = N) (hn : 0 < n) (hK : K (St.put ⟨t, h.set k (.opn (.slice (some ⟨b, 0, none⟩) N cap) u 1 (strA (l.take i) ++ List.replicate n .any)), p⟩ dst .any)) :
    semVC P (.call ⟨.builtin .clear, #[x], #[ut]⟩) dst ⟨t, h, p⟩ K := fun ty pos after guard c a w hR NN Q hN => by
  subst hN0
  obtain ⟨I, G, hr⟩ := hR
  have ev := VA.eval hr.tmps x
  rw [hx] at ev
  generalize hv : a.eval x = v at ev
  cases ev with
  | raw _ hone =>
  obtain ⟨g, hg, hrt, b', cs, t', sp, cap', e1, ecap, e2, e3, e4, e5, e6, e7⟩ := hr.objs.get hk
  have hsl : (strA l).length = l.length := by simp [strA]
  rw [hsl] at e1
  cases e1
  obtain ⟨f, z, i1, i2, i3, i4, i5, i6, i7, _⟩ := hT _ _ he
  have hzl : (Builtin.zeroCells z.cells n).toList.length = n := by simp [size_zeroCells, i6, h1]
  have hz1 : ∀ y ∈ (Builtin.zeroCells z.cells n).toList, y.oneCell' = true := fun y hy => by
    simp only [Builtin.zeroCells, Array.toList_map, List.mem_map] at hy
    obtain ⟨j, _, rfl⟩ := hy
    rw [i6, h1, Nat.mod_one]
    have : z.cells.size = 1 := by rw [i6, h1]
    have hm : z.cells[0]! ∈ z.cells.toList := by simp [this]
    exact zs_one i5 _ hm
  rw [strA_flat] at e3
  have hcl : cs.size = l.length + sp := by have := e3.len; simpa [strA] using this
  have hst := run_storeCells_at P b i t' (Builtin.zeroCells z.cells n).toList 0 cs w e2 (by rw [hzl]; omega) hz1
  rw [Nat.add_zero, hzl] at hst
  have hrun : (execOp a.eval ⟨dst, .call ⟨.builtin .clear, #[x], #[ut]⟩, ty, pos, after, guard⟩).run P w = .ok (.value (.tuple #[])) (w.setRow b (cs.toList.take i ++ (Builtin.zeroCells z.cells n).toList ++ cs.toList.drop (i + n)).toArray) := by
    obtain ⟨m, rfl⟩ : ∃ m, n = m + 1 := ⟨n - 1, by omega⟩
    simp [execOp, resolve, invoke, builtin, hv, Builtin.clear_, run_under hu, zeroValue, typeInfo, i1, i4, hst]
  unfold Oper.wp
  rw [hrun]
  have hup := upd_write (cs := (cs.toList.take i ++ (Builtin.zeroCells z.cells n).toList ++ cs.toList.drop (i + n)).toArray) hr hg e2 e6 e7
  have hmono := fun {xs : List Value} {l : List A} (h : VAs w I G xs l) => h.mono (fun b j hi => (hup.keep b j hi).1) (fun b j hi => (hup.keep b j hi).2) (hup.roots rfl)
  have hX := hr.updK hup rfl (o' := .opn (.slice (some ⟨b, 0, none⟩) l.length cap) u 1 (strA (l.take i) ++ List.replicate n .any)) ⟨hrt, b, _, t', sp, cap, by
      simp [strA]; omega, by rw [List.length_append, List.length_replicate]; simp only [strA, List.length_map, List.length_take]; rw [hsl] at ecap; omega, setRow_heap w b cs _ t' _ e2, ?_, fun m y hm hy => ?_, fun y hy => ?_, e6, e7⟩
  · exact hN _ _ _ hK ⟨I, _, hX.put (.any _) dst⟩
  · rw [List.flatMap_append, strA_flat]
    have hany : (List.replicate n A.any).flatMap A.cells = List.replicate n .any := by
      clear hn hin hst hrun hup hmono hzl hz1 hx hK hv hone
      induction n with
      | zero => rfl
      | succ n ih => rw [List.replicate_succ, List.flatMap_cons, ih]; rfl
    rw [hany]
    have e3' := hmono e3
    have h3a : VAs (w.setRow b (cs.toList.take i ++ (Builtin.zeroCells z.cells n).toList ++ cs.toList.drop (i + n)).toArray) I (G.set k g) (cs.toList.take i) (strA (l.take i)) := by
      have := e3'.take i
      rw [List.take_append_of_le_length (by simp [strA]; omega)] at this
      simpa [strA] using this
    have h3b : VAs (w.setRow b (cs.toList.take i ++ (Builtin.zeroCells z.cells n).toList ++ cs.toList.drop (i + n)).toArray) I (G.set k g) (cs.toList.drop (i + n)) (List.replicate sp .any) := by
      have hdr : (strA l ++ List.replicate sp A.any).drop (i + n) = List.replicate sp .any := by
        rw [hin, ← hsl, List.drop_left]
      have := e3'.drop (i + n)
      rw [hdr] at this
      exact this
    have h3c := VAs.anys (w := w.setRow b (cs.toList.take i ++ (Builtin.zeroCells z.cells n).toList ++ cs.toList.drop (i + n)).toArray) (I := I) (G := G.set k g) (Builtin.zeroCells z.cells n).toList
    rw [hzl] at h3c
    simpa using (h3a.append h3c).append h3b
  · have hm : m < l.length := by simp [strA] at hm; omega
    simp only [List.getElem?_toArray] at hy
    rcases Nat.lt_or_ge m i with g1 | g1
    · rw [List.append_assoc, List.getElem?_append_left (by simp; omega), List.getElem?_take, if_pos g1] at hy
      exact e4 m y (by simpa [strA] using hm) (by simpa using hy)
    · have htl : (cs.toList.take i).length = i := by simp; omega
      rw [List.append_assoc, List.getElem?_append_right (by omega), List.getElem?_append_left (by omega)] at hy
      exact hz1 y (List.mem_of_getElem? hy)
  · rcases List.mem_append.1 hy with hy | hy
    · obtain ⟨q, _, rfl⟩ := List.mem_map.1 hy; rfl
    · rw [List.eq_of_mem_replicate hy]; rfl
/-- An opened row's name, as the value that it is. -/
theorem Turns.rawS {q d : Nat} {r : Value} {u sz : Nat} {L : List A} (hq : h[q]? = some (.opn r u sz L)) (hd : t[d]? = some (.arr q)) (hQ : Q ⟨t.set d (.raw r), h, p⟩) : Turns ⟨t, h, p⟩ Q := fun c a w ⟨I, G, hr⟩ => by
  obtain ⟨g, hg, hrt, _⟩ := hr.objs.get hq
  refine ⟨_, hQ, I, G, hr.defers, hr.tmps.set_at fun y hy => ?_, hr.objs, hr.fr, hr.pr⟩
  obtain ⟨x, hx, hv⟩ := hr.tmps.get hd
  rw [hx] at hy; cases hy
  cases hv with
  | arr _ g' hg' hroot hone =>
    rw [hg] at hg'; cases hg'
    rw [← hrt, hroot]
    exact .raw _ hone
/-- An opened row of texts, closed again, its rear struck off. -/
theorem Turns.closeS {q b cap n N : Nat} {u : TypeId} {r : List ByteArray} (hq : h[q]? = some (.opn (.slice (some ⟨b, 0, none⟩) N cap) u 1 (strA r ++ List.replicate n .any)))
    (hQ : Q ⟨A.dems q t, (O.demL q h).set q (.forest [(.slice (some ⟨b, 0, none⟩) r.length cap, .lst (r.map D.str))]), p⟩) : Turns ⟨t, h, p⟩ Q := fun c a w ⟨I, G, hr⟩ => by
  obtain ⟨g, hg, hrt, b', cs, t', sp, cap', e1, ecap, e2, e3, e4, e5, e6, e7⟩ := hr.objs.get hq
  have hlen : (strA r ++ List.replicate n A.any).length = r.length + n := by simp [strA]
  rw [hlen] at e1 ecap e4
  cases e1
  rw [List.flatMap_append, strA_flat] at e3
  have hcell : ∀ (j : Nat) (x : ByteArray), r[j]? = some x → cs[j]? = some (.string x) := fun j x hx => by
    have hj := (List.getElem?_eq_some_iff.1 hx).1
    have hL : (strA r ++ (List.replicate n A.any).flatMap A.cells ++ List.replicate sp A.any)[j]? = some (.str x) := by
      rw [List.append_assoc, List.getElem?_append_left (by simpa [strA] using hj)]
      simp [strA, hx]
    obtain ⟨y, hy, hv⟩ := e3.get hL
    have := hv.inv_v
    subst this
    simpa using hy
  have hb : g.F b := (e6 b).2 rfl
  have hu := Upd.refl hr hg
  have htree : TreeV w g.F (.slice (some ⟨b, 0, none⟩) r.length cap) (.lst (r.map D.str)) := by
    refine .lst _ (fun _ _ => False) (fun j => cs.getD j undef) b _ _ t' cs _ hb e2 (by simp) (by omega) (fun j d e => ?_) (fun j d e => ?_) (fun j k h => h.elim) (fun i j k _ h => h.elim)
    all_goals
      rw [dstr_flat, List.getElem?_map, Option.map_eq_some_iff] at e
      obtain ⟨x, hx, rfl⟩ := e
      have := hcell j x hx
      have h2 : cs.getD j undef = .string x := by rw [Array.getD_eq_getD_getElem?, this]; rfl
      rw [h2]
    · exact ⟨this, rfl⟩
    · exact .v _ _ rfl
  have hX := hr.updD (k := q) (g := g) (g' := ⟨.slice none 0 0, g.F⟩) ⟨hg, rfl, rfl, rfl, Nat.le_refl _, hu.block, hu.keep, hu.im, hu.F⟩ (.inl ⟨_, _, _, hrt⟩)
    (o' := .forest [(.slice (some ⟨b, 0, none⟩) r.length cap, .lst (r.map D.str))]) ⟨rfl, Forest.one rfl htree, fun b' j hb' hi => by
      have := (e6 b').1 hb'
      subst this
      exact e7 j hi⟩
  exact ⟨_, hQ, I, _, hX⟩
/-- A tree of no element may be read where its value lies. -/
theorem Turns.emptyS {q d : Nat} {v : Value} (hq : h[q]? = some (.forest [(v, .lst [])])) (hd : t[d]? = some (.raw v)) (hQ : Q ⟨t.set d (.d (.lst [])), h, p⟩) : Turns ⟨t, h, p⟩ Q := fun c a w ⟨I, G, hr⟩ => by
  obtain ⟨g, hg, hroot, hfor, hni⟩ := hr.objs.get hq
  obtain ⟨hone, htree⟩ := hfor.mem (v := v) (d := .lst []) List.mem_cons_self
  refine ⟨_, hQ, I, G, hr.defers, hr.tmps.set_at fun y hy => ?_, hr.objs, hr.fr, hr.pr⟩
  obtain ⟨x, hx, hv⟩ := hr.tmps.get hd
  rw [hx] at hy; cases hy
  cases hv
  generalize hF : g.F = F at htree
  cases htree with
  | nil => exact .d .lnil
  | emp _ ad c => exact .d (.lemp ad c)
  | lst _ Fs xs b n c t cs _ h1 h2 h3 h4 h5 h6 h7 h8 =>
    have : n = 0 := h3
    subst this
    exact .d (.lemp _ _)
end
section
variable {P : Program} {T : Ty} {w w' : World} {I I' : Im} {G G' : List Gh} {c : Cx} {s s' : St} {a : Act}
/-- A function that begins in a state that is held in another way. -/
theorem ct_turns (hT : TOk P T) {f : FuncId} {fn : Func} {code : Code} (hf : P.funcs[f]? = some fn) (hb : fn.body = some code) (hn : (fn.name == "runtime.NumGoroutine") = false) {args : List A} {h : List O} {X : Type} {φ : X → Prop} {ret : X → A} {post : X → List O}
    (hpost : ∀ x, φ x → h.length ≤ (post x).length)
    (hv : Turns ⟨args ++ List.replicate (fn.ntmps - args.length) .any, h, h.length⟩ fun s => vc P T code (vcEnd T fn.results.toList φ ret post) (vcEnd T fn.results.toList φ ret post) (fun _ _ => False) s) : Ct P f args h φ ret post := by
  refine ⟨⟨fn, hf, hn, by rw [hb]; rfl⟩, fun w I G vs hvs hrel => ?_⟩
  refine calls_of_wp hf hb ?_
  let R : Nat → Option Value := fun k => match h[k]?, G[k]? with
    | some o, some g => if o.fixed then some g.root else none
    | _, _ => none
  let c : Cx := ⟨w, I, ownF G, R⟩
  have hlen := hvs.len
  have hpad : ∀ n, VAs w I G (List.replicate n undef) (List.replicate n .any) := fun n => by
    induction n with
    | zero => exact .nil
    | succ n ih => exact .cons (.any _) ih
  have hR0 : Rel c ⟨args ++ List.replicate (fn.ntmps - args.length) .any, h, h.length⟩ { tmps := vs.toArray ++ Array.replicate (fn.ntmps - vs.toArray.size) undef, defers := [] } w := by
    refine ⟨I, G, rfl, ?_, hrel, ⟨rfl, rfl, rfl, Nat.le_refl _, fun _ _ _ => rfl, fun _ _ h => ⟨h, rfl⟩, fun _ _ h => .inl h, fun k g b e hb => .inl ⟨k, g, e, hb⟩⟩, fun k v e => ?_⟩
    · have : (vs.toArray ++ Array.replicate (fn.ntmps - vs.toArray.size) undef).toList = vs ++ List.replicate (fn.ntmps - args.length) undef := by
        simp [hlen]
      rw [this]
      exact hvs.append (hpad _)
    · simp only [c, R] at e
      split at e
      · rename_i o g eo eg
        split at e
        · rename_i hfix
          cases e
          refine ⟨(List.getElem?_eq_some_iff.1 eo).1, fun q n m hq => ?_, g, eg, rfl⟩
          have ho := hrel.obj k g o eg eo
          cases o with
          | box t l => obtain ⟨b, cs, h1, _⟩ := ho; rw [h1] at hq; cases hq
          | map kt vt l => obtain ⟨b, cs, cc, h1, _⟩ := ho; rw [h1] at hq; cases hq
          | _ => simp [O.fixed] at hfix
        · cases e
      · cases e
  have hend : ∀ (s : St) (a : Act) (w' : World), vcEnd T fn.results.toList φ ret post s → Rel c s a w' → ∃ v, a.defers = [] ∧ (results fn a.tmps).run P w' = .ok v w' ∧
      ∃ x, φ x ∧ ∃ I' G', VA w' I' G' v (ret x) ∧ RelH w' I' G' (post x) ∧ Fr ⟨w, I, ownF G, fun _ => none⟩ w' I' G' ∧
        h.length ≤ (post x).length ∧ ∀ (k : Nat) (g : Gh) (o : O), G[k]? = some g → h[k]? = some o → o.fixed = true → ∃ g' : Gh, G'[k]? = some g' ∧ g'.root = g.root := by
    rintro s a w' he ⟨I', G', hX⟩
    obtain ⟨us, l, h1, h2, h4⟩ := res_ok hT hX he
    have hY : RelX c ⟨[tupA l], s.h, s.p⟩ ⟨#[if h : us.toArray.size = 1 then us.toArray[0] else .tuple us.toArray], []⟩ w' I' G' := ⟨rfl, .cons (tup_ok h2) .nil, hX.objs, hX.fr, hX.pr⟩
    obtain ⟨s1, ⟨x, h3, rfl⟩, I1, G'', hZ⟩ := h4 c _ w' ⟨I', G', hY⟩
    refine ⟨_, hX.defers, results_run h1, x, h3, ?_⟩
    · refine ⟨I1, G'', ?_, hZ.objs, ⟨hZ.fr.os, hZ.fr.tape, hZ.fr.output, hZ.fr.size, hZ.fr.block, hZ.fr.cell, hZ.fr.im, hZ.fr.own⟩, hpost x h3, fun k g o eg eo hfix => ?_⟩
      · cases hZ.tmps with
        | cons h _ => exact h
      · have hRk : c.R k = some g.root := by simp only [c, R, eo, eg, hfix, if_true]
        obtain ⟨_, _, g', e1, e2⟩ := hZ.pr k _ hRk
        exact ⟨g', e1, e2⟩
  obtain ⟨s0, hv0, hR1⟩ := hv c _ w hR0
  refine Code.wp_mono (fun e a w' hp => ?_) (vc_sound (c := c) hT code _ _ _ _ _ _ hv0 hR1)
  cases e with
  | normal =>
    obtain ⟨s, h1, h2⟩ := hp
    obtain ⟨v, e1, e2, e3⟩ := hend s a w' h1 h2
    exact ⟨e1, v, e2, v, rfl, e3⟩
  | ret =>
    obtain ⟨s, h1, h2⟩ := hp
    obtain ⟨v, e1, e2, e3⟩ := hend s a w' h1 h2
    exact ⟨e1, v, e2, v, rfl, e3⟩
  | exit i => obtain ⟨s, h1, _⟩ := hp; exact h1.elim
  | _ => exact hp.elim
theorem ct_turn (hT : TOk P T) {f : FuncId} {fn : Func} {code : Code} {nt : Nat} {rs : List ResultVar} (hf : P.funcs[f]? = some fn) (hb : fn.body = some code) (hn : (fn.name == "runtime.NumGoroutine") = false) (hnt : fn.ntmps = nt) (hrs : fn.results.toList = rs)
    {args : List A} {h : List O} {X : Type} {φ : X → Prop} {ret : X → A} {post : X → List O}
    (hpost : ∀ x, φ x → h.length ≤ (post x).length)
    (hv : ∀ K : St → Prop, (∀ s, vcEnd T rs φ ret post s → K s) → Turns ⟨args ++ List.replicate (nt - args.length) .any, h, h.length⟩ fun s => vc P T code K K (fun _ _ => False) s) : Ct P f args h φ ret post := by
  subst hnt hrs
  exact ct_turns hT hf hb hn hpost (hv _ (fun _ h => h))
theorem loop_turn {P : Program} {body : Code} {Kn Kr : St → Prop} {Kx : Nat → St → Prop} {s : St} (h : Turns s fun s' => loopVC P body Kn Kr Kx s') : loopVC P body Kn Kr Kx s := fun c a w hR => by
  obtain ⟨s', h1, h2⟩ := h c a w hR
  exact h1 c a w h2
theorem end_turn {T : Ty} {K : St → Prop} {rs : List ResultVar} {X : Type} {φ : X → Prop} {ret : X → A} {post : X → List O} {s : St} (hK : ∀ s, vcEnd T rs φ ret post s → K s)
    (hv : vcRes T s rs fun l => Turns ⟨[tupA l], s.h, s.p⟩ fun s' => ∃ x, φ x ∧ s' = ⟨[ret x], post x, s.p⟩) : K s := hK _ hv
end
end Go.Ab
