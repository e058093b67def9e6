/- Maps from texts to numbers: made, looked up, enlarged. -/
import Derived.Test.YtfmllefmfhefpaaAbTu
import Derived.MapKept
namespace Go.Ab
open Go
set_option linter.unusedVariables false
set_option linter.unusedSimpArgs false
def mget : List (ByteArray × Int) → ByteArray → Option Int
  | [], _ => none
  | (k, v) :: r, s => if s = k then some v else mget r s
def strM (m : List (ByteArray × Int)) : List (Value × D) := m.map fun p => (.string p.1, D.int p.2)
theorem mget_app (m : List (ByteArray × Int)) (k : ByteArray) (v : Int) (s : ByteArray) : mget (m ++ [(k, v)]) s = match mget m s with | some x => some x | none => if s = k then some v else none := by
  induction m with
  | nil => simp [mget]
  | cons p m ih =>
    obtain ⟨a, b⟩ := p
    simp only [List.cons_append, mget]
    split
    · rfl
    · exact ih
section
variable {P : Program} {K : St → Prop} {t : List A} {h : List O} {p : Nat}
theorem find_m {w : World} {I : Im} {s : ByteArray} : ∀ {es : List MapEntry} {m : List (ByteArray × Int)}, es.map (·.key) = (strM m).map (·.1) → VDs w I (es.map (·.val)) ((strM m).map (·.2)) → ∀ i : Nat,
    (mget m s = none → Instr.findNow .string (.string s) es i = some none) ∧ ∀ v, mget m s = some v → ∃ j, Instr.findNow .string (.string s) es i = some (some (j, .int .i64 v))
  | [], [], _, _, i => ⟨fun _ => rfl, fun v h => by simp [mget] at h⟩
  | [], _ :: _, hk, _, _ => by simp [strM] at hk
  | _ :: _, [], hk, _, _ => by simp [strM] at hk
  | e :: es, (k, v) :: m, hk, hv, i => by
    simp only [strM, List.map_cons, List.cons.injEq] at hk hv
    obtain ⟨hk1, hk2⟩ := hk
    cases hv with
    | cons h1 h2 h3 =>
    have ih := find_m (s := s) hk2 h3 (i + 1)
    have hval : e.val = .int .i64 v := by
      generalize e.val = x at h2
      cases h2; rfl
    have hn : Instr.sameNow .string (.string s) e.key = some (decide (s = k)) := by
      rw [hk1]
      show some (s == k) = _
      congr 1
      show (s.data == k.data) = _
      rw [Bool.eq_iff_iff, beq_iff_eq, decide_eq_true_eq]
      exact ⟨fun h => ByteArray.ext h, fun h => h ▸ rfl⟩
    unfold Instr.findNow
    rw [hn]
    by_cases hs : s = k
    · simp only [hs, decide_true, mget, if_true]
      exact ⟨fun h => (by cases h), fun x hx => (by cases hx; exact ⟨i, by rw [hval]⟩)⟩
    · simp only [hs, decide_false, mget, if_false]
      exact ih
theorem sem_makeMap {ty0 : TypeId} {kt vt d : Nat} (hK : K ⟨t.set d (.mp h.length), h ++ [.map kt vt []], p⟩) : semVC P (.makeMap ty0 none) (some d) ⟨t, h, p⟩ K := fun ty pos after guard c a w hR N Q hN => by
  obtain ⟨I, G, hr⟩ := hR
  have hg := Grow.alloc w (.map #[] 0)
  have hx := hr.grow' hg
  let g : Gh := ⟨.map (some w.heap.size), fun k => k = w.heap.size⟩
  have hlen : G.length = h.length := hr.objs.len
  have hnew : (w.alloc (.map #[] 0)).heap[w.heap.size]? = some (.map #[] 0) := by show (w.heap.push _)[w.heap.size]? = _; simp
  have hX := hx.push (g := g) (o := .map kt vt []) ⟨w.heap.size, #[], 0, rfl, hnew, ⟨rfl, .nil⟩, fun k => Iff.rfl⟩ (fun b hb => by
    have hb : b = w.heap.size := hb
    subst hb
    refine ⟨by show w.heap.size < (w.heap.push _).size; simp, .inr hr.fr.size, fun k g' e hh => ?_⟩
    have := hr.objs.inb k g' _ e hh
    exact absurd this (Nat.lt_irrefl _))
  unfold Oper.wp
  have hrun : (execOp a.eval ⟨some d, .makeMap ty0 none, ty, pos, after, guard⟩).run P w = .ok (.value (.map (some w.heap.size))) (w.alloc (.map #[] 0)) := by
    simp [execOp, Instr.makeMap]
  rw [hrun]
  refine hN _ _ _ hK ⟨I, _, hX.put (.mp _ h.length g (by rw [← hlen]; simp) rfl) (some d)⟩
theorem sem_lookup {xt kt et : TypeId} {x ix : Operand} {d k kk vv : Nat} {m : List (ByteArray × Int)} {s : ByteArray} {ok : Bool} {ie : TypeInfo} (hx : P.underlying xt = some (.map kt et)) (hkt : P.underlying kt = some .string) (he : P.info? et = some ie) (hz : ie.zero = some (.int .i64 0))
    (ho : opd t x = .mp k) (hk : h[k]? = some (.map kk vv (strM m))) (hi : opd t ix = .str s)
    (hK : K ⟨t.set d (if ok then .tup [.int ((mget m s).getD 0), .bool (mget m s).isSome] else .int ((mget m s).getD 0)), h, p⟩) : semVC P (.lookup xt x ix ok) (some d) ⟨t, h, p⟩ K := fun ty pos after guard c a w hR N Q hN => by
  obtain ⟨I, G, hr⟩ := hR
  have ev := VA.eval hr.tmps x
  rw [ho] at ev
  have ei := VA.eval hr.tmps ix
  rw [hi] at ei
  have ei := ei.inv_v
  generalize hv : a.eval x = v at ev
  cases ev with
  | mp r _ g hg hroot =>
  obtain ⟨g', hg', r', es, cl, e1, e2, ⟨e3, e4⟩, e5⟩ := hr.objs.get hk
  rw [hg] at hg'; cases hg'
  rw [hroot] at e1; cases e1
  have hf := find_m (s := s) e3 e4 0
  have hc : (Instr.checkKey es.isEmpty 10000 kt (.string s)).run P w = .ok () w := MapKept.run_checkKey (k := .string s) hkt (by simp [MapKept.IsKey]) _ 9999
  unfold Oper.wp
  have hrun : (execOp a.eval ⟨some d, .lookup xt x ix ok, ty, pos, after, guard⟩).run P w = .ok (.value (if ok then .tuple #[.int .i64 ((mget m s).getD 0), .bool (mget m s).isSome] else .int .i64 ((mget m s).getD 0))) w := by
    cases hm : mget m s with
    | none =>
      have hf := hf.1 hm
      simp [execOp, hv, ei, Instr.lookup, run_underlying hx, MapKept.run_getObj_map e2, hc, MapKept.run_findKey hkt hf, zeroValue, typeInfo, he, hz]
    | some n =>
      obtain ⟨j, hf⟩ := hf.2 n hm
      simp [execOp, hv, ei, Instr.lookup, run_underlying hx, MapKept.run_getObj_map e2, hc, MapKept.run_findKey hkt hf]
  rw [hrun]
  refine hN _ _ _ hK ⟨I, G, hr.put ?_ (some d)⟩
  cases ok with
  | true => exact .tup [_, _] _ (.cons (.d (.v _ rfl)) (.cons (.d (.v _ rfl)) .nil))
  | false => exact .d (.v _ rfl)
theorem sem_mapUpdate {mt kt et : TypeId} {x kx vx : Operand} {dst : Option Nat} {k kk vv : Nat} {m : List (ByteArray × Int)} {s : ByteArray} {n : Int} (hx : P.underlying mt = some (.map kt et)) (hkt : P.underlying kt = some .string)
    (ho : opd t x = .mp k) (hk : h[k]? = some (.map kk vv (strM m))) (hi : opd t kx = .str s) (hv : opd t vx = .int n) (hno : mget m s = none)
    (hK : K (St.put ⟨t, h.set k (.map kk vv (strM (m ++ [(s, n)]))), p⟩ dst .any)) : semVC P (.mapUpdate mt x kx vx) dst ⟨t, h, p⟩ K := fun ty pos after guard c a w hR N Q hN => by
  obtain ⟨I, G, hr⟩ := hR
  have ev := VA.eval hr.tmps x
  rw [ho] at ev
  have ei := VA.eval hr.tmps kx
  rw [hi] at ei
  have ei := ei.inv_v
  have en := VA.eval hr.tmps vx
  rw [hv] at en
  have en := en.inv_v
  generalize hv' : a.eval x = v at ev
  cases ev with
  | mp r _ g hg hroot =>
  obtain ⟨g', hg', r', es, cl, e1, e2, ⟨e3, e4⟩, e5⟩ := hr.objs.get hk
  rw [hg] at hg'; cases hg'
  have hroot0 := hroot
  rw [hroot] at e1; cases e1
  have hf := (find_m (s := s) e3 e4 0).1 hno
  have hc : (Instr.checkKey false 10000 kt (.string s)).run P w = .ok () w := MapKept.run_checkKey (k := .string s) hkt (by simp [MapKept.IsKey]) _ 9999
  let w' : World := { w with heap := w.heap.setIfInBounds r (.map (es.push ⟨.string s, .int .i64 n, cl⟩) (cl + 1)) }
  obtain ⟨hs1, hs2⟩ := MapKept.heap_set (o' := .map (es.push ⟨.string s, .int .i64 n, cl⟩) (cl + 1)) e2
  have hI : ∀ b j, I b j → b ≠ r := fun b j hij e => by
    obtain ⟨y, hy⟩ := hr.objs.imm b j hij
    subst e
    unfold World.cell? at hy
    rw [e2] at hy
    simp at hy
  have hcell : ∀ b j, I b j → w'.cell? ⟨b, j, none⟩ = w.cell? ⟨b, j, none⟩ := fun b j hij => by
    have h0 : w'.heap[b]? = w.heap[b]? := hs2 b (hI b j hij)
    unfold World.cell?
    simp only [h0]
  have hu0 := Upd.refl hr hg
  have hup : Upd c w w' I I G k g g := ⟨hg, rfl, rfl, rfl, by show w.heap.size ≤ (w.heap.setIfInBounds r _).size; simp, fun b hb hn => hs2 b (fun e => hn ((e5 b).2 e)), fun b j hij => ⟨hij, hcell b j hij⟩,
    fun b j hij => ⟨.inl hij, by rw [hcell b j hij]; exact hr.objs.imm b j hij⟩, fun b hb => ⟨by show b < (w.heap.setIfInBounds r _).size; simp; exact hr.objs.inb k g b hg hb, (hu0.F b hb).2⟩⟩
  have e4' : VDs w' I (es.toList.map (·.val)) ((strM m).map (·.2)) := e4.mono (fun _ _ h => h) hcell
  have hX := hr.updK hup rfl (o' := .map kk vv (strM (m ++ [(s, n)]))) ⟨r, es.push ⟨.string s, .int .i64 n, cl⟩, cl + 1, hroot0, hs1, ⟨by simp [strM] at e3 ⊢; simpa using e3, by
    have h1 : (es.push ⟨.string s, .int .i64 n, cl⟩).toList.map (·.val) = es.toList.map (·.val) ++ [.int .i64 n] := by simp
    have h2 : (strM (m ++ [(s, n)])).map (·.2) = (strM m).map (·.2) ++ [D.int n] := by simp [strM]
    rw [h1, h2]
    exact e4'.append (.cons rfl (.v _ rfl) .nil)⟩, e5⟩
  unfold Oper.wp
  have hrun : (execOp a.eval ⟨dst, .mapUpdate mt x kx vx, ty, pos, after, guard⟩).run P w = .ok .skip w' := by
    simp [execOp, hv', ei, en, Instr.mapUpdate, run_underlying hx, MapKept.run_getObj_map e2, hc, MapKept.run_findKey hkt hf, MapKept.run_setObj_map _ e2, w']
  rw [hrun]
  exact hN _ _ _ hK ⟨I, _, hX.put (.any _) dst⟩
end
theorem op_mu {P : Program} {T : Ty} {u : TypeId} {x y z : Operand} {dst : Option Nat} {s : St} {K : St → Prop} : vcOp P T (.mapUpdate u x y z) dst s K = semVC P (.mapUpdate u x y z) dst s K := rfl
theorem op_lu {P : Program} {T : Ty} {u : TypeId} {x y : Operand} {b : Bool} {dst : Option Nat} {s : St} {K : St → Prop} : vcOp P T (.lookup u x y b) dst s K = semVC P (.lookup u x y b) dst s K := rfl
attribute [go_sem] op_mu op_lu
end Go.Ab
