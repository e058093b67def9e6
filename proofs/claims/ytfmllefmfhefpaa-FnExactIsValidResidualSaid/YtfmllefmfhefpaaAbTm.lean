/- Regions whose order is drawn, where what makes a variable comes up beside a call. -/
import Derived.Test.YtfmllefmfhefpaaAbTv
namespace Go.Ab
open Go
set_option linter.unusedVariables false
set_option linter.unusedSimpArgs false
section
variable {P : Program} {T : Ty} {w w' : World} {I I' : Im} {G G' : List Gh} {c : Cx} {s s' : St} {a : Act}
/-- Whatever order is drawn: behind what does not write, S holds; behind what may write, a new S is chosen. -/
def wpAnyM (P : Program) (ops : Array Oper) (ld : Nat → Bool) (Q : Exit → Act → World → Prop) : Nat → (World → Prop) → Array Bool → Act → World → Prop
  | 0, _, listed, a, w => Region.ready .any ops listed = [] ∧ Q .normal a w
  | n + 1, S, listed, a, w => (Region.ready .any ops listed = [] → Q .normal a w) ∧ ∀ i ∈ Region.ready .any ops listed,
      (ld i = false → wpOp P ops Q i (fun a' w' => S w' ∧ wpAnyM P ops ld Q n S (listed.setIfInBounds i true) a' w') a w) ∧
      (ld i = true → wpOp P ops Q i (fun a' w' => ∃ S' : World → Prop, S' w' ∧ wpAnyM P ops ld Q n S' (listed.setIfInBounds i true) a' w') a w)
theorem anyM_any {ops : Array Oper} {ld : Nat → Bool} {Q : Exit → Act → World → Prop} : ∀ (n : Nat) (S : World → Prop) (listed : Array Bool) (a : Act) (w : World), wpAnyM P ops ld Q n S listed a w → wpAny P .any ops Q n listed a w
  | 0, _, _, _, _, h => h
  | n + 1, S, listed, a, w, h => ⟨h.1, fun i hi => by
    cases hl : ld i with
    | false => exact wpOp_mono (fun a' w' h' => anyM_any n _ _ a' w' h'.2) ((h.2 i hi).1 hl)
    | true => exact wpOp_mono (fun a' w' h' => anyM_any n _ _ a' w' h'.choose_spec.2) ((h.2 i hi).2 hl)⟩
theorem anyM_mono {ops : Array Oper} {ld : Nat → Bool} {Q : Exit → Act → World → Prop} : ∀ (n : Nat) {S S' : World → Prop} (hS : ∀ w, S w → S' w) (listed : Array Bool) (a : Act) (w : World), wpAnyM P ops ld Q n S listed a w → wpAnyM P ops ld Q n S' listed a w
  | 0, _, _, _, _, _, _, h => h
  | n + 1, S, S', hS, listed, a, w, h => ⟨h.1, fun i hi => ⟨fun hl => wpOp_mono (fun a' w' h' => ⟨hS _ h'.1, anyM_mono n hS _ a' w' h'.2⟩) ((h.2 i hi).1 hl), (h.2 i hi).2⟩⟩
theorem anyM_done {ops : Array Oper} {ld : Nat → Bool} {Q : Exit → Act → World → Prop} {S : World → Prop} {listed : Array Bool} {a : Act} {w : World} (hr : Region.ready .any ops listed = []) (h : Q .normal a w) : ∀ n, wpAnyM P ops ld Q n S listed a w
  | 0 => ⟨hr, h⟩
  | _ + 1 => ⟨fun _ => h, by rw [hr]; simp⟩
/-- What only reads may be taken first, if what may write waits for it. -/
theorem anyM_first {ops : Array Oper} {ld : Nat → Bool} {Q : Exit → Act → World → Prop} {i : Nat} {oi : Oper} {v : Value} (hi : ops[i]? = some oi) (hsel : ∀ (j : Nat) (o : Oper) cs b, ops[j]? = some o → o.op ≠ .select cs b)
    (hQ : ∀ c a w, Q (.panic c) (a.put oi.dst v) w → Q (.panic c) a w) (hli : ld i = false) (B : List Nat) (S : World → Prop) : ∀ (n : Nat) (listed : Array Bool) (a : Act) (w : World),
      (∀ j oj, ops[j]? = some oj → j ≠ i → listed.getD j true = false → (∀ e ∈ oj.after, Region.binds .any e = true → e.on ≠ i) → oi.apart ops oj = true) →
      (∀ j ∈ B, listed.getD j true = false ∧ ∃ oj, ops[j]? = some oj ∧ ∃ e ∈ oj.after, Region.binds .any e = true ∧ (e.on = i ∨ e.on ∈ B)) →
      (∀ j, ld j = true → listed.getD j true = false → j ∈ B) →
      i ∈ Region.ready .any ops listed → YieldsIf P ops S oi v a → S w → wpAnyM P ops ld Q n S (listed.setIfInBounds i true) (a.put oi.dst v) w → wpAnyM P ops ld Q (n + 1) S listed a w := by
  intro n
  induction n with
  | zero =>
    intro listed a w _ _ _ hr hy hS H
    refine ⟨fun h => (by rw [h] at hr; cases hr), fun j hj => ?_⟩
    by_cases hji : j = i
    · subst hji
      exact ⟨fun _ => hy.wpOp hi hS ⟨hS, H⟩, fun h => by rw [hli] at h; cases h⟩
    · have := ready_mono hj hji
      rw [H.1] at this
      cases this
  | succ n ih =>
    intro listed a w hfree hB hloud hr hy hS H
    refine ⟨fun h => (by rw [h] at hr; cases hr), fun j hj => ?_⟩
    by_cases hji : j = i
    · subst hji
      exact ⟨fun _ => hy.wpOp hi hS ⟨hS, H⟩, fun h => by rw [hli] at h; cases h⟩
    obtain ⟨hjun, oj, hoj, hall⟩ := mem_ready.1 hj
    have h0 := (mem_ready.1 hr).1
    have hout : ∀ k : Nat, listed.getD k false = true → listed.getD k true = false → False := fun k h1 h2 => by
      rcases Nat.lt_or_ge k listed.size with h' | h'
      · simp [h'] at h1 h2; rw [h1] at h2; cases h2
      · simp [Array.getElem?_eq_none h'] at h1
    have hnot : ∀ e ∈ oj.after, Region.binds .any e = true → e.on ≠ i := fun e he hb heq => by
      have h1 := hall e he hb
      rw [heq] at h1
      exact hout i h1 h0
    have hjB : j ∉ B := fun hm => by
      obtain ⟨_, oj', hoj', e, he, hb, hon⟩ := hB j hm
      rw [hoj] at hoj'; cases hoj'
      have h1 := hall e he hb
      rcases hon with h2 | h2
      · exact hnot e he hb h2
      · exact hout _ h1 (hB _ h2).1
    have hlj : ld j = false := by
      cases hl : ld j with
      | false => rfl
      | true => exact absurd (hloud j hl hjun) hjB
    refine ⟨fun _ => ?_, fun h => by rw [hlj] at h; cases h⟩
    have h1 := (H.2 j (ready_mono hj hji)).1 hlj
    have h2 := wpOp_putIf hoj (hfree j oj hoj hji hjun hnot) (fun cs b => hsel i oi cs b hi) (fun cs b => hsel j oj cs b hoj) hQ hy h1
    have hun : ∀ k, (listed.setIfInBounds j true).getD k true = false → listed.getD k true = false := fun k hk => by
      by_cases hjk : j = k
      · subst hjk; exact hjun
      · rwa [getD_set_ne true hjk] at hk
    refine wpOp_mono (fun a' w' h3 => ⟨h3.2.1, ih (listed.setIfInBounds j true) a' w' (fun k ok hk hki hu hno => hfree k ok hk hki (hun k hu) hno) (fun k hk => ?_) (fun k hl hu => hloud k hl (hun k hu)) (ready_mono hr (Ne.symm hji)) h3.1 h3.2.1 ?_⟩) h2
    · have hne : j ≠ k := fun h => hjB (h ▸ hk)
      rw [getD_set_ne true hne]
      exact hB k hk
    · rw [Array.setIfInBounds_comm _ _ hji]
      exact h3.2.2
def isAlloc : Op → Bool
  | .alloc _ => true
  | _ => false
/-- What may write, but for the calls that are known to write nothing. -/
def ldl (ops : Array Oper) (lc : List Nat) (i : Nat) : Bool := (ops[i]?).any fun o => !quiet o.op && !(isCall o.op && !lc.contains i) && !isAlloc o.op
def waits2 (ops : Array Oper) (lc : List Nat) (listed : Array Bool) (i : Nat) (B : List Nat) : Bool :=
  B.all (fun j => listed.getD j true == false && (ops[j]?).any fun o => o.after.any fun e => Region.binds .any e && (e.on == i || B.contains e.on)) &&
  (List.range ops.size).all fun j => !ldl ops lc j || listed.getD j true || B.contains j
theorem waits2_spec {ops : Array Oper} {lc : List Nat} {listed : Array Bool} {i : Nat} {B : List Nat} (h : waits2 ops lc listed i B = true) :
    (∀ j ∈ B, listed.getD j true = false ∧ ∃ oj, ops[j]? = some oj ∧ ∃ e ∈ oj.after, Region.binds .any e = true ∧ (e.on = i ∨ e.on ∈ B)) ∧ ∀ j, ldl ops lc j = true → listed.getD j true = false → j ∈ B := by
  unfold waits2 at h
  simp only [Bool.and_eq_true, List.all_eq_true, beq_iff_eq] at h
  refine ⟨fun j hj => ?_, fun j hl hu => ?_⟩
  · obtain ⟨h1, h2⟩ := h.1 j hj
    refine ⟨h1, ?_⟩
    rw [Option.any_eq_true] at h2
    obtain ⟨oj, e1, e2⟩ := h2
    refine ⟨oj, e1, ?_⟩
    rw [Array.any_eq_true'] at e2
    obtain ⟨e, he, e3⟩ := e2
    simp only [Bool.and_eq_true, Bool.or_eq_true, beq_iff_eq, List.contains_iff_mem] at e3
    exact ⟨e, he, e3⟩
  · have hlt : j < ops.size := by
      rcases Nat.lt_or_ge j ops.size with h' | h'
      · exact h'
      · simp [ldl, Array.getElem?_eq_none h'] at hl
    have := h.2 j (List.mem_range.2 hlt)
    simp only [hl, Bool.not_true, Bool.false_or, Bool.or_eq_true, List.contains_iff_mem] at this
    rcases this with h3 | h3
    · rw [hu] at h3; cases h3
    · exact h3
/-- How a region is taken: what only reads, first; of the rest, each that may come next. -/
inductive DT where
  | done
  | none
  | take (i : Nat) (t : DT)
  | alt (i : Nat) (b : Bool) (sub rest : DT)
def DT.node : DT → Bool
  | .none => false
  | _ => true
def DT.chain : DT → Bool
  | .none => true
  | .alt _ _ _ _ => true
  | _ => false
def okD (ops : Array Oper) (lc : List Nat) : DT → Nat → Array Bool → List Nat → Bool
  | .done, _, listed, rs => Region.ready .any ops listed == []
  | .none, _, _, rs => rs.isEmpty
  | .take _ _, 0, _, _ => false
  | .take i t, n + 1, listed, rs => (match ops[i]? with | some o => quiet o.op | none => false) && (Region.ready .any ops listed).contains i && Region.free .any ops listed i && waits2 ops lc listed i (waits ops listed i) && t.node && okD ops lc t n (listed.setIfInBounds i true) (Region.ready .any ops (listed.setIfInBounds i true))
  | .alt _ _ _ _, 0, _, _ => false
  | .alt i b sub rest, n + 1, listed, rs => rs.head? == some i && (match ops[i]? with | some o => !quiet o.op | none => false) && (b == lc.contains i) && sub.node && rest.chain && okD ops lc sub n (listed.setIfInBounds i true) (Region.ready .any ops (listed.setIfInBounds i true)) && okD ops lc rest (n + 1) listed rs.tail
/-- What may write, or is skipped by its guard. -/
def loudOp (P : Program) (T : Ty) (ops : List Oper) (o : Oper) (s : St) (K : St → Prop) : Prop := vcGuard ops o.guard s (fun s => vcOp P T o.op o.dst s K) (fun s => K (s.put o.dst (.tup [])))
def gl2 (P : Program) (T : Ty) (dst : Option Nat) (op : Op) (want : Bool) (K : St → Prop) (s : St) (d : Nat) (x : A) : Prop :=
  match x with
  | .d (.v (.bool b)) => (b = want → vcOp P T op dst ⟨s.t.set d (.bool want), s.h, s.p⟩ K) ∧ (b = !want → K (St.put ⟨s.t.set d (.bool !want), s.h, s.p⟩ dst (.tup [])))
  | .tup [] => K (s.put dst (.tup []))
  | _ => False
def gl1 (P : Program) (T : Ty) (dst : Option Nat) (op : Op) (want : Bool) (K : St → Prop) (s : St) (d : Option Nat) : Prop :=
  match d with
  | none => False
  | some d => gl2 P T dst op want K s d (s.t.getD d .any)
section
variable {t : List A} {h : List O} {p : Nat} {Kn : St → Prop}
theorem loudOp_go {ops : List Oper} {dst : Option Nat} {op : Op} {ty : TypeId} {pos : String} {after : Array Edge} : loudOp P T ops ⟨dst, op, ty, pos, after, none⟩ s Kn = vcOp P T op dst s Kn := rfl
theorem loudOp_if {ops : List Oper} {dst : Option Nat} {op : Op} {ty : TypeId} {pos : String} {after : Array Edge} {j : Nat} {want : Bool} : loudOp P T ops ⟨dst, op, ty, pos, after, some (j, want)⟩ s Kn = gl1 P T dst op want Kn s ((ops[j]?).bind (·.dst)) := by
  unfold loudOp
  simp only [vcGuard, gl1, gl2]
  cases (ops[j]?).bind (·.dst) <;> rfl
theorem gl1_some {dst : Option Nat} {op : Op} {want : Bool} {d : Nat} : gl1 P T dst op want Kn s (some d) = gl2 P T dst op want Kn s d (s.t.getD d .any) := rfl
theorem gl2_b {dst : Option Nat} {op : Op} {want b : Bool} {d : Nat} : gl2 P T dst op want Kn ⟨t, h, p⟩ d (.d (.v (.bool b))) = ((b = want → vcOp P T op dst ⟨t.set d (.bool want), h, p⟩ Kn) ∧ (b = !want → Kn (St.put ⟨t.set d (.bool !want), h, p⟩ dst (.tup [])))) := rfl
theorem gl2_un {dst : Option Nat} {op : Op} {want : Bool} {d : Nat} : gl2 P T dst op want Kn ⟨t, h, p⟩ d (.tup []) = Kn (St.put ⟨t, h, p⟩ dst (.tup [])) := rfl
theorem gl2_yes {dst : Option Nat} {op : Op} {want : Bool} {d : Nat} : gl2 P T dst op want Kn ⟨t, h, p⟩ d (.d (.v (.bool want))) = vcOp P T op dst ⟨t.set d (.bool want), h, p⟩ Kn := by
  cases want <;> simp [gl2]
theorem gl2_ft {dst : Option Nat} {op : Op} {d : Nat} : gl2 P T dst op true Kn ⟨t, h, p⟩ d (.d (.v (.bool false))) = Kn (St.put ⟨t.set d (.bool false), h, p⟩ dst (.tup [])) := by simp [gl2]
theorem gl2_tf {dst : Option Nat} {op : Op} {d : Nat} : gl2 P T dst op false Kn ⟨t, h, p⟩ d (.d (.v (.bool true))) = Kn (St.put ⟨t.set d (.bool true), h, p⟩ dst (.tup [])) := by simp [gl2]
end
def vcD (P : Program) (T : Ty) (ops : List Oper) : DT → St → (St → Prop) → Prop
  | .done, s, K => K s
  | .none, _, _ => True
  | .take i t, s, K => match ops[i]? with | none => False | some o => drawOp P T ops o s fun s => vcD P T ops t s K
  | .alt i false sub rest, s, K => (match ops[i]? with | none => False | some o => drawOp P T ops o s fun s => vcD P T ops sub s K) ∧ vcD P T ops rest s K
  | .alt i true sub rest, s, K => (match ops[i]? with | none => False | some o => loudOp P T ops o s fun s => vcD P T ops sub s K) ∧ vcD P T ops rest s K
theorem alloc_ok (hT : TOk P T) {o : Oper} {K : St → Prop} {N : Act → World → Prop} {Q : Exit → Act → World → Prop} (hN : ∀ s a w', Grow w w' → K s → Rel c s a w' → N a w') (hc : isAlloc o.op = true) (h : vcOp P T o.op o.dst s K) (hr : RelX c s a w I G) : o.wp P a w N Q := by
  obtain ⟨dst, op, type, pos, after, guard⟩ := o
  cases op <;> simp [isAlloc] at hc
  rename_i u
  simp only [vcOp] at h
  split at h
  · rename_i i hi
    obtain ⟨f, z, h1, h2, h3, h4, h5, _⟩ := hT u i hi
    obtain ⟨v, w1, hrun, s1, hk, hrel⟩ := does_alloc hT hr hi h
    have hm : (Instr.alloc u true (.tuple #[])).run P w = .ok (.pointer (some ⟨w.heap.size, 0, none⟩)) (w.alloc (.cells z.cells u)) := by simp [Instr.alloc, newVar, newRow, zeroValue, typeInfo, h1, h4]
    rw [hm] at hrun
    cases hrun
    unfold Oper.wp
    have hx : (execOp a.eval ⟨dst, .alloc u, type, pos, after, guard⟩).run P w = .ok (.value (.pointer (some ⟨w.heap.size, 0, none⟩))) (w.alloc (.cells z.cells u)) := by
      simp only [execOp, Sem.run_bind, hm]; rfl
    rw [hx]
    exact hN _ _ _ (Grow.alloc _ _) hk hrel
  · exact h.elim
theorem d_sound (hT : TOk P T) {ops : Array Oper} {lc : List Nat} (hsel : Region.noSelect ops = true) {K : St → Prop} : ∀ (t : DT) (n : Nat) (listed : Array Bool) (rs : List Nat) (s : St) (a : Act) (w : World), okD ops lc t n listed rs = true → vcD P T ops.toList t s K → Rel c s a w →
    (t.node = true → rs = Region.ready .any ops listed → wpAnyM P ops (ldl ops lc) (post c K (fun _ => False) (fun _ _ => False)) n (Grow w) listed a w) ∧
    (t.chain = true → ∀ m, n = m + 1 → ∀ i ∈ rs, (ldl ops lc i = false → wpOp P ops (post c K (fun _ => False) (fun _ _ => False)) i (fun a' w' => Grow w w' ∧ wpAnyM P ops (ldl ops lc) (post c K (fun _ => False) (fun _ _ => False)) m (Grow w) (listed.setIfInBounds i true) a' w') a w) ∧
      (ldl ops lc i = true → wpOp P ops (post c K (fun _ => False) (fun _ _ => False)) i (fun a' w' => ∃ S' : World → Prop, S' w' ∧ wpAnyM P ops (ldl ops lc) (post c K (fun _ => False) (fun _ _ => False)) m S' (listed.setIfInBounds i true) a' w') a w))
  | .done, n, listed, rs, s, a, w, hd, h, hR => by
    simp only [okD, beq_iff_eq] at hd
    exact ⟨fun _ _ => anyM_done hd ⟨s, h, hR⟩ _, fun h => (by cases h)⟩
  | .none, n, listed, rs, s, a, w, hd, h, hR => by
    simp only [okD, List.isEmpty_iff] at hd
    subst hd
    exact ⟨fun h => (by cases h), fun _ m _ i hi => (by cases hi)⟩
  | .take i t, 0, listed, rs, s, a, w, hd, h, hR => by simp [okD] at hd
  | .alt i b sub rest, 0, listed, rs, s, a, w, hd, h, hR => by simp [okD] at hd
  | .take i t, n + 1, listed, rs, s, a, w, hd, h, hR => by
    refine ⟨fun _ _ => ?_, fun h => by cases h⟩
    obtain ⟨I, G, hr⟩ := hR
    simp only [okD, Bool.and_eq_true] at hd
    obtain ⟨⟨⟨⟨⟨hq, h1⟩, h2⟩, h3⟩, h4⟩, h5⟩ := hd
    simp only [vcD, Array.getElem?_toList] at h
    split at h
    · exact h.elim
    · rename_i o eo
      rw [eo] at hq
      simp only at hq
      unfold drawOp at h
      rw [hq] at h
      simp only at h
      obtain ⟨hB, hL⟩ := waits2_spec h3
      have hli : ldl ops lc i = false := by simp [ldl, eo, hq]
      have hrd : i ∈ Region.ready .any ops listed := by simpa using h1
      obtain ⟨s', hr', hc⟩ := guard_ok h hr
      rcases hc with ⟨hw, hc⟩ | ⟨hw, hc⟩
      · obtain ⟨v, q, g1, g2, g3⟩ := quiet_ok hT hc.1 hc.2 hr'
        exact anyM_first eo (Region.noSelect_spec hsel) (fun _ _ _ h => h.elim) hli _ _ _ listed a w (Region.free_spec eo h2) hB hL hrd (.inl ⟨hw, g1⟩) (Grow.refl w) ((d_sound hT hsel t _ _ _ _ _ w h5 g3 ⟨I, G, hr'.put g2 o.dst⟩).1 h4 rfl)
      · exact anyM_first eo (Region.noSelect_spec hsel) (fun _ _ _ h => h.elim) hli _ _ _ listed a w (Region.free_spec eo h2) hB hL hrd (.inr ⟨hw, rfl⟩) (Grow.refl w) ((d_sound hT hsel t _ _ _ _ _ w h5 hc ⟨I, G, hr'.put (v := undef) (.tup [] [] .nil) o.dst⟩).1 h4 rfl)
  | .alt i b sub rest, n + 1, listed, rs, s, a, w, hd, h, hR => by
    simp only [okD, Bool.and_eq_true, beq_iff_eq] at hd
    obtain ⟨⟨⟨⟨⟨⟨h1, hq⟩, hbb⟩, h2⟩, h3⟩, h4⟩, h5⟩ := hd
    have hrest : vcD P T ops.toList rest s K := by cases b <;> exact h.2
    have hchain : ∀ m, n + 1 = m + 1 → ∀ j ∈ rs, (ldl ops lc j = false → wpOp P ops (post c K (fun _ => False) (fun _ _ => False)) j (fun a' w' => Grow w w' ∧ wpAnyM P ops (ldl ops lc) (post c K (fun _ => False) (fun _ _ => False)) m (Grow w) (listed.setIfInBounds j true) a' w') a w) ∧
      (ldl ops lc j = true → wpOp P ops (post c K (fun _ => False) (fun _ _ => False)) j (fun a' w' => ∃ S' : World → Prop, S' w' ∧ wpAnyM P ops (ldl ops lc) (post c K (fun _ => False) (fun _ _ => False)) m S' (listed.setIfInBounds j true) a' w') a w) := by
      intro m hm j hj
      obtain rfl : n = m := by omega
      cases rs with
      | nil => cases hj
      | cons q rs =>
      simp at h1
      subst h1
      rcases List.mem_cons.1 hj with rfl | hj
      · cases b with
        | false =>
          obtain ⟨I, G, hr⟩ := hR
          have h := h.1
          rw [Array.getElem?_toList] at h
          split at h
          · exact h.elim
          · rename_i o eo
            rw [eo] at hq
            simp only [Bool.not_eq_true'] at hq
            unfold drawOp at h
            rw [hq] at h
            simp only at h
            obtain ⟨s', hr', hc⟩ := guard_ok h hr
            refine ⟨fun hl => ?_, fun hl => ?_⟩
            · unfold wpOp
              simp only [eo]
              rcases hc with ⟨hw, hc⟩ | ⟨hw, hc⟩
              · rw [if_pos hw]
                have hN : ∀ s1 a1 w1, Grow w w1 → vcD P T ops.toList sub s1 K → Rel c s1 a1 w1 → Grow w w1 ∧ wpAnyM P ops (ldl ops lc) (post c K (fun _ => False) (fun _ _ => False)) n (Grow w) (listed.setIfInBounds j true) a1 w1 := fun s1 a1 w1 hg hk hR1 => ⟨hg, anyM_mono _ (fun w2 h2 => hg.trans h2) _ _ _ ((d_sound hT hsel sub _ _ _ _ _ w1 h4 hk hR1).1 h2 rfl)⟩
                have hkind : isCall o.op = true ∨ isAlloc o.op = true := by
                  simp only [ldl, eo, Option.any_some, hq, Bool.not_false, Bool.true_and] at hl
                  cases hca : isCall o.op with
                  | true => exact .inl rfl
                  | false =>
                    cases hal : isAlloc o.op with
                    | true => exact .inr rfl
                    | false => simp [hca, hal] at hl
                rcases hkind with hca | hal
                · exact .inl (calm_ok hN hca hc hr')
                · have hc' : vcOp P T o.op o.dst s' fun s => vcD P T ops.toList sub s K := by
                    unfold vcCalm at hc
                    split at hc
                    · rename_i e; rw [e] at hal; cases hal
                    · exact hc
                  exact .inl (alloc_ok hT hN hal hc' hr')
              · rw [if_neg (by rw [hw]; decide)]
                exact ⟨Grow.refl w, (d_sound hT hsel sub _ _ _ _ _ w h4 hc ⟨I, G, hr'.put (v := undef) (.tup [] [] .nil) o.dst⟩).1 h2 rfl⟩
            · have hcall : isCall o.op = false := by
                simp only [ldl, eo, Option.any_some, hq, Bool.not_false, Bool.true_and] at hl
                cases hca : isCall o.op with
                | false => rfl
                | true => rw [← hbb] at hl; simp [hca] at hl
              unfold wpOp
              simp only [eo]
              rcases hc with ⟨hw, hc⟩ | ⟨hw, hc⟩
              · rw [if_pos hw]
                have hc' : vcOp P T o.op o.dst s' fun s => vcD P T ops.toList sub s K := by
                  unfold vcCalm at hc
                  split at hc
                  · rename_i e; rw [e] at hcall; cases hcall
                  · exact hc
                exact .inl (op_sound hT (fun s a w' hk hR => ⟨Grow w', Grow.refl w', (d_sound hT hsel sub _ _ _ _ _ w' h4 hk hR).1 h2 rfl⟩) hc' ⟨I, G, hr'⟩)
              · rw [if_neg (by rw [hw]; decide)]
                exact ⟨Grow w, Grow.refl w, (d_sound hT hsel sub _ _ _ _ _ w h4 hc ⟨I, G, hr'.put (v := undef) (.tup [] [] .nil) o.dst⟩).1 h2 rfl⟩
        | true =>
          have h := h.1
          rw [Array.getElem?_toList] at h
          split at h
          · exact h.elim
          · rename_i o eo
            rw [eo] at hq
            simp only [Bool.not_eq_true'] at hq
            unfold loudOp at h
            obtain ⟨I, G, hr⟩ := hR
            obtain ⟨s', hr', hc⟩ := guard_ok h hr
            refine ⟨fun hl => ?_, fun hl => ?_⟩
            · have hal : isAlloc o.op = true := by
                simp only [ldl, eo, Option.any_some, hq, Bool.not_false, Bool.true_and, ← hbb] at hl
                cases hal : isAlloc o.op with
                | true => rfl
                | false => simp [hal] at hl
              unfold wpOp
              simp only [eo]
              rcases hc with ⟨hw, hc⟩ | ⟨hw, hc⟩
              · rw [if_pos hw]
                exact .inl (alloc_ok hT (fun s1 a1 w1 hg hk hR1 => ⟨hg, anyM_mono _ (fun w2 h2 => hg.trans h2) _ _ _ ((d_sound hT hsel sub _ _ _ _ _ w1 h4 hk hR1).1 h2 rfl)⟩) hal hc hr')
              · rw [if_neg (by rw [hw]; decide)]
                exact ⟨Grow.refl w, (d_sound hT hsel sub _ _ _ _ _ w h4 hc ⟨I, G, hr'.put (v := undef) (.tup [] [] .nil) o.dst⟩).1 h2 rfl⟩
            · unfold wpOp
              simp only [eo]
              rcases hc with ⟨hw, hc⟩ | ⟨hw, hc⟩
              · rw [if_pos hw]
                exact .inl (op_sound hT (fun s a w' hk hR => ⟨Grow w', Grow.refl w', (d_sound hT hsel sub _ _ _ _ _ w' h4 hk hR).1 h2 rfl⟩) hc ⟨I, G, hr'⟩)
              · rw [if_neg (by rw [hw]; decide)]
                exact ⟨Grow w, Grow.refl w, (d_sound hT hsel sub _ _ _ _ _ w h4 hc ⟨I, G, hr'.put (v := undef) (.tup [] [] .nil) o.dst⟩).1 h2 rfl⟩
      · exact (d_sound hT hsel rest (n + 1) listed rs s a w (by simpa using h5) hrest hR).2 h3 n rfl j hj
    refine ⟨fun _ hrs => ?_, fun _ => hchain⟩
    subst hrs
    exact ⟨fun h0 => (by rw [h0] at h1; cases h1), fun j hj => hchain n rfl j hj⟩
theorem draw_dt (hT : TOk P T) (hm : P.follows .mixedOrders = true) {id : Nat} {ops : Array Oper} (lc : List Nat) (t : DT) {K : St → Prop} (hd : (Region.noSelect ops && t.node && okD ops lc t ops.size (Array.replicate ops.size false) (Region.ready .any ops (Array.replicate ops.size false))) = true) (h : vcD P T ops.toList t s K) : drawVC P id ops K s := by
  intro c a w hR
  simp only [Bool.and_eq_true] at hd
  obtain ⟨⟨h1, h2⟩, h3⟩ := hd
  obtain ⟨I, G, hr⟩ := hR
  refine wp_region_any hm ?_
  exact anyM_any _ _ _ _ _ ((d_sound (c := c) hT h1 t _ _ _ s a w.drew h3 h ⟨I, G, hr.grow' (Grow.drew w)⟩).1 h2 rfl)
def dtK (P : Program) (T : Ty) (ops : List Oper) (t : DT) (K : St → Prop) : St → Prop := fun s => vcD P T ops t s K
theorem dtK_mk {K : St → Prop} {ops : List Oper} {r : DT} {t : List A} {h : List O} {p : Nat} : dtK P T ops r K ⟨t, h, p⟩ = vcD P T ops r ⟨t, h, p⟩ K := rfl
theorem vcD_done {K : St → Prop} {ops : List Oper} : vcD P T ops .done s K = K s := rfl
theorem vcD_none {K : St → Prop} {ops : List Oper} : vcD P T ops .none s K = True := rfl
theorem vcD_take {K : St → Prop} {ops : List Oper} {i : Nat} {t : DT} : vcD P T ops (.take i t) s K = (match ops[i]? with | none => False | some o => drawOp P T ops o s (dtK P T ops t K)) := rfl
theorem vcD_alt {K : St → Prop} {ops : List Oper} {i : Nat} {sub rest : DT} : vcD P T ops (.alt i false sub rest) s K = ((match ops[i]? with | none => False | some o => drawOp P T ops o s (dtK P T ops sub K)) ∧ vcD P T ops rest s K) := rfl
theorem vcD_altl {K : St → Prop} {ops : List Oper} {i : Nat} {sub rest : DT} : vcD P T ops (.alt i true sub rest) s K = ((match ops[i]? with | none => False | some o => loudOp P T ops o s (dtK P T ops sub K)) ∧ vcD P T ops rest s K) := rfl
end
attribute [go_sem] loudOp_go loudOp_if gl1_some gl2_b gl2_un gl2_yes gl2_ft gl2_tf dtK_mk vcD_done vcD_none vcD_take vcD_alt vcD_altl
/-- A calm call that makes objects. -/
theorem calm_objs {P : Program} {f d : Nat} {args args' : List A} {t : List A} {h : List O} {p : Nat} {K : St → Prop} {X : Type} {φ : X → Prop} {ret : X → A} {post : X → List O} (ct : Ct P f args' [] φ ret post)
    (hua : A.unders 0 args' ∧ A.lel h.length h.length args (A.rens (rho [] h.length) args')) (hK : ∀ x, φ x → K ((St.back ⟨t, h, p⟩ [] [] (post x)).put (some d) ((ret x).ren (rho [] h.length)))) : calmVC P f args ⟨t, h, p⟩ (some d) K :=
  use_calm ct hua.1 hua.2 hK
end Go.Ab
