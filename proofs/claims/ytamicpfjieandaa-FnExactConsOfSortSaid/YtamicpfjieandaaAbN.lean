/- A piece of code whose condition holds does what is asked. -/
import Derived.Test.YtamicpfjieandaaAbM
namespace Go.Ab
open Go
set_option linter.unusedVariables false
set_option linter.unusedSimpArgs false
section
variable {P : Program} {T : Ty} {w w' : World} {I I' : Im} {G : List Gh} {c : Cx} {s : St} {a : Act}
theorem upon_does {o : Oper} {K : St → Prop} {N : Act → World → Prop} {Q : Exit → Act → World → Prop} (hN : ∀ s a w, K s → Rel c s a w → N a w) {m : Sem Value} (h : Does P c a w m o.dst K) :
    o.upon P a N Q ((do pure (Next.value (← m)) : Sem Next).run P w) := by
  obtain ⟨v, w', h1, s', h2, h3⟩ := h
  simp only [Sem.run_bind, h1, Result.andThen_ok, Sem.run_pure]
  exact hN _ _ _ h2 h3
theorem upon_doesU {o : Oper} {K : St → Prop} {N : Act → World → Prop} {Q : Exit → Act → World → Prop} (hN : ∀ s a w, K s → Rel c s a w → N a w) {m : Sem Unit} (h : DoesU P c a w m o.dst K) :
    o.upon P a N Q ((do m; pure Next.skip : Sem Next).run P w) := by
  obtain ⟨w', h1, s', h2, h3⟩ := h
  simp only [Sem.run_bind, h1, Result.andThen_ok, Sem.run_pure]
  exact hN _ _ _ h2 h3
theorem upon_now {o : Oper} {K : St → Prop} {N : Act → World → Prop} {Q : Exit → Act → World → Prop} (hN : ∀ s a w, K s → Rel c s a w → N a w) (hr : RelX c s a w I G) {v : Value} {r : A} (hv : VA w I G v r)
    (hk : K (s.put o.dst r)) : o.upon P a N Q ((pure (Next.value v) : Sem Next).run P w) := hN _ _ _ hk ⟨I, G, hr.put hv o.dst⟩
theorem VA.inv_fn {x : Value} {f : Nat} {l : List A} (h : VA w I G x (.fn f l)) : ∃ cs : List Value, x = .func (.func f) #[] cs.toArray ∧ VAs w I G cs l := by
  cases h with
  | fn f cs l h => exact ⟨cs, rfl, h⟩
theorem VAs.inv1 {x : List Value} {p : A} (h : VAs w I G x [p]) : ∃ v, x = [v] ∧ VA w I G v p := by
  cases h with
  | cons h1 h2 => cases h2; exact ⟨_, rfl, h1⟩
theorem VAs.inv2 {x : List Value} {p q : A} (h : VAs w I G x [p, q]) : ∃ v u, x = [v, u] ∧ VA w I G v p ∧ VA w I G u q := by
  cases h with
  | cons h1 h2 => obtain ⟨u, rfl, h3⟩ := h2.inv1; exact ⟨_, _, rfl, h1, h3⟩
theorem run_builtin {b : Builtin} {args : Array Operand} {ts : Array TypeId} {ty : TypeId} (ρ : Operand → Value) :
    ((do let d ← resolve ρ { callee := .builtin b, args, argTypes := ts } ty; invoke d.target d.args : Sem Next)) = builtin b ts ty (args.map fun | .const _ => true | _ => false) (args.map ρ) := rfl
theorem run_callFunc {g : FuncId} {fn : Func} (hfn : P.funcs[g]? = some fn) (hname : (fn.name == "runtime.NumGoroutine") = false) (hbody : fn.body.isNone = false) (args : Array Value) :
    (callFunc g args).run P w = .ok (.enter g args) w := by
  simp only [callFunc, Sem.run_bind, run_program, Result.andThen_ok, hfn, hname, hbody]
  rfl
theorem builtin_sound (hT : TOk P T) {b : Builtin} {args : Array Operand} {ts : Array TypeId} {dst : Option Nat} {type : TypeId} {pos : String} {after : Array Edge} {guard : Option (Nat × Bool)} {K : St → Prop} {N : Act → World → Prop} {Q : Exit → Act → World → Prop}
    (hN : ∀ s a w, K s → Rel c s a w → N a w) (h : vcBuiltin T b ts.toList (opds s.t args.toList) s dst K) (hr : RelX c s a w I G) : (Oper.mk dst (.call ⟨.builtin b, args, ts⟩) type pos after guard).wp P a w N Q := by
  have ev := fun x => VA.eval hr.tmps x
  unfold Oper.wp
  have hargs := VAs.evals hr.tmps args.toList
  have hmap : args.map a.eval = (args.toList.map a.eval).toArray := by apply Array.ext'; simp
  have hexec : execOp a.eval ⟨dst, .call ⟨.builtin b, args, ts⟩, type, pos, after, guard⟩ = builtin b ts type (args.map fun | .const _ => true | _ => false) (args.toList.map a.eval).toArray := by
    rw [← hmap]; rfl
  rw [hexec]
  have htl : ts = ts.toList.toArray := by simp
  unfold vcBuiltin at h
  split at h
  · rename_i t x ets eargs
    rw [eargs] at hargs
    obtain ⟨v, ev', hv⟩ := hargs.inv1
    obtain ⟨h1, h2⟩ := h
    split at h2
    · rename_i n en
      rw [ev', htl, ets]
      have := yields_len (P := P) (ty := type) hT hr.objs hv h1 en
      simp only [builtin, Sem.run_bind]
      rw [this]
      exact hN _ _ _ h2 ⟨I, G, hr.put (.d (.v _ rfl)) dst⟩
    · exact h2.elim
  · rename_i t u x y ets eargs
    rw [eargs] at hargs
    obtain ⟨v1, v2, ev', hv1, hv2⟩ := hargs.inv2
    rw [ev', htl, ets]
    exact upon_does hN (does_append hT hr hv1 hv2 h)
  · rename_i x y eargs
    rw [eargs] at hargs
    obtain ⟨v1, v2, ev', hv1, hv2⟩ := hargs.inv2
    obtain rfl := hv1.inv_v
    obtain rfl := hv2.inv_v
    rw [ev']
    have hrun : (Builtin.min_ ts type [Value.int .i64 x, Value.int .i64 y].toArray).run P w = .ok (.int .i64 (if y < x then y else x)) w := by
      simp [Builtin.min_, Builtin.min2]
    simp only [builtin, Sem.run_bind]
    rw [hrun]
    exact hN _ _ _ h ⟨I, G, hr.put (.d (.v _ rfl)) dst⟩
  · rename_i x y eargs
    rw [eargs] at hargs
    obtain ⟨v1, v2, ev', hv1, hv2⟩ := hargs.inv2
    obtain rfl := hv1.inv_v
    obtain rfl := hv2.inv_v
    rw [ev']
    have hrun : (Builtin.max_ ts type [Value.int .i64 x, Value.int .i64 y].toArray).run P w = .ok (.int .i64 (if x < y then y else x)) w := by
      simp [Builtin.max_, Builtin.max2]
    simp only [builtin, Sem.run_bind]
    rw [hrun]
    exact hN _ _ _ h ⟨I, G, hr.put (.d (.v _ rfl)) dst⟩
  · exact h.elim
theorem op_sound (hT : TOk P T) {o : Oper} {K : St → Prop} {N : Act → World → Prop} {Q : Exit → Act → World → Prop} (hN : ∀ s a w, K s → Rel c s a w → N a w) (h : vcOp P T o.op o.dst s K) (hR : Rel c s a w) :
    o.wp P a w N Q := by
  obtain ⟨I, G, hr⟩ := hR
  obtain ⟨dst, op, type, pos, after, guard⟩ := o
  have ev := fun x => VA.eval hr.tmps x
  unfold Oper.wp
  simp only at h
  unfold vcOp at h
  split at h
  · exact upon_now hN hr (ev _) h
  · exact upon_now hN hr (ev _) h
  · rename_i x y z
    split at h
    · rename_i b e
      have hx := ev x
      rw [e] at hx
      have hx := hx.inv_v
      have hrun : (execOp a.eval ⟨dst, .pick x y z, type, pos, after, guard⟩).run P w = .ok (.value (if b then a.eval y else a.eval z)) w := by
        simp [execOp, hx, asBool]
      rw [hrun]
      cases b with
      | true => exact hN _ _ _ (h.1 rfl) ⟨I, G, hr.put (ev y) dst⟩
      | false => exact hN _ _ _ (h.2 rfl) ⟨I, G, hr.put (ev z) dst⟩
    · exact h.elim
  · split at h
    · rename_i l e
      exact upon_does hN (does_box hr (ev _) e h)
    · exact h.elim
  · split at h
    · rename_i i e
      exact upon_does hN (does_alloc hT hr e h)
    · exact h.elim
  · exact upon_does hN (Yields.does hr (yields_load hT hr.objs (ev _) h))
  · exact upon_doesU hN (does_store hT hr (ev _) (ev _) h)
  · rename_i x
    have hx := ev x
    split at h
    · rename_i l e
      rw [e] at hx
      have hrun : (execOp a.eval ⟨dst, .nilCheck x, type, pos, after, guard⟩).run P w = .ok (.value (a.eval x)) w := by
        cases hx' : a.eval x <;> rw [hx'] at hx <;> cases hx <;> simp [execOp, hx']
      rw [hrun]; exact hN _ _ _ h ⟨I, G, hr.put hx dst⟩
    · rename_i k o e
      rw [e] at hx
      have hrun : (execOp a.eval ⟨dst, .nilCheck x, type, pos, after, guard⟩).run P w = .ok (.value (a.eval x)) w := by
        cases hx' : a.eval x <;> rw [hx'] at hx <;> cases hx <;> simp [execOp, hx']
      rw [hrun]; exact hN _ _ _ h ⟨I, G, hr.put hx dst⟩
    · rename_i k sz j o e
      rw [e] at hx
      have hrun : (execOp a.eval ⟨dst, .nilCheck x, type, pos, after, guard⟩).run P w = .ok (.value (a.eval x)) w := by
        cases hx' : a.eval x <;> rw [hx'] at hx <;> cases hx <;> simp [execOp, hx']
      rw [hrun]; exact hN _ _ _ h ⟨I, G, hr.put hx dst⟩
    · rename_i f l e
      rw [e] at hx
      have hrun : (execOp a.eval ⟨dst, .nilCheck x, type, pos, after, guard⟩).run P w = .ok (.value (a.eval x)) w := by
        cases hx' : a.eval x <;> rw [hx'] at hx <;> cases hx <;> simp [execOp, hx']
      rw [hrun]; exact hN _ _ _ h ⟨I, G, hr.put hx dst⟩
    · exact h.elim
  · exact upon_does hN (Yields.does hr (yields_binT hT (ev _) (ev _) h))
  · exact upon_does hN (Yields.does hr (yields_un (ev _) h))
  · exact upon_does hN (Yields.does hr (yields_fieldAddr hT (ev _) h))
  · exact upon_does hN (Yields.does hr (yields_field hT (ev _) h))
  · exact upon_does hN (Yields.does hr (yields_indexAddr hT hr.objs (ev _) (ev _) h))
  · exact upon_does hN (Yields.does hr (yields_index hT (ev _) (ev _) h))
  · rename_i t x lo hi
    have hsub : ∀ (o : Option Operand) (v : Value) (q : A), o.map a.eval = some v → o.map (opd s.t) = some q → VA w I G v q := fun o v q h1 h2 => by
      cases o with
      | none => simp at h1
      | some y => simp at h1 h2; rw [← h1, ← h2]; exact ev y
    split at h
    · exact h _ _ _ _ c a w ⟨I, G, hr⟩ N Q hN
    · exact upon_does hN (Yields.does hr (yields_slice hT (ev _) (hsub lo) (by cases lo <;> simp) (hsub hi) (by cases hi <;> simp) h))
  · rename_i t parts
    have := yields_build (w := w) (I := I) (G := G) hT (t := t) (parts := parts.toList.map fun p => (p.1, a.eval p.2)) (ap := parts.toList.map fun p => (p.1, opd s.t p.2)) (K := fun r => K (s.put dst r))
      (by simpa [Function.comp_def] using VAs.evals' hr.tmps (parts.toList.map (·.2))) (by simp [Function.comp_def]) h
    have e : (parts.map fun (i, x) => (i, a.eval x)) = (parts.toList.map fun p => (p.1, a.eval p.2)).toArray := by
      apply Array.ext'; simp
    have hd := Yields.does (dst := dst) hr this
    rw [← e] at hd
    exact upon_does hN hd
  · rename_i t n parts
    have := does_buildSlice (dst := dst) (K := K) (P := P) hT hr (t := t) (n := n) (parts := parts.toList.map fun p => (p.1, a.eval p.2)) (l := parts.toList.map fun p => opd s.t p.2)
      (by simpa [Function.comp_def] using VAs.evals' hr.tmps (parts.toList.map (·.2))) (by simpa [Function.comp_def] using h)
    have e : (parts.map fun (i, x) => (i, a.eval x)) = (parts.toList.map fun p => (p.1, a.eval p.2)).toArray := by
      apply Array.ext'; simp
    rw [← e] at this
    exact upon_does hN this
  · exact upon_does hN (does_make hT hr (ev _) (ev _) h)
  · rename_i f caps
    have hv : VA w I G (.func (.func f) #[] (caps.map a.eval)) (.fn f (opds s.t caps.toList)) := by
      have := VA.fn f _ _ (VAs.evals hr.tmps caps.toList)
      have e : (caps.toList.map a.eval).toArray = caps.map a.eval := by apply Array.ext'; simp
      rwa [e] at this
    have hrun : (execOp a.eval ⟨dst, .makeFunc (.func f) ⟨[]⟩ caps, type, pos, after, guard⟩).run P w = .ok (.value (.func (.func f) #[] (caps.map a.eval))) w := by
      simp [execOp, Instr.makeFunc]
    rw [hrun]; exact hN _ _ _ h ⟨I, G, hr.put hv dst⟩
  · rename_i x i
    have hx := ev x
    split at h
    · rename_i l e
      obtain ⟨y, hy, h⟩ := h
      rw [e] at hx
      generalize hv : a.eval x = v at hx
      cases hx with
      | tup cs l hl =>
        obtain ⟨z, h1, h2⟩ := hl.get hy
        have hrun : (execOp a.eval ⟨dst, .extract x i, type, pos, after, guard⟩).run P w = .ok (.value z) w := by
          simp [execOp, hv, Instr.extract, h1]
        rw [hrun]; exact hN _ _ _ h ⟨I, G, hr.put h2 dst⟩
    · exact h.elim
  · exact h _ _ _ _ c a w ⟨I, G, hr⟩ N Q hN
  · exact h _ _ _ _ c a w ⟨I, G, hr⟩ N Q hN
  · exact h _ _ _ _ c a w ⟨I, G, hr⟩ N Q hN
  · rename_i args ts
    split at h
    · exact h _ _ _ _ c a w ⟨I, G, hr⟩ N Q hN
    · rename_i el hne
      exact builtin_sound hT hN (b := .append) (args := args) (ts := ts) h hr
  · exact builtin_sound hT hN h hr
  · rename_i f args ts
    have hargs := VAs.evals hr.tmps args.toList
    have hf := ev f
    unfold vcCall at h
    split at h
    · rename_i g caps ef
      rw [ef] at hf
      obtain ⟨cs, hcs, hcaps⟩ := hf.inv_fn
      obtain ⟨⟨fn, hfn, hname, hbody⟩, hcall⟩ := h
      have hrun : (execOp a.eval ⟨dst, .call ⟨.value f, args, ts⟩, type, pos, after, guard⟩).run P w = .ok (.enter g (args.toList.map a.eval ++ cs).toArray) w := by
        have hmap : args.map a.eval ++ cs.toArray = (args.toList.map a.eval ++ cs).toArray := by apply Array.ext'; simp
        have h1 : execOp a.eval ⟨dst, .call ⟨.value f, args, ts⟩, type, pos, after, guard⟩ = callFunc g (args.map a.eval ++ cs.toArray) := by
          simp only [execOp, resolve, hcs, Deferred.ofValue, pure_bind, invoke, Array.empty_append]
        rw [h1, run_callFunc hfn hname hbody, hmap]
      rw [hrun]
      exact (hcall c a w I G hr _ (hargs.append hcaps)).mono fun e w' ⟨v, he, s', hs', hrel⟩ => by
        subst he; exact hN _ _ _ hs' hrel
    · exact h.elim
  · exact h _ _ _ _ c a w ⟨I, G, hr⟩ N Q hN
theorem VAs.set_at : ∀ {xs : List Value} {l : List A}, VAs w I G xs l → ∀ {d : Nat} {q : A}, (∀ x, xs[d]? = some x → VA w I G x q) → VAs w I G xs (l.set d q)
  | _, _, .nil, _, _, _ => .nil
  | _, _, .cons _ h2, 0, _, h => .cons (h _ rfl) h2
  | _, _, .cons h1 h2, d + 1, _, h => .cons h1 (h2.set_at (fun x hx => h x (by simpa using hx)))
theorem VA.inv_unit {x : Value} (h : VA w I G x (.tup [])) : x = undef := by
  cases h with
  | tup cs l h => cases h; rfl
/-- What hangs on an operation that was left out is left out. -/
theorem unwanted {ops : Array Oper} {o : Oper} {j d : Nat} {want : Bool} (eg : o.guard = some (j, want)) (ed : (ops.toList[j]?).bind (·.dst) = some d) (eb : s.t.getD d .any = .tup []) (hr : RelX c s a w I G) : Region.wanted o (yielded ops a.tmps) = false := by
  have hd : d < s.t.length := by
    rcases Nat.lt_or_ge d s.t.length with h | h
    · exact h
    · rw [List.getD_eq_getElem?_getD, List.getElem?_eq_none h] at eb; cases eb
  have hget : s.t[d]? = some (.tup []) := by
    rw [List.getD_eq_getElem?_getD, List.getElem?_eq_getElem hd] at eb
    rw [List.getElem?_eq_getElem hd]
    simpa using eb
  obtain ⟨x, hx, hv⟩ := hr.tmps.get hget
  obtain rfl := hv.inv_unit
  have e1 : (ops[j]?).bind (·.dst) = some d := by simpa using ed
  have e2 : a.tmps[d]? = some undef := by simpa using hx
  simp [Region.wanted, eg, yielded, e1, e2, undef]
theorem ops_sound (hT : TOk P T) {ops : Array Oper} {K : St → Prop} {Q : Exit → Act → World → Prop} (hQ : ∀ s a w, K s → Rel c s a w → Q .normal a w) :
    ∀ (l : List Oper) (s : St) (a : Act) (w : World), vcOps P T ops.toList l s K → Rel c s a w → wpList P ops Q l a w
  | [], s, a, w, h, hR => hQ _ _ _ h hR
  | o :: l, s, a, w, h, hR => by
    have yes : ∀ s, Rel c s a w → Region.wanted o (yielded ops a.tmps) = true → (vcOp P T o.op o.dst s fun s => vcOps P T ops.toList l s K) → wpList P ops Q (o :: l) a w := fun s hR hw h => by
      unfold wpList
      rw [if_pos hw]
      exact .inl (op_sound hT (fun s a w h hR => ops_sound hT hQ l s a w h hR) h hR)
    have no : ∀ s, Rel c s a w → Region.wanted o (yielded ops a.tmps) = false → vcOps P T ops.toList l (s.put o.dst (.tup [])) K → wpList P ops Q (o :: l) a w := fun s hR hw h => by
      unfold wpList
      rw [if_neg (by rw [hw]; decide)]
      obtain ⟨I, G, hr⟩ := hR
      exact ops_sound hT hQ l _ _ _ h ⟨I, G, hr.put (v := undef) (.tup [] [] .nil) _⟩
    simp only [vcOps] at h
    unfold vcGuard at h
    split at h
    · rename_i eg
      exact yes s hR (by simp [Region.wanted, eg]) h
    · rename_i j want eg
      split at h
      · exact h.elim
      · rename_i d ed
        split at h
        · rename_i b eb
          obtain ⟨I, G, hr⟩ := hR
          have hd : d < s.t.length := by
            rcases Nat.lt_or_ge d s.t.length with h | h
            · exact h
            · rw [List.getD_eq_getElem?_getD, List.getElem?_eq_none h] at eb; cases eb
          have hget : s.t[d]? = some (.d (.v (.bool b))) := by
            rw [List.getD_eq_getElem?_getD, List.getElem?_eq_getElem hd] at eb
            rw [List.getElem?_eq_getElem hd]
            simpa using eb
          obtain ⟨x, hx, hv⟩ := hr.tmps.get hget
          obtain rfl := hv.inv_v
          have hy : yielded ops a.tmps j = some b := by
            have e1 : (ops[j]?).bind (·.dst) = some d := by simpa using ed
            have e2 : a.tmps[d]? = some (.bool b) := by simpa using hx
            simp [yielded, e1, e2]
          have hw : Region.wanted o (yielded ops a.tmps) = (b == want) := by
            simp [Region.wanted, eg, hy]
          have hX : ∀ b' : Bool, b = b' → Rel c ⟨s.t.set d (.bool b'), s.h, s.p⟩ a w := fun b' e => by
            subst e
            exact ⟨I, G, hr.defers, hr.tmps.set_at (fun y hy => by rw [hx] at hy; cases hy; exact .d (.v _ rfl)), hr.objs, hr.fr, hr.pr⟩
          by_cases hbw : b = want
          · exact yes _ (hX want hbw) (by rw [hw, hbw]; simp) (h.1 hbw)
          · have hbn : b = !want := by cases b <;> cases want <;> simp_all
            exact no _ (hX _ hbn) (by rw [hw]; simp [hbw]) (h.2 hbn)
        · rename_i eb
          obtain ⟨I, G, hr⟩ := hR
          exact no _ ⟨I, G, hr⟩ (unwanted eg ed eb hr) h
        · exact h.elim
theorem post_mono {Kn Kr Kn' Kr' : St → Prop} {Kx Kx' : Nat → St → Prop} (hn : ∀ s, Kn s → Kn' s) (hr : ∀ s, Kr s → Kr' s) (hx : ∀ i s, Kx i s → Kx' i s) (e : Exit) (a : Act) (w : World) (h : post c Kn Kr Kx e a w) : post c Kn' Kr' Kx' e a w := by
  cases e with
  | normal => obtain ⟨s, h1, h2⟩ := h; exact ⟨s, hn s h1, h2⟩
  | ret => obtain ⟨s, h1, h2⟩ := h; exact ⟨s, hr s h1, h2⟩
  | exit i => obtain ⟨s, h1, h2⟩ := h; exact ⟨s, hx i s h1, h2⟩
  | _ => exact h
/-- **A piece of code whose condition holds does what is asked.** -/
theorem vc_sound (hT : TOk P T) : ∀ (code : Code) (Kn Kr : St → Prop) (Kx : Nat → St → Prop) (s : St) (a : Act) (w : World), vc P T code Kn Kr Kx s → Rel c s a w → code.wp P (post c Kn Kr Kx) a w
  | .skip, Kn, Kr, Kx, s, a, w, h, hR => wp_skip ⟨s, h, hR⟩
  | .region id ops false, Kn, Kr, Kx, s, a, w, h, hR => by
    simp only [vc] at h
    exact wp_region_list (ops_sound (c := c) hT (fun s a w h hR => ⟨s, h, hR⟩) _ _ _ _ h hR)
  | .region id ops true, Kn, Kr, Kx, s, a, w, h, hR => by
    simp only [vc] at h
    exact Code.wp_mono (fun e a w hp => post_mono (fun _ h => h) (fun _ h => h.elim) (fun _ _ h => h.elim) e a w hp) (h c a w hR)
  | .seq x y, Kn, Kr, Kx, s, a, w, h, hR => by
    simp only [vc] at h
    have h1 := vc_sound hT x (fun s => vc P T y Kn Kr Kx s) Kr Kx s a w h hR
    refine wp_seq (Code.wp_mono (fun e a w hp => ?_) h1)
    cases e with
    | normal => obtain ⟨s, h1, h2⟩ := hp; exact vc_sound hT y Kn Kr Kx s a w h1 h2
    | ret => exact hp
    | exit i => exact hp
    | _ => exact hp.elim
  | .cond x y z, Kn, Kr, Kx, s, a, w, h, hR => by
    simp only [vc] at h
    split at h
    · rename_i t e
      obtain ⟨I, G, hr⟩ := hR
      have hx := VA.eval hr.tmps x
      rw [e] at hx
      exact wp_cond_split hx.inv_v (fun ht => vc_sound hT y Kn Kr Kx s a w (h.1 ht) ⟨I, G, hr⟩) (fun ht => vc_sound hT z Kn Kr Kx s a w (h.2 ht) ⟨I, G, hr⟩)
    · exact h.elim
  | .block id x, Kn, Kr, Kx, s, a, w, h, hR => by
    simp only [vc] at h
    have h1 := vc_sound hT x Kn Kr _ s a w h hR
    refine wp_block (Code.wp_mono (fun e a w hp => ?_) h1)
    cases e with
    | exit i =>
      obtain ⟨s, h1, h2⟩ := hp
      simp only [Exit.inBlock]
      by_cases hi : i = id
      · rw [if_pos hi] at h1 ⊢; exact ⟨s, h1, h2⟩
      · rw [if_neg hi] at h1 ⊢; exact ⟨s, h1, h2⟩
    | normal => exact hp
    | ret => exact hp
    | _ => exact hp.elim
  | .exit id, Kn, Kr, Kx, s, a, w, h, hR => wp_exit ⟨s, h, hR⟩
  | .ret, Kn, Kr, Kx, s, a, w, h, hR => wp_ret ⟨s, h, hR⟩
  | .loop x, Kn, Kr, Kx, s, a, w, h, hR => h c a w hR
  | .rangeFunc _ _ _ _, _, _, _, _, _, _, h, _ => h.elim
  | .scope _, _, _, _, _, _, _, h, _ => h.elim
  | .label _, _, _, _, _, _, _, h, _ => h.elim
  | .goto _, _, _, _, _, _, _, h, _ => h.elim
  | .refuse _, _, _, _, _, _, _, h, _ => h.elim
end
end Go.Ab
