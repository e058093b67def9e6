/- Regions whose order is drawn: one walk serves every order. -/
import Derived.Test.YtamicpfjieandaaAbQ
import Derived.OrdersHeld
namespace Go.Ab
open Go
set_option linter.unusedVariables false
set_option linter.unusedSimpArgs false
/-- What only reads. -/
def quiet : Op → Bool
  | .move _ => true
  | .assign _ => true
  | .pick _ _ _ => true
  | .load _ _ => true
  | .nilCheck _ => true
  | .binOp _ _ _ _ _ => true
  | .unOp _ _ _ => true
  | .fieldAddr _ _ _ => true
  | .field _ _ _ => true
  | .indexAddr _ _ _ => true
  | .index _ _ _ => true
  | .slice _ _ _ _ none => true
  | .build _ _ => true
  | .makeFunc (.func _) ⟨[]⟩ _ => true
  | .extract _ _ => true
  | .call ⟨.builtin .len, _, _⟩ => true
  | _ => false
section
variable {P : Program} {T : Ty} {w w' : World} {I I' : Im} {G G' : List Gh} {c : Cx} {s s' : St} {a : Act}
theorem Grow.ext (h : Grow w w') : Ext w w' := fun b x e => by
  rw [h.block b (Array.getElem?_eq_some_iff.1 e).1]; exact e
def QY (P : Program) (a : Act) (w : World) (I : Im) (G : List Gh) (o : Oper) (K : A → Prop) : Prop :=
  ∃ v r, (∀ w', Grow w w' → (execOp a.eval o).run P w' = .ok (.value v) w') ∧ VA w I G v r ∧ K r
theorem QY.of {o : Oper} {m : Sem Value} {K : A → Prop} (e : execOp a.eval o = (do pure (Next.value (← m)) : Sem Next)) (h : Yields P w I G m K) : QY P a w I G o K := by
  obtain ⟨v, r, h1, h2, h3⟩ := h
  refine ⟨v, r, fun w' hg => ?_, h2, h3⟩
  rw [e]
  simp only [Sem.run_bind, h1 w' hg.ext, Result.andThen_ok, Sem.run_pure]
theorem semFree_quiet {t : List A} {o : Op} (h : semFree t o = true) : quiet o = true := by
  unfold semFree at h
  split at h <;> first | rfl | cases h
theorem quiet_ok (hT : TOk P T) {o : Oper} {K : St → Prop} (hq : semFree s.t o.op = true) (h : vcOp P T o.op o.dst s K) (hr : RelX c s a w I G) : QY P a w I G o fun r => K (s.put o.dst r) := by
  obtain ⟨dst, op, type, pos, after, guard⟩ := o
  have ev := fun x => VA.eval hr.tmps x
  simp only at h hq ⊢
  unfold vcOp at h
  split at h
  · exact ⟨_, _, fun w' _ => by simp [execOp], ev _, h⟩
  · exact ⟨_, _, fun w' _ => by simp [execOp], ev _, h⟩
  · rename_i x y z
    split at h
    · rename_i b e
      have hx := ev x
      rw [e] at hx
      have hx := hx.inv_v
      have hrun : ∀ w' : World, (execOp a.eval ⟨dst, .pick x y z, type, pos, after, guard⟩).run P w' = .ok (.value (if b then a.eval y else a.eval z)) w' := fun w' => by
        simp [execOp, hx, asBool]
      cases b with
      | true => exact ⟨_, _, fun w' _ => hrun w', ev y, h.1 rfl⟩
      | false => exact ⟨_, _, fun w' _ => hrun w', ev z, h.2 rfl⟩
    · exact h.elim
  · cases hq
  · cases hq
  · exact .of rfl (yields_load hT hr.objs (ev _) h)
  · cases hq
  · rename_i x
    have hx := ev x
    split at h
    · rename_i l e
      rw [e] at hx
      have hrun : ∀ w' : World, (execOp a.eval ⟨dst, .nilCheck x, type, pos, after, guard⟩).run P w' = .ok (.value (a.eval x)) w' := fun w' => by
        cases hx' : a.eval x <;> rw [hx'] at hx <;> cases hx <;> simp [execOp, hx']
      exact ⟨_, _, fun w' _ => hrun w', hx, h⟩
    · rename_i k o e
      rw [e] at hx
      have hrun : ∀ w' : World, (execOp a.eval ⟨dst, .nilCheck x, type, pos, after, guard⟩).run P w' = .ok (.value (a.eval x)) w' := fun w' => by
        cases hx' : a.eval x <;> rw [hx'] at hx <;> cases hx <;> simp [execOp, hx']
      exact ⟨_, _, fun w' _ => hrun w', hx, h⟩
    · rename_i k sz j o e
      rw [e] at hx
      have hrun : ∀ w' : World, (execOp a.eval ⟨dst, .nilCheck x, type, pos, after, guard⟩).run P w' = .ok (.value (a.eval x)) w' := fun w' => by
        cases hx' : a.eval x <;> rw [hx'] at hx <;> cases hx <;> simp [execOp, hx']
      exact ⟨_, _, fun w' _ => hrun w', hx, h⟩
    · rename_i f l e
      rw [e] at hx
      have hrun : ∀ w' : World, (execOp a.eval ⟨dst, .nilCheck x, type, pos, after, guard⟩).run P w' = .ok (.value (a.eval x)) w' := fun w' => by
        cases hx' : a.eval x <;> rw [hx'] at hx <;> cases hx <;> simp [execOp, hx']
      exact ⟨_, _, fun w' _ => hrun w', hx, h⟩
    · exact h.elim
  · exact .of rfl (yields_binT hT (ev _) (ev _) h)
  · exact .of rfl (yields_un (ev _) h)
  · exact .of rfl (yields_fieldAddr hT (ev _) h)
  · exact .of rfl (yields_field hT (ev _) h)
  · exact .of rfl (yields_indexAddr hT hr.objs (ev _) (ev _) h)
  · exact .of rfl (yields_index hT (ev _) (ev _) h)
  · rename_i t x lo hi
    have hsub : ∀ (o : Option Operand) (v : Value) (q : A), o.map a.eval = some v → o.map (opd s.t) = some q → VA w I G v q := fun o v q h1 h2 => by
      cases o with
      | none => simp at h1
      | some y => simp at h1 h2; rw [← h1, ← h2]; exact ev y
    split at h
    · rename_i k e
      simp [semFree, e] at hq
    · exact .of rfl (yields_slice hT (ev _) (hsub lo) (by cases lo <;> simp) (hsub hi) (by cases hi <;> simp) h)
  · rename_i t parts
    have := yields_build (w := w) (I := I) (G := G) hT (t := t) (parts := parts.toList.map fun p => (p.1, a.eval p.2)) (ap := parts.toList.map fun p => (p.1, opd s.t p.2)) (K := fun r => K (s.put dst r))
      (by simpa [Function.comp_def] using VAs.evals' hr.tmps (parts.toList.map (·.2))) (by simp [Function.comp_def]) h
    have e : (parts.map fun (i, x) => (i, a.eval x)) = (parts.toList.map fun p => (p.1, a.eval p.2)).toArray := by
      apply Array.ext'; simp
    rw [← e] at this
    exact .of rfl this
  · cases hq
  · cases hq
  · rename_i f caps
    have hv : VA w I G (.func (.func f) #[] (caps.map a.eval)) (.fn f (opds s.t caps.toList)) := by
      have := VA.fn f _ _ (VAs.evals hr.tmps caps.toList)
      have e : (caps.toList.map a.eval).toArray = caps.map a.eval := by apply Array.ext'; simp
      rwa [e] at this
    have hrun : ∀ w' : World, (execOp a.eval ⟨dst, .makeFunc (.func f) ⟨[]⟩ caps, type, pos, after, guard⟩).run P w' = .ok (.value (.func (.func f) #[] (caps.map a.eval))) w' := fun w' => by
      simp [execOp, Instr.makeFunc]
    exact ⟨_, _, fun w' _ => hrun w', hv, h⟩
  · rename_i x i
    have hx := ev x
    split at h
    · rename_i l e
      obtain ⟨y, hy, h⟩ := h
      rw [e] at hx
      generalize hv : a.eval x = v at hx
      cases hx with
      | tup cs l hl =>
        obtain ⟨z, h1, h2⟩ := hl.get hy
        have hrun : ∀ w' : World, (execOp a.eval ⟨dst, .extract x i, type, pos, after, guard⟩).run P w' = .ok (.value z) w' := fun w' => by
          simp [execOp, hv, Instr.extract, h1]
        exact ⟨_, _, fun w' _ => hrun w', h2, h⟩
    · exact h.elim
  · simp [semFree] at hq
  · simp [semFree] at hq
  · simp [semFree] at hq
  · simp [semFree] at hq
  · rename_i b args ts n1 n2 n3 n4
    clear n1 n2 n3 n4
    have hargs := VAs.evals hr.tmps args.toList
    have hmap : args.map a.eval = (args.toList.map a.eval).toArray := by apply Array.ext'; simp
    have hexec : execOp a.eval ⟨dst, .call ⟨.builtin b, args, ts⟩, type, pos, after, guard⟩ = builtin b ts type (args.map fun | .const _ => true | _ => false) (args.toList.map a.eval).toArray := by
      rw [← hmap]; rfl
    have htl : ts = ts.toList.toArray := by simp
    unfold vcBuiltin at h
    split at h
    · rename_i t x ets eargs
      rw [eargs] at hargs
      obtain ⟨v, ev', hv⟩ := hargs.inv1
      obtain ⟨h1, h2⟩ := h
      split at h2
      · rename_i n en
        refine ⟨_, _, fun w' hg => ?_, .d (.v _ rfl), h2⟩
        have hr' := hr.grow' hg
        have hargs' := VAs.evals hr'.tmps args.toList
        rw [eargs] at hargs'
        obtain ⟨v', ev'', hv'⟩ := hargs'.inv1
        rw [hexec, ev'', htl, ets]
        have := yields_len (P := P) (ty := type) hT hr'.objs hv' h1 en
        simp only [builtin, Sem.run_bind]
        rw [this]
        rfl
      · exact h2.elim
    · simp [semFree] at hq
    · simp [semFree] at hq
    · simp [semFree] at hq
    · exact h.elim
  · simp [semFree] at hq
  · exfalso
    unfold semFree at hq
    split at hq <;> first | (cases hq; done) | solve_by_elim

/-- A call in a region whose order is drawn. -/
def vcCalm (P : Program) (o : Oper) (s : St) (K : St → Prop) : Prop :=
  match o.op with
  | .call ⟨.value f, args, _⟩ => match opd s.t f with
    | .fn g caps => calmVC P g (opds s.t args.toList ++ caps) s o.dst K
    | _ => False
  | _ => False
def vcDraw (P : Program) (T : Ty) (ops : List Oper) : List Nat → St → (St → Prop) → Prop
  | [], s, K => K s
  | i :: r, s, K => match ops[i]? with
    | none => False
    | some o => match quiet o.op with
      | true => vcGuard ops o.guard s (fun s => semFree s.t o.op = true ∧ vcOp P T o.op o.dst s fun s => vcDraw P T ops r s K) (fun s => vcDraw P T ops r (s.put o.dst (.tup [])) K)
      | false => vcGuard ops o.guard s (fun s => vcCalm P o s fun s => vcDraw P T ops r s K) (fun s => vcDraw P T ops r (s.put o.dst (.tup [])) K)
/-- The order serves: what only reads may be taken first, a call comes up alone. -/
def drawOk (ops : Array Oper) : List Nat → Array Bool → Bool
  | [], listed => Region.ready .any ops listed == []
  | i :: r, listed => (match ops[i]? with
    | none => false
    | some o => match quiet o.op with
      | true => (Region.ready .any ops listed).contains i && Region.free .any ops listed i
      | false => Region.ready .any ops listed == [i]) && drawOk ops r (listed.setIfInBounds i true)
def drawAll (ops : Array Oper) (order : List Nat) : Bool :=
  Region.noSelect ops && order.length == ops.size && drawOk ops order (Array.replicate ops.size false)
theorem held_mono {md : Region.Mode} {ops : Array Oper} {Q : Exit → Act → World → Prop} {S S' : World → Prop} (hS : ∀ w, S w → S' w) :
    ∀ (fuel : Nat) (listed : Array Bool) (a : Act) (w : World), wpAnyH P md ops Q S fuel listed a w → wpAnyH P md ops Q S' fuel listed a w
  | 0, _, _, _, h => h
  | fuel + 1, _, _, _, h => ⟨h.1, fun i hi => wpOp_mono (fun a' w' h' => ⟨hS _ h'.1, held_mono hS fuel _ a' w' h'.2⟩) (h.2 i hi)⟩
theorem guard_ok {ops : Array Oper} {o : Oper} {yes no : St → Prop} (h : vcGuard ops.toList o.guard s yes no) (hr : RelX c s a w I G) :
    ∃ s', RelX c s' a w I G ∧ ((Region.wanted o (yielded ops a.tmps) = true ∧ yes s') ∨ (Region.wanted o (yielded ops a.tmps) = false ∧ no s')) := by
  unfold vcGuard at h
  split at h
  · rename_i eg
    exact ⟨s, hr, .inl ⟨by simp [Region.wanted, eg], h⟩⟩
  · rename_i j want eg
    split at h
    · exact h.elim
    · rename_i d ed
      split at h
      · rename_i b eb
        have hd : d < s.t.length := by
          rcases Nat.lt_or_ge d s.t.length with h | h
          · exact h
          · rw [List.getD_eq_getElem?_getD, List.getElem?_eq_none h] at eb; cases eb
        have hget : s.t[d]? = some (.d (.v (.bool b))) := by
          rw [List.getD_eq_getElem?_getD, List.getElem?_eq_getElem hd] at eb
          rw [List.getElem?_eq_getElem hd]
          simpa using eb
        obtain ⟨x, hx, hv⟩ := hr.tmps.get hget
        obtain rfl := hv.inv_v
        have hy : yielded ops a.tmps j = some b := by
          have e1 : (ops[j]?).bind (·.dst) = some d := by simpa using ed
          have e2 : a.tmps[d]? = some (.bool b) := by simpa using hx
          simp [yielded, e1, e2]
        have hw : Region.wanted o (yielded ops a.tmps) = (b == want) := by
          simp [Region.wanted, eg, hy]
        have hX : ∀ b' : Bool, b = b' → RelX c ⟨s.t.set d (.bool b'), s.h, s.p⟩ a w I G := fun b' e => by
          subst e
          exact ⟨hr.defers, hr.tmps.set_at (fun y hy => by rw [hx] at hy; cases hy; exact .d (.v _ rfl)), hr.objs, hr.fr, hr.pr⟩
        by_cases hbw : b = want
        · exact ⟨_, hX want hbw, .inl ⟨by rw [hw, hbw]; simp, h.1 hbw⟩⟩
        · have hbn : b = !want := by cases b <;> cases want <;> simp_all
          exact ⟨_, hX _ hbn, .inr ⟨by rw [hw]; simp [hbw], h.2 hbn⟩⟩
      · rename_i eb
        exact ⟨s, hr, .inr ⟨unwanted eg ed eb hr, h⟩⟩
      · exact h.elim
theorem calm_ok {o : Oper} {K : St → Prop} {N : Act → World → Prop} {Q : Exit → Act → World → Prop} (hN : ∀ s a w', Grow w w' → K s → Rel c s a w' → N a w') (h : vcCalm P o s K) (hr : RelX c s a w I G) : o.wp P a w N Q := by
  obtain ⟨dst, op, type, pos, after, guard⟩ := o
  unfold vcCalm at h
  simp only at h
  split at h
  · rename_i f args ts
    have hargs := VAs.evals hr.tmps args.toList
    have hf := VA.eval hr.tmps f
    split at h
    · rename_i g caps ef
      rw [ef] at hf
      obtain ⟨cs, hcs, hcaps⟩ := hf.inv_fn
      obtain ⟨⟨fn, hfn, hname, hbody⟩, hcall⟩ := h
      have hrun : (execOp a.eval ⟨dst, .call ⟨.value f, args, ts⟩, type, pos, after, guard⟩).run P w = .ok (.enter g (args.toList.map a.eval ++ cs).toArray) w := by
        have hmap : args.map a.eval ++ cs.toArray = (args.toList.map a.eval ++ cs).toArray := by apply Array.ext'; simp
        have h1 : execOp a.eval ⟨dst, .call ⟨.value f, args, ts⟩, type, pos, after, guard⟩ = callFunc g (args.map a.eval ++ cs.toArray) := by
          simp only [execOp, resolve, hcs, Deferred.ofValue, pure_bind, invoke, Array.empty_append]
        rw [h1, run_callFunc hfn hname hbody, hmap]
      unfold Oper.wp
      rw [hrun]
      exact (hcall c a w I G hr _ (hargs.append hcaps)).mono fun e w' ⟨v, he, hg, s', hs', hrel⟩ => by
        subst he; exact hN _ _ _ hg hs' hrel
    · exact h.elim
  · exact h.elim
theorem draw_go (hT : TOk P T) {ops : Array Oper} (hsel : Region.noSelect ops = true) {K : St → Prop} : ∀ (order : List Nat) (listed : Array Bool) (s : St) (a : Act) (w : World), drawOk ops order listed = true →
    vcDraw P T ops.toList order s K → Rel c s a w → wpAnyH P .any ops (post c K (fun _ => False) (fun _ _ => False)) (Grow w) order.length listed a w
  | [], listed, s, a, w, hd, h, hR => wpAnyH_done (by simpa [drawOk] using hd) ⟨s, h, hR⟩ _
  | i :: r, listed, s, a, w, hd, h, hR => by
    obtain ⟨I, G, hr⟩ := hR
    simp only [vcDraw, Array.getElem?_toList] at h
    simp only [drawOk, Bool.and_eq_true] at hd
    obtain ⟨hd1, hd2⟩ := hd
    split at h
    · exact h.elim
    · rename_i o eo
      rw [eo] at hd1
      simp only at hd1
      split at h
      · rename_i hq
        rw [hq] at hd1
        simp only [Bool.and_eq_true] at hd1
        obtain ⟨s', hr', hc⟩ := guard_ok h hr
        rcases hc with ⟨hw, hc⟩ | ⟨hw, hc⟩
        · obtain ⟨v, q, h1, h2, h3⟩ := quiet_ok hT hc.1 hc.2 hr'
          exact wpAnyH_take eo hsel hd1.2 hd1.1 (fun _ _ _ h => h.elim) (.inl ⟨hw, h1⟩) (Grow.refl w) (draw_go hT hsel r _ _ _ w hd2 h3 ⟨I, G, hr'.put h2 o.dst⟩)
        · exact wpAnyH_take eo hsel hd1.2 hd1.1 (fun _ _ _ h => h.elim) (.inr ⟨hw, rfl⟩) (Grow.refl w) (draw_go hT hsel r _ _ _ w hd2 hc ⟨I, G, hr'.put (v := undef) (.tup [] [] .nil) o.dst⟩)
      · rename_i hq
        rw [hq] at hd1
        simp only [beq_iff_eq] at hd1
        refine wpAnyH_all hd1 (by simp) fun j hj => ?_
        obtain rfl : j = i := by simpa using hj
        obtain ⟨s', hr', hc⟩ := guard_ok h hr
        unfold wpOp
        simp only [eo]
        rcases hc with ⟨hw, hc⟩ | ⟨hw, hc⟩
        · rw [if_pos hw]
          refine .inl (calm_ok (fun s a w' hg hk hR => ⟨hg, held_mono (fun w2 h2 => hg.trans h2) _ _ _ _ (draw_go hT hsel r _ s a w' hd2 hk hR)⟩) hc hr')
        · rw [if_neg (by rw [hw]; decide)]
          exact ⟨Grow.refl w, draw_go hT hsel r _ _ _ w hd2 hc ⟨I, G, hr'.put (v := undef) (.tup [] [] .nil) o.dst⟩⟩
/-- **A region whose order is drawn: one walk serves every order.** -/
theorem draw_rule (hT : TOk P T) (hm : P.follows .mixedOrders = true) {id : Nat} {ops : Array Oper} (order : List Nat) (hd : drawAll ops order = true) {K : St → Prop} (h : vcDraw P T ops.toList order s K) : drawVC P id ops K s := by
  intro c a w hR
  simp only [drawAll, Bool.and_eq_true, beq_iff_eq] at hd
  obtain ⟨⟨h1, h2⟩, h3⟩ := hd
  obtain ⟨I, G, hr⟩ := hR
  refine wp_region_held (S := Grow w.drew) hm ?_
  have := draw_go (c := c) hT h1 order _ s a w.drew h3 h ⟨I, G, hr.grow' (Grow.drew w)⟩
  rw [h2] at this
  exact this
end
end Go.Ab
